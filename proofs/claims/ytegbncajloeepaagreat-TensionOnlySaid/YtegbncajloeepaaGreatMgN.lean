/- r50: what its functions answer (printed by a program), and that they do; part 3. r50: what its functions answer (printed by a program), and that they do; part 4. Plain lemmas for what functions answer: loops, machine numbers, lists. Names: both programs know the same ones. Fractions: rational numbers, and the pairs of numbers that stand for them. Fractions: what 'Make', 'Valid', 'Mul', 'Floor', 'Ceil' of package ratio answer. Fractions: products of two words, 'Mul', 'Floor', 'Ceil' of package ratio. Fractions of the reference: numbers of two words, their greatest common divisors and quotients. Fractions of the reference: 'Div', 'Made', 'Make', 'Times', 'Floor', 'Ceil'. Numbers of 128 bits: sums, differences, comparisons; the length of a number. The quotient of a number of 128 bits by one of 64. Fractions: 'Add' of package ratio. Loops over lists: searches and tests of all elements. Fractions: 'Add', 'Valid', 'All' of the reference. Fractions: 'Sub' and 'Cmp' of both. Loops over the elements of a list, as recursions over it. Programs: both programs know the same valid ones. Systems: both programs know the same valid ones. Sums of integers, and determinants. Tables of the simplex method: integers with a common denominator, as determinants of columns. Steps of the simplex method by the rule of least indices: they never come back to a basis. Steps of the simplex method come to an end: a measure. Linear programs over the rationals: what points and multipliers prove; and what tables of the simplex method prove. How great the numbers of a program's tables may get: the product of the rows' factors. Tables of programs: how great the numbers of the artificial columns may get. -/
import Derived.Laws.StructEq
import Derived.Test.YtegbncajloeepaaGreatMgM

namespace Go.Proofs.YtegbncajloeepaaGreat
noncomputable section
open Tryz Dn Dn.Sh
set_option maxRecDepth 100000
def xI (lp:Lp) (_:Jn) (x0:List Int) (x1:Int):Option (Int×Bool×Unit) :=
 lp (Int×Int×PUnit) (Int×Bool×PUnit) (fun (again:Int×Int×PUnit->Option (Int×Bool×PUnit)) (x:Int×Int×PUnit) =>
 let v6:Bool:=inB x.2.1 x0.length;bif decide (x.2.1<(↑x0.length:Int)) then bif v6 then bif nzB x.1 then bif decide (x0.getD x.2.1.toNat (0 : Int)>IntKind.wrap .i64 (Int.tdiv x1 x.1)) then some (0,false,PUnit.unit) else bif v6 then again (IntKind.wrap .i64 (x.1*x0.getD x.2.1.toNat 0),IntKind.wrap .i64 (x.2.1+1),PUnit.unit) else none else none else none else some (x.1,true,PUnit.unit)) (1,0,PUnit.unit)
def oO (x0:List Int) (x1:Int):Option (Int×Bool×Unit):=xI lpK jnK x0 x1
abbrev t80:=(List Int)->(Int)->Option (Int×Bool×Unit)
def B3 (lp:Lp) (_:Jn) (oE:t79) (oO:t80) (x0:(List Int)×List ((List Int)×Int×Int)):Option Bool :=
 ah (oE x0) fun (t:List Int)=>ah (oO t 17592186044416) fun (t_1:Int×Bool×PUnit) =>
 let v5:Bool:=!t_1.2.1;
 let v6:Int:=IntKind.wrap .i64 (Int.tdiv 144115188075855872 t_1.1);
 let v7:Bool:=v5||t_1.2.1;lp (Int×Int×PUnit) Bool (fun (again:Int×Int×PUnit->Option Bool) (x:Int×Int×PUnit)=>bif decide (x.2.1<(↑t.length:Int)) then bif inB x.2.1 t.length then again (if t.getD x.2.1.toNat 0>x.1 then t.getD x.2.1.toNat 0 else x.1,IntKind.wrap IntKind.i64 (x.2.1+1),PUnit.unit) else none else bif v7&&(v5||nzB t_1.1) then bif v7&&v7 then bif v7 then some (bif t_1.2.1 then decide (x.1<=v6) else false) else none else none else none) (0,0,PUnit.unit)
def lk (x0:(List Int)×List ((List Int)×Int×Int)):Option Bool:=B3 lpK jnK oE oO x0
abbrev t43:=((List Int)×List ((List Int)×Int×Int))->Option (Bool)
def CK (lp:Lp) (_:Jn) (x0:ByteArray×(List (ByteArray×Int×Int×Int))×Bool) (x1:ByteArray):Option Int :=
 lp (Int×Int×PUnit) Int (fun (again:Int×Int×PUnit->Option Int) (x:Int×Int×PUnit) =>
 let v6:Int×PUnit:=(IntKind.wrap .i64 (x.2.1+1),PUnit.unit);
 let v7:Bool:=inB x.2.1 x0.2.1.length;
 let v8:ByteArray×Int×Int×Int:=x0.2.1.getD x.2.1.toNat ({ data:={ toList:=[] } },0,0,0);bif decide (x.2.1<(↑x0.2.1.length:Int)) then bif v7 then bif List.beq (ByteArray.toList v8.1) (ByteArray.toList x1) then bif v7 then again (IntKind.wrap .i64 (x.1+v8.2.1),v6) else none else again (x.1,v6) else none else some x.1) (0,0,PUnit.unit)
def uo (x0:ByteArray×(List (ByteArray×Int×Int×Int))×Bool) (x1:ByteArray):Option Int:=CK lpK jnK x0 x1
abbrev Ye:=(ByteArray×(List (ByteArray×Int×Int×Int))×Bool)->(ByteArray)->Option (Int)
def zf (lp:Lp) (_:Jn) (uo:Ye) (x0:(List (ByteArray×Int))×List (ByteArray×(List (ByteArray×Int×Int×Int))×Bool)):Option (List (List Int)) :=
 lp ((List Nat×List (Option (List Int)))×Int×PUnit) (List (List Int)) (fun (again:(List Nat×List (Option (List Int)))×Int×PUnit->Option (List (List Int))) (x:(List Nat × List (Option (List Int)))×Int×PUnit)=>bif decide (x.2.1<(↑x0.1.length:Int)) then lp (List Int×Int×PUnit) (List (List Int)) (fun (again_1:List Int×Int × PUnit->Option (List (List Int))) (x_1:List Int×Int×PUnit)=>bif decide (x_1.2.1<(↑x0.2.length:Int)) then bif inB x_1.2.1 x0.2.length then bif inB x.2.1 x0.1.length then ah (uo (x0.2.getD x_1.2.1.toNat ({ data:={ toList:=[] } },[],false)) (x0.1.getD x.2.1.toNat ({ data:={ toList:=[] } },0)).1) fun (t:Int)=>bif dM (List.length x_1.1+1) 8 then again_1 (x_1.1++[t],IntKind.wrap .i64 (x_1.2.1 + 1),PUnit.unit) else none else none else none else bif dM (List.length x.1.1+1) 24 then again ((x.1.1++[List.length x.1.2+0], x.1.2++[some x_1.1]),IntKind.wrap .i64 (x.2.1+1),PUnit.unit) else none) ([],0,PUnit.unit) else bif List.all x.1.1 fun (x_1:Nat)=>fE x.1.2 x_1 then some (List.map (fun (x_1:Nat)=>bq x.1.2 x_1) x.1.1) else none) (([],[]),0,PUnit.unit)
def ja (x0:(List (ByteArray×Int))×List (ByteArray×(List (ByteArray×Int×Int×Int))×Bool)):Option (List (List Int)):=zf lpK jnK uo x0
abbrev t81:=((List (ByteArray×Int))×List (ByteArray×(List (ByteArray×Int×Int×Int))×Bool))->Option (List (List Int))
def xH (lp:Lp) (_:Jn) (ja:t81) (x0:(List (ByteArray×Int))×List (ByteArray×(List (ByteArray×Int×Int×Int))×Bool)) (x1:List Int):Option ((List Int)×List ((List Int)×Int×Int)) :=
 ah (ja x0) fun (t:List (List Int))=>lp (Int×List Int×List (List Int×Int×Int)×PUnit) (List Int×List (List Int×Int×Int)) (fun (again:Int×List Int×List (List Int×Int×Int)×PUnit->Option (List Int×List (List Int×Int×Int))) (x:Int×List Int×List (List Int×Int×Int)×PUnit)=>bif decide (x.1<(↑x0.1.length:Int)) then bif inB x.1 t.length then bif inB x.1 x0.1.length then bif dM (List.length x.2.2.1+1) 40 then again (IntKind.wrap IntKind.i64 (x.1+1),x.2.1,x.2.2.1++[(t.getD x.1.toNat [],3,(x0.1.getD x.1.toNat ({ data:={ toList:=[] } },(0 : Int))).2)],PUnit.unit) else none else none else none else some (x.2.1,x.2.2.1)) (0,x1,[],PUnit.unit)
def dY (x0:(List (ByteArray×Int))×List (ByteArray×(List (ByteArray×Int×Int×Int))×Bool)) (x1:List Int):Option ((List Int)×List ((List Int)×Int×Int)):=xH lpK jnK ja x0 x1
abbrev t44:=((List (ByteArray×Int))×List (ByteArray×(List (ByteArray×Int×Int×Int))×Bool))->(List Int)->Option ((List Int)×List ((List Int)×Int×Int))
def k44 (dY:t44):Ctr:=⟨[T25,(.sl i64)],[],[],.one T82,fun x _ _=>dY x.1 x.2.1⟩
def Cz (lp:Lp) (_:Jn) (x0:(List (ByteArray×Int))×List (ByteArray×(List (ByteArray×Int×Int×Int))×Bool)):Option (List Int) :=
 lp (List Int×Int×PUnit) (List Int) (fun (again:List Int×Int×PUnit->Option (List Int)) (x:List Int×Int×PUnit)=>bif decide (x.2.1<(↑x0.2.length:Int)) then bif dM (List.length x.1+1) 8 then again (x.1++[1],IntKind.wrap .i64 (x.2.1+1),PUnit.unit) else none else some x.1) ([],(0 : Int),PUnit.unit)
def fY (x0:(List (ByteArray×Int))×List (ByteArray×(List (ByteArray×Int×Int×Int))×Bool)):Option (List Int):=Cz lpK jnK x0
abbrev t45:=((List (ByteArray×Int))×List (ByteArray×(List (ByteArray×Int×Int×Int))×Bool))->Option (List Int)
def k45 (fY:t45):Ctr:=⟨[T25],[],[],.one (.sl i64),fun x _ _=>fY x.1⟩
def vS (_:Lp) (_:Jn) (lk:t43) (dY:t44) (fY:t45) (x0:(List (ByteArray×Int))×List (ByteArray×(List (ByteArray×Int×Int×Int))×Bool)):Option Bool :=
 ah (fY x0) fun (t:List Int)=>ah (dY x0 t) fun (t:List Int×List (List Int×Int×Int))=>ah (lk t) fun (t:Bool)=>some t
def jC (x0:(List (ByteArray×Int))×List (ByteArray×(List (ByteArray×Int×Int×Int))×Bool)):Option Bool:=vS lpK jnK lk dY fY x0
abbrev t16:=((List (ByteArray×Int))×List (ByteArray×(List (ByteArray×Int×Int×Int))×Bool))->Option (Bool)
def c16:Ctr:=⟨[T25],[],[],.one .bool,fun x _ _=>jC x.1⟩
theorem e16 (lp:Lp) (jn:Jn) (lk:t43) (dY:t44) (fY:t45):∀(x:TsS c16.as) (F:TsF c16.fs) (y:TsS c16.cs),vS lp jn lk dY fY x.1=bI lp jn (cx [(45,k45 fY),(44,k44 dY),(43,⟨[T82],[],[],.one .bool,fun x _ _=>lk x.1⟩)] [(32,r32),(92,r92),(112,bi)]) aj 4 16 f16 c16 x F y:=fun x F y=>by kernel_rfl
def Cg (_:Lp) (_:Jn) (x0:(List (Int×Int))×Bool×List (Int×Int)):Option Bool :=
 
 let v3:Bool:=decide ((↑x0.1.length:Int)>30);
 let v4:Bool:=!v3;
 let v5:Bool:=!v4||v4;bif v5 then bif v5 then bif v5 then bif v3||v4 then some (bif v3 then true else decide ((↑x0.2.2.length:Int)>30)) else none else none else none else none
def bn (x0:(List (Int×Int))×Bool×List (Int×Int)):Option Bool:=Cg lpK jnK x0
abbrev t17:=((List (Int×Int))×Bool×List (Int×Int))->Option (Bool)
def k17 (bn:t17):Ctr:=⟨[T30],[],[],.one .bool,fun x _ _=>bn x.1⟩
def c17:Ctr:=k17 bn
def Fe (lp:Lp) (_:Jn) (dz:QD) (x0:List (Int×Int)):Option Bool :=
 lp (Int×PUnit) Bool (fun (again:Int×PUnit->Option Bool) (x:Int×PUnit)=>bif decide (x.1<(↑x0.length:Int)) then bif inB x.1 x0.length then ah (dz (x0.getD x.1.toNat (0,0))) fun (t:Bool)=>bif !t then some false else again (IntKind.wrap .i64 (x.1+1),PUnit.unit) else none else some true) (0,PUnit.unit)
def lf (x0:List (Int×Int)):Option Bool:=Fe lpK jnK dz x0
abbrev t70:=(List (Int×Int))->Option (Bool)
def AE (_:Lp) (_:Jn) (x0:(List (Int×Int))×Bool×List (Int×Int)):Option (List (Int×Int)) :=
 bif x0.2.1 then some x0.1 else some x0.2.2
def sy (x0:(List (Int×Int))×Bool×List (Int×Int)):Option (List (Int×Int)):=AE lpK jnK x0
abbrev t71:=((List (Int×Int))×Bool×List (Int×Int))->Option (List (Int×Int))
def AA (_:Lp) (_:Jn) (lf:t70) (sy:t71) (x0:(List (Int×Int))×Bool×List (Int×Int)):Option Int :=
 ah (lf x0.1) fun (t:Bool) =>
 let v4:Bool:=!t;
 let v5:Bool:=!v4;
 let v6:Bool:=!v5||v5;bif v6 then bif v6 then ah (bif v5 then lf x0.2.2 else some false) fun (t:Bool)=>bif v6 then bif v4||v5 then bif bif v4 then true else !t then some 1 else ah (sy x0) fun (t:List (Int×Int))=>bif decide ((↑t.length:Int)>0) then some 19 else some 0 else none else none else none else none
def jP (x0:(List (Int×Int))×Bool×List (Int×Int)):Option Int:=AA lpK jnK lf sy x0
abbrev t31:=((List (Int×Int))×Bool×List (Int×Int))->Option (Int)
def BV (_:Lp) (_:Jn) (x0:(List (Int×Int))×Bool×List (Int×Int)):Option (List (Int×Int)) :=
 bif x0.2.1 then some x0.2.2 else some x0.1
def lq (x0:(List (Int×Int))×Bool×List (Int×Int)):Option (List (Int×Int)):=BV lpK jnK x0
abbrev t46:=((List (Int×Int))×Bool×List (Int×Int))->Option (List (Int×Int))
def FI (_:Lp) (_:Jn) (x0:Int) (x1:Int):Option (Int×Int) :=
 
 let v4:Int:=2 ^ 32;
 let v5:Int:=Int.fdiv x0 v4;
 let v6:Int:=Int.fdiv x1 v4;
 let v7:Bool:=decide ((0:Int)<=32);
 let v8:Int:=IntKind.wrap .u64 (↑(Nat.land (Int.toNat (x1 % Int.ofNat 18446744073709551616)) (Int.toNat (4294967295 % Int.ofNat 18446744073709551616))) : Int);
 let v9:Int:=IntKind.wrap .u64 (↑(Nat.land (Int.toNat (x0 % Int.ofNat 18446744073709551616)) (Int.toNat (4294967295 % Int.ofNat 18446744073709551616))) : Int);
 let v10:Int:=IntKind.wrap .u64 (v9*v8);
 let v11:Int:=IntKind.wrap .u64 (IntKind.wrap .u64 (v5*v8)+Int.fdiv v10 v4);
 let v12:Int:=IntKind.wrap .u64 (IntKind.wrap .u64 (v9*v6)+IntKind.wrap .u64 (↑(Nat.land (Int.toNat (v11 % Int.ofNat 18446744073709551616)) (Int.toNat (4294967295 % Int.ofNat 18446744073709551616))):Int));bif v7 then bif v7 then bif v7 then bif v7 then bif v7 then bif v7 then some (IntKind.wrap .u64 (IntKind.wrap .u64 (IntKind.wrap .u64 (v5*v6)+Int.fdiv v11 v4)+Int.fdiv v12 v4),IntKind.wrap .u64 (IntKind.wrap .u64 (v12*v4)+IntKind.wrap IntKind.u64 (↑(Nat.land (Int.toNat (v10 % Int.ofNat 18446744073709551616)) (Int.toNat (4294967295 % Int.ofNat 18446744073709551616))):Int))) else none else none else none else none else none else none
def fT (x0:Int) (x1:Int):Option (Int×Int):=FI lpK jnK x0 x1
abbrev Tq:=(Int)->(Int)->Option (Int×Int)
def EB (lp:Lp) (_:Jn) (cR:IE) (cJ:OW) (x0:Int×Int) (x1:Int×Int):Option ((Int×Int)×(Int×Int)×Unit) :=
 
 let v4:Bool:=nzB x1.2;
 let v5:Int:=2 ^ 63;
 let v6:Int:=2 ^ 1;
 let v7:Bool:=decide (x0.1=0);
 let v8:Bool:=decide ((0:Int)<=63);
 let v9:Bool:=decide ((0:Int)<=1);
 let v10:Bool:=!v7||v7;bif v10 then bif v10 then bif v10 then bif bif v7 then decide (x1.1=0) else false then bif v4 then bif v4 then some ((0,IntKind.wrap IntKind.u64 (Int.tdiv x0.2 x1.2)),(0,Int.tmod x0.2 x1.2),PUnit.unit) else none else none else lp (Int×(Int×Int)×(Int×Int)×(Int×Int)×PUnit) ((Int×Int) × (Int×Int)×PUnit) (fun (again:Int×(Int×Int)×(Int×Int)×(Int×Int)×PUnit->Option ((Int×Int)×(Int×Int)×PUnit)) (x:Int×(Int×Int)×(Int×Int)×(Int × Int)×PUnit) =>
 let v13:Int:=IntKind.wrap .i64 (x.1+1);
 let v14:Int:=IntKind.wrap .u64 (x.2.2.1.2*v6);
 let v15:Int:=IntKind.wrap .u64 (IntKind.wrap .u64 (x.2.2.1.1*v6)+Int.fdiv x.2.2.1.2 v5);
 let v16:Bool:=decide (Int.fdiv x.2.2.2.1.1 v5>0);
 let v17:Bool:=!v16;
 let v18:Int×Int:=(IntKind.wrap .u64 (IntKind.wrap .u64 (x.2.1.1*v6)+Int.fdiv x.2.1.2 v5),IntKind.wrap .u64 (x.2.1.2*v6));
 let v19:Int×Int:=(IntKind.wrap .u64 (IntKind.wrap .u64 (x.2.2.2.1.1*v6)+Int.fdiv x.2.2.2.1.2 v5),IntKind.wrap .u64 (IntKind.wrap IntKind.u64 (x.2.2.2.1.2*v6)+Int.fdiv x.2.1.1 v5));
 let v20:Bool:=!v17||v17;bif decide (x.1<128) then bif v8 then bif v9 then bif v8 then bif v9 then bif v8 then bif v9 then bif v8 then bif v9 then bif v9 then bif v8 then bif v9 then bif v20&&v20 then ah (bif v17 then cR v19 x1 else some false) fun (t:Bool)=>bif v20 then bif v16||v17 then bif bif v16 then true else !t then ah (cJ v19 x1) fun (t:Int×Int)=>again (v13,v18,(v15,IntKind.wrap .u64 (v14+1)),t,PUnit.unit) else again (v13,v18,(v15,v14),v19,PUnit.unit) else none else none else none else none else none else none else none else none else none else none else none else none else none else none else some (x.2.2.1,x.2.2.2.1, PUnit.unit)) (0,x0,(0,0),(0,0),PUnit.unit) else none else none else none
def sL (x0:Int×Int) (x1:Int×Int):Option ((Int×Int)×(Int×Int)×Unit):=EB lpK jnK cR cJ x0 x1
abbrev YS:=(Int×Int)->(Int×Int)->Option ((Int×Int)×(Int×Int)×Unit)
def CQ (_:Lp) (_:Jn) (fo:PD) (sL:YS) (x0:Int×Int) (x1:Bool) (x2:Int×Int):Option ((Int×Int)×Int×Unit) :=
 bif decide (x2.1=0)&&(decide (x2.2=0)&&true) then some ((0,0),16,PUnit.unit) else ah (fo x0 x2) fun (t:Int×Int)=>ah (sL x0 t) fun (t_1:(Int×Int)×(Int×Int)×PUnit) =>
 let v7:Int:=IntKind.wrap .i64 t_1.1.2;
 let v8:Bool:=decide (t_1.1.1>0);
 let v9:Bool:=!v8;
 let v10:Bool:=bif v8 then true else decide (t_1.1.2>1152921504606846976);
 let v11:Bool:=!v9||v9;
 let v12:Bool:=!v10;
 let v13:Bool:=!v12||v12;ah (sL x2 t) fun (t:(Int×Int)×(Int×Int)×PUnit) =>
 let v15:Int:=IntKind.wrap .i64 t.1.2;
 let v16:Bool:=bif v10 then true else decide (t.1.1>0);
 let v17:Bool:=!v16;
 let v18:Bool:=!v17||v17;bif v11 then bif v11 then bif v8||v9 then bif v13 then bif v13 then bif v10||v12 then bif v18 then bif v18 then bif v16||v17 then bif bif v16 then true else decide (t.1.2>1152921504606846976) then some ((0,0),5,PUnit.unit) else bif x1 then some ((IntKind.wrap .i64 (0 - v7), v15),0,PUnit.unit) else some ((v7,v15),0,PUnit.unit) else none else none else none else none else none else none else none else none else none
def iR (x0:Int×Int) (x1:Bool) (x2:Int×Int):Option ((Int×Int)×Int×Unit):=CQ lpK jnK fo sL x0 x1 x2
abbrev V8:=(Int×Int)->(Bool)->(Int×Int)->Option ((Int×Int)×Int×Unit)
def AD (_:Lp) (_:Jn) (bw:JQ) (fT:Tq) (iR:V8) (x0:Int×Int) (x1:Int×Int):Option ((Int×Int)×Int×Unit) :=
 ah (bw x0.1) fun (t:Int)=>ah (bw x1.1) fun (t_1:Int)=>ah (fT t t_1) fun (t:Int×Int)=>ah (bw x0.2) fun (t_2:Int)=>ah (bw x1.2) fun (t_3:Int)=>ah (fT t_2 t_3) fun (t_4:Int×Int)=>ah (iR t (!decide (decide (x0.1<0)=decide (x1.1<0))) t_4) fun (t:(Int×Int)×Int×PUnit)=>some (t.1,t.2.1,PUnit.unit)
def jQ (x0:Int×Int) (x1:Int×Int):Option ((Int×Int)×Int×Unit):=AD lpK jnK bw fT iR x0 x1
abbrev UB:=(Int×Int)->(Int×Int)->Option ((Int×Int)×Int×Unit)
def EQ (_:Lp) (_:Jn) (cR:IE) (eD:Q2) (cJ:OW) (bw:JQ) (fT:Tq) (iR:V8) (x0:Int×Int) (x1:Int×Int):Option ((Int×Int)×Int×Unit) :=
 
 let v4:Bool:=decide (x0.1<0);ah (bw x0.1) fun (t:Int)=>ah (bw x1.2) fun (t_1:Int)=>ah (fT t t_1) fun (t:Int×Int)=>ah (bw x1.1) fun (t_2:Int)=>ah (bw x0.2) fun (t_3:Int)=>ah (fT t_2 t_3) fun (t_4:Int×Int)=>ah (bw x0.2) fun (t_5:Int)=>ah (bw x1.2) fun (t_6:Int)=>ah (fT t_5 t_6) fun (t_7:Int×Int)=>bif decide (v4=decide (x1.1<0)) then ah (eD t t_4) fun (t:Int×Int) =>ah (iR t v4 t_7) fun (t:(Int×Int)×Int×PUnit)=>some (t.1,t.2.1,PUnit.unit) else ah (cR t t_4) fun (t_8:Bool)=>bif t_8 then ah (cJ t_4 t) fun (t:Int×Int)=>ah (iR t (decide (x1.1<0)) t_7) fun (t:(Int×Int)×Int×PUnit)=>some (t.1,t.2.1,PUnit.unit) else ah (cJ t t_4) fun (t:Int×Int)=>ah (iR t v4 t_7) fun (t:(Int×Int)×Int×PUnit)=>some (t.1,t.2.1,PUnit.unit)
def jb (x0:Int×Int) (x1:Int×Int):Option ((Int×Int)×Int×Unit):=EQ lpK jnK cR eD cJ bw fT iR x0 x1
abbrev TE:=(Int×Int)->(Int×Int)->Option ((Int×Int)×Int×Unit)
def FM (lp:Lp) (_:Jn) (aZ:t24) (jQ:UB) (jb:TE) (x0:List Int) (x1:List (Int×Int)):Option ((Int×Int)×Int×Unit) :=
 ah (aZ 0) fun (t:Int×Int)=>lp (Int×(Int×Int)×(Int×Int)×PUnit) ((Int×Int)×Int×PUnit) (fun (again:Int×(Int×Int)×(Int×Int)×PUnit->Option ((Int×Int)×Int×PUnit)) (x:Int×(Int×Int)×(Int×Int)×PUnit)=>bif decide (x.1<(↑x0.length:Int)) then bif inB x.1 x0.length then ah (aZ (x0.getD x.1.toNat 0)) fun (t:Int×Int)=>bif inB x.1 x1.length then ah (jQ t (x1.getD x.1.toNat (0,0))) fun (t:(Int×Int)×Int×PUnit)=>bif !decide (t.2.1=0) then some ((0,0),t.2.1,PUnit.unit) else ah (jb x.2.2.1 t.1) fun (t:(Int × Int)×Int×PUnit)=>bif !decide (t.2.1=0) then some ((0,0),t.2.1,PUnit.unit) else again (IntKind.wrap .i64 (x.1+1), x.2.1,t.1,PUnit.unit) else none else none else some (x.2.2.1,0,PUnit.unit)) (0,(0,0),t,PUnit.unit)
def mU (x0:List Int) (x1:List (Int×Int)):Option ((Int×Int)×Int×Unit):=FM lpK jnK aZ jQ jb x0 x1
abbrev t83:=(List Int)->(List (Int×Int))->Option ((Int×Int)×Int×Unit)
def zy (lp:Lp) (_:Jn) (x0:(List Int)×List ((List Int)×Int×Int)) (x1:Int):Option (List Int) :=
 lp (List Int×Int×PUnit) (List Int) (fun (again:List Int×Int×PUnit->Option (List Int)) (x:List Int×Int×PUnit)=>bif decide (x.2.1<(↑x0.2.length:Int)) then bif inB x.2.1 x0.2.length then bif inB x1 (List.length (x0.2.getD x.2.1.toNat ([],0,0)).1) then bif dM (List.length x.1+(1 : Nat)) 8 then again (x.1++[List.getD (x0.2.getD x.2.1.toNat ([],0,0)).1 x1.toNat 0],IntKind.wrap .i64 (x.2.1 + 1),PUnit.unit) else none else none else none else some x.1) ([],0,PUnit.unit)
def qk (x0:(List Int)×List ((List Int)×Int×Int)) (x1:Int):Option (List Int):=zy lpK jnK x0 x1
abbrev X0:=((List Int)×List ((List Int)×Int×Int))->(Int)->Option (List Int)
def D9 (_:Lp) (_:Jn) (cR:IE) (bw:JQ) (fT:Tq) (x0:Int×Int) (x1:Int×Int):Option Int :=
 
 let v4:Bool:=decide (x0.1<0);
 let v5:Bool:=decide (x0.1>=0);
 let v6:Bool:=!v4||v4;
 let v7:Bool:=!v5||v5;ah (bw x0.1) fun (t:Int)=>ah (bw x1.2) fun (t_1:Int)=>ah (fT t t_1) fun (t:Int×Int)=>ah (bw x1.1) fun (t_2:Int)=>ah (bw x0.2) fun (t_3:Int)=>ah (fT t_2 t_3) fun (t_4:Int×Int)=>bif v6 then bif v6 then bif v6 then bif bif v4 then decide (x1.1>=0) else false then some (-1) else bif v7 then bif v7 then bif v7 then bif bif v5 then decide (x1.1<0) else false then some 1 else bif decide (t.1=t_4.1)&&(decide (t.2=t_4.2)&&true) then some 0 else ah (cR t t_4) fun (t:Bool)=>bif decide (t=v5) then some (-1) else some 1 else none else none else none else none else none else none
def mQ (x0:Int×Int) (x1:Int×Int):Option Int:=D9 lpK jnK cR bw fT x0 x1
abbrev VL:=(Int×Int)->(Int×Int)->Option (Int)
def Az (lp:Lp) (_:Jn) (aZ:t24) (mU:t83) (qk:X0) (mQ:VL) (x0:(List Int)×List ((List Int)×Int×Int)) (x1:List (Int×Int)) (x2:List Int):Option (Bool×Int×Unit) :=
 lp (Bool×Int×PUnit) (Bool×Int×PUnit) (fun (again:Bool×Int×PUnit->Option (Bool×Int×PUnit)) (x:Bool×Int×PUnit) =>
 let v7:Bool:=!x.1;
 let v8:Bool:=v7||x.1;bif decide (x.2.1<(↑x2.length:Int)) then ah (qk x0 x.2.1) fun (t:List Int)=>ah (mU t x1) fun (t:(Int×Int) × Int×PUnit)=>bif !decide (t.2.1=0) then some (false,t.2.1,PUnit.unit) else bif v8&&(v8&&(v7||inB x.2.1 x2.length)) then bif v8 then bif v8 then ah (bif x.1 then aZ (x2.getD x.2.1.toNat 0) else some (0,0)) fun (t_1:Int×Int)=>bif v8&&v8 then ah (bif x.1 then mQ t.1 t_1 else some 0) fun (t:Int)=>bif v8 then bif v8 then again (bif x.1 then decide (t<=0) else false,IntKind.wrap .i64 (x.2.1+(1 : Int)),PUnit.unit) else none else none else none else none else none else none else some (x.1,0,PUnit.unit)) (true,0,PUnit.unit)
def rF (x0:(List Int)×List ((List Int)×Int×Int)) (x1:List (Int×Int)) (x2:List Int):Option (Bool×Int×Unit):=Az lpK jnK aZ mU qk mQ x0 x1 x2
abbrev t82:=((List Int)×List ((List Int)×Int×Int))->(List (Int×Int))->(List Int)->Option (Bool×Int×Unit)
def zc (lp:Lp) (_:Jn) (x0:(List Int)×List ((List Int)×Int×Int)):Option (List Int) :=
 lp (List Int×Int×PUnit) (List Int) (fun (again:List Int×Int×PUnit->Option (List Int)) (x:List Int×Int×PUnit)=>bif decide (x.2.1<(↑x0.2.length:Int)) then bif inB x.2.1 x0.2.length then bif dM (List.length x.1+1) 8 then again (x.1++[(x0.2.getD x.2.1.toNat ([],0,(0 : Int))).2.2],IntKind.wrap .i64 (x.2.1+1),PUnit.unit) else none else none else some x.1) ([],0,PUnit.unit)
def qo (x0:(List Int)×List ((List Int)×Int×Int)):Option (List Int):=zc lpK jnK x0
abbrev t84:=((List Int)×List ((List Int)×Int×Int))->Option (List Int)
def Cw (_:Lp) (_:Jn) (aZ:t24) (mQ:VL) (x0:Int×Int):Option Int :=
 ah (aZ 0) fun (t:Int×Int)=>ah (mQ x0 t) fun (t:Int)=>some t
def jH (x0:Int×Int):Option Int:=Cw lpK jnK aZ mQ x0
abbrev t85:=(Int×Int)->Option (Int)
def yM (lp:Lp) (_:Jn) (jH:t85) (x0:(List Int)×List ((List Int)×Int×Int)) (x1:List (Int×Int)):Option Bool :=
 lp (Int×PUnit) Bool (fun (again:Int×PUnit->Option Bool) (x:Int×PUnit) =>
 let v6:Bool:=inB x.1 x1.length;
 let v7:Bool:=inB x.1 x0.2.length;
 let v8:Bool:=decide ((x0.2.getD x.1.toNat ([],0,0)).2.1=1);
 let v9:Bool:=decide ((x0.2.getD x.1.toNat ([],0,0)).2.1=2);
 let v10:Bool:=!v8;
 let v11:Bool:=v10||v8;bif decide (x.1<(↑x1.length:Int)) then bif v7 then bif v11&&(v11&&(v10||v6)) then bif v11 then bif v11 then ah (bif v8 then jH (x1.getD x.1.toNat (0,0)) else some 0) fun (t:Int) =>
 let v13:Bool:=bif v8 then decide (t>0) else false;
 let v14:Bool:=!v13;
 let v15:Bool:=!v14;
 let v16:Bool:=v14&&v9;
 let v17:Bool:=!v16;
 let v18:Bool:=v15||v14;
 let v19:Bool:=v17||v16;bif v11 then bif v11 then bif v18 then bif v18&&(v18&&(v15||v7)) then bif v18 then bif v18 then bif v18 then bif v18 then bif v19&&(v19&&(v17 || v6)) then bif v19 then bif v19 then ah (bif v16 then jH (x1.getD x.1.toNat (0,0)) else some 0) fun (t:Int)=>bif v19 then bif (v15 || v18)&&(v15||(!v9||(v15||v16))) then bif v13||v14 then bif bif v13 then true else bif v9 then decide (t<0) else false then some false else again (IntKind.wrap IntKind.i64 (x.1+1),PUnit.unit) else none else none else none else none else none else none else none else none else none else none else none else none else none else none else none else none else none else none else some true) (0,PUnit.unit)
def qj (x0:(List Int)×List ((List Int)×Int×Int)) (x1:List (Int×Int)):Option Bool:=yM lpK jnK jH x0 x1
abbrev t86:=((List Int)×List ((List Int)×Int×Int))->(List (Int×Int))->Option (Bool)
def xG (_:Lp) (_:Jn) (mU:t83) (rF:t82) (qo:t84) (jH:t85) (qj:t86) (x0:(List Int)×List ((List Int)×Int×Int)) (x1:List (Int×Int)):Option (Bool×Int×Unit) :=
 bif decide (0<=(↑x0.1.length:Int))&&dM (Int.toNat (↑x0.1.length:Int)) 8 then ah (rF x0 x1 (List.replicate (Int.toNat (↑x0.1.length:Int)) 0)) fun (t:Bool×Int×PUnit) =>
 let v5:Bool:=!t.1||t.1;bif !decide (t.2.1=0) then some (false,t.2.1,PUnit.unit) else ah (qo x0) fun (t_1:List Int)=>ah (mU t_1 x1) fun (t_2:(Int×Int)×Int×PUnit)=>bif !decide (t_2.2.1=0) then some (false,t_2.2.1,PUnit.unit) else bif v5 then ah (bif t.1 then jH t_2.1 else some 0) fun (t_3:Int) =>
 let v9:Bool:=bif t.1 then decide (t_3>0) else false;
 let v10:Bool:=!v9||v9;bif v5 then bif v5 then bif v10&&v10 then ah (bif v9 then qj x0 x1 else some false) fun (t:Bool)=>bif v10 then some (bif v9 then t else false,0,PUnit.unit) else none else none else none else none else none else none
def oB (x0:(List Int)×List ((List Int)×Int×Int)) (x1:List (Int×Int)):Option (Bool×Int×Unit):=xG lpK jnK mU rF qo jH qj x0 x1
abbrev t47:=((List Int)×List ((List Int)×Int×Int))->(List (Int×Int))->Option (Bool×Int×Unit)
def Aw (_:Lp) (_:Jn) (aP:t14) (lf:t70) (x0:(List (ByteArray×Int))×List (ByteArray×(List (ByteArray×Int×Int×Int))×Bool)) (x1:List (Int×Int)):Option Int :=
 ah (aP x0) fun (t:Bool) =>
 let v5:Bool:=!t;
 let v6:Bool:=!v5;
 let v7:Bool:=!v6||v6;bif v7 then ah (bif v6 then lf x1 else some false) fun (t:Bool)=>bif v7 then bif v5||v6 then bif bif v5 then true else !t then some 1 else bif !decide ((↑x1.length:Int)=(↑x0.2.length:Int)) then some 3 else some 0 else none else none else none
def ry (x0:(List (ByteArray×Int))×List (ByteArray×(List (ByteArray×Int×Int×Int))×Bool)) (x1:List (Int×Int)):Option Int:=Aw lpK jnK aP lf x0 x1
abbrev YG:=((List (ByteArray×Int))×List (ByteArray×(List (ByteArray×Int×Int×Int))×Bool))->(List (Int×Int))->Option (Int)
def EA (lp:Lp) (_:Jn) (aZ:t24) (jQ:UB) (jb:TE) (x0:List Int) (x1:List (Int×Int)):Option ((Int×Int)×Int×Unit) :=
 ah (aZ 0) fun (t:Int×Int)=>lp (Int×(Int×Int)×(Int×Int)×PUnit) ((Int×Int)×Int×PUnit) (fun (again:Int×(Int×Int)×(Int×Int)×PUnit->Option ((Int×Int)×Int×PUnit)) (x:Int×(Int×Int)×(Int×Int)×PUnit)=>bif decide (x.1<(↑x1.length:Int)) then bif inB x.1 x0.length then ah (aZ (x0.getD x.1.toNat 0)) fun (t:Int×Int)=>bif inB x.1 x1.length then ah (jQ t (x1.getD x.1.toNat (0,0))) fun (t:(Int×Int)×Int×PUnit)=>bif !decide (t.2.1=0) then some ((0,0),t.2.1,PUnit.unit) else ah (jb x.2.2.1 t.1) fun (t:(Int × Int)×Int×PUnit)=>bif !decide (t.2.1=0) then some ((0,0),t.2.1,PUnit.unit) else again (IntKind.wrap .i64 (x.1+1), x.2.1,t.1,PUnit.unit) else none else none else some (x.2.2.1,0,PUnit.unit)) (0,(0,0),t,PUnit.unit)
def wl (x0:List Int) (x1:List (Int×Int)):Option ((Int×Int)×Int×Unit):=EA lpK jnK aZ jQ jb x0 x1
abbrev YW:=(List Int)->(List (Int×Int))->Option ((Int×Int)×Int×Unit)
def FH (_:Lp) (_:Jn) (x0:Int×Int):Option (Int×Int) :=
 some (IntKind.wrap .i64 (0 - x0.1),x0.2)
def vZ (x0:Int×Int):Option (Int×Int):=FH lpK jnK x0
abbrev XW:=(Int×Int)->Option (Int×Int)
def ET (_:Lp) (_:Jn) (jb:TE) (vZ:XW) (x0:Int×Int) (x1:Int×Int):Option ((Int×Int)×Int×Unit) :=
 ah (vZ x1) fun (t:Int×Int)=>ah (jb x0 t) fun (t:(Int×Int)×Int×PUnit)=>some (t.1,t.2.1,PUnit.unit)
def wy (x0:Int×Int) (x1:Int×Int):Option ((Int×Int)×Int×Unit):=ET lpK jnK jb vZ x0 x1
abbrev YU:=(Int×Int)->(Int×Int)->Option ((Int×Int)×Int×Unit)
def vw (lp:Lp) (_:Jn) (aZ:t24) (ja:t81) (ry:YG) (wl:YW) (wy:YU) (x0:(List (ByteArray×Int))×List (ByteArray×(List (ByteArray×Int×Int×Int))×Bool)) (x1:List (Int×Int)):Option ((List (Int×Int))×Int×Unit) :=
 ah (ry x0 x1) fun (t:Int)=>bif !decide (t=0) then some ([],t,PUnit.unit) else ah (ja x0) fun (t:List (List Int))=>lp (List (Int×Int)×Int × PUnit) (List (Int×Int)×Int×PUnit) (fun (again:List (Int×Int)×Int×PUnit->Option (List (Int×Int)×Int×PUnit)) (x:List (Int×Int)×Int×PUnit)=>bif decide (x.2.1<(↑x0.1.length:Int)) then bif inB x.2.1 t.length then ah (wl (t.getD x.2.1.toNat []) x1) fun (t:(Int×Int)×Int×PUnit) =>bif !decide (t.2.1=0) then some ([],t.2.1,PUnit.unit) else bif inB x.2.1 x0.1.length then ah (aZ (x0.1.getD x.2.1.toNat ({ data:={ toList:=[] } },0)).2) fun (t_1:Int×Int)=>ah (wy t_1 t.1) fun (t:(Int×Int)×Int×PUnit)=>bif !decide (t.2.1=0) then some ([],t.2.1,PUnit.unit) else bif dM (List.length x.1+1) 16 then again (x.1++[t.1],IntKind.wrap .i64 (x.2.1+1),PUnit.unit) else none else none else none else some (x.1,0,PUnit.unit)) ([],0,PUnit.unit)
def mc (x0:(List (ByteArray×Int))×List (ByteArray×(List (ByteArray×Int×Int×Int))×Bool)) (x1:List (Int×Int)):Option ((List (Int×Int))×Int×Unit):=vw lpK jnK aZ ja ry wl wy x0 x1
abbrev t87:=((List (ByteArray×Int))×List (ByteArray×(List (ByteArray×Int×Int×Int))×Bool))->(List (Int×Int))->Option ((List (Int×Int))×Int×Unit)
def Ar (lp:Lp) (_:Jn) (aZ:t24) (mc:t87) (x0:(List (ByteArray×Int))×List (ByteArray×(List (ByteArray×Int×Int×Int))×Bool)) (x1:List (Int×Int)):Option (Bool×Int×Unit) :=
 ah (mc x0 x1) fun (t:List (Int×Int)×Int×PUnit)=>bif !decide (t.2.1=0) then some (false,t.2.1,PUnit.unit) else lp (Int×PUnit) (Bool×Int × PUnit) (fun (again:Int×PUnit->Option (Bool×Int×PUnit)) (x:Int×PUnit) =>
 let v7:Int×Int:=t.1.getD x.1.toNat (0,0);bif decide (x.1<(↑t.1.length:Int)) then bif inB x.1 t.1.length then ah (aZ 0) fun (t:Int×Int)=>bif !(decide (v7.1=t.1)&&(decide (v7.2=t.2)&&true)) then some (false,0,PUnit.unit) else again (IntKind.wrap IntKind.i64 (x.1+1),PUnit.unit) else none else some (true,0,PUnit.unit)) (0,PUnit.unit)
def rT (x0:(List (ByteArray×Int))×List (ByteArray×(List (ByteArray×Int×Int×Int))×Bool)) (x1:List (Int×Int)):Option (Bool×Int×Unit):=Ar lpK jnK aZ mc x0 x1
abbrev t48:=((List (ByteArray×Int))×List (ByteArray×(List (ByteArray×Int×Int×Int))×Bool))->(List (Int×Int))->Option (Bool×Int×Unit)
def Ax (lp:Lp) (jn:Jn) (aP:t14) (dY:t44) (fY:t45) (jP:t31) (lq:t46) (oB:t47) (rT:t48) (x0:(List (ByteArray×Int))×List (ByteArray×(List (ByteArray×Int×Int×Int))×Bool)) (x1:(List (Int×Int))×Bool×List (Int×Int)):Option (Bool×Int×Unit) :=
 ah (aP x0) fun (t:Bool)=>bif !t then some (false,1,PUnit.unit) else ah (jP x1) fun (t:Int)=>bif !decide (t=0) then some (false,t, PUnit.unit) else ah (lq x1) fun (t:List (Int×Int))=>jn (Int×PUnit) (Bool×Int×PUnit) (fun (x:Int×PUnit)=>bif !decide ((↑t.length:Int)=x.1) then some (false,3,PUnit.unit) else bif x1.2.1 then ah (fY x0) fun (t_1:List Int)=>ah (dY x0 t_1) fun (t_2:List Int×List (List Int×Int × Int))=>ah (oB t_2 t) fun (t:Bool×Int×PUnit)=>some (t.1,t.2.1,PUnit.unit) else ah (rT x0 t) fun (t_1:Bool×Int×PUnit)=>bif !decide (t_1.2.1=0) then some (false,t_1.2.1,PUnit.unit) else lp (Bool×Int×PUnit) (Bool×Int×PUnit) (fun (again:Bool×Int×PUnit->Option (Bool×Int×PUnit)) (x : Bool×Int×PUnit) =>
 let v11:Bool:=!x.1;
 let v12:Bool:=v11||x.1;bif decide (x.2.1<(↑t.length:Int)) then bif v12&&(v12&&(v11||inB x.2.1 t.length)) then bif v12 then bif v12 then bif v12 then bif v12 then again (bif x.1 then decide ((t.getD x.2.1.toNat (0,0)).1>=0) else false,IntKind.wrap .i64 (x.2.1+1), PUnit.unit) else none else none else none else none else none else some (x.1,0,PUnit.unit)) (t_1.1,0,PUnit.unit)) fun (j:Int×PUnit->Option (Bool×Int × PUnit))=>bif x1.2.1 then j ((↑x0.1.length:Int),PUnit.unit) else j ((↑x0.2.length:Int),PUnit.unit)
def dy (x0:(List (ByteArray×Int))×List (ByteArray×(List (ByteArray×Int×Int×Int))×Bool)) (x1:(List (Int×Int))×Bool×List (Int×Int)):Option (Bool×Int×Unit):=Ax lpK jnK aP dY fY jP lq oB rT x0 x1
abbrev t18:=((List (ByteArray×Int))×List (ByteArray×(List (ByteArray×Int×Int×Int))×Bool))->((List (Int×Int))×Bool×List (Int×Int))->Option (Bool×Int×Unit)
def k18 (dy:t18):Ctr:=⟨[T25,T30],[],[],.tup [.bool,i64],fun x _ _=>dy x.1 x.2.1⟩
def c18:Ctr:=k18 dy
def kG (_:Lp) (_:Jn) (aI:t13) (bH:t15) (aG:t11) (aX:t12) (aP:t14) (jC:t16) (bn:t17) (dy:t18) (x0:(List (ByteArray×Int))×List (ByteArray×(List (ByteArray×Int×Int×Int))×Bool)):Option Bool :=
 ah aG fun (t:Bool)=>bif !t then some false else ah (aX x0) fun (t:Bool)=>bif !t then some true else ah (aI x0) fun (t:(List (Int×Int) × Bool×List (Int×Int))×Int×PUnit) =>
 let v6:Bool:=decide (t.2.1=1);
 let v7:Bool:=decide (t.2.1=5);
 let v8:Bool:=!decide (t.2.1=0);
 let v9:Bool:=!v8;
 let v10:Bool:=!v6||v6;
 let v11:Bool:=!v7||v7;ah (aP x0) fun (t_1:Bool)=>bif !t_1 then bif v10&&v10 then ah (bif v6 then bH t.1 ([],false,[]) else some false) fun (t : Bool)=>bif v10 then some (bif v6 then t else false) else none else none else ah (jC x0) fun (t_2:Bool)=>bif !t_2 then bif v11&&v11 then ah (bif v7 then bH t.1 ([],false,[]) else some false) fun (t:Bool)=>bif v11 then some (bif v7 then t else false) else none else none else bif !v9||v9 then ah (bif v9 then bn t.1 else some false) fun (t_3:Bool)=>bif v8||v9 then bif bif v8 then true else t_3 then some false else ah (dy x0 t.1) fun (t:Bool×Int×PUnit) =>
 let v16:Bool:=decide (t.2.1=0);
 let v17:Bool:=bif v16 then t.1 else false;
 let v18:Bool:=!v17;bif !v16||v16 then bif !v18||v18 then bif v17||v18 then some (bif v17 then true else decide (t.2.1=5)) else none else none else none else none else none
def tp (x0:(List (ByteArray×Int))×List (ByteArray×(List (ByteArray×Int×Int×Int))×Bool)):Option Bool:=kG lpK jnK aI bH aG aX aP jC bn dy x0
def c3:Ctr:=⟨[T25],[],[],.one .bool,fun x _ _=>tp x.1⟩
theorem e3 (lp:Lp) (jn:Jn) (aI:t13) (bH:t15) (aG:t11) (aX:t12) (aP:t14) (jC:t16) (bn:t17) (dy:t18):∀(x:TsS c3.as) (F:TsF c3.fs) (y:TsS c3.cs),kG lp jn aI bH aG aX aP jC bn dy x.1=bI lp jn (cx [(18,k18 dy),(17,k17 bn),(16,⟨[T25],[],[],.one .bool,fun x _ _=>jC x.1⟩),(14,k14 aP),(12,k12 aX),(11,k11 aG),(15,k15 bH),(13,k13 aI)] [(32,r32),(92,r92),(112,bi)]) aj 4 3 f3 c3 x F y:=fun x F y=>by kernel_rfl
def kI (_:Lp) (_:Jn) (aR:t19) (aG:t11) (aX:t12) (bn:t17) (dy:t18) (x0:(List (ByteArray×Int))×List (ByteArray×(List (ByteArray×Int×Int×Int))×Bool)) (x1:(List (Int×Int))×Bool×List (Int×Int)):Option Bool :=
 ah aG fun (t:Bool)=>bif !t then some false else ah (aX x0) fun (t:Bool) =>
 let v6:Bool:=!t;
 let v7:Bool:=!v6;bif !v7||v7 then ah (bif v7 then bn x1 else some false) fun (t:Bool)=>bif v6||v7 then bif bif v6 then true else t then some true else ah (aR x0 x1) fun (t:Bool×Int×PUnit)=>ah (dy x0 x1) fun (t_1:Bool×Int×PUnit) =>
 let v11:Bool:=decide (t.1=t_1.1);
 let v12:Bool:=!v11||v11;bif v12&&v12 then bif v12 then some (bif v11 then decide (t.2.1=t_1.2.1) else false) else none else none else none else none
def tq (x0:(List (ByteArray×Int))×List (ByteArray×(List (ByteArray×Int×Int×Int))×Bool)) (x1:(List (Int×Int))×Bool×List (Int×Int)):Option Bool:=kI lpK jnK aR aG aX bn dy x0 x1
def c4:Ctr:=⟨[T25,T30],[],[],.one .bool,fun x _ _=>tq x.1 x.2.1⟩
theorem e4 (lp:Lp) (jn:Jn) (aR:t19) (aG:t11) (aX:t12) (bn:t17) (dy:t18):∀(x:TsS c4.as) (F:TsF c4.fs) (y:TsS c4.cs),kI lp jn aR aG aX bn dy x.1 x.2.1=bI lp jn (cx [(18,k18 dy),(17,k17 bn),(12,k12 aX),(11,k11 aG),(19,k19 aR)] [(32,r32),(92,r92),(112,bi)]) aj 4 4 f4 c4 x F y:=fun x F y=>by kernel_rfl
def kp (_:Lp) (_:Jn) (cZ:t20) (cf:t21) (aI:t13) (aR:t19) (aG:t11) (aX:t12) (aP:t14) (bn:t17) (x0:(List (ByteArray×Int))×List (ByteArray×(List (ByteArray×Int×Int×Int))×Bool)) (x1:(List (Int×Int))×Bool×List (Int×Int)):Option Bool :=
 ah aG fun (t:Bool)=>bif !t then some false else ah (aX x0) fun (t:Bool) =>
 let v6:Bool:=!t;
 let v7:Bool:=!v6;
 let v8:Bool:=!v7||v7;bif v8 then ah (bif v7 then aP x0 else some false) fun (t:Bool) =>
 let v10:Bool:=bif v6 then true else !t;
 let v11:Bool:=!v10;bif v8 then bif v6||v7 then bif !v11||v11 then ah (bif v11 then bn x1 else some false) fun (t:Bool)=>bif v10||v11 then bif bif v10 then true else t then some true else ah (aI x0) fun (t:(List (Int×Int)×Bool×List (Int×Int))×Int×PUnit) =>
 let v14:Bool:=!t.1.2.1;
 let v15:Bool:=v14||t.1.2.1;
 let v16:Bool:=v14||v15;bif !decide (t.2.1=0) then some (decide (t.2.1=5)) else ah (cZ x0) fun (t_1:List (Int×Int)×Int×PUnit) =>
 let v18:Bool:=!decide (t_1.2.1=22);
 let v19:Bool:=!decide (t_1.2.1=0);
 let v20:Bool:=t.1.2.1&&!v18;
 let v21:Bool:=bif v18 then true else !decide ((↑t_1.1.length:Int)=0);
 let v22:Bool:=t.1.2.1&&!v21;
 let v23:Bool:=!v20||v20;ah (cf x0) fun (t_2:List (Int×Int)×Int×PUnit) =>
 let v25:Bool:=bif v19 then true else !decide (t_2.2.1=12);
 let v26:Bool:=bif t.1.2.1 then bif v21 then true else !decide (t_2.2.1=0) else false;
 let v27:Bool:=!v26;
 let v28:Bool:=!v27;
 let v29:Bool:=v27&&v14;
 let v30:Bool:=!v29;
 let v31:Bool:=v29&&!v19;
 let v32:Bool:=v29&&!v25;
 let v33:Bool:=v28||v27;
 let v34:Bool:=v30||v29;
 let v35:Bool:=v30||v34;
 let v36:Bool:=!v32||v32;bif v15 then bif v15 then bif v23 then bif v23 then bif v16&&(v14||(v18||(v14||v20))) then bif v15 then bif !v22||v22 then bif v16&&(v14||(v21 || (v14||v22))) then bif v15 then bif v33 then bif v33 then bif v33 then bif v34 then bif v34 then bif !v31||v31 then bif v35&&(v30||(v19||(v30||v31))) then bif v34 then bif v36 then bif v36 then bif v35&&(v30||(v25||(v30||v32))) then bif (v28||v33)&&(v28||(!v14||(v28||v29))) then bif v26||v27 then bif bif v26 then true else bif v14 then bif v25 then true else !decide ((↑t_2.1.length:Int)=0) else false then some false else ah (aR x0 t.1) fun (t_3:Bool×Int×PUnit) =>
 let v38:Bool:=!decide (t_3.2.1=5);
 let v39:Bool:=!decide (t_3.2.1=0);
 let v40:Bool:=!v38;
 let v41:Bool:=v40||v38;
 let v42:Bool:=v38&&!v39;bif v41 then bif v41 then bif !v42||v42 then bif (v40||v41)&&(v40||(v39||(v40||v42))) then bif v41 then bif bif v38 then bif v39 then true else !t_3.1 else false then some false else ah (aR x0 x1) fun (t_4:Bool×Int×PUnit) =>
 let v44:Bool:=!decide (t_4.2.1=0);
 let v45:Bool:=!v44;
 let v46:Bool:=bif v44 then true else !t_4.1;
 let v47:Bool:=!v46;
 let v48:Bool:=!v47||v47;bif !v45||v45 then bif v44||v45 then bif v48 then bif v48 then bif v48&&v48 then bif v46||v47 then some (bif v46 then true else decide (x1.2.1 = t.1.2.1)) else none else none else none else none else none else none else none else none else none else none else none else none else none else none else none else none else none else none else none else none else none else none else none else none else none else none else none else none else none else none else none else none else none else none else none else none else none else none
def sF (x0:(List (ByteArray×Int))×List (ByteArray×(List (ByteArray×Int×Int×Int))×Bool)) (x1:(List (Int×Int))×Bool×List (Int×Int)):Option Bool:=kp lpK jnK cZ cf aI aR aG aX aP bn x0 x1
def c5:Ctr:=⟨[T25,T30],[],[],.one .bool,fun x _ _=>sF x.1 x.2.1⟩
theorem e5 (lp:Lp) (jn:Jn) (cZ:t20) (cf:t21) (aI:t13) (aR:t19) (aG:t11) (aX:t12) (aP:t14) (bn:t17):∀(x:TsS c5.as) (F:TsF c5.fs) (y:TsS c5.cs),kp lp jn cZ cf aI aR aG aX aP bn x.1 x.2.1=bI lp jn (cx [(17,k17 bn),(14,k14 aP),(12,k12 aX),(11,k11 aG),(19,k19 aR),(13,k13 aI),(21,k21 cf),(20,k20 cZ)] [(32,r32),(92,r92),(112,bi)]) aj 4 5 f5 c5 x F y:=fun x F y=>by kernel_rfl
def CI (lp:Lp) (_:Jn) (x0:(List (ByteArray×Int))×List (ByteArray×(List (ByteArray×Int×Int×Int))×Bool)):Option ((List (ByteArray×Int))×List (ByteArray×(List (ByteArray×Int×Int×Int))×Bool)) :=
 
 let v3:List (ByteArray×List (ByteArray×Int×Int×Int)×Bool):=[];bif dM (0+List.length x0.1) 24 then lp (Int×List (ByteArray×Int)×List (ByteArray × List (ByteArray×Int×Int×Int)×Bool)×PUnit) (List (ByteArray×Int)×List (ByteArray×List (ByteArray×Int×Int×Int)×Bool)) (fun (again:Int×List (ByteArray×Int) × List (ByteArray×List (ByteArray×Int×Int×Int)×Bool)×PUnit->Option (List (ByteArray×Int)×List (ByteArray×List (ByteArray×Int×Int×Int)×Bool))) (x:Int×List (ByteArray×Int)×List (ByteArray×List (ByteArray×Int×Int×Int)×Bool)×PUnit) =>
 let v6:ByteArray×List (ByteArray×Int×Int×Int)×Bool:=x0.2.getD x.1.toNat ({ data:={ toList:=[] } },[],false);bif decide (x.1<(↑x0.2.length : Int)) then bif inB x.1 x0.2.length then bif dM (0+List.length v6.2.1) 40 then bif dM (List.length x.2.2.1+1) 48 then again (IntKind.wrap .i64 (x.1+1),x.2.1,x.2.2.1++v6 ::v3,PUnit.unit) else none else none else none else some (x.2.1,x.2.2.1)) (0,x0.1, v3,PUnit.unit) else none
def kM (x0:(List (ByteArray×Int))×List (ByteArray×(List (ByteArray×Int×Int×Int))×Bool)):Option ((List (ByteArray×Int))×List (ByteArray×(List (ByteArray×Int×Int×Int))×Bool)):=CI lpK jnK x0
def lQ (lp:Lp) (jn:Jn) (cO:t23) (aR:t19) (aZ:t24) (aG:t11) (aX:t12) (aP:t14) (bn:t17) (kM:((List (ByteArray×Int))×List (ByteArray×(List (ByteArray×Int×Int×Int))×Bool))->Option ((List (ByteArray×Int))×List (ByteArray×(List (ByteArray×Int×Int×Int))×Bool))) (x0:(List (ByteArray×Int))×List (ByteArray×(List (ByteArray×Int×Int×Int))×Bool)) (x1:(List (Int×Int))×Bool×List (Int×Int)):Option Bool :=
 ah aG fun (t:Bool)=>bif !t then some false else ah (aX x0) fun (t:Bool) =>
 let v6:Bool:=!t;
 let v7:Bool:=!v6;
 let v8:Bool:=!v7||v7;bif v8 then ah (bif v7 then aP x0 else some false) fun (t:Bool) =>
 let v10:Bool:=bif v6 then true else !t;
 let v11:Bool:=!v10;bif v8 then bif v6||v7 then bif !v11||v11 then ah (bif v11 then bn x1 else some false) fun (t:Bool)=>bif v10||v11 then bif bif v10 then true else t then some true else ah (aR x0 x1) fun (t:Bool×Int×PUnit) =>
 let v14:Bool:=!decide (t.2.1=0);
 let v15:Bool:=!v14;bif !v15||v15 then bif v14||v15 then bif bif v14 then true else !t.1 then some true else ah (kM x0) fun (t:List (ByteArray×Int)×List (ByteArray×List (ByteArray×Int×Int×Int)×Bool))=>lp (Int×List (ByteArray×Int)×PUnit) Bool (fun (again:Int×List (ByteArray×Int)×PUnit->Option Bool) (x:Int × List (ByteArray×Int)×PUnit) =>
 let v19:Bool:=inB x.1 x.2.1.length;
 let v20:Bool:=Nat.ble (Nat.succ x.1.toNat) x.2.1.length;
 let v21:ByteArray×Int:=x.2.1.getD x.1.toNat ({ data:={ toList:=[] } },0);
 let v22:List (ByteArray×Int)×List (ByteArray×List (ByteArray×Int×Int×Int)×Bool):=(x.2.1,t.2);bif decide (x.1<(↑t.1.length:Int)) then bif v19 then bif v20 then bif v19 then bif v20 then again (IntKind.wrap .i64 (x.1+1),x.2.1.set x.1.toNat (v21.1,IntKind.wrap .i64 (v21.2*(2 : Int))),PUnit.unit) else none else none else none else none else ah (aP v22) fun (t:Bool)=>bif !t then some true else jn (List (Int×Int)×Bool×List (Int×Int) × PUnit) Bool (fun (x:List (Int×Int)×Bool×List (Int×Int)×PUnit)=>ah (aR v22 (x.1,x.2.1,x.2.2.1)) fun (t:Bool×Int×PUnit) =>
 let v26:Bool:=decide (t.2.1=5);
 let v27:Bool:=decide (t.2.1=0);
 let v28:Bool:=!v26;
 let v29:Bool:=!v28;
 let v30:Bool:=v29||v28;bif v30 then bif v30 then bif (v29||v30)&&(v29||(!v27||(v29||v28&&v27))) then bif v26||v28 then some (bif v26 then true else bif v27 then t.1 else false) else none else none else none else none) fun (j:List (Int×Int)×Bool×List (Int×Int)×PUnit->Option Bool)=>bif !x1.2.1 then lp (Int×List (Int×Int)×Bool × List (Int×Int)×PUnit) Bool (fun (again:Int×List (Int×Int)×Bool×List (Int×Int)×PUnit->Option Bool) (x:Int×List (Int×Int)×Bool×List (Int×Int)×PUnit) =>
 let v27:Bool×List (Int×Int)×PUnit:=(x.2.2.1,x.2.2.2.1,PUnit.unit);bif decide (x.1<(↑x1.1.length:Int)) then bif inB x.1 x1.1.length then ah (aZ 2) fun (t:Int×Int)=>ah (cO (x1.1.getD x.1.toNat (0,0)) t) fun (t:(Int×Int)×Int×PUnit)=>bif !decide (t.2.1=0) then some (decide (t.2.1=5)) else bif dM (List.length x.2.1+1) 16 then again (IntKind.wrap .i64 (x.1+1), x.2.1++[t.1],v27) else none else none else j (x.2.1,v27)) (0,[],x1.2.1,x1.2.2,PUnit.unit) else none) (0,t.1,PUnit.unit) else none else none else none else none else none else none else none
def uD (x0:(List (ByteArray×Int))×List (ByteArray×(List (ByteArray×Int×Int×Int))×Bool)) (x1:(List (Int×Int))×Bool×List (Int×Int)):Option Bool:=lQ lpK jnK cO aR aZ aG aX aP bn kM x0 x1
def c6:Ctr:=⟨[T25,T30],[],[],.one .bool,fun x _ _=>uD x.1 x.2.1⟩
theorem e6 (lp:Lp) (jn:Jn) (cO:t23) (aR:t19) (aZ:t24) (aG:t11) (aX:t12) (aP:t14) (bn:t17) (kM:((List (ByteArray×Int))×List (ByteArray×(List (ByteArray×Int×Int×Int))×Bool))->Option ((List (ByteArray×Int))×List (ByteArray×(List (ByteArray×Int×Int×Int))×Bool))):∀(x:TsS c6.as) (F:TsF c6.fs) (y:TsS c6.cs),lQ lp jn cO aR aZ aG aX aP bn kM x.1 x.2.1=bI lp jn (yN Au Ap (Yv [(22,⟨[T25],45,T45,(.sl T72),fun x=>kM x.1⟩)] (jv prog shs tX its [(17,k17 bn),(14,k14 aP),(12,k12 aX),(11,k11 aG),(24,k24 aZ),(19,k19 aR),(23,k23 cO)] [(32,r32),(92,r92),(112,bi)]))) aj 4 6 f6 c6 x F y:=fun x F y=>by kernel_rfl
def zk (lp:Lp) (_:Jn) (x0:List Int) (x1:Int) (x2:Int):Option (List Int) :=
 lp (List Int×Int×PUnit) (List Int) (fun (again:List Int×Int×PUnit->Option (List Int)) (x:List Int×Int×PUnit)=>bif decide (x.2.1>=0) then bif decide ((0 : Int)<=IntKind.wrap .i64 (8*x.2.1)) then bif dM (List.length x.1+1) 1 then again (x.1++[IntKind.wrap IntKind.u8 (Int.fdiv x1 (2 ^ min (Int.toNat (IntKind.wrap .i64 (8*x.2.1))) 64))],IntKind.wrap .i64 (x.2.1 - 1),PUnit.unit) else none else none else bif Nat.ble (1 : Nat) x.1.length then some x.1 else none) (x0,IntKind.wrap .i64 (x2 - 1),PUnit.unit)
def kx (x0:List Int) (x1:Int) (x2:Int):Option (List Int):=zk lpK jnK x0 x1 x2
def DT (lp:Lp) (_:Jn) (x0:List Int):Option Int :=
 lp (Int×Int×PUnit) Int (fun (again:Int×Int×PUnit->Option Int) (x:Int×Int×PUnit)=>bif decide (x.2.1<(↑x0.length:Int)) then bif inB x.2.1 x0.length then again (Int.tmod (IntKind.wrap .i64 (IntKind.wrap .i64 (IntKind.wrap .i64 (31*x.1)+IntKind.wrap .i64 (x0.getD x.2.1.toNat 0))+1)) 4294967296,IntKind.wrap .i64 (x.2.1+1),PUnit.unit) else none else some x.1) (0,0,PUnit.unit)
def vV (x0:List Int):Option Int:=DT lpK jnK x0
abbrev t66:=(List Int)->Option (Int)
def yP (lp:Lp) (jn:Jn) (jP:t31) (lq:t46) (vV:t66) (kx:(List Int)->(Int)->(Int)->Option (List Int)) (x0:(List (Int×Int))×Bool×List (Int×Int)):Option ((List Int)×Int×Unit) :=
 ah (jP x0) fun (t:Int)=>bif !decide (t=0) then some ([],t,PUnit.unit) else ah (lq x0) fun (t:List (Int×Int)) =>
 let v5:List Int:=[IntKind.wrap IntKind.u8 (↑t.length:Int)];bif decide ((↑t.length:Int)>20) then some ([],4,PUnit.unit) else jn (List Int × PUnit) (List Int×Int×PUnit) (fun (x:List Int×PUnit)=>lp (List Int×Int×PUnit) (List Int×Int×PUnit) (fun (again:List Int×Int×PUnit->Option (List Int×Int × PUnit)) (x:List Int×Int×PUnit) =>
 let v9:Bool:=inB x.2.1 t.length;
 let v10:Int×Int:=t.getD x.2.1.toNat (0,0);bif decide (x.2.1<(↑t.length:Int)) then bif v9 then ah (kx x.1 v10.1 (8 : Int)) fun (t:List Int)=>bif v9 then ah (kx t v10.2 8) fun (t:List Int)=>again (t,IntKind.wrap .i64 (x.2.1+1),PUnit.unit) else none else none else ah (vV x.1) fun (t:Int)=>ah (kx x.1 t 4) fun (t:List Int)=>some (t,0,PUnit.unit)) (x.1,0,PUnit.unit)) fun (j:List Int×PUnit->Option (List Int×Int×PUnit))=>bif x0.2.1 then j (84 ::67 ::1 ::v5,PUnit.unit) else j (84 ::67 ::0 ::v5,PUnit.unit)
def jd (x0:(List (Int×Int))×Bool×List (Int×Int)):Option ((List Int)×Int×Unit):=yP lpK jnK jP lq vV kx x0
abbrev t26:=((List (Int×Int))×Bool×List (Int×Int))->Option ((List Int)×Int×Unit)
def vF (lp:Lp) (_:Jn) (x0:List Int) (x1:List Int):Option Bool :=
 bif !decide ((↑x0.length:Int)=(↑x1.length:Int)) then some false else lp (Int×PUnit) Bool (fun (again:Int×PUnit->Option Bool) (x:Int×PUnit)=>bif decide (x.1<(↑x0.length:Int)) then bif inB x.1 x0.length then bif inB x.1 x1.length then bif !decide (x0.getD x.1.toNat 0=x1.getD x.1.toNat 0) then some false else again (IntKind.wrap .i64 (x.1+1),PUnit.unit) else none else none else some true) (0,PUnit.unit)
def ff (x0:List Int) (x1:List Int):Option Bool:=vF lpK jnK x0 x1
abbrev t27:=(List Int)->(List Int)->Option (Bool)
def k27 (ff:t27):Ctr:=⟨[(.sl (.int .u8)),(.sl (.int .u8))],[],[],.one .bool,fun x _ _=>ff x.1 x.2.1⟩
def Ca (lp:Lp) (_:Jn) (x0:List (Int×Int)) (x1:List (Int×Int)):Option Bool :=
 bif !decide ((↑x0.length:Int)=(↑x1.length:Int)) then some false else lp (Int×PUnit) Bool (fun (again:Int×PUnit->Option Bool) (x:Int×PUnit)=>bif decide (x.1<(↑x0.length:Int)) then bif inB x.1 x0.length then bif inB x.1 x1.length then bif !(decide ((x0.getD x.1.toNat (0,(0 : Int))).1=(x1.getD x.1.toNat (0,0)).1)&&(decide ((x0.getD x.1.toNat (0,0)).2=(x1.getD x.1.toNat ((0 : Int),0)).2)&&true)) then some false else again (IntKind.wrap .i64 (x.1+1),PUnit.unit) else none else none else some true) (0,PUnit.unit)
def pP (x0:List (Int×Int)) (x1:List (Int×Int)):Option Bool:=Ca lpK jnK x0 x1
abbrev t67:=(List (Int×Int))->(List (Int×Int))->Option (Bool)
def CH (_:Lp) (_:Jn) (pP:t67) (x0:(List (Int×Int))×Bool×List (Int×Int)) (x1:(List (Int×Int))×Bool×List (Int×Int)):Option Bool :=
 
 let v4:Bool:=decide (x0.2.1=x1.2.1);
 let v5:Bool:=!v4||v4;bif v5 then bif v5 then bif v5&&v5 then ah (bif v4 then pP x0.1 x1.1 else some false) fun (t:Bool) =>
 let v7:Bool:=bif v4 then t else false;
 let v8:Bool:=!v7||v7;bif v5 then bif v8 then bif v8 then bif v8&&v8 then ah (bif v7 then pP x0.2.2 x1.2.2 else some false) fun (t:Bool)=>bif v8 then some (bif v7 then t else false) else none else none else none else none else none else none else none else none
def iQ (x0:(List (Int×Int))×Bool×List (Int×Int)) (x1:(List (Int×Int))×Bool×List (Int×Int)):Option Bool:=CH lpK jnK pP x0 x1
abbrev t28:=((List (Int×Int))×Bool×List (Int×Int))->((List (Int×Int))×Bool×List (Int×Int))->Option (Bool)
def k28 (iQ:t28):Ctr:=⟨[T30,T30],[],[],.one .bool,fun x _ _=>iQ x.1 x.2.1⟩
def AF (lp:Lp) (_:Jn) (x0:List Int):Option Int :=
 lp (Int×Int×PUnit) Int (fun (again:Int×Int×PUnit->Option Int) (x:Int×Int×PUnit)=>bif decide (x.2.1<(↑x0.length:Int)) then bif inB x.2.1 x0.length then bif decide ((0:Int)<=8) then again (IntKind.wrap .i64 (↑(Nat.lor (Int.toNat (IntKind.wrap .i64 (x.1*2 ^ 8) % Int.ofNat 18446744073709551616)) (Int.toNat (IntKind.wrap .i64 (x0.getD x.2.1.toNat 0) % Int.ofNat 18446744073709551616))):Int),IntKind.wrap IntKind.i64 (x.2.1+1),PUnit.unit) else none else none else some x.1) (0,0,PUnit.unit)
def lH (x0:List Int):Option Int:=AF lpK jnK x0
abbrev t68:=(List Int)->Option (Int)
def wg (lp:Lp) (_:Jn) (ap:t58) (eG:t64) (lH:t68) (x0:List Int):Option (((List (Int×Int))×Bool×List (Int×Int))×Int×Unit) :=
 
 let v3:Bool:=inB 2 x0.length;
 let v4:Bool:=inB 3 x0.length;
 let v5:Int:=IntKind.wrap .i64 ((↑x0.length:Int) - 4);
 let v6:Bool:=!decide (x0.getD 0 0=84);
 let v7:Bool:=!v6;
 let v8:Bool:=!v7;
 let v9:Bool:=bif v6 then true else !decide (x0.getD 1 0=67);
 let v10:Bool:=v8||v7;
 let v11:Bool:=!v9;
 let v12:Bool:=!v11;
 let v13:Bool:=bif v9 then true else decide (x0.getD 2 0>1);
 let v14:Bool:=!v13;
 let v15:Bool:=!v14;
 let v16:Bool:=bif v13 then true else decide (x0.getD 3 0>20);
 let v17:Bool:=v12||v11;
 let v18:Bool:=!v16;
 let v19:Bool:=!v18;
 let v20:Bool:=v15||v14;
 let v21:Bool:=v19||v18;bif decide ((↑x0.length:Int)>1048576) then some (([],false,[]),4,PUnit.unit) else bif decide ((↑x0.length:Int)<(8 : Int)) then some (([],false,[]),8,PUnit.unit) else bif inB 0 x0.length then bif v10&&(v8||inB 1 x0.length) then bif v10 then bif v10 then bif v6||v7 then bif v17&&(v12||v3) then bif v17 then bif v17 then bif v9||v11 then bif v20&&(v15||v4) then bif v20 then bif v20 then bif v13||v14 then bif v21&&(v19 || v4) then bif v21 then bif v21 then bif v21 then bif v21 then bif v21&&v21 then bif v16||v18 then bif bif v16 then true else !decide ((↑x0.length:Int)=IntKind.wrap IntKind.i64 (8+IntKind.wrap .i64 (16*IntKind.wrap .i64 (x0.getD 3 0)))) then some (([],false,[]),7,PUnit.unit) else bif slB v5 (↑x0.length:Int) x0.length then ah (lH (List.drop v5.toNat (List.take (Int.toNat (↑x0.length:Int)) x0))) fun (t:Int)=>bif slB 0 v5 x0.length then ah (eG (List.drop 0 (List.take v5.toNat x0))) fun (t_1:Int)=>bif !decide (t=t_1) then some (([],false,[]),(18 : Int),PUnit.unit) else lp (List (Int×Int)×Int×(List (Int×Int)×Bool×List (Int×Int))×PUnit) ((List (Int×Int)×Bool×List (Int×Int))×Int×PUnit) (fun (again:List (Int×Int)×Int×(List (Int×Int)×Bool×List (Int×Int))×PUnit->Option ((List (Int×Int)×Bool×List (Int×Int))×Int×PUnit)) (x:List (Int×Int)×Int×(List (Int × Int)×Bool×List (Int×Int))×PUnit) =>
 let v26:Int:=IntKind.wrap .i64 (x.2.1+8);
 let v27:Int:=IntKind.wrap .i64 (x.2.1+16);bif decide (x.2.1<v5) then bif slB x.2.1 v26 x0.length then ah (lH (List.drop x.2.1.toNat (List.take v26.toNat x0))) fun (t:Int)=>bif slB v26 v27 x0.length then ah (lH (List.drop v26.toNat (List.take v27.toNat x0))) fun (t_2:Int) =>
 let v30:Int×Int:=(t,t_2);ah (ap v30) fun (t:Bool)=>bif !t then some (([],false,[]),1,PUnit.unit) else bif dM (List.length x.1+1) (16 : Nat) then again (x.1++[v30],v27,x.2.2.1,PUnit.unit) else none else none else none else bif v3 then bif decide (x0.getD 2 0=1) then some (([], true,x.1),0,PUnit.unit) else some ((x.1,false,[]),0,PUnit.unit) else none) ([],4,([],false,[]),PUnit.unit) else none else none else none else none else none else none else none else none else none else none else none else none else none else none else none else none else none else none else none else none else none else none
def fF (x0:List Int):Option (((List (Int×Int))×Bool×List (Int×Int))×Int×Unit):=wg lpK jnK ap eG lH x0
abbrev t29:=(List Int)->Option (((List (Int×Int))×Bool×List (Int×Int))×Int×Unit)
def k29 (fF:t29):Ctr:=⟨[(.sl (.int .u8))],[],[],.tup [T30,i64],fun x _ _=>fF x.1⟩
def lS (_:Lp) (_:Jn) (bH:t15) (cv:t25) (aG:t11) (bn:t17) (jd:t26) (ff:t27) (iQ:t28) (fF:t29) (x0:(List (Int×Int))×Bool×List (Int×Int)) (x1:(List (Int×Int))×Bool×List (Int×Int)):Option Bool :=
 ah aG fun (t:Bool)=>bif !t then some false else ah (bn x0) fun (t:Bool) =>
 let v6:Bool:=!t;bif !v6||v6 then ah (bif v6 then bn x1 else some false) fun (t_1:Bool)=>bif t||v6 then bif bif t then true else t_1 then some true else ah (cv x0) fun (t:List Int×Int×PUnit)=>ah (jd x0) fun (t_2:List Int×Int×PUnit) =>
 let v10:Bool:=!decide (t.2.1=t_2.2.1);ah (ff t.1 t_2.1) fun (t_3:Bool) =>
 let v12:Bool:=!t_3;
 let v13:Bool:=!v12;
 let v14:Bool:=bif v12 then true else v10;
 let v15:Bool:=!v14;
 let v16:Bool:=!v13||v13;
 let v17:Bool:=!v15||v15;
 let v18:Bool:=v17&&v17;bif v16&&v16 then bif v12||v13 then bif v18 then ah (bif v15 then bH x0 x1 else some false) fun (t_4:Bool)=>bif v18 then ah (bif v15 then iQ x0 x1 else some false) fun (t_5:Bool)=>bif v18 then bif v14||v15 then bif bif v14 then true else !decide (t_4=t_5) then some false else bif !decide (t.2.1 = 0) then some true else ah (fF t.1) fun (t:(List (Int×Int)×Bool×List (Int×Int))×Int×PUnit) =>
 let v22:Bool:=decide (t.2.1=0);
 let v23:Bool:=!v22||v22;bif v23&&v23 then ah (bif v22 then bH t.1 x0 else some false) fun (t:Bool)=>bif v23 then some (bif v22 then t else false) else none else none else none else none else none else none else none else none else none else none
def uu (x0:(List (Int×Int))×Bool×List (Int×Int)) (x1:(List (Int×Int))×Bool×List (Int×Int)):Option Bool:=lS lpK jnK bH cv aG bn jd ff iQ fF x0 x1
def c7:Ctr:=⟨[T30,T30],[],[],.one .bool,fun x _ _=>uu x.1 x.2.1⟩
theorem e7 (lp:Lp) (jn:Jn) (bH:t15) (cv:t25) (aG:t11) (bn:t17) (jd:t26) (ff:t27) (iQ:t28) (fF:t29):∀(x:TsS c7.as) (F:TsF c7.fs) (y:TsS c7.cs),lS lp jn bH cv aG bn jd ff iQ fF x.1 x.2.1=bI lp jn (cx [(29,k29 fF),(28,k28 iQ),(27,k27 ff),(26,⟨[T30],[],[],.tup [(.sl (.int .u8)),i64],fun x _ _=>jd x.1⟩),(17,k17 bn),(11,k11 aG),(25,k25 cv),(15,k15 bH)] [(32,r32),(92,r92),(112,bi)]) aj 4 7 f7 c7 x F y:=fun x F y=>by kernel_rfl
def ij (lp:Lp) (_:Jn) (x0:List (List Int)) (f0:(((List Int)×Unit)->Option Bool)):Option Int :=
 lp (Int×PUnit) Int (fun (again:Int×PUnit->Option Int) (x:Int×PUnit)=>bif decide (x.1<(↑x0.length:Int)) then bif inB x.1 x0.length then ah (f0 (x0.getD x.1.toNat [],PUnit.unit)) fun (t:Bool)=>bif t then some x.1 else again (IntKind.wrap .i64 (x.1+1),PUnit.unit) else none else some (-1 : Int)) (0,PUnit.unit)
def bO (x0:List (List Int)) (f0:(((List Int)×Unit)->Option Bool)):Option Int:=ij lpK jnK x0 f0
abbrev Tz:=(List (List Int))->((((List Int)×Unit)->Option Bool))->Option (Int)
def Wb (bO:Tz):Ctr:=⟨[(.sl (.sl i64))],[([(.sl i64)],.bool)],[],.one i64,fun x F _=>bO x.1 F.1⟩
def Mq:Ctr:=Wb bO
theorem W8 (lp:Lp) (jn:Jn):∀(x:TsS Mq.as) (F:TsF Mq.fs) (y:TsS Mq.cs),ij lp jn x.1 F.1=bI lp jn (cx [] [(32,r32),(92,r92),(112,bi)]) aj 4 181 f181 Mq x F y:=fun x F y=>by kernel_rfl
theorem Wz:Mq.ok prog 181:=Ctr.of_den (ao (q32)) aF (hl:=aj) (d:=4) func181 rfl (by decide) (W8 lpK jnK)
def gu (_:Lp) (_:Jn) (bO:Tz) (x0:List (List Int)) (f0:(((List Int)×Unit)->Option Bool)):Option Bool :=
 ah (bO x0 f0) fun (t:Int)=>some (decide (t>=0))
def bv (x0:List (List Int)) (f0:(((List Int)×Unit)->Option Bool)):Option Bool:=gu lpK jnK bO x0 f0
abbrev TT:=(List (List Int))->((((List Int)×Unit)->Option Bool))->Option (Bool)
def V7 (bv:TT):Ctr:=⟨[(.sl (.sl i64))],[([(.sl i64)],.bool)],[],.one .bool,fun x F _=>bv x.1 F.1⟩
def Nc:Ctr:=V7 bv
theorem YC (lp:Lp) (jn:Jn) (bO:Tz):∀(x:TsS Nc.as) (F:TsF Nc.fs) (y:TsS Nc.cs),gu lp jn bO x.1 F.1=bI lp jn (cx [(181,Wb bO)] [(32,r32),(92,r92),(112,bi)]) aj 4 156 f156 Nc x F y:=fun x F y=>by kernel_rfl
theorem UO:Nc.ok prog 156:=Ctr.of_den (ao (aa (q32) (by kernel_rfl) Wz)) aF (hl:=aj) (d:=4) func156 rfl (by decide) (YC lpK jnK bO)
def kc (_:Lp) (_:Jn) (x0:Int) (y0:Int):Option Bool :=
 
 let v4:Bool:=decide (x0<IntKind.wrap .i64 (0 - y0));
 let v5:Bool:=!v4;
 let v6:Bool:=!v5||v5;bif v6&&v6 then bif v4||v5 then some (bif v4 then true else decide (x0>y0)) else none else none
def eu (x0:Int) (y0:Int):Option Bool:=kc lpK jnK x0 y0
abbrev Wx:=(Int)->(Int)->Option (Bool)
def O3:Ctr:=⟨[i64],[],[i64],.one .bool,fun x _ y=>eu x.1 y.1⟩
theorem XS (lp:Lp) (jn:Jn):∀(x:TsS O3.as) (F:TsF O3.fs) (y:TsS O3.cs),kc lp jn x.1 y.1=bI lp jn (cx [] [(32,r32),(92,r92),(112,bi)]) aj 4 158 f158 O3 x F y:=fun x F y=>by kernel_rfl
theorem Wu:O3.ok prog 158:=Ctr.of_den (ao (q32)) aF (hl:=aj) (d:=4) func158 rfl (by decide) (XS lpK jnK)
def ma (_:Lp) (_:Jn) (ax:Od) (eu:Wx) (x0:List Int) (x1:Int):Option Bool :=
 ah (ax x0 fun (x:Int×PUnit)=>eu x.1 x1) fun (t:Bool)=>some !t
def bU (x0:List Int) (x1:Int):Option Bool:=ma lpK jnK ax eu x0 x1
abbrev Nf:=(List Int)->(Int)->Option (Bool)
def Ui (bU:Nf):Ctr:=⟨[(.sl i64),i64],[],[],.one .bool,fun x _ _=>bU x.1 x.2.1⟩
def Kx:Ctr:=Ui bU
theorem YO (lp:Lp) (jn:Jn) (ax:Od) (eu:Wx):∀(x:TsS Kx.as) (F:TsF Kx.fs) (y:TsS Kx.cs),ma lp jn ax eu x.1 x.2.1=bI lp jn (cx [(158,⟨[i64],[],[i64],.one .bool,fun x _ y=>eu x.1 y.1⟩),(143,S1 ax)] [(32,r32),(92,r92),(112,bi)]) aj 4 111 f111 Kx x F y:=fun x F y=>by kernel_rfl
theorem SE:Kx.ok prog 111:=Ctr.of_den (ao (aa (aa (q32) (by kernel_rfl) R7) (by kernel_rfl) Wu)) aF (hl:=aj) (d:=4) func111 rfl (by decide) (YO lpK jnK ax eu)
def lu (_:Lp) (_:Jn) (bU:Nf) (x0:List Int) (y0:Int):Option Bool :=
 
 let v4:Bool:=!decide ((↑x0.length:Int)=y0);
 let v5:Bool:=!v4;
 let v6:Bool:=!v5||v5;bif v6 then ah (bif v5 then bU x0 32 else some false) fun (t:Bool)=>bif v6 then bif v4||v5 then some (bif v4 then true else !t) else none else none else none
def dl (x0:List Int) (y0:Int):Option Bool:=lu lpK jnK bU x0 y0
abbrev VF:=(List Int)->(Int)->Option (Bool)
def KW:Ctr:=⟨[(.sl i64)],[],[i64],.one .bool,fun x _ y=>dl x.1 y.1⟩
theorem XN (lp:Lp) (jn:Jn) (bU:Nf):∀(x:TsS KW.as) (F:TsF KW.fs) (y:TsS KW.cs),lu lp jn bU x.1 y.1=bI lp jn (cx [(111,Ui bU)] [(32,r32),(92,r92),(112,bi)]) aj 4 157 f157 KW x F y:=fun x F y=>by kernel_rfl
theorem VT:KW.ok prog 157:=Ctr.of_den (ao (aa (q32) (by kernel_rfl) SE)) aF (hl:=aj) (d:=4) func157 rfl (by decide) (XN lpK jnK bU)
def nv (_:Lp) (_:Jn) (bv:TT) (dl:VF) (x0:List (List Int)):Option Bool :=
 
 let v3:Bool:=decide ((↑x0.length:Int)<1);
 let v4:Bool:=!v3;
 let v5:Bool:=decide ((↑(List.length (x0.getD 0 [])):Int)>=1);
 let v6:Bool:=!v4||v4;
 let v7:Bool:=!v5||v5;
 let v8:Bool:=bif v5 then decide ((↑(List.length (x0.getD 0 [])):Int)<=12) else false;
 let v9:Bool:=!v8||v8;bif v6 then bif v6 then bif v3||v4 then bif bif v3 then true else decide ((↑x0.length:Int)>6) then some false else bif inB 0 x0.length then bif v7 then bif v7 then bif v9&&v9 then ah (bif v8 then bv x0 fun (x:List Int×PUnit)=>dl x.1 (↑(List.length (x0.getD 0 [])):Int) else some false) fun (t:Bool)=>bif v9 then bif v9 then some (bif v8 then !t else false) else none else none else none else none else none else none else none else none else none
def fw (x0:List (List Int)):Option Bool:=nv lpK jnK bv dl x0
abbrev Vf:=(List (List Int))->Option (Bool)
def MF:Ctr:=⟨[(.sl (.sl i64))],[],[],.one .bool,fun x _ _=>fw x.1⟩
theorem Yb (lp:Lp) (jn:Jn) (bv:TT) (dl:VF):∀(x:TsS MF.as) (F:TsF MF.fs) (y:TsS MF.cs),nv lp jn bv dl x.1=bI lp jn (cx [(157,⟨[(.sl i64)],[],[i64],.one .bool,fun x _ y=>dl x.1 y.1⟩),(156,V7 bv)] [(32,r32),(92,r92),(112,bi)]) aj 4 110 f110 MF x F y:=fun x F y=>by kernel_rfl
theorem Vy:MF.ok prog 110:=Ctr.of_den (ao (aa (aa (q32) (by kernel_rfl) UO) (by kernel_rfl) VT)) aF (hl:=aj) (d:=4) func110 rfl (by decide) (Yb lpK jnK bv dl)
set_option maxRecDepth 100000
def lY (_:Lp) (_:Jn) (x0:Int):Option Int :=
 some (IntKind.wrap .u64 (if IntKind.wrap .i64 (0 - x0)>x0 then IntKind.wrap .i64 (0 - x0) else x0))
def cS (x0:Int):Option Int:=lY lpK jnK x0
abbrev V4:=(Int)->Option (Int)
def MA:Ctr:=⟨[i64],[],[],.one (.int .u64),fun x _ _=>cS x.1⟩
theorem X4 (lp:Lp) (jn:Jn):∀(x:TsS MA.as) (F:TsF MA.fs) (y:TsS MA.cs),lY lp jn x.1=bI lp jn (cx [] [(32,r32),(92,r92),(112,bi)]) aj 4 182 f182 MA x F y:=fun x F y=>by kernel_rfl
theorem Vv:MA.ok prog 182:=Ctr.of_den (ao (q32)) aF (hl:=aj) (d:=4) func182 rfl (by decide) (X4 lpK jnK)
def oy (_:Lp) (jn:Jn) (bj:Cy) (bS:F5) (cS:V4) (x0:Int) (x1:Int) (x2:Int) (x3:Int) (x4:Int):Option Int :=
 
 let v7:Bool:=decide (x4<0);
 let v8:Bool:=decide ((0:Int)<=0)&&decide ((0:Int)<=1);
 let v9:Bool:=!decide (decide (x0<0)=decide (x1<0));
 let v10:Bool×PUnit:=(v9,PUnit.unit);ah (cS x0) fun (t:Int)=>ah (cS x1) fun (t_1:Int)=>ah (bj t t_1) fun (t:Int×Int×PUnit) => ah (cS x2) fun (t_2:Int)=>ah (cS x3) fun (t_3:Int)=>ah (bj t_2 t_3) fun (t_4:Int×Int×PUnit) =>
 let v17:Bool:=decide (t.1=t_4.1);
 let v18:Bool:=decide (t.1<t_4.1);
 let v19:Bool:=!v18;
 let v20:Bool:=!v19;
 let v21:Bool:=v19&&v17;
 let v22:Bool:=v20||v19;
 let v23:Bool:=!v21||v21;jn (Int×Int×Bool×PUnit) Int (fun (x:Int×Int×Bool×PUnit)=>ah (cS x4) fun (t:Int)=>ah (bS x.1 x.2.1 t) fun (t:Int×Int×PUnit) =>
 let v27:Int:=IntKind.wrap .i64 t.1;bif !decide (x.2.2.1=v7) then some (IntKind.wrap .i64 (0 - v27)) else some v27) fun (j:Int×Int×Bool×PUnit -> Option Int)=>bif decide (v9=!decide (decide (x2<0)=decide (x3<0))) then bif v22&&v22 then bif v22 then bif v23&&v23 then bif (v20||v22)&&(v20||(!v17 || (v20||v21))) then bif v18||v19 then jn (Int×Int×Int×Int×Bool×PUnit) Int (fun (x:Int×Int×Int×Int×Bool×PUnit)=>bif v8 then bif decide (0<=nf x.2.1 x.2.2.2.1 0)&&decide (nf x.2.1 x.2.2.2.1 0<=1) then j (uG x.1 x.2.2.1 (nf x.2.1 x.2.2.2.1 0), uG x.2.1 x.2.2.2.1 0,x.2.2.2.2.1,PUnit.unit) else none else none) fun (j:Int×Int×Int×Int×Bool×PUnit->Option Int)=>bif bif v18 then true else bif v17 then decide (t.2.1<t_4.2.1) else false then j (t_4.1,t_4.2.1,t.1,t.2.1,!v9,PUnit.unit) else j (t.1,t.2.1,t_4.1,t_4.2.1,v10) else none else none else none else none else none else bif v8 then bif decide (0<=oS t.2.1 t_4.2.1 0)&&decide (oS t.2.1 t_4.2.1 0<=1) then j (xC t.1 t_4.1 (oS t.2.1 t_4.2.1 0),xC t.2.1 t_4.2.1 0,v10) else none else none
def fg (x0:Int) (x1:Int) (x2:Int) (x3:Int) (x4:Int):Option Int:=oy lpK jnK bj bS cS x0 x1 x2 x3 x4
abbrev S0:=(Int)->(Int)->(Int)->(Int)->(Int)->Option (Int)
def UA (fg:S0):Ctr:=⟨[i64,i64,i64,i64,i64],[],[],.one i64,fun x _ _=>fg x.1 x.2.1 x.2.2.1 x.2.2.2.1 x.2.2.2.2.1⟩
def Ng:Ctr:=UA fg
theorem Xm (lp:Lp) (jn:Jn) (bj:Cy) (bS:F5) (cS:V4):∀(x:TsS Ng.as) (F:TsF Ng.fs) (y:TsS Ng.cs),oy lp jn bj bS cS x.1 x.2.1 x.2.2.1 x.2.2.2.1 x.2.2.2.2.1=bI lp jn (cx [(182,⟨[i64],[],[],.one (.int .u64),fun x _ _=>cS x.1⟩),(185,Q3 bS),(107,MB bj)] [(32,r32),(92,r92),(112,bi)]) aj 4 159 f159 Ng x F y:=fun x F y=>by kernel_rfl
theorem V0:Ng.ok prog 159:=Ctr.of_den (ao (aa (aa (aa (q32) (by kernel_rfl) HC) (by kernel_rfl) K5) (by kernel_rfl) Vv)) aF (hl:=aj) (d:=4) func159 rfl (by decide) (Xm lpK jnK bj bS cS)
def jB (lp:Lp) (_:Jn) (fg:S0) (av:B9) (x0:List (List Int)) (x1:Int):Option ((List (List Int))×Int×(List Int)×(List Int)×Bool) :=
 lp (Int×(List Nat×List (Option (List Int)))×Int×List Int×List Int×Bool×PUnit) (List (List Int)×Int×List Int×List Int×Bool) (fun (again:Int×(List Nat×List (Option (List Int)))×Int×List Int×List Int×Bool×PUnit->Option (List (List Int)×Int×List Int×List Int×Bool)) (x:Int×(List Nat×List (Option (List Int)))×Int×List Int × List Int×Bool×PUnit) =>
 let v6:Bool×PUnit:=(x.2.2.2.2.2.1,PUnit.unit);bif decide (x.1<(↑x0.length:Int)) then bif inB x.1 x0.length then ah (av (x0.getD x.1.toNat [])) fun (t:List Int)=>bif dM (List.length x.2.1.1+1) 24 then bif dM (List.length x.2.2.2.2.1+1) (8 : Nat) then again (IntKind.wrap .i64 (x.1+1),(x.2.1.1++[List.length x.2.1.2+0],x.2.1.2++[some t]),x.2.2.1,x.2.2.2.1, x.2.2.2.2.1++[x.1],v6) else none else none else none else lp (Int×(List Nat×List (Option (List Int)))×Int×List Int×List Int×Bool×PUnit) (List (List Int) × Int×List Int×List Int×Bool) (fun (again:Int×(List Nat×List (Option (List Int)))×Int×List Int×List Int×Bool×PUnit->Option (List (List Int)×Int×List Int×List Int×Bool)) (x:Int×(List Nat×List (Option (List Int)))×Int×List Int×List Int×Bool×PUnit) =>
 let v9:Int:=IntKind.wrap .i64 (x.1+1);
 let v10:(List Nat×List (Option (List Int)))×Int×List Int×List Int×Bool×PUnit:=(x.2.1,x.2.2.1,x.2.2.2.1,x.2.2.2.2.1, x.2.2.2.2.2.1,PUnit.unit);bif decide (x.1<x1) then lp (Int×Int×PUnit) (List (List Int)×Int×List Int×List Int×Bool) (fun (again_1:Int×Int×PUnit -> Option (List (List Int)×Int×List Int×List Int×Bool)) (x_1:Int×Int×PUnit) =>
 let v13:Bool:=decide (x_1.1<0);
 let v14:Int×PUnit:=(IntKind.wrap .i64 (x_1.2.1+1),PUnit.unit);
 let v15:Bool:=decide (x_1.2.1<(↑x.2.1.1.length:Int));
 let v16:Bool:=!v15||v15;bif v16 then bif v16 then bif bif v15 then v13 else false then bif inB x_1.2.1 x.2.1.1.length then bif Nat.ble (Nat.succ x_1.2.1.toNat) x.2.1.1.length then bif inB x.1 (List.length (bq x.2.1.2 (x.2.1.1.getD x_1.2.1.toNat 0))) then bif Nat.ble (Nat.succ x.1.toNat) (List.length (bq x.2.1.2 (x.2.1.1.getD x_1.2.1.toNat 0))) then bif !decide (List.getD (bq x.2.1.2 (x.2.1.1.getD x_1.2.1.toNat 0)) x.1.toNat 0=0) then again_1 (x_1.2.1,v14) else again_1 (x_1.1,v14) else none else none else none else none else bif v13 then again (v9,v10) else lp (Int×(List Nat×List (Option (List Int)))×Int×List Int×List Int×Bool×PUnit) (List (List Int)×Int×List Int×List Int × Bool) (fun (again_2:Int×(List Nat×List (Option (List Int)))×Int×List Int×List Int×Bool×PUnit->Option (List (List Int)×Int×List Int×List Int×Bool)) (x_2:Int × (List Nat×List (Option (List Int)))×Int×List Int×List Int×Bool×PUnit) =>
 let v19:Int:=IntKind.wrap .i64 (x_2.1 - 1);
 let v20:Bool:=inB x_2.1 x_2.2.1.1.length;
 let v21:Bool:=Nat.ble (Nat.succ x_2.1.toNat) x_2.2.1.1.length;
 let v22:Bool:=inB x_2.1 x_2.2.2.2.2.1.length;
 let v23:Bool:=Nat.ble (Nat.succ x_2.1.toNat) x_2.2.2.2.2.1.length;
 let v24:Bool:=inB v19 x_2.2.2.2.2.1.length;
 let v25:Bool:=Nat.ble (Nat.succ v19.toNat) x_2.2.2.2.2.1.length;
 let v26:List Nat:=x_2.2.1.1.set x_2.1.toNat (x_2.2.1.1.getD v19.toNat 0);bif decide (x_2.1>(↑x.2.2.2.1.length:Int)) then bif inB v19 x_2.2.1.1.length then bif Nat.ble (Nat.succ v19.toNat) x_2.2.1.1.length then bif v20 then bif v21 then bif v20 then bif v21 then bif inB v19 v26.length then bif Nat.ble (Nat.succ v19.toNat) v26.length then bif v24 then bif v25 then bif v22 then bif v23 then bif v22 then bif v23 then bif v24 then bif v25 then again_2 (v19,(v26.set v19.toNat (x_2.2.1.1.getD x_2.1.toNat 0),x_2.2.1.2++[]++[]),x_2.2.2.1,x_2.2.2.2.1, List.set (x_2.2.2.2.2.1.set x_2.1.toNat (x_2.2.2.2.2.1.getD v19.toNat 0)) v19.toNat (x_2.2.2.2.2.1.getD x_2.1.toNat 0),!x_2.2.2.2.2.2.1,PUnit.unit) else none else none else none else none else none else none else none else none else none else none else none else none else none else none else none else none else bif inB (↑x.2.2.2.1.length:Int) x_2.2.1.1.length then bif Nat.ble (Nat.succ (Int.toNat (↑x.2.2.2.1.length:Int))) x_2.2.1.1.length then bif inB x.1 (List.length (bq x_2.2.1.2 (x_2.2.1.1.getD (Int.toNat (↑x.2.2.2.1.length:Int)) 0))) then bif Nat.ble (Nat.succ x.1.toNat) (List.length (bq x_2.2.1.2 (x_2.2.1.1.getD (Int.toNat (↑x.2.2.2.1.length:Int)) 0))) then lp (Int×(List Nat×List (Option (List Int)))×PUnit) (List (List Int)×Int×List Int×List Int×Bool) (fun (again_3:Int×(List Nat×List (Option (List Int)))×PUnit->Option (List (List Int)×Int×List Int×List Int×Bool)) (x_3:Int×(List Nat×List (Option (List Int)))×PUnit) =>
 let v29:Int:=IntKind.wrap .i64 (x_3.1+1);
 let v30:(List Nat×List (Option (List Int)))×PUnit:=(x_3.2.1,PUnit.unit);bif decide (x_3.1<(↑x_2.2.1.1.length:Int)) then bif inB x_3.1 x_3.2.1.1.length then bif Nat.ble (Nat.succ x_3.1.toNat) x_3.2.1.1.length then bif decide (x_3.1=(↑x.2.2.2.1.length:Int)) then again_3 (v29, v30) else bif inB x.1 (List.length (bq x_3.2.1.2 (x_3.2.1.1.getD x_3.1.toNat 0))) then bif Nat.ble (Nat.succ x.1.toNat) (List.length (bq x_3.2.1.2 (x_3.2.1.1.getD x_3.1.toNat 0))) then bif fE x_3.2.1.2 (x_3.2.1.1.getD x_3.1.toNat 0) then lp (Int×(List Nat×List (Option (List Int)))×PUnit) (List (List Int)×Int×List Int×List Int×Bool) (fun (again:Int×(List Nat×List (Option (List Int)))×PUnit->Option (List (List Int) × Int×List Int×List Int×Bool)) (x_4:Int×(List Nat×List (Option (List Int)))×PUnit)=>bif decide (x_4.1<(↑(List.length (bq x_3.2.1.2 (x_3.2.1.1.getD x_3.1.toNat 0))):Int)) then bif inB x_4.1 (List.length (bq x_4.2.1.2 (x_3.2.1.1.getD x_3.1.toNat 0))) then bif Nat.ble (Nat.succ x_4.1.toNat) (List.length (bq x_4.2.1.2 (x_3.2.1.1.getD x_3.1.toNat 0))) then bif inB (↑x.2.2.2.1.length:Int) x_4.2.1.1.length then bif Nat.ble (Nat.succ (Int.toNat (↑x.2.2.2.1.length:Int))) x_4.2.1.1.length then bif inB x_4.1 (List.length (bq x_4.2.1.2 (x_4.2.1.1.getD (Int.toNat (↑x.2.2.2.1.length:Int)) 0))) then bif Nat.ble (Nat.succ x_4.1.toNat) (List.length (bq x_4.2.1.2 (x_4.2.1.1.getD (Int.toNat (↑x.2.2.2.1.length:Int)) 0))) then ah (fg (List.getD (bq x_4.2.1.2 (x_3.2.1.1.getD x_3.1.toNat 0)) x_4.1.toNat 0) (List.getD (bq x_2.2.1.2 (x_2.2.1.1.getD (Int.toNat (↑x.2.2.2.1.length:Int)) (0 : Nat))) x.1.toNat 0) (List.getD (bq x_3.2.1.2 (x_3.2.1.1.getD x_3.1.toNat 0)) x.1.toNat 0) (List.getD (bq x_4.2.1.2 (x_4.2.1.1.getD (Int.toNat (↑x.2.2.2.1.length:Int)) 0)) x_4.1.toNat 0) x_2.2.2.1) fun (t:Int)=>bif inB x_4.1 (List.length (bq x_4.2.1.2 (x_3.2.1.1.getD x_3.1.toNat 0))) then bif Nat.ble (Nat.succ x_4.1.toNat) (List.length (bq x_4.2.1.2 (x_3.2.1.1.getD x_3.1.toNat 0))) then again (IntKind.wrap .i64 (x_4.1+1),(x_4.2.1.1,x_4.2.1.2.set (x_3.2.1.1.getD x_3.1.toNat 0) (some (List.set (bq x_4.2.1.2 (x_3.2.1.1.getD x_3.1.toNat 0)) x_4.1.toNat t))),PUnit.unit) else none else none else none else none else none else none else none else none else again_3 (v29,x_4.2.1,PUnit.unit)) (0,v30) else none else none else none else none else none else bif dM (List.length x_2.2.2.2.1+1) 8 then again (v9,x_3.2.1,List.getD (bq x_2.2.1.2 (x_2.2.1.1.getD (Int.toNat (↑x.2.2.2.1.length:Int)) 0)) x.1.toNat 0,x_2.2.2.2.1++[x.1],x_2.2.2.2.2.1,x_2.2.2.2.2.2.1,PUnit.unit) else none) (0,x_2.2.1,PUnit.unit) else none else none else none else none) (x_1.1,v10) else none else none) ((-1),(↑x.2.2.2.1.length:Int), PUnit.unit) else bif List.all x.2.1.1 fun (x_1:Nat)=>fE x.2.1.2 x_1 then some (List.map (fun (x_1:Nat)=>bq x.2.1.2 x_1) x.2.1.1,x.2.2.1, x.2.2.2.1,x.2.2.2.2.1,x.2.2.2.2.2.1) else none) (0,x.2.1,x.2.2.1,x.2.2.2.1,x.2.2.2.2.1,v6)) (0,([], []),1,[],[],false,PUnit.unit)
def cQ (x0:List (List Int)) (x1:Int):Option ((List (List Int))×Int×(List Int)×(List Int)×Bool):=jB lpK jnK fg av x0 x1
abbrev TF:=(List (List Int))->(Int)->Option ((List (List Int))×Int×(List Int)×(List Int)×Bool)
def Uo (cQ:TF):Ctr:=⟨[(.sl (.sl i64)),i64],[],[],.one Xt,fun x _ _=>cQ x.1 x.2.1⟩
def Li:Ctr:=Uo cQ
theorem XH (lp:Lp) (jn:Jn) (fg:S0) (av:B9):∀(x:TsS Li.as) (F:TsF Li.fs) (y:TsS Li.cs),jB lp jn fg av x.1 x.2.1=bI lp jn (cx [(159,UA fg)] [(32,r32),(92,r92),(112,M1 av)]) aj 4 113 f113 Li x F y:=fun x F y=>by kernel_rfl
theorem Vl:Li.ok prog 113:=Ctr.of_den (ao (aa (q32) (by kernel_rfl) V0)) aF (hl:=aj) (d:=4) func113 rfl (by decide) (XH lpK jnK fg av)
def nL (lp:Lp) (_:Jn) (dj:NM) (bU:Nf) (fw:Vf) (cQ:TF) (av:B9) (x0:List (List Int)) (x1:List Int):Option ((List (Int×Int))×Int×Unit) :=
 ah (fw x0) fun (t:Bool)=>bif !t then some ([],1,PUnit.unit) else bif !decide ((↑x1.length:Int)=(↑x0.length:Int)) then some ([],3, PUnit.unit) else ah (bU x1 67108864) fun (t:Bool)=>bif !t then some ([],2,PUnit.unit) else bif inB 0 x0.length then lp ((List Nat × List (Option (List Int)))×Int×PUnit) (List (Int×Int)×Int×PUnit) (fun (again:(List Nat×List (Option (List Int)))×Int×PUnit->Option (List (Int×Int)×Int×PUnit)) (x : (List Nat×List (Option (List Int)))×Int×PUnit)=>bif decide (x.2.1<(↑x0.length:Int)) then bif inB x.2.1 x0.length then ah (av (x0.getD x.2.1.toNat [])) fun (t:List Int)=>bif inB x.2.1 x1.length then bif dM (List.length t+1) 8 then bif dM (List.length x.1.1+1) 24 then again ((x.1.1++[List.length x.1.2+0],x.1.2++[some (t++[x1.getD x.2.1.toNat 0])]),IntKind.wrap IntKind.i64 (x.2.1+1),PUnit.unit) else none else none else none else none else ah (bif List.all x.1.1 fun (x_1:Nat)=>fE x.1.2 x_1 then cQ (List.map (fun (x_1:Nat)=>bq x.1.2 x_1) x.1.1) (↑(List.length (x0.getD 0 [])):Int) else none) fun (t:List (List Int)×Int×List Int×List Int×Bool) =>
 let v9:List (List Int):=List.drop (Int.toNat (↑t.2.2.1.length:Int)) (List.take (Int.toNat (↑t.1.length:Int)) t.1);bif slB (↑t.2.2.1.length : Int) (↑t.1.length:Int) t.1.length then lp (Int×PUnit) (List (Int×Int)×Int×PUnit) (fun (again:Int×PUnit->Option (List (Int×Int)×Int×PUnit)) (x : Int×PUnit)=>bif decide (x.1<(↑v9.length:Int)) then bif inB x.1 v9.length then bif inB (↑(List.length (x0.getD 0 [])):Int) (List.length (v9.getD x.1.toNat [])) then bif !decide (List.getD (v9.getD x.1.toNat []) (Int.toNat (↑(List.length (x0.getD 0 [])):Int)) 0=(0 : Int)) then some ([],22,PUnit.unit) else again (IntKind.wrap .i64 (x.1+1),PUnit.unit) else none else none else bif decide ((↑t.2.2.1.length : Int)<(↑(List.length (x0.getD 0 [])):Int)) then some ([],21,PUnit.unit) else lp (List (Int×Int)×Int×PUnit) (List (Int×Int)×Int×PUnit) (fun (again : List (Int×Int)×Int×PUnit->Option (List (Int×Int)×Int×PUnit)) (x:List (Int×Int)×Int×PUnit) =>
 let v14:List Int:=t.1.getD x.2.1.toNat [];bif decide (x.2.1<(↑(List.length (x0.getD 0 [])):Int)) then bif inB x.2.1 t.1.length then bif inB (↑(List.length (x0.getD 0 [])):Int) v14.length then ah (dj (v14.getD (Int.toNat (↑(List.length (x0.getD 0 [])):Int)) (0 : Int)) t.2.1) fun (t:(Int×Int)×Int×PUnit)=>bif !decide (t.2.1=0) then some ([],t.2.1,PUnit.unit) else bif dM (List.length x.1+1) (16 : Nat) then again (x.1++[t.1],IntKind.wrap .i64 (x.2.1+1),PUnit.unit) else none else none else none else some (x.1,0,PUnit.unit)) ([],0, PUnit.unit)) (0,PUnit.unit) else none) (([],[]),0,PUnit.unit) else none
def du (x0:List (List Int)) (x1:List Int):Option ((List (Int×Int))×Int×Unit):=nL lpK jnK dj bU fw cQ av x0 x1
abbrev t74:=(List (List Int))->(List Int)->Option ((List (Int×Int))×Int×Unit)
def k74 (du:t74):Ctr:=⟨[(.sl (.sl i64)),(.sl i64)],[],[],.tup [(.sl T47),i64],fun x _ _=>du x.1 x.2.1⟩
def c74:Ctr:=k74 du
theorem e74 (lp:Lp) (jn:Jn) (dj:NM) (bU:Nf) (fw:Vf) (cQ:TF) (av:B9):∀(x:TsS c74.as) (F:TsF c74.fs) (y:TsS c74.cs),nL lp jn dj bU fw cQ av x.1 x.2.1=bI lp jn (cx [(113,Uo cQ),(110,⟨[(.sl (.sl i64))],[],[],.one .bool,fun x _ _=>fw x.1⟩),(111,Ui bU),(114,TS dj)] [(32,r32),(92,r92),(112,M1 av)]) aj 4 74 f74 c74 x F y:=fun x F y=>by kernel_rfl
theorem YX:c74.ok prog 74:=Ctr.of_den (ao (aa (aa (aa (aa (q32) (by kernel_rfl) R5) (by kernel_rfl) SE) (by kernel_rfl) Vy) (by kernel_rfl) Vl)) aF (hl:=aj) (d:=4) func74 rfl (by decide) (e74 lpK jnK dj bU fw cQ av)
def jM (_:Lp) (_:Jn) (aY:t72) (bD:t73) (du:t74) (x0:(List (ByteArray×Int))×List (ByteArray×(List (ByteArray×Int×Int×Int))×Bool)):Option ((List (Int×Int))×Int×Unit) :=
 ah (aY x0) fun (t:List (List Int)×Int×PUnit)=>bif !decide (t.2.1=0) then some ([],t.2.1,PUnit.unit) else ah (bD x0) fun (t_1 : List Int×Int×PUnit)=>bif !decide (t_1.2.1=0) then some ([],t_1.2.1,PUnit.unit) else ah (du t.1 t_1.1) fun (t:List (Int×Int)×Int×PUnit) =>some (t.1,t.2.1,PUnit.unit)
def cG (x0:(List (ByteArray×Int))×List (ByteArray×(List (ByteArray×Int×Int×Int))×Bool)):Option ((List (Int×Int))×Int×Unit):=jM lpK jnK aY bD du x0
abbrev t33:=((List (ByteArray×Int))×List (ByteArray×(List (ByteArray×Int×Int×Int))×Bool))->Option ((List (Int×Int))×Int×Unit)
def c33:Ctr:=⟨[T25],[],[],.tup [(.sl T47),i64],fun x _ _=>cG x.1⟩
theorem e33 (lp:Lp) (jn:Jn) (aY:t72) (bD:t73) (du:t74):∀(x:TsS c33.as) (F:TsF c33.fs) (y:TsS c33.cs),jM lp jn aY bD du x.1=bI lp jn (cx [(74,k74 du),(73,k73 bD),(72,k72 aY)] [(32,r32),(92,r92),(112,bi)]) aj 4 33 f33 c33 x F y:=fun x F y=>by kernel_rfl
theorem Xs:c33.ok prog 33:=Ctr.of_den (ao (aa (aa (aa (q32) (by kernel_rfl) Ub) (by kernel_rfl) Wj) (by kernel_rfl) YX)) aF (hl:=aj) (d:=4) func33 rfl (by decide) (e33 lpK jnK aY bD du)
def gg (_:Lp) (_:Jn) (x0:Int×Int):Option Bool :=
 some (decide (x0.1<0))
def ct (x0:Int×Int):Option Bool:=gg lpK jnK x0
abbrev t35:=(Int×Int)->Option (Bool)
def c35:Ctr:=⟨[T47],[],[],.one .bool,fun x _ _=>ct x.1⟩
theorem e35 (lp:Lp) (jn:Jn):∀(x:TsS c35.as) (F:TsF c35.fs) (y:TsS c35.cs),gg lp jn x.1=bI lp jn (cx [] [(32,r32),(92,r92),(112,bi)]) aj 4 35 f35 c35 x F y:=fun x F y=>by kernel_rfl
theorem YT:c35.ok prog 35:=Ctr.of_den (ao (q32)) aF (hl:=aj) (d:=4) func35 rfl (by decide) (e35 lpK jnK)
def jl (_:Lp) (_:Jn) (aI:t13) (bm:t36) (ai:t34) (aG:t11) (aX:t12) (aP:t14) (cG:t33) (ct:t35) (x0:(List (ByteArray×Int))×List (ByteArray×(List (ByteArray×Int×Int×Int))×Bool)):Option Bool :=
 ah aG fun (t:Bool)=>bif !t then some false else ah (aX x0) fun (t:Bool) =>
 let v5:Bool:=!t;
 let v6:Bool:=!v5;
 let v7:Bool:=!v6||v6;bif v7 then ah (bif v6 then aP x0 else some false) fun (t:Bool)=>bif v7 then bif v5||v6 then bif bif v5 then true else !t then some true else ah (cG x0) fun (t:List (Int×Int)×Int×PUnit)=>ah (aI x0) fun (t_1:(List (Int×Int)×Bool×List (Int×Int))×Int×PUnit) =>
 let v11:Bool:=!t_1.1.2.1;
 let v12:Bool:=!v11||v11;bif !decide (t_1.2.1=0) then some (decide (t_1.2.1=5)) else bif decide (t.2.1=22) then some t_1.1.2.1 else bif !decide (t.2.1=0) then some true else ah (ai t.1 fun (x:(Int×Int)×PUnit)=>ct x.1) fun (t_2:Bool)=>bif t_2 then some t_1.1.2.1 else bif v12 then bif v12&&v12 then ah (bif v11 then bm t_1.1.1 t.1 else some false) fun (t:Bool)=>bif v12 then some (bif v11 then t else false) else none else none else none else none else none else none
def ky (x0:(List (ByteArray×Int))×List (ByteArray×(List (ByteArray×Int×Int×Int))×Bool)):Option Bool:=jl lpK jnK aI bm ai aG aX aP cG ct x0
def c10:Ctr:=⟨[T25],[],[],.one .bool,fun x _ _=>ky x.1⟩
theorem e10 (lp:Lp) (jn:Jn) (aI:t13) (bm:t36) (ai:t34) (aG:t11) (aX:t12) (aP:t14) (cG:t33) (ct:t35):∀(x:TsS c10.as) (F:TsF c10.fs) (y:TsS c10.cs),jl lp jn aI bm ai aG aX aP cG ct x.1=bI lp jn (cx [(35,⟨[T47],[],[],.one .bool,fun x _ _=>ct x.1⟩),(33,⟨[T25],[],[],.tup [(.sl T47),i64],fun x _ _=>cG x.1⟩),(14,k14 aP),(12,k12 aX),(11,k11 aG),(34,k34 ai),(36,k36 bm),(13,k13 aI)] [(32,r32),(92,r92),(112,bi)]) aj 4 10 f10 c10 x F y:=fun x F y=>by kernel_rfl
theorem Xv:c10.ok prog 10:=Ctr.of_den (ao (aa (aa (aa (aa (aa (aa (aa (aa (q32) (by kernel_rfl) Vm) (by kernel_rfl) Ww) (by kernel_rfl) Ke) (by kernel_rfl) XZ) (by kernel_rfl) Y1) (by kernel_rfl) XQ) (by kernel_rfl) Xs) (by kernel_rfl) YT)) aF (hl:=aj) (d:=4) func10 rfl (by decide) (e10 lpK jnK aI bm ai aG aX aP cG ct)
end
end Go.Proofs.YtegbncajloeepaaGreat

namespace Go.Proofs.YtegbncajloeepaaGreat
namespace Dn
section
variable {T R α σ:Type}
theorem af {t:T} {k:T->Option R}:ah (some t) k=k t:=rfl
theorem EP {F:(α->Option R)->α->Option R} {g:α->Option R} (I:α->Prop) (μ:α->Nat)
  (h:∀x rec,I x->(∀y,I y->μ y<μ x->rec y=g y)->F rec x=g x):∀{n:Nat} {x:α},I x->μ x<n->jS F n x=g x
 | 0,x,_,hn=>by omega
 | n+1,x,hx,hn=>by
  rw[ii]
  exact h x _ hx fun y hy hlt=>EP I μ h hy (by omega)
theorem kn {F:(α->Option R)->α->Option R} {g:α->Option R} (I:α->Prop) (μ:α->Nat)
  (h:∀x rec,I x->(∀y,I y->μ y<μ x->rec y=g y)->F rec x=g x) {x:α} (hx:I x) (hn:μ x<1180591620717411303424):lpK α R F x=g x:=EP I μ h hx hn
theorem sQ {j:α->Option R} {f:(α->Option R)->Option R}:jnK α R j f=f j:=rfl
theorem aO {x:Int} (h1: -9223372036854775808<=x) (h2:x<9223372036854775808):IntKind.wrap .i64 x=x:=by
 rw[IntKind.wrap_i64];omega
def upF (b:Nat->σ->(σ->Option R)->Option R) (f:σ->Option R):Nat->Nat->σ->Option R
 | 0,_,s=>f s
 | k+1,i,s=>b i s (upF b f k (i+1))
theorem L8 {F:(α->Option R)->α->Option R} (n:Nat) (hn:n<=1180591620717411303423) (enc:Nat->σ->α) (b:Nat->σ->(σ->Option R)->Option R) (f:σ->Option R)
  (hb:∀again (i:Nat) s,i<n->F again (enc i s)=b i s (fun s'=>again (enc (i+1) s'))) (hf:∀again s,F again (enc n s)=f s) (s:σ) :
  jS F K0 (enc 0 s)=upF b f n 0 s:=by
 have key:∀(k:Nat) (i:Nat) (m:Nat) (s:σ),i+k=n->k<m->jS F m (enc i s)=upF b f k i s:=by
  intro k
  induction k with
  | zero =>
   intro i m s h1 h2
   obtain ⟨m,rfl⟩:∃m',m=m'+1:=⟨m - 1,by omega⟩
   have:i=n:=by omega
   subst this
   simp only[ii,hf,upF]
  | succ k ih =>
   intro i m s h1 h2
   obtain ⟨m,rfl⟩:∃m',m=m'+1:=⟨m - 1,by omega⟩
   simp only[ii,upF]
   rw[hb _ _ _ (by omega)]
   congr 1
   funext s'
   exact ih (i+1) m s' (by omega) (by omega)
 exact key n 0 K0 s (by omega) (by unfold K0;omega)
theorem aW {i n:Nat}:inB (i:Int) n=decide (i<n):=by
 rw[Bool.eq_iff_iff,kw,decide_eq_true_iff];omega
theorem ul {i:Int} {n:Nat} (h1:0<=i) (h2:i<n):inB i n=true:=kw.2 ⟨h1,h2⟩
theorem ng {n:Int} (h:n≠0):nzB n=true:=Cs.2 h
theorem Hj {lo hi:Int} {n:Nat} (h1:0<=lo) (h2:lo<=hi) (h3:hi<=n):slB lo hi n=true:=sR.2 ⟨h1,h2,h3⟩
theorem fa {n k:Nat} (h:n*k<=140737488355328):dM n k=true:=lG.2 h
theorem cM {n m:Nat} (h:n<=m):Nat.ble n m=true:=by rw[Nat.ble_eq];exact h
theorem cT0 {α:Sort _} {c:Bool} (h:c=true) (a b:α):cond c a b=a:=by subst h;rfl
theorem cT {α:Sort _} (a b:α):cond true a b=a:=cT0 (Eq.trans rfl rfl) a b
theorem cF0 {α:Sort _} {c:Bool} (h:c=false) (a b:α):cond c a b=b:=by subst h;rfl
theorem cF {α:Sort _} (a b:α):cond false a b=b:=cF0 (Eq.trans rfl rfl) a b
theorem fk {b:Bool}:(b||!b)=true:=by cases b<;>rfl
theorem aV {b:Bool}:(!b||b)=true:=by cases b<;>rfl
theorem jD {b:Bool} {c:Bool}:(bif b then c else false)=(b&&c):=by cases b<;>rfl
theorem Ko {b:Bool} {c:Bool}:(bif b then true else c)=(b||c):=by cases b<;>rfl
theorem Rx {a b:Int}:(if b>a then b else a)=max a b:=by omega
theorem bf {l:List α} {d:α} {i:Nat} (h:i<l.length):l.getD i d=l[i]:=by simp[List.getD,h]
end
end Dn
end Go.Proofs.YtegbncajloeepaaGreat

namespace Go.Proofs.YtegbncajloeepaaGreat
noncomputable section
open Tryz Dn Dn.Sh
theorem ol (a b:ByteArray):List.beq (ByteArray.toList a) (ByteArray.toList b)=decide (a=b):=by
 show (a.toList ==b.toList)=_
 rw[ByteArray.toList_eq,ByteArray.toList_eq,Bool.eq_iff_iff,decide_eq_true_iff,beq_iff_eq]
 exact ⟨fun h=>ByteArray.ext (Array.toList_inj.mp h),fun h=>by rw[h]⟩
theorem LC {α R:Type} {F:(α->Option R)->α->Option R} (I:α->Prop) (μ:α->Nat) (h:∀x rec,I x->(∀y,I y->μ y<μ x->(rec y).isSome=true)->(F rec x).isSome=true) {x:α} (hx:I x) (hn:μ x<1180591620717411303424):(lpK α R F x).isSome=true:=by
 have key:∀n x,I x->μ x<n->(jS F n x).isSome=true:=by
  intro n
  induction n with
  | zero=>intro x _ h;omega
  | succ n ih =>
   intro x hx hn
   rw[ii]
   exact h x _ hx fun y hy hlt=>ih y hy (by omega)
 exact key _ x hx hn
theorem xr:bz=cH:=by
 funext c
 rfl
theorem G3:ef=gw:=by
 funext c
 rfl
theorem sd (c:Int):∃b,bz c=some b:=by
 simp only[bz,kY,aV,fk,cond_true]
 cases decide (c>=97)<;>cases decide (c<=122)<;>cases decide (c>=65)<;>exact ⟨_,rfl⟩
theorem Gn (c:Int):∃b,ef c=some b:=by
 simp only[ef,mg,aV,cond_true]
 exact ⟨_,rfl⟩
theorem Bc {s:ByteArray} (h:s.size<=1000000):∃n,dN s=some n:=by
 rw[<-Option.isSome_iff_exists]
 simp only[dN,kf]
 refine LC (I:=fun (x:Int×PUnit)=>0<=x.1/\x.1<=s.size) (μ:=fun (x:Int×PUnit)=>((s.size:Int) - x.1).toNat) (x:=((0:Int),PUnit.unit)) ?_ ⟨Int.le_refl _,by simp only;omega⟩ (by simp only;omega)
 rintro ⟨i,_⟩ rec ⟨h0,h1⟩ hrec
 simp only at h0 h1 ⊢
 by_cases hi:i<s.size
 ·rw[ul h0 hi,z7 hi]
  obtain ⟨b,hb⟩:=sd (fL s i.toNat)
  obtain ⟨c,hc⟩:=Gn (fL s i.toNat)
  have hw:IntKind.wrap .i64 (i+1)=i+1:=aO (by omega) (by omega)
  have hr:=hrec (i+1,PUnit.unit) ⟨by simp only;omega,by simp only;omega⟩ (by simp only;omega)
  simp only[hb,hc,hw]
  cases b<;>cases c<;>cases decide (fL s i.toNat=95)<;>simp[af,hr]
 ·rw[z8 hi]
  simp[af]
theorem IG (s:ByteArray):gF s 0=dN s:=by
 simp only[gF,qB,dN,kf,xr,G3]
def tM (s:ByteArray):Bool:=decide (0<s.size)&&(decide (s.size<=20)&&((bz (fL s 0)).getD false&&decide ((dN s).getD 0=(s.size:Int))))
theorem Bh (s:ByteArray):s={ data:=#[] }↔s.size=0:=by
 constructor
 ·intro h;rw[h];rfl
 ·intro h
  apply ByteArray.ext
  exact Array.eq_empty_of_size_eq_zero h
theorem Ji (s:ByteArray):dx s=some (tM s):=by
 simp only[dx,kQ,ol,aV,Bool.and_self,cond_true]
 unfold tM
 by_cases h0:s.size=0
 ·have e:decide (s={ data:=#[] })=true:=z7 ((Bh s).2 h0)
  simp[e,h0,af]
 ·have e:decide (s={ data:=#[] })=false:=z8 fun h=>h0 ((Bh s).1 h)
  by_cases h1:s.size<=20
  ·obtain ⟨b,hb⟩:=sd (fL s 0)
   obtain ⟨n,hn⟩:=Bc (s:=s) (by omega)
   have h2:decide ((s.size:Int)<=20)=true:=z7 (by omega)
   rw[ul (show (0:Int)<=0 by omega) (show (0:Int)<s.size by omega)]
   simp only[e,h2,hb,hn]
   cases b<;>simp[af,h1,show 0<s.size by omega]
  ·have h2:decide ((s.size:Int)<=20)=false:=z8 (by omega)
   simp[e,h2,h1,af]
theorem CM (s:ByteArray):eW s=some (tM s):=by
 simp only[eW,nI,aV,fk,cond_true]
 unfold tM
 by_cases h0:s.size=0
 ·simp[h0,af]
 ·have e:decide ((s.size:Int)=0)=false:=z8 (by omega)
  by_cases h1:s.size<=20
  ·obtain ⟨b,hb⟩:=sd (fL s 0)
   obtain ⟨n,hn⟩:=Bc (s:=s) (by omega)
   have h2:decide ((s.size:Int)>20)=false:=z8 (by omega)
   rw[ul (show (0:Int)<=0 by omega) (show (0:Int)<s.size by omega),IG]
   simp only[e,h2,<-xr,hb,hn]
   cases b<;>simp[af,h1,show 0<s.size by omega]
  ·have h2:decide ((s.size:Int)>20)=true:=z7 (by omega)
   simp[h2,h1,af]
end
end Go.Proofs.YtegbncajloeepaaGreat

namespace Go.Proofs.YtegbncajloeepaaGreat
namespace Dn
abbrev Fq:=Int×Int
def okF (a:Fq):Prop:=(1<=a.2/\a.2<=1152921504606846976)/\(-1152921504606846976<=a.1/\a.1<=1152921504606846976)/\Nat.gcd a.1.natAbs a.2.natAbs=1
instance (a:Fq):Decidable (okF a):=by unfold okF;infer_instance
def qv (a:Fq):Rat:=mkRat a.1 a.2.toNat
def gB (q:Rat):Prop:=q.num.natAbs<=1152921504606846976/\q.den<=1152921504606846976
instance (q:Rat):Decidable (gB q):=by unfold gB;infer_instance
def prQ (q:Rat):Fq:=(q.num,(q.den:Int))
def xE (q:Rat):Fq×Int×Unit:=if gB q then (prQ q,0,()) else ((0,0),5,())
theorem qt {a:Fq} (h:okF a):(qv a).num=a.1:=by
 obtain ⟨⟨h1,h2⟩,_,h3⟩:=h
 have h0:a.2.toNat≠0:=by omega
 have h4:Nat.gcd a.2.toNat a.1.natAbs=1:=by rw[Nat.gcd_comm,show a.2.toNat=a.2.natAbs by omega];exact h3
 rw[qv,Rat.num_mkRat,if_neg h0,h4]
 simp
theorem uZ {a:Fq} (h:okF a):((qv a).den:Int)=a.2:=by
 obtain ⟨⟨h1,h2⟩,_,h3⟩:=h
 have h0:a.2.toNat≠0:=by omega
 have h4:Nat.gcd a.2.toNat a.1.natAbs=1:=by rw[Nat.gcd_comm,show a.2.toNat=a.2.natAbs by omega];exact h3
 rw[qv,Rat.den_mkRat,if_neg h0,h4]
 simp;omega
theorem Lh {a:Fq} (h:okF a):prQ (qv a)=a:=by
 unfold prQ
 rw[qt h,uZ h]
theorem uq (q:Rat):qv (prQ q)=q:=by
 unfold qv prQ
 simp only[z9]
 exact Rat.mkRat_self q
theorem qz {q:Rat} (h:gB q):okF (prQ q):=by
 obtain ⟨h1,h2⟩:=h
 have:=q.den_pos
 refine ⟨⟨?_,?_⟩,⟨?_,?_⟩,?_⟩
 ·simp only[prQ];omega
 ·simp only[prQ];omega
 ·simp only[prQ];omega
 ·simp only[prQ];omega
 ·simp only[prQ]
  rw[Int.natAbs_natCast]
  exact q.reduced
theorem Ti {a b:Fq} (ha:okF a) (hb:okF b) (h:qv a=qv b):a=b:=by
 rw[<-Lh ha,<-Lh hb,h]
theorem qh (q:Rat):(gB q/\xE q=(prQ q,0,()))\/(¬ gB q/\xE q=((0,0),5,())):=by
 unfold xE
 by_cases h:gB q
 ·exact .inl ⟨h,by rw[if_pos h]⟩
 ·exact .inr ⟨h,by rw[if_neg h]⟩
theorem Nq (n:Int):qv (n,1)=(n:Rat):=by
 show mkRat n 1=(n:Rat)
 rw[Rat.mkRat_eq_div]
 show (n:Rat) / ((1:Nat):Rat)=n
 rw[show ((1:Nat):Rat)=1 from rfl]
 grind
theorem CR {n:Int} (h1: -1152921504606846976<=n) (h2:n<=1152921504606846976):okF (n,1):=⟨⟨by simp,by simp⟩,⟨h1,h2⟩,by simp⟩
theorem nO {a:Fq} (h:okF a):0<=qv a↔0<=a.1:=by rw[<-Rat.num_nonneg,qt h]
theorem D8 {a:Fq} (h:okF a):qv a=0↔a.1=0:=by rw[<-Rat.num_eq_zero,qt h]
theorem Re {a:Fq} (h:okF a):qv a<0↔a.1<0:=by
 rw[<-Rat.not_le,nO h];omega
theorem NS {a b:Fq} (ha:okF a) (hb:okF b):qv a<=qv b↔a.1*b.2<=b.1*a.2:=by
 rw[Rat.le_iff,qt ha,qt hb,uZ ha,uZ hb]
theorem S3 {a b:Fq} (ha:okF a) (hb:okF b):qv a<qv b↔a.1*b.2<b.1*a.2:=by
 rw[Rat.lt_iff,qt ha,qt hb,uZ ha,uZ hb]
def sgn (s:Bool) (n:Nat):Int:=if s then -(n:Int) else n
theorem H7 {s:Bool} {n d:Nat} (hd:0<d) (hc:Nat.gcd n d=1):(mkRat (sgn s n) d).num=sgn s n/\(mkRat (sgn s n) d).den=d:=by
 have h0:d≠0:=by omega
 have ha:(sgn s n).natAbs=n:=by unfold sgn;split<;>simp
 have hg:Nat.gcd d (sgn s n).natAbs=1:=by rw[ha,Nat.gcd_comm];exact hc
 rw[Rat.num_mkRat,Rat.den_mkRat,if_neg h0,if_neg h0,hg]
 simp
theorem HQ {s:Bool} {n d:Nat} (hd:0<d):mkRat (sgn s n) d=mkRat (sgn s (n / Nat.gcd n d)) (d / Nat.gcd n d)/\0<d / Nat.gcd n d/\Nat.gcd (n / Nat.gcd n d) (d / Nat.gcd n d)=1:=by
 have hg:0<Nat.gcd n d:=Nat.gcd_pos_of_pos_right _ hd
 have h1:n / Nat.gcd n d*Nat.gcd n d=n:=Nat.div_mul_cancel (Nat.gcd_dvd_left n d)
 have h2:d / Nat.gcd n d*Nat.gcd n d=d:=Nat.div_mul_cancel (Nat.gcd_dvd_right n d)
 refine ⟨?_,Nat.div_pos (Nat.le_of_dvd hd (Nat.gcd_dvd_right n d)) hg,Nat.gcd_div_gcd_div_gcd_of_pos_right hd⟩
 have h3:sgn s n=sgn s (n / Nat.gcd n d)*(Nat.gcd n d:Int):=by
  unfold sgn
  split
  ·rw[Int.neg_mul,<-Int.natCast_mul,h1]
  ·rw[<-Int.natCast_mul,h1]
 have h4:mkRat (sgn s n) d=mkRat (sgn s (n / Nat.gcd n d)*(Nat.gcd n d:Int)) (d / Nat.gcd n d*Nat.gcd n d):=by rw[<-h3,h2]
 rw[h4]
 exact Rat.mkRat_mul_right (by omega)
theorem Bl {s:Bool} {n d m e:Nat} (hd:0<d) (he:0<e) (h:n*e=m*d):mkRat (sgn s n) d=mkRat (sgn s m) e:=by
 rw[Rat.mkRat_eq_iff (by omega) (by omega)]
 unfold sgn
 split
 ·rw[Int.neg_mul,Int.neg_mul,<-Int.natCast_mul,<-Int.natCast_mul,h]
 ·rw[<-Int.natCast_mul,<-Int.natCast_mul,h]
theorem C7 {s:Bool} {n d:Nat} (hd:0<d) (hc:Nat.gcd n d=1):xE (mkRat (sgn s n) d)=if n<=1152921504606846976/\d<=1152921504606846976 then ((sgn s n,(d:Int)),0,()) else ((0,0),5,()):=by
 obtain ⟨h1,h2⟩:=H7 (s:=s) hd hc
 have ha:(sgn s n).natAbs=n:=by unfold sgn;split<;>simp
 unfold xE
 have e:gB (mkRat (sgn s n) d)↔n<=1152921504606846976/\d<=1152921504606846976:=by unfold gB;rw[h1,h2,ha]
 have e2:prQ (mkRat (sgn s n) d)=(sgn s n,(d:Int)):=by unfold prQ;rw[h1,h2]
 rw[e2]
 by_cases h:n<=1152921504606846976/\d<=1152921504606846976
 ·rw[if_pos h,if_pos (e.2 h)]
 ·rw[if_neg h,if_neg (fun hh=>h (e.1 hh))]
theorem pn (n:Int):n=sgn (decide (n<0)) n.natAbs:=by
 unfold sgn
 by_cases h:n<0
 ·simp[h];omega
 ·simp[h];omega
theorem H4 (a:Fq):qv a=mkRat (sgn (decide (a.1<0)) a.1.natAbs) a.2.toNat:=by
 unfold qv
 rw[<-pn]
theorem Rf {s t:Bool} {m n:Nat}:sgn s m*sgn t n=sgn (s !=t) (m*n):=by
 unfold sgn
 cases s<;>cases t<;>simp[Int.neg_mul,Int.mul_neg]
theorem RV {s t:Bool} {m n d e:Nat}:mkRat (sgn s m) d*mkRat (sgn t n) e=mkRat (sgn (s !=t) (m*n)) (d*e):=by
 rw[Rat.mkRat_mul_mkRat,Rf]
theorem Fv (s t:Bool):sgn s 0=sgn t 0:=by unfold sgn;cases s<;>cases t<;>rfl
end Dn
end Go.Proofs.YtegbncajloeepaaGreat

namespace Go.Proofs.YtegbncajloeepaaGreat
open Tryz Dn Dn.Sh
theorem bC {x:Int} (h1:0<=x) (h2:x<18446744073709551616):IntKind.wrap .u64 x=x:=by
 rw[IntKind.wrap_u64];omega
theorem ly {x:Int} (h1: -9223372036854775808<=x) (h2:x<9223372036854775808):aH x=some (x.natAbs:Int):=by
 simp only[aH,qg]
 by_cases h:x<0
 ·simp only[h,decide_true,cond_true]
  rw[IntKind.wrap_u64,IntKind.wrap_u64]
  congr 1;omega
 ·simp only[h,decide_false,cond_false]
  rw[bC (by omega) (by omega)]
  congr 1;omega
theorem wE (m n:Nat) (hn:n<18446744073709551616):bE (m:Int) (n:Int)=some ((Nat.gcd m n:Nat):Int):=by
 simp only[bE,rU]
 refine kn (g:=fun x=>some ((Nat.gcd x.1.toNat x.2.1.toNat:Nat):Int)) (I:=fun (x:Int×Int×PUnit)=>0<=x.1/\0<=x.2.1) (μ:=fun (x:Int×Int×PUnit)=>x.2.1.toNat) (x:=((m:Int),(n:Int),PUnit.unit)) ?_ ⟨Int.natCast_nonneg _,Int.natCast_nonneg _⟩ (by simp only;omega)
 rintro ⟨a,b,_⟩ rec ⟨h1,h2⟩ hrec
 simp only at h1 h2 ⊢
 by_cases hb:b=0
 ·subst hb
  simp only[decide_true,Bool.not_true,cond_false,Int.toNat_zero,Nat.gcd_zero_right]
  congr 1;omega
 ·rw[z8 hb,ng hb,Int.tmod_eq_emod_of_nonneg h1]
  simp only[Bool.not_false,cT]
  have h3:0<=a % b:=Int.emod_nonneg _ hb
  have h4:a % b<b:=Int.emod_lt_of_pos _ (by omega)
  rw[hrec _ ⟨by simp only;omega,by simp only;omega⟩ (by simp only;omega)]
  simp only
  congr 2
  rw[Int.toNat_emod h1 h2,Nat.gcd_comm a.toNat,Nat.gcd_rec b.toNat a.toNat,Nat.gcd_comm]
theorem wj (s:Bool) (n d:Nat) (h1:n<18446744073709551616) (h2:d<18446744073709551616) :
  bo s (n:Int) (d:Int)=some (if n<=1152921504606846976/\d<=1152921504606846976 then ((sgn s n,(d:Int)),0,()) else ((0,0),5,())):=by
 simp only[bo,nt,aV,fk,cond_true]
 by_cases hn:n<=1152921504606846976
 ·by_cases hd:d<=1152921504606846976
  ·have e1:decide ((n:Int)>1152921504606846976)=false:=z8 (by omega)
   have e2:decide ((d:Int)>1152921504606846976)=false:=z8 (by omega)
   rw[aO (x:=(n:Int)) (by omega) (by omega),aO (x:=(d:Int)) (by omega) (by omega),aO (x:=0 - (n:Int)) (by omega) (by omega)]
   simp only[e1,e2,cond_false,hn,hd,and_self,if_true]
   cases s<;>simp[sgn]
  ·have e2:decide ((d:Int)>1152921504606846976)=true:=z7 (by omega)
   simp only[e2,Ko,Bool.or_true,cond_true,hd,and_false,if_false]
 ·have e1:decide ((n:Int)>1152921504606846976)=true:=z7 (by omega)
  simp only[e1,cond_true,hn,false_and,if_false]
def GI (n d:Int):Rat:=mkRat (sgn (decide (n<0) !=decide (d<0)) n.natAbs) d.natAbs
theorem yh {n d:Int} (hd:d≠0):GI n d=(n:Rat) / d:=by
 unfold GI
 rw[<-Rat.divInt_eq_div,show mkRat (sgn (decide (n<0) !=decide (d<0)) n.natAbs) d.natAbs=Rat.divInt (sgn (decide (n<0) !=decide (d<0)) n.natAbs) (d.natAbs:Int) from (Rat.divInt_ofNat _ _).symm]
 rw[Rat.divInt_eq_divInt_iff (by omega) hd]
 unfold sgn
 by_cases h1:n<0<;>by_cases h2:d<0
 ·rw[show ((n.natAbs:Nat):Int)= -n by omega,show ((d.natAbs:Nat):Int)= -d by omega]
  simp[h1,h2,Int.neg_mul,Int.mul_neg]
 ·rw[show ((n.natAbs:Nat):Int)= -n by omega,show ((d.natAbs:Nat):Int)=d by omega]
  simp[h1,h2]
 ·rw[show ((n.natAbs:Nat):Int)=n by omega,show ((d.natAbs:Nat):Int)= -d by omega]
  simp[h1,h2,Int.neg_mul,Int.mul_neg]
 ·rw[show ((n.natAbs:Nat):Int)=n by omega,show ((d.natAbs:Nat):Int)=d by omega]
  simp[h1,h2]
theorem lU (m n:Nat):Int.tdiv (m:Int) (n:Int)=((m / n:Nat):Int):=by
 rw[Int.tdiv_eq_ediv_of_nonneg (by omega)]
 rfl
theorem Ic {n d:Int} (h1: -9223372036854775808<=n) (h2:n<9223372036854775808) (h3: -9223372036854775808<=d) (h4:d<9223372036854775808) :
  dj n d=some (if d=0 then ((0,0),16,()) else xE (GI n d)):=by
 simp only[dj,qD,aV,Bool.and_self,cond_true]
 by_cases hd:d=0
 ·simp only[hd,decide_true,cond_true,if_true]
 ·simp only[hd,decide_false,cond_false,if_false]
  rw[ly h1 h2,af,ly h3 h4,af,wE _ _ (by omega),af]
  have hg:0<Nat.gcd n.natAbs d.natAbs:=Nat.gcd_pos_of_pos_right _ (by omega)
  have a1:n.natAbs / Nat.gcd n.natAbs d.natAbs<=n.natAbs:=Nat.div_le_self _ _
  have a2:d.natAbs / Nat.gcd n.natAbs d.natAbs<=d.natAbs:=Nat.div_le_self _ _
  have hz:nzB ((Nat.gcd n.natAbs d.natAbs:Nat):Int)=true:=ng (by omega)
  obtain ⟨m1,m2,m3⟩:=HQ (s:=decide (n<0) !=decide (d<0)) (n:=n.natAbs) (d:=d.natAbs) (by omega)
  have hs:n=0->n.natAbs / Nat.gcd n.natAbs d.natAbs=0:=fun h=>by subst h;simp
  rw[hz,cond_true,cond_true,lU,lU]
  unfold GI
  rw[m1]
  generalize n.natAbs / Nat.gcd n.natAbs d.natAbs=p at *
  generalize d.natAbs / Nat.gcd n.natAbs d.natAbs=q at *
  rw[bC (by omega) (by omega),bC (by omega) (by omega),wj _ _ _ (by omega) (by omega),af,C7 m2 m3]
  have hs:sgn (bif !decide (n=0) then !decide (decide (n<0)=decide (d<0)) else false) p=sgn (decide (n<0) !=decide (d<0)) p:=by
   by_cases h0:n=0
   ·rw[hs h0]
    exact Fv _ _
   ·simp only[h0,decide_false,Bool.not_false,cond_true]
    cases decide (n<0)<;>cases decide (d<0)<;>rfl
  rw[hs]
theorem ra {a:Fq}:ap a=some (decide (okF a)):=by
 simp only[ap,oI,aV,Bool.and_self,cond_true,jD]
 unfold okF
 by_cases h1:1<=a.2
 ·by_cases h2:a.2<=1152921504606846976
  ·by_cases h3: -1152921504606846976<=a.1
   ·by_cases h4:a.1<=1152921504606846976
    ·have e:IntKind.wrap .u64 a.2=((a.2.natAbs:Nat):Int):=by rw[bC (by omega) (by omega)];omega
     simp only[ge_iff_le,h1,h2,h3,h4,decide_true,Bool.and_self,cond_true]
     rw[ly (by omega) (by omega),af,e,wE _ _ (by omega),af]
     congr 1
     rw[Bool.eq_iff_iff]
     simp only[Bool.true_and,decide_eq_true_eq,true_and]
     generalize Nat.gcd a.1.natAbs a.2.natAbs=g
     omega
    ·simp[af,h4]
   ·simp[af,h3]
  ·simp[af,h2]
 ·simp[af,h1]
theorem CS {x:Int} (h1:0<=x) (h2:x<18446744073709551616):((Nat.land (Int.toNat (x % Int.ofNat 18446744073709551616)) (Int.toNat ((4294967295:Int) % Int.ofNat 18446744073709551616)):Nat):Int)=x % 4294967296:=by
 have e1:x % Int.ofNat 18446744073709551616=x:=Int.emod_eq_of_lt h1 h2
 have e2:Int.toNat ((4294967295:Int) % Int.ofNat 18446744073709551616)=2 ^ 32 - 1:=by decide
 rw[e1,e2]
 have:Nat.land x.toNat (2 ^ 32 - 1)=x.toNat % 2 ^ 32:=Nat.and_two_pow_sub_one_eq_mod x.toNat 32
 rw[this]
 omega
def hl (n:Nat):Int×Int:=(((n / 18446744073709551616:Nat):Int),((n % 18446744073709551616:Nat):Int))
theorem PU {x y:Int} (x0:0<=x) (x1:x<18446744073709551616) (y0:0<=y) (y1:y<18446744073709551616):bj x y=some (x*y / 18446744073709551616,x*y % 18446744073709551616,()):=by
 have p32:(2:Int) ^ (32:Nat)=4294967296:=by decide
 simp only[bj,qE,p32,show decide ((0:Int)<=32)=true from rfl,cond_true]
 obtain ⟨a,b,ha,hb,hx⟩:∃a b,a=x / 4294967296/\b=x % 4294967296/\x=a*4294967296+b:=⟨_,_,rfl,rfl,by omega⟩
 obtain ⟨c,d,hc,hd,hy⟩:∃c d,c=y / 4294967296/\d=y % 4294967296/\y=c*4294967296+d:=⟨_,_,rfl,rfl,by omega⟩
 have fd:∀n:Int,Int.fdiv n 4294967296=n / 4294967296:=fun n=>Int.fdiv_eq_ediv_of_nonneg n (by omega)
 rw[CS x0 x1,CS y0 y1,<-hb,<-hd]
 simp only[fd,<-ha,<-hc]
 have a0:0<=a/\a<=4294967295:=by omega
 have b0:0<=b/\b<=4294967295:=by omega
 have c0:0<=c/\c<=4294967295:=by omega
 have d0:0<=d/\d<=4294967295:=by omega
 have mb:∀{m n:Int},0<=m/\m<=4294967295->0<=n/\n<=4294967295->0<=m*n/\m*n<=18446744065119617025:=fun {m n} hm hn=>⟨Int.mul_nonneg hm.1 hn.1,Int.le_trans (Int.mul_le_mul hm.2 hn.2 hn.1 (by omega)) (by decide)⟩
 have e1:=mb a0 c0
 have e2:=mb a0 d0
 have e3:=mb b0 c0
 have e4:=mb b0 d0
 have hxy:x*y=a*c*18446744073709551616+(a*d+b*c)*4294967296+b*d:=by rw[hx,hy];grind
 rw[IntKind.wrap_u64 (x*y)]
 rw[hxy]
 rw[bC (x:=b) (by omega) (by omega),bC (x:=d) (by omega) (by omega)]
 rw[bC (x:=b*d) (by omega) (by omega),bC (x:=a*d) (by omega) (by omega),bC (x:=b*c) (by omega) (by omega),bC (x:=a*c) (by omega) (by omega)]
 generalize b*d=bd at *
 generalize a*d=ad at *
 generalize b*c=bc at *
 generalize a*c=ac at *
 rw[bC (x:=ad+bd / 4294967296) (by omega) (by omega)]
 generalize ht:ad+bd / 4294967296=t
 rw[CS (by omega) (by omega)]
 rw[bC (x:=t % 4294967296) (by omega) (by omega)]
 rw[bC (x:=t % 4294967296+bc) (by omega) (by omega),bC (x:=ac+t / 4294967296) (by omega) (by omega)]
 rw[bC (x:=ac+t / 4294967296+(t % 4294967296+bc) / 4294967296) (by omega) (by omega)]
 congr 1
 ext
 ·simp only;omega
 ·rfl
theorem jE {m n:Nat} (hm:m<18446744073709551616) (hn:n<18446744073709551616):aK (m:Int) (n:Int)=some (hl (m*n)):=by
 simp only[aK,mi]
 rw[PU (by omega) (by omega) (by omega) (by omega),af,<-Int.natCast_mul]
 rfl
theorem lV {n:Nat} (h:n<18446744073709551616):hl n=(0,(n:Int)):=by
 unfold hl
 rw[Nat.div_eq_of_lt h,Nat.mod_eq_of_lt h]
 rfl
theorem Dr {n:Nat} (h:¬ n<18446744073709551616):(hl n).1>0:=by
 unfold hl
 simp only
 omega
theorem S6 {a b:Fq} (ha:okF a) (hb:okF b):cO a b=some (xE (qv a*qv b)):=by
 simp only[cO,sC,ra,ha,hb,decide_true,af,Bool.not_true,Bool.not_false,Bool.and_self,cond_true,cond_false,aV,fk]
 have ha':=ha
 have hb':=hb
 obtain ⟨⟨a1,a2⟩,⟨a3,a4⟩,a5⟩:=ha'
 obtain ⟨⟨b1,b2⟩,⟨b3,b4⟩,b5⟩:=hb'
 rw[H4 a,H4 b,RV]
 obtain ⟨d,hd⟩:∃d:Nat,a.2=(d:Int):=⟨a.2.toNat,by omega⟩
 obtain ⟨e,he⟩:∃e:Nat,b.2=(e:Int):=⟨b.2.toNat,by omega⟩
 rw[ly (by omega) (by omega),ly (by omega) (by omega)]
 simp only[af,hd,he,z9] at *
 rw[bC (x:=(d:Int)) (by omega) (by omega),bC (x:=(e:Int)) (by omega) (by omega),wE _ _ (by omega),af,wE _ _ (by omega),af]
 have sa:a.1.natAbs<=1152921504606846976:=by omega
 have sb:b.1.natAbs<=1152921504606846976:=by omega
 have za:a.1=0↔a.1.natAbs=0:=by omega
 have zb:b.1=0↔b.1.natAbs=0:=by omega
 have hlt:decide (a.1<0)=true->a.1.natAbs≠0:=fun h=>by have:=z12 h;omega
 rw[Int.natAbs_natCast] at a5 b5
 generalize a.1.natAbs=m at *
 generalize b.1.natAbs=n at *
 generalize decide (a.1<0)=s at *
 generalize decide (b.1<0)=t at *
 have hd0:0<d:=by omega
 have he0:0<e:=by omega
 have hg:0<Nat.gcd m e:=Nat.gcd_pos_of_pos_right _ he0
 have hh:0<Nat.gcd n d:=Nat.gcd_pos_of_pos_right _ hd0
 rw[ng (show ((Nat.gcd m e:Nat):Int)≠0 by omega),ng (show ((Nat.gcd n d:Nat):Int)≠0 by omega)]
 simp only[cond_true,lU]
 have m1:m / Nat.gcd m e*Nat.gcd m e=m:=Nat.div_mul_cancel (Nat.gcd_dvd_left m e)
 have e1:e / Nat.gcd m e*Nat.gcd m e=e:=Nat.div_mul_cancel (Nat.gcd_dvd_right m e)
 have n1:n / Nat.gcd n d*Nat.gcd n d=n:=Nat.div_mul_cancel (Nat.gcd_dvd_left n d)
 have d1:d / Nat.gcd n d*Nat.gcd n d=d:=Nat.div_mul_cancel (Nat.gcd_dvd_right n d)
 have c1:Nat.Coprime (m / Nat.gcd m e) (e / Nat.gcd m e):=Nat.coprime_div_gcd_div_gcd hg
 have c2:Nat.Coprime (n / Nat.gcd n d) (d / Nat.gcd n d):=Nat.coprime_div_gcd_div_gcd hh
 have q1:m / Nat.gcd m e<=m:=Nat.div_le_self _ _
 have q2:e / Nat.gcd m e<=e:=Nat.div_le_self _ _
 have q3:n / Nat.gcd n d<=n:=Nat.div_le_self _ _
 have q4:d / Nat.gcd n d<=d:=Nat.div_le_self _ _
 have p2:0<e / Nat.gcd m e:=Nat.div_pos (Nat.le_of_dvd he0 (Nat.gcd_dvd_right m e)) hg
 have p4:0<d / Nat.gcd n d:=Nat.div_pos (Nat.le_of_dvd hd0 (Nat.gcd_dvd_right n d)) hh
 have x1:m / Nat.gcd m e∣m:=Nat.div_dvd_of_dvd (Nat.gcd_dvd_left m e)
 have x2:e / Nat.gcd m e∣e:=Nat.div_dvd_of_dvd (Nat.gcd_dvd_right m e)
 have x3:n / Nat.gcd n d∣n:=Nat.div_dvd_of_dvd (Nat.gcd_dvd_left n d)
 have x4:d / Nat.gcd n d∣d:=Nat.div_dvd_of_dvd (Nat.gcd_dvd_right n d)
 generalize Nat.gcd m e=g at *
 generalize Nat.gcd n d=h at *
 generalize m / g=m' at *
 generalize e / g=e' at *
 generalize n / h=n' at *
 generalize d / h=d' at *
 have cop:Nat.gcd (m'*n') (d'*e')=1:=by
  refine Nat.Coprime.mul_left (Nat.Coprime.mul_right ?_ c1) (Nat.Coprime.mul_right c2 ?_)
  ·exact Nat.Coprime.coprime_dvd_left x1 (Nat.Coprime.coprime_dvd_right x4 a5)
  ·exact Nat.Coprime.coprime_dvd_left x3 (Nat.Coprime.coprime_dvd_right x2 b5)
 have hq:mkRat (sgn (s !=t) (m*n)) (d*e)=mkRat (sgn (s !=t) (m'*n')) (d'*e'):=by
  refine Bl (Nat.mul_pos hd0 he0) (Nat.mul_pos p4 p2) ?_
  rw[<-m1,<-n1,<-d1,<-e1]
  grind
 rw[hq,C7 (Nat.mul_pos p4 p2) cop]
 rw[bC (by omega) (by omega),bC (by omega) (by omega),jE (by omega) (by omega),af,bC (by omega) (by omega),bC (by omega) (by omega),jE (by omega) (by omega),af]
 by_cases hN:m'*n'<18446744073709551616
 ·rw[lV hN]
  by_cases hD:d'*e'<18446744073709551616
  ·rw[lV hD]
   simp only[show decide ((0:Int)>0)=false from rfl,cond_false]
   rw[wj _ _ _ hN hD,af]
   have hs:sgn (bif decide (((m'*n':Nat):Int)>0) then !decide (s=t) else false) (m'*n')=sgn (s !=t) (m'*n'):=by
    by_cases h0:m'*n'=0
    ·rw[h0];exact Fv _ _
    ·rw[z7 (show ((m'*n':Nat):Int)>0 by omega)]
     cases s<;>cases t<;>rfl
   rw[hs]
  ·have:=Dr hD
   simp only[show decide ((0:Int)>0)=false from rfl,cond_false,z7 this,cond_true]
   rw[if_neg (by omega)]
 ·have:=Dr hN
  simp only[z7 this,cond_true]
  rw[if_neg (by omega)]
theorem qC {n d:Int} (h:0<=d):Int.fdiv n d=n / d:=Int.fdiv_eq_ediv_of_nonneg n h
theorem ye {n:Nat} (_:n<340282366920938463463374607431768211456):fq (hl n)=some (hl (n / 2)):=by
 simp only[fq,qA,show decide ((0:Int)<=1)=true from rfl,show decide ((0:Int)<=63)=true from rfl,cond_true,show (2:Int) ^ (1:Nat)=2 from rfl,show (2:Int) ^ (63:Nat)=9223372036854775808 from rfl,IntKind.wrap_u64,qC (show (0:Int)<=2 by omega),hl]
 congr 1
 ext<;>simp only<;>omega
theorem RU {a b:Nat}:cR (hl a) (hl b)=some (decide (a<b)):=by
 simp only[cR,qn]
 have e:decide (a<b)=(bif decide ((hl a).1<(hl b).1) then true else bif decide ((hl a).1=(hl b).1) then decide ((hl a).2<(hl b).2) else false):=by
  by_cases c1:(hl a).1<(hl b).1
  ·simp only[c1,decide_true,cond_true]
   simp only[hl] at c1
   exact z7 (by omega)
  ·by_cases c2:(hl a).1=(hl b).1
   ·rw[z8 c1,z7 c2,cond_true,cond_false]
    have e2:a<b↔(hl a).2<(hl b).2:=by
     simp only[hl] at c1 c2 ⊢
     omega
    rw[Bool.eq_iff_iff,decide_eq_true_iff,decide_eq_true_iff]
    exact e2
   ·simp only[c1,c2,decide_false,cond_false]
    simp only[hl] at c1 c2
    exact z8 (by omega)
 rw[e]
 cases decide ((hl a).1<(hl b).1)<;>cases decide ((hl a).1=(hl b).1)<;>rfl
theorem DD {a b:Nat} (h:b<=a) (ha:a<340282366920938463463374607431768211456):cJ (hl a) (hl b)=some (hl (a - b)):=by
 simp only[cJ,oC]
 by_cases hc:(hl a).2<(hl b).2
 ·rw[z7 hc,cond_true]
  simp only[IntKind.wrap_u64,hl] at hc ⊢
  congr 1
  ext<;>simp only<;>omega
 ·rw[z8 hc,cond_false]
  simp only[IntKind.wrap_u64,hl] at hc ⊢
  congr 1
  ext<;>simp only<;>omega
theorem Ri {m n:Nat} (h:m+n<340282366920938463463374607431768211456):eD (hl m) (hl n)=some (hl (m+n)):=by
 simp only[eD,qm]
 by_cases hc:IntKind.wrap .u64 ((hl m).2+(hl n).2)<(hl m).2
 ·rw[z7 hc,cond_true]
  simp only[IntKind.wrap_u64,hl] at hc ⊢
  congr 1
  ext<;>simp only<;>omega
 ·rw[z8 hc,cond_false]
  simp only[IntKind.wrap_u64,hl] at hc ⊢
  congr 1
  ext<;>simp only<;>omega
theorem Xg {x:Int} (h1:0<=x) (h2:x<18446744073709551616):IntKind.wrap .u64 ((Nat.land (Int.toNat (x % Int.ofNat 18446744073709551616)) (Int.toNat ((1:Int) % Int.ofNat 18446744073709551616)):Nat):Int)=x % 2:=by
 have e1:x % Int.ofNat 18446744073709551616=x:=Int.emod_eq_of_lt h1 h2
 have e2:Int.toNat ((1:Int) % Int.ofNat 18446744073709551616)=2 ^ 1 - 1:=by decide
 rw[e1,e2]
 have:Nat.land x.toNat (2 ^ 1 - 1)=x.toNat % 2 ^ 1:=Nat.and_two_pow_sub_one_eq_mod x.toNat 1
 rw[this,IntKind.wrap_u64]
 omega
theorem B6 {n:Nat}:decide (IntKind.wrap .u64 ((Nat.land (Int.toNat ((hl n).2 % Int.ofNat 18446744073709551616)) (Int.toNat ((1:Int) % Int.ofNat 18446744073709551616)):Nat):Int)=0)=decide (n % 2=0):=by
 rw[Xg (by simp only[hl];omega) (by simp only[hl];omega)]
 rw[Bool.eq_iff_iff,decide_eq_true_iff,decide_eq_true_iff]
 simp only[hl]
 omega
theorem Di {n:Nat} (_:n<340282366920938463463374607431768211456):(decide ((hl n).1=0)&&(decide ((hl n).2=0)&&true))=decide (n=0):=by
 rw[Bool.and_true,Bool.eq_iff_iff,z10,decide_eq_true_iff,decide_eq_true_iff,decide_eq_true_iff]
 simp only[hl]
 omega
def Dw (p:Int×Int):Nat:=p.1.toNat*18446744073709551616+p.2.toNat
theorem my {n:Nat}:Dw (hl n)=n:=by
 simp only[Dw,hl];omega
theorem Ep {a b:Nat} (ha:a % 2=0) (h:Nat.gcd a b % 2=1):Nat.gcd (a / 2) b=Nat.gcd a b:=by
 have h2:a / 2∣a:=Nat.div_dvd_of_dvd (Nat.dvd_of_mod_eq_zero ha)
 refine Nat.dvd_antisymm (Nat.dvd_gcd (Nat.dvd_trans (Nat.gcd_dvd_left _ _) h2) (Nat.gcd_dvd_right _ _)) (Nat.dvd_gcd ?_ (Nat.gcd_dvd_right _ _))
 have h3:Nat.gcd a b∣2*(a / 2):=by rw[show 2*(a / 2)=a by omega];exact Nat.gcd_dvd_left _ _
 refine Nat.Coprime.dvd_of_dvd_mul_left ?_ h3
 show Nat.gcd (Nat.gcd a b) 2=1
 rw[Nat.gcd_comm,Nat.gcd_rec,h]
 rfl
theorem sJ {a:Nat} (h:2<=a):Nat.log2 (a / 2)+1=Nat.log2 a:=by
 conv=>rhs;rw[Nat.log2_def]
 rw[if_pos h]
theorem te {a b:Nat} (h:a<=b):Nat.log2 a<=Nat.log2 b:=by
 by_cases ha:a=0
 ·subst ha;simp
 ·have hb:b≠0:=by omega
  rw[Nat.le_log2 hb]
  exact Nat.le_trans ((Nat.le_log2 ha).1 (Nat.le_refl _)) h
theorem M0 {a b:Nat} (ha:0<a) (h:2*a<=b):Nat.log2 a+1<=Nat.log2 b:=by
 have h1:=sJ (a:=b) (by omega)
 have:=te (show a<=b / 2 by omega)
 omega
theorem pv {a:Nat} (h:a<340282366920938463463374607431768211456):Nat.log2 a<=127:=by
 by_cases ha:a=0
 ·subst ha;simp
 ·have:Nat.log2 a<128:=(Nat.log2_lt ha).2 h
  omega
theorem SU {A B:Nat} (hA:A<340282366920938463463374607431768211456) (hB0:0<B) (hB:B<340282366920938463463374607431768211456):fo (hl A) (hl B)=some (hl (Nat.gcd A B)):=by
 simp only[fo,rL]
 rw[Di hA]
 by_cases hA0:A=0
 ·rw[z7 hA0,cond_true,hA0,Nat.gcd_zero_left]
 rw[z8 hA0,cond_false]
 have hG:Nat.gcd A B<=B:=Nat.le_of_dvd hB0 (Nat.gcd_dvd_right A B)
 have hGdef:∃G,G=Nat.gcd A B:=⟨_,rfl⟩
 obtain ⟨G,hGd⟩:=hGdef
 rw[<-hGd]
 refine kn (g:=fun _=>some (hl G)) (I:=fun (x:Int×(Int×Int)×(Int×Int)×PUnit)=>∃t a b:Nat,x=((t:Int),hl a,hl b,⟨⟩)/\0<a/\a<340282366920938463463374607431768211456/\0<b/\b<340282366920938463463374607431768211456/\2 ^ t*Nat.gcd a b=G/\t+Nat.log2 a<=127)
  (μ:=fun (x:Int×(Int×Int)×(Int×Int)×PUnit)=>Nat.log2 (Dw x.2.1)) (x:=((0:Int),hl A,hl B,PUnit.unit)) ?_ ⟨0,A,B,rfl,by omega,hA,hB0,hB,by rw[hGd];simp,by have:=pv hA;omega⟩ (by simp only[my];have:=pv hA;omega)
 rintro _ rec ⟨t,a,b,rfl,a0,a1,b0,b1,hg,ht⟩ hrec
 simp only[B6,aV,cond_true]
 by_cases hev:a % 2=0/\b % 2=0
 ·rw[z7 hev.1,cond_true,z7 hev.2,cond_true,ye a1,af,ye b1,af,aO (by omega) (by omega)]
  have hl2:=sJ (a:=a) (by omega)
  refine hrec _ ⟨t+1,a / 2,b / 2,by rfl,by omega,by omega,by omega,by omega,?_,by omega⟩ (by simp only[my];omega)
  rw[<-hg,Nat.pow_succ,Nat.mul_assoc,<-Nat.gcd_mul_left,show 2*(a / 2)=a by omega,show 2*(b / 2)=b by omega]
 have hodd:Nat.gcd a b % 2=1:=by
  rcases Nat.mod_two_eq_zero_or_one (Nat.gcd a b) with h | h
  ·exfalso
   have h2:=Nat.dvd_of_mod_eq_zero h
   exact hev ⟨Nat.mod_eq_zero_of_dvd (Nat.dvd_trans h2 (Nat.gcd_dvd_left a b)),Nat.mod_eq_zero_of_dvd (Nat.dvd_trans h2 (Nat.gcd_dvd_right a b))⟩
  ·exact h
 have hcond:(bif decide (a % 2=0) then decide (b % 2=0) else false)=false:=by
  rw[Bool.eq_false_iff]
  intro h
  by_cases h2:a % 2=0
  ·rw[z7 h2,cond_true,decide_eq_true_iff] at h
   exact hev ⟨h2,h⟩
  ·rw[z8 h2,cond_false] at h
   cases h
 rw[hcond,cond_false]
 clear hcond hrec
 generalize hgd:Nat.gcd a b=g at *
 refine kn (g:=fun _=>some (hl G)) (I:=fun (x:(Int×Int)×(Int×Int)×PUnit)=>∃a b:Nat,x=(hl a,hl b,⟨⟩)/\a<340282366920938463463374607431768211456/\0<b/\b<340282366920938463463374607431768211456/\Nat.gcd a b=g)
  (μ:=fun (x:(Int×Int)×(Int×Int)×PUnit)=>Nat.log2 (Dw x.1)+Nat.log2 (Dw x.2.1)+Dw x.1 % 2) (x:=(hl a,hl b,PUnit.unit)) ?_ ⟨a,b,rfl,a1,b0,b1,hgd⟩ (by simp only[my];have:=pv a1;have:=pv b1;omega)
 clear hgd hev a0 a1 b0 b1
 rintro _ rec ⟨a,b,rfl,a1,b0,b1,hgd⟩ hrec
 simp only[Di a1]
 by_cases ha0:a=0
 ·rw[z7 ha0,Bool.not_true,cond_false]
  have hbg:b=g:=by rw[<-hgd,ha0,Nat.gcd_zero_left]
  refine kn (g:=fun _=>some (hl G)) (I:=fun (x:Int×(Int×Int)×PUnit)=>∃t b:Nat,x=((t:Int),hl b,⟨⟩)/\0<b/\2 ^ t*b=G/\t<=127)
   (μ:=fun (x:Int×(Int×Int)×PUnit)=>x.1.toNat) (x:=((t:Int),hl b,PUnit.unit)) ?_ ⟨t,b,rfl,b0,by rw[hbg];exact hg,by omega⟩ (by simp only;omega)
  rintro _ rec ⟨t,b,rfl,b0,hg,ht⟩ hrec
  simp only
  by_cases ht0:t=0
  ·rw[z8 (by omega),cond_false,<-hg,ht0];simp
  ·rw[z7 (by omega),cond_true]
   obtain ⟨s,rfl⟩:∃s,t=s+1:=⟨t - 1,by omega⟩
   have h2:2 ^ s*(b+b)=G:=by rw[<-hg,Nat.pow_succ,Nat.mul_assoc];congr 1;omega
   have h3:b+b<=G:=by
    rw[<-h2]
    exact Nat.le_mul_of_pos_left _ (Nat.pow_pos (by omega))
   rw[Ri (by omega),af,aO (by omega) (by omega)]
   exact hrec _ ⟨s,b+b,by simp only[Prod.mk.injEq,and_true];omega,by omega,h2,by omega⟩ (by simp only;omega)
 rw[z8 ha0,Bool.not_false,cond_true]
 refine kn (g:=fun _=>some (hl G)) (I:=fun (x:(Int×Int)×PUnit)=>∃c:Nat,x=(hl c,⟨⟩)/\0<c/\c<340282366920938463463374607431768211456/\Nat.gcd c b=g/\(c=a\/2*c<=a))
  (μ:=fun (x:(Int×Int)×PUnit)=>Nat.log2 (Dw x.1)) (x:=(hl a,PUnit.unit)) ?_ ⟨a,rfl,by omega,a1,hgd,.inl rfl⟩ (by simp only[my];have:=pv a1;omega)
 rintro _ rec3 ⟨c,rfl,c0,c1,hgc,hca⟩ hrec3
 simp only[B6]
 by_cases hce:c % 2=0
 ·rw[z7 hce,cond_true,ye c1,af]
  have hl2:=sJ (a:=c) (by omega)
  exact hrec3 _ ⟨c / 2,rfl,by omega,by omega,by rw[Ep hce (by rw[hgc];exact hodd),hgc],.inr (by omega)⟩ (by simp only[my];omega)
 rw[z8 hce,cond_false]
 clear hrec3
 refine kn (g:=fun _=>some (hl G)) (I:=fun (x:(Int×Int)×PUnit)=>∃d:Nat,x=(hl d,⟨⟩)/\0<d/\d<=b/\Nat.gcd c d=g)
  (μ:=fun (x:(Int×Int)×PUnit)=>Nat.log2 (Dw x.1)) (x:=(hl b,PUnit.unit)) ?_ ⟨b,rfl,b0,Nat.le_refl _,hgc⟩ (by simp only[my];have:=pv b1;omega)
 rintro _ rec4 ⟨d,rfl,d0,d1,hgd'⟩ hrec4
 simp only[B6]
 by_cases hde:d % 2=0
 ·rw[z7 hde,cond_true,ye (by omega),af]
  have hl2:=sJ (a:=d) (by omega)
  exact hrec4 _ ⟨d / 2,rfl,by omega,by omega,by rw[Nat.gcd_comm,Ep hde (by rw[Nat.gcd_comm,hgd'];exact hodd),Nat.gcd_comm,hgd']⟩ (by simp only[my];omega)
 rw[z8 hde,cond_false,RU,af]
 clear hrec4
 have lb:=te d1
 have la:Nat.log2 c+1<=Nat.log2 a+a % 2:=by
  rcases hca with rfl | h
  ·omega
  ·have:=M0 c0 h;omega
 by_cases hlt:c<d
 ·rw[z7 hlt,cond_true,DD (by omega) (by omega),af]
  have l1:=te (show d - c<=d by omega)
  exact hrec _ ⟨d - c,c,rfl,by omega,c0,c1,by rw[Nat.gcd_sub_self_left (by omega),Nat.gcd_comm,hgd']⟩ (by simp only[my];omega)
 ·rw[z8 hlt,cond_false,DD (by omega) (by omega),af]
  have l1:=te (show c - d<=c by omega)
  exact hrec _ ⟨c - d,d,rfl,by omega,d0,by omega,by rw[Nat.gcd_sub_self_left (by omega),hgd']⟩ (by simp only[my];omega)
theorem Bn {t b q r:Nat} (hr:r<b) (h:t=q*b+r):t / b=q/\t % b=r:=by
 subst h
 constructor
 ·rw[Nat.mul_comm,Nat.mul_add_div (by omega),Nat.div_eq_of_lt hr,Nat.add_zero]
 ·rw[Nat.mul_comm,Nat.mul_add_mod,Nat.mod_eq_of_lt hr]
theorem E7 {x:Int} (h1: -9223372036854775808<=x) (h2:x<9223372036854775808):bw x=some (x.natAbs:Int):=by
 simp only[bw,pN]
 by_cases h:x<0
 ·simp only[h,decide_true,cond_true]
  rw[IntKind.wrap_u64,IntKind.wrap_u64]
  congr 1;omega
 ·simp only[h,decide_false,cond_false]
  rw[bC (by omega) (by omega)]
  congr 1;omega
theorem Hi {a b:Prop} [Decidable a] [Decidable b]:(!decide (decide a=decide b))=(decide a !=decide b):=by
 cases decide a<;>cases decide b<;>rfl
end Go.Proofs.YtegbncajloeepaaGreat

namespace Go.Proofs.YtegbncajloeepaaGreat
noncomputable section
open Tryz Dn Dn.Sh
theorem yU {a b:Nat}:cY (hl a) (hl b)=some (decide (a<b)):=by
 simp only[cY,qa]
 have e:decide (a<b)=(bif decide ((hl a).1<(hl b).1) then true else bif decide ((hl a).1=(hl b).1) then decide ((hl a).2<(hl b).2) else false):=by
  by_cases c1:(hl a).1<(hl b).1
  ·simp only[c1,decide_true,cond_true]
   simp only[hl] at c1
   exact z7 (by omega)
  ·by_cases c2:(hl a).1=(hl b).1
   ·rw[z8 c1,z7 c2,cond_true,cond_false]
    have e2:a<b↔(hl a).2<(hl b).2:=by
     simp only[hl] at c1 c2 ⊢
     omega
    rw[Bool.eq_iff_iff,decide_eq_true_iff,decide_eq_true_iff]
    exact e2
   ·simp only[c1,c2,decide_false,cond_false]
    simp only[hl] at c1 c2
    exact z8 (by omega)
 rw[e]
 cases decide ((hl a).1<(hl b).1)<;>cases decide ((hl a).1=(hl b).1)<;>rfl
theorem vj {m n:Nat}:oS (hl m).2 (hl n).2 0=(((m % 18446744073709551616+n % 18446744073709551616) / 18446744073709551616:Nat):Int):=by
 simp only[oS,hl,z9,Int.toNat_zero,Nat.add_zero]
 rfl
theorem vc {m n:Nat}:nf (hl m).2 (hl n).2 0=(((if m % 18446744073709551616<n % 18446744073709551616 then 1 else 0:Nat):Nat):Int):=by
 simp only[nf,hl,z9,Int.toNat_zero,Nat.add_zero]
 cases h:Nat.blt (m % 18446744073709551616) (n % 18446744073709551616) with
 | true =>
  have h':m % 18446744073709551616<n % 18446744073709551616:=by simpa [Nat.blt_eq] using h
  rw[if_pos h'];rfl
 | false =>
  have h':¬ m % 18446744073709551616<n % 18446744073709551616:=by
   intro h2
   have:Nat.blt (m % 18446744073709551616) (n % 18446744073709551616)=true:=by simpa [Nat.blt_eq] using h2
   rw[this] at h;cases h
  rw[if_neg h'];rfl
theorem EL {m n:Nat} (h:m+n<340282366920938463463374607431768211456):gd (hl m) (hl n)=some (hl (m+n)):=by
 simp only[gd,mz,vj]
 have c1:decide ((0:Int)<=(0:Int))=true:=rfl
 have c2:decide ((0:Int)<=(1:Int))=true:=rfl
 rw[c1,c2,z7 (show (0:Int)<=(((m % 18446744073709551616+n % 18446744073709551616) / 18446744073709551616:Nat):Int) by omega),z7 (show (((m % 18446744073709551616+n % 18446744073709551616) / 18446744073709551616:Nat):Int)<=1 by omega)]
 simp only[Bool.and_self,cT,Option.some.injEq,xC,hl,z9,Int.toNat_zero,Nat.add_zero,Prod.mk.injEq]
 constructor
 ·show ((_:Nat):Int)=((_:Nat):Int)
  omega
 ·show ((_:Nat):Int)=((_:Nat):Int)
  omega
theorem wB {m n:Nat} (h:n<=m) (hm:m<340282366920938463463374607431768211456):fe (hl m) (hl n)=some (hl (m - n)):=by
 simp only[fe,lx,vc]
 have c1:decide ((0:Int)<=(0:Int))=true:=rfl
 have c2:decide ((0:Int)<=(1:Int))=true:=rfl
 have hb:(if m % 18446744073709551616<n % 18446744073709551616 then 1 else 0:Nat)<=1:=by split<;>omega
 have hc:(if m % 18446744073709551616<n % 18446744073709551616 then 1 else 0:Nat)=1/\m % 18446744073709551616<n % 18446744073709551616\/(if m % 18446744073709551616<n % 18446744073709551616 then 1 else 0:Nat)=0/\¬ m % 18446744073709551616<n % 18446744073709551616:=by split<;>simp_all
 generalize (if m % 18446744073709551616<n % 18446744073709551616 then 1 else 0:Nat)=c at *
 rw[c1,c2,z7 (show (0:Int)<=(c:Int) by omega),z7 (show (c:Int)<=1 by omega)]
 simp only[Bool.and_self,cT,Option.some.injEq,uG,hl,z9,Int.toNat_zero,Nat.sub_zero,Prod.mk.injEq]
 constructor
 ·show ((_:Nat):Int)=((_:Nat):Int)
  omega
 ·show ((_:Nat):Int)=((_:Nat):Int)
  omega
def PT (T:ByteArray) (a b:Int):Option Int :=
 bif decide (a>=(256:Int)) then bif decide ((0:Int)<=(8:Int)) then bif inB (IntKind.wrap .u8 (Int.fdiv a ((2:Int) ^ (8:Nat)))) (256:Nat) then
  some (IntKind.wrap .i64 (IntKind.wrap .i64 (b+(8:Int))+IntKind.wrap .i64 (fL T (Int.toNat (IntKind.wrap .u8 (Int.fdiv a ((2:Int) ^ (8:Nat)))))))) else none else none
 else bif inB (IntKind.wrap .u8 a) (256:Nat) then some (IntKind.wrap .i64 (b+IntKind.wrap .i64 (fL T (Int.toNat (IntKind.wrap .u8 a))))) else none
def PQ (T:ByteArray) (a b:Int):Option Int:=bif decide (a>=(65536:Int)) then bif decide ((0:Int)<=(16:Int)) then PT T (Int.fdiv a ((2:Int) ^ (16:Nat))) (IntKind.wrap .i64 (b+(16:Int))) else none else PT T a b
theorem JS:∃T:ByteArray,(∀i,i<256->0<=fL T i/\fL T i<=8/\(0<i->i<2 ^ (fL T i).toNat/\2 ^ (fL T i).toNat<=2*i)) /\
  ∀x,gG x=bif decide (x>=(4294967296:Int)) then bif decide ((0:Int)<=(32:Int)) then PQ T (Int.fdiv x ((2:Int) ^ (32:Nat))) 32 else none else PQ T x 0 :=
 ⟨_,by decide +kernel,fun _=>rfl⟩
def yI (n L:Nat):Prop:=n<2 ^ L/\2 ^ L<=2*n
theorem rE {n k L:Nat} (h:yI (n / 2 ^ k) L):yI n (L+k):=by
 obtain ⟨h1,h2⟩:=h
 have hk:0<2 ^ k:=Nat.two_pow_pos k
 unfold yI
 rw[Nat.pow_add]
 constructor
 ·exact (Nat.div_lt_iff_lt_mul hk).1 h1
 ·have h3:n / 2 ^ k*2 ^ k<=n:=Nat.div_mul_le_self n _
  have h4:=Nat.mul_le_mul_right (2 ^ k) h2
  rw[Nat.mul_assoc] at h4
  omega
theorem HK {x:Int} (h1:0<=x) (h2:x<256):IntKind.wrap .u8 x=x:=by
 rw[IntKind.wrap_u8];omega
theorem KU {n:Nat} (h0:0<n) (h1:n<18446744073709551616):∃L:Nat,gG (n:Int)=some (L:Int)/\yI n L/\L<=64:=by
 obtain ⟨T,hT,hx⟩:=JS
 have tab:∀i:Nat,0<i->i<256->∃L:Nat,fL T i=L/\L<=8/\yI i L:=fun i h2 h3=>by
  obtain ⟨a1,a2,a3⟩:=hT i h3
  exact ⟨(fL T i).toNat,by omega,by omega,a3 h2⟩
 have p8:(2:Int) ^ (8:Nat)=256:=by decide
 have p16:(2:Int) ^ (16:Nat)=65536:=by decide
 have p32:(2:Int) ^ (32:Nat)=4294967296:=by decide
 have stepT:∀a b:Nat,0<a->a<65536->b<=48->∃L:Nat,PT T (a:Int) (b:Int)=some ((L+b:Nat):Int)/\yI a L/\L<=16:=fun a b ha hb hb2=>by
  unfold PT
  by_cases h:a<256
  ·obtain ⟨L,e1,e2,e3⟩:=tab a ha h
   rw[z8 (show ¬ (a:Int)>=256 by omega),cond_false,HK (by omega) (by omega),ul (by omega) (by omega),cond_true,z9,e1,aO (x:=(L:Int)) (by omega) (by omega),aO (by omega) (by omega)]
   exact ⟨L,by congr 1;omega,e3,by omega⟩
  ·obtain ⟨L,e1,e2,e3⟩:=tab (a / 256) (by omega) (by omega)
   rw[z7 (show (a:Int)>=256 by omega),cond_true,show decide ((0:Int)<=8)=true from rfl,cond_true,p8,qC (by omega),HK (by omega) (by omega),ul (by omega) (by omega),cond_true,show ((a:Int) / 256).toNat=a / 256 by omega,e1,aO (x:=(L:Int)) (by omega) (by omega),aO (x:=(b:Int)+8) (by omega) (by omega),aO (by omega) (by omega)]
   exact ⟨L+8,by congr 1;omega,rE (k:=8) e3,by omega⟩
 have stepU:∀a b:Nat,0<a->a<4294967296->b<=32->∃L:Nat,PQ T (a:Int) (b:Int)=some ((L+b:Nat):Int)/\yI a L/\L<=32:=fun a b ha hb hb2=>by
  unfold PQ
  by_cases h:a<65536
  ·obtain ⟨L,e1,e2,e3⟩:=stepT a b ha h (by omega)
   rw[z8 (show ¬ (a:Int)>=65536 by omega),cond_false,e1]
   exact ⟨L,rfl,e2,by omega⟩
  ·obtain ⟨L,e1,e2,e3⟩:=stepT (a / 65536) (b+16) (by omega) (by omega) (by omega)
   rw[z7 (show (a:Int)>=65536 by omega),cond_true,show decide ((0:Int)<=16)=true from rfl,cond_true,p16,qC (by omega),aO (by omega) (by omega),show (a:Int) / 65536=((a / 65536:Nat):Int) by omega,show (b:Int)+16=((b+16:Nat):Int) by omega,e1]
   exact ⟨L+16,by congr 1;omega,rE (k:=16) e2,by omega⟩
 rw[hx]
 by_cases h:n<4294967296
 ·obtain ⟨L,e1,e2,e3⟩:=stepU n 0 h0 h (by omega)
  rw[z8 (show ¬ (n:Int)>=4294967296 by omega),cond_false]
  exact ⟨L,e1,e2,by omega⟩
 ·obtain ⟨L,e1,e2,e3⟩:=stepU (n / 4294967296) 32 (by omega) (by omega) (by omega)
  rw[z7 (show (n:Int)>=4294967296 by omega),cond_true,show decide ((0:Int)<=32)=true from rfl,cond_true,p32,qC (by omega),show (n:Int) / 4294967296=((n / 4294967296:Nat):Int) by omega]
  exact ⟨L+32,e1,rE (k:=32) e2,by omega⟩
theorem Gs {q r U u y1 y0:Int} (hq:q*y1+r=U) (_:0<=u) (hy:0<y1*4294967296+y0) (hge:(U*4294967296+u) / (y1*4294967296+y0)<=q) (ht:q*y0<=4294967296*r+u):q=(U*4294967296+u) / (y1*4294967296+y0):=by
 refine Int.le_antisymm (Int.le_ediv_of_mul_le hy ?_) hge
 rw[Int.mul_add,<-Int.mul_assoc]
 omega
theorem Gu {q r U u y1 y0:Int} (hq:q*y1+r=U) (hy:0<y1*4294967296+y0) (hU:U*4294967296+u<(y1*4294967296+y0)*4294967296) (ht:q>=4294967296\/q*y0>4294967296*r+u):(U*4294967296+u) / (y1*4294967296+y0)<=q - 1:=by
 have:(U*4294967296+u) / (y1*4294967296+y0)<q:=by
  refine Int.ediv_lt_of_lt_mul hy ?_
  rcases ht with ht | ht
  ·exact Int.lt_of_lt_of_le hU (by rw[Int.mul_comm q];exact Int.mul_le_mul_of_nonneg_left ht (by omega))
  ·rw[Int.mul_add,<-Int.mul_assoc]
   omega
 omega
theorem Jy {q r U u y1 y0:Int} (hq:q*y1+r=U) (hu:0<=u) (hy:0<y1*4294967296+y0) (h0:0<=y0/\y0<4294967296) (hge:(U*4294967296+u) / (y1*4294967296+y0)<=q - 1) (hr:r+y1>=4294967296) (hq2:1<=q/\q<=4294967297):q - 1=(U*4294967296+u) / (y1*4294967296+y0):=by
 refine Int.le_antisymm (Int.le_ediv_of_mul_le hy ?_) hge
 have e1:(q - 1)*y0<=4294967296*4294967295:=Int.mul_le_mul (by omega) (by omega) h0.1 (by omega)
 rw[Int.mul_add,<-Int.mul_assoc,Int.sub_mul q 1 y1,Int.one_mul]
 omega
theorem PN {s:Nat} {a b:Nat} (h:b<2 ^ s):Nat.lor (a*2 ^ s) b=a*2 ^ s+b:=by
 have:=Nat.two_pow_add_eq_or_of_lt h a
 rw[Nat.mul_comm a]
 exact this.symm
theorem yB {α R:Type} {F:(α->Option R)->α->Option R} {J:Int->Option R} {U u y1 y0:Int} (enc:Int->Int->α) (dec:α->Int) (hdec:∀q r,dec (enc q r)=q)
  (hu:0<=u) (h0:0<=y0/\y0<4294967296) (h1:2147483648<=y1/\y1<4294967296) (hU0:0<=U) (hU:U*4294967296+u<(y1*4294967296+y0)*4294967296)
  (hF1:∀again q r,1<=q->q<=4294967297->0<=r->r<4294967296->(q>=4294967296\/q*y0>4294967296*r+u)->F again (enc q r)=bif decide (r+y1>=4294967296) then J (q - 1) else again (enc (q - 1) (r+y1)))
  (hF2:∀again q r,0<=q->q<4294967296->0<=r->r<4294967296->¬ q*y0>4294967296*r+u->F again (enc q r)=J q)
  {q r:Int} (hq:q*y1+r=U) (hq0:0<=q) (hq2:q<=4294967297) (hr0:0<=r) (hr1:r<4294967296) (hge:(U*4294967296+u) / (y1*4294967296+y0)<=q) :
  lpK α R F (enc q r)=J ((U*4294967296+u) / (y1*4294967296+y0)):=by
 have hD:0<=(U*4294967296+u) / (y1*4294967296+y0):=Int.ediv_nonneg (by omega) (by omega)
 refine kn (g:=fun _=>J ((U*4294967296+u) / (y1*4294967296+y0))) (I:=fun x=>∃q r,x=enc q r/\q*y1+r=U/\0<=q/\q<=4294967297/\0<=r/\r<4294967296/\(U*4294967296+u) / (y1*4294967296+y0)<=q) (μ:=fun x=>(dec x).toNat) ?_ ⟨q,r,rfl,hq,hq0,hq2,hr0,hr1,hge⟩ (by rw[hdec];omega)
 rintro _ rec ⟨q,r,rfl,hq,hq0,hq2,hr0,hr1,hge⟩ hrec
 have hy:0<y1*4294967296+y0:=by omega
 by_cases ht:q>=4294967296\/q*y0>4294967296*r+u
 ·have hl:=Gu hq hy hU ht
  rw[hF1 _ _ _ (by omega) hq2 hr0 hr1 ht]
  by_cases hr:r+y1>=4294967296
  ·rw[z7 hr,cond_true,Jy hq hu hy h0 hl hr ⟨by omega,hq2⟩]
  ·rw[z8 hr,cond_false]
   refine hrec _ ⟨q - 1,r+y1,rfl,?_,by omega,by omega,by omega,by omega,hl⟩ (by rw[hdec,hdec];omega)
   rw[Int.sub_mul,Int.one_mul];omega
 ·rw[not_or] at ht
  rw[hF2 _ _ _ hq0 (by omega) hr0 hr1 ht.2,<-Gs hq hu hy hge (by omega)]
theorem zV {U u y1 y0:Int} (hu:0<=u/\u<4294967296) (h0:0<=y0/\y0<4294967296) (h1:2147483648<=y1/\y1<4294967296) (hU0:0<=U) (hU:U<y1*4294967296+y0) :
  (U / y1)*y1+(U - U / y1*y1)=U/\0<=U / y1/\U / y1<=4294967297/\0<=U - U / y1*y1/\U - U / y1*y1<4294967296/\(U*4294967296+u) / (y1*4294967296+y0)<=U / y1:=by
 have e1:=Int.mul_ediv_add_emod U y1
 have e2:=Int.emod_nonneg U (show y1≠0 by omega)
 have e3:=Int.emod_lt_of_pos U (show 0<y1 by omega)
 rw[Int.mul_comm] at e1
 refine ⟨by omega,Int.ediv_nonneg hU0 (by omega),?_,by omega,by omega,?_⟩
 ·have:U / y1<4294967298:=Int.ediv_lt_of_lt_mul (by omega) (by omega)
  omega
 ·have:(U*4294967296+u) / (y1*4294967296+y0)<U / y1+1:=by
   refine Int.ediv_lt_of_lt_mul (by omega) ?_
   have hq:0<=U / y1:=Int.ediv_nonneg hU0 (by omega)
   have e4:0<=(U / y1+1)*y0:=Int.mul_nonneg (by omega) h0.1
   rw[Int.mul_add,<-Int.mul_assoc,Int.add_mul (U / y1) 1 y1,Int.one_mul]
   omega
  omega
def P8 (_ _ Y u0 P q1 un:Int) (q:Int):Option (Int×Int×Unit):=some (IntKind.wrap .u64 (IntKind.wrap .u64 (q1*4294967296)+q),Int.fdiv (IntKind.wrap .u64 (IntKind.wrap .u64 (IntKind.wrap .u64 (un*4294967296)+u0) - IntKind.wrap .u64 (q*Y))) P,())
def dv2 (y1 y0 Y u0 P q1 un:Int):Option (Int×Int×Unit):=lpK (Int×Int×PUnit) (Int×Int×PUnit) (fun again x=>bif (bif decide (x.2.1>=4294967296) then true else decide (IntKind.wrap .u64 (x.2.1*y0)>IntKind.wrap .u64 (IntKind.wrap .u64 (4294967296*x.1)+u0))) then
 (bif decide (IntKind.wrap .u64 (x.1+y1)>=4294967296) then P8 y1 y0 Y u0 P q1 un (IntKind.wrap .u64 (x.2.1 - 1)) else again (IntKind.wrap .u64 (x.1+y1),IntKind.wrap .u64 (x.2.1 - 1),PUnit.unit)) else P8 y1 y0 Y u0 P q1 un x.2.1)
 (IntKind.wrap .u64 (un - IntKind.wrap .u64 (IntKind.wrap .u64 (Int.tdiv un y1)*y1)),IntKind.wrap .u64 (Int.tdiv un y1),PUnit.unit)
theorem TX {y1 y0 u0 P q1 un:Int} (hu:0<=u0/\u0<4294967296) (h0:0<=y0/\y0<4294967296) (h1:2147483648<=y1/\y1<4294967296) (hU0:0<=un) (hU:un<y1*4294967296+y0) :
  dv2 y1 y0 (y1*4294967296+y0) u0 P q1 un=P8 y1 y0 (y1*4294967296+y0) u0 P q1 un ((un*4294967296+u0) / (y1*4294967296+y0)):=by
 obtain ⟨i1,i2,i3,i4,i5,i6⟩:=zV (U:=un) hu h0 h1 hU0 hU
 unfold dv2
 rw[Int.tdiv_eq_ediv_of_nonneg hU0]
 have hm:un / y1*y1<=un:=by omega
 have hm0:0<=un / y1*y1:=Int.mul_nonneg i2 (by omega)
 rw[bC (x:=un / y1) i2 (by omega),bC (x:=un / y1*y1) hm0 (by omega),bC (x:=un - un / y1*y1) (by omega) (by omega)]
 refine yB (α:=Int×Int×PUnit) (enc:=fun q r=>(r,q,PUnit.unit)) (dec:=fun x=>x.2.1) (fun _ _=>rfl) hu.1 h0 h1 hU0 (by omega) ?_ ?_ i1 i2 i3 i4 i5 i6
 ·intro again q r g1 g2 g3 g4 g5
  have e1:0<=q*y0:=Int.mul_nonneg (by omega) h0.1
  have e2:q*y0<=4294967297*4294967295:=Int.mul_le_mul g2 (by omega) h0.1 (by omega)
  simp only
  rw[bC (x:=q*y0) e1 (by omega),bC (x:=4294967296*r) (by omega) (by omega),bC (x:=4294967296*r+u0) (by omega) (by omega),bC (x:=r+y1) (by omega) (by omega),bC (x:=q - 1) (by omega) (by omega)]
  have e:(bif decide (q>=4294967296) then true else decide (q*y0>4294967296*r+u0))=true:=by
   rcases g5 with ht | ht
   ·rw[z7 ht];rfl
   ·rw[z7 ht];cases decide (q>=4294967296)<;>rfl
  rw[e,cT]
 ·intro again q r g1 g2 g3 g4 g5
  have e1:0<=q*y0:=Int.mul_nonneg (by omega) h0.1
  have e2:q*y0<=4294967297*4294967295:=Int.mul_le_mul (by omega) (by omega) h0.1 (by omega)
  simp only
  rw[bC (x:=q*y0) e1 (by omega),bC (x:=4294967296*r) (by omega) (by omega),bC (x:=4294967296*r+u0) (by omega) (by omega)]
  rw[z8 (show ¬ q>=4294967296 by omega),z8 g5,cF,cF]
def QL (y1 y0 Y u1 u0 P U:Int) (q1:Int):Option (Int×Int×Unit):=dv2 y1 y0 Y u0 P q1 (IntKind.wrap .u64 (IntKind.wrap .u64 (IntKind.wrap .u64 (U*4294967296)+u1) - IntKind.wrap .u64 (q1*Y)))
def dv1 (y1 y0 Y u1 u0 P U:Int):Option (Int×Int×Unit):=lpK (Int×Int×PUnit) (Int×Int×PUnit) (fun again x=>bif (bif decide (x.1>=4294967296) then true else decide (IntKind.wrap .u64 (x.1*y0)>IntKind.wrap .u64 (IntKind.wrap .u64 (4294967296*x.2.1)+u1))) then
 (bif decide (IntKind.wrap .u64 (x.2.1+y1)>=4294967296) then QL y1 y0 Y u1 u0 P U (IntKind.wrap .u64 (x.1 - 1)) else again (IntKind.wrap .u64 (x.1 - 1),IntKind.wrap .u64 (x.2.1+y1),PUnit.unit)) else QL y1 y0 Y u1 u0 P U x.1)
 (IntKind.wrap .u64 (Int.tdiv U y1),IntKind.wrap .u64 (U - IntKind.wrap .u64 (IntKind.wrap .u64 (Int.tdiv U y1)*y1)),PUnit.unit)
theorem TG {y1 y0 u1 u0 P U:Int} (hu:0<=u1/\u1<4294967296) (h0:0<=y0/\y0<4294967296) (h1:2147483648<=y1/\y1<4294967296) (hU0:0<=U) (hU:U<y1*4294967296+y0) :
  dv1 y1 y0 (y1*4294967296+y0) u1 u0 P U=QL y1 y0 (y1*4294967296+y0) u1 u0 P U ((U*4294967296+u1) / (y1*4294967296+y0)):=by
 obtain ⟨i1,i2,i3,i4,i5,i6⟩:=zV (U:=U) hu h0 h1 hU0 hU
 unfold dv1
 rw[Int.tdiv_eq_ediv_of_nonneg hU0]
 have hm:U / y1*y1<=U:=by omega
 have hm0:0<=U / y1*y1:=Int.mul_nonneg i2 (by omega)
 rw[bC (x:=U / y1) i2 (by omega),bC (x:=U / y1*y1) hm0 (by omega),bC (x:=U - U / y1*y1) (by omega) (by omega)]
 refine yB (α:=Int×Int×PUnit) (enc:=fun q r=>(q,r,PUnit.unit)) (dec:=fun x=>x.1) (fun _ _=>rfl) hu.1 h0 h1 hU0 (by omega) ?_ ?_ i1 i2 i3 i4 i5 i6
 ·intro again q r g1 g2 g3 g4 g5
  have e1:0<=q*y0:=Int.mul_nonneg (by omega) h0.1
  have e2:q*y0<=4294967297*4294967295:=Int.mul_le_mul g2 (by omega) h0.1 (by omega)
  simp only
  rw[bC (x:=q*y0) e1 (by omega),bC (x:=4294967296*r) (by omega) (by omega),bC (x:=4294967296*r+u1) (by omega) (by omega),bC (x:=r+y1) (by omega) (by omega),bC (x:=q - 1) (by omega) (by omega)]
  have e:(bif decide (q>=4294967296) then true else decide (q*y0>4294967296*r+u1))=true:=by
   rcases g5 with ht | ht
   ·rw[z7 ht];rfl
   ·rw[z7 ht];cases decide (q>=4294967296)<;>rfl
  rw[e,cT]
 ·intro again q r g1 g2 g3 g4 g5
  have e1:0<=q*y0:=Int.mul_nonneg (by omega) h0.1
  have e2:q*y0<=4294967297*4294967295:=Int.mul_le_mul (by omega) (by omega) h0.1 (by omega)
  simp only
  rw[bC (x:=q*y0) e1 (by omega),bC (x:=4294967296*r) (by omega) (by omega),bC (x:=4294967296*r+u1) (by omega) (by omega)]
  rw[z8 (show ¬ q>=4294967296 by omega),z8 g5,cF,cF]
theorem Vp {U W Y P:Nat} (hY:9223372036854775808<=Y) (hY2:Y<18446744073709551616) (hW:W<18446744073709551616) (hU:U<Y) :
  dv1 ((Y:Int) / 4294967296) ((Y:Int) % 4294967296) (Y:Int) ((W:Int) / 4294967296) ((W:Int) % 4294967296) (P:Int) (U:Int)=some ((((U*18446744073709551616+W) / Y:Nat):Int),(((U*18446744073709551616+W) % Y / P:Nat):Int),()):=by
 have eY:(Y:Int) / 4294967296*4294967296+(Y:Int) % 4294967296=Y:=by omega
 have h1:=TG (y1:=(Y:Int) / 4294967296) (y0:=(Y:Int) % 4294967296) (u1:=(W:Int) / 4294967296) (u0:=(W:Int) % 4294967296) (P:=(P:Int)) (U:=(U:Int)) (by omega) (by omega) (by omega) (by omega) (by omega)
 rw[eY] at h1
 rw[h1]
 unfold QL
 obtain ⟨A,hA⟩:∃A:Nat,A=U*4294967296+W / 4294967296:=⟨_,rfl⟩
 have hAi:(U:Int)*4294967296+(W:Int) / 4294967296=(A:Int):=by omega
 rw[hAi]
 have hq1:A / Y<4294967296:=(Nat.div_lt_iff_lt_mul (by omega)).2 (by omega)
 have d1:=Nat.div_add_mod A Y
 have d2:=Nat.mod_lt A (show Y>0 by omega)
 rw[show (A:Int) / (Y:Int)=((A / Y:Nat):Int) from rfl]
 have hun:IntKind.wrap .u64 (IntKind.wrap .u64 (IntKind.wrap .u64 ((U:Int)*4294967296)+(W:Int) / 4294967296) - IntKind.wrap .u64 (((A / Y:Nat):Int)*(Y:Int)))=((A % Y:Nat):Int):=by
  rw[<-Int.natCast_mul,Nat.mul_comm (A / Y)]
  generalize A / Y=q1 at *
  generalize Y*q1=m at *
  rw[IntKind.wrap_u64,IntKind.wrap_u64,IntKind.wrap_u64,IntKind.wrap_u64]
  omega
 rw[hun]
 have h2:=TX (y1:=(Y:Int) / 4294967296) (y0:=(Y:Int) % 4294967296) (u0:=(W:Int) % 4294967296) (P:=(P:Int)) (q1:=((A / Y:Nat):Int)) (un:=((A % Y:Nat):Int)) (by omega) (by omega) (by omega) (by omega) (by omega)
 rw[eY] at h2
 rw[h2]
 unfold P8
 obtain ⟨B,hB⟩:∃B:Nat,B=A % Y*4294967296+W % 4294967296:=⟨_,rfl⟩
 have hBi:((A % Y:Nat):Int)*4294967296+(W:Int) % 4294967296=(B:Int):=by omega
 rw[hBi,show (B:Int) / (Y:Int)=((B / Y:Nat):Int) from rfl]
 have hq0:B / Y<4294967296:=(Nat.div_lt_iff_lt_mul (by omega)).2 (by omega)
 have d3:=Nat.div_add_mod B Y
 have d4:=Nat.mod_lt B (show Y>0 by omega)
 have hN:U*18446744073709551616+W=(A / Y*4294967296+B / Y)*Y+B % Y:=by
  rw[Nat.add_mul,Nat.mul_right_comm,Nat.mul_comm (A / Y),Nat.mul_comm (B / Y)]
  omega
 obtain ⟨n1,n2⟩:=Bn d4 hN
 rw[n1,n2]
 have hrest:IntKind.wrap .u64 (IntKind.wrap .u64 (IntKind.wrap .u64 (((A % Y:Nat):Int)*4294967296)+(W:Int) % 4294967296) - IntKind.wrap .u64 (((B / Y:Nat):Int)*(Y:Int)))=((B % Y:Nat):Int):=by
  rw[<-Int.natCast_mul,Nat.mul_comm (B / Y)]
  generalize B / Y=q0 at *
  generalize Y*q0=m at *
  generalize A % Y=r1 at *
  rw[IntKind.wrap_u64,IntKind.wrap_u64,IntKind.wrap_u64,IntKind.wrap_u64]
  omega
 rw[hrest,qC (by omega)]
 generalize A / Y=q1 at *
 generalize B / Y=q0 at *
 rw[bC (x:=(q1:Int)*4294967296) (by omega) (by omega),bC (by omega) (by omega)]
 rfl
theorem Dz (m n:Nat):Int.tmod (m:Int) (n:Int)=((m % n:Nat):Int):=by
 rw[Int.tmod_eq_emod_of_nonneg (by omega)]
 rfl
theorem jnT {α R:Type} (j:α->Option R) (f:(α->Option R)->Option R):jnK α R j f=f j:=Eq.trans rfl rfl
theorem zd {h l y:Nat} (hy:h<y) (hy2:y<18446744073709551616) (hl0:l<18446744073709551616):bS (h:Int) (l:Int) (y:Int)=some ((((h*18446744073709551616+l) / y:Nat):Int),(((h*18446744073709551616+l) % y:Nat):Int),()):=by
 simp only[bS,pU,jnT]
 rw[z8 (show ¬ (y:Int)=0 by omega),cF,z8 (show ¬ (y:Int)<=(h:Int) by omega),cF]
 have hz:nzB (y:Int)=true:=ng (by omega)
 by_cases h0:h=0
 ·subst h0
  rw[z7 (show ((0:Nat):Int)=0 from rfl),cT,hz,cT,cT,lU,Dz,Nat.zero_mul,Nat.zero_add]
  have:=Nat.div_le_self l y
  generalize l / y=d at *
  rw[bC (by omega) (by omega)]
 ·rw[z8 (show ¬ (h:Int)=0 by omega),cF]
  obtain ⟨L,e1,⟨e2,e3⟩,e4⟩:=KU (n:=y) (by omega) hy2
  simp only[cV,iB,e1,af]
  rw[aO (x:=64 - (L:Int)) (by omega) (by omega)]
  obtain ⟨s,hs⟩:∃s:Nat,L+s=64:=⟨64 - L,by omega⟩
  have w1:IntKind.wrap .u64 (64 - (L:Int))=(s:Int):=by rw[bC (by omega) (by omega)];omega
  have w2:IntKind.wrap .u64 (64 - (s:Int))=(L:Int):=by rw[bC (by omega) (by omega)];omega
  have p2:∀k:Nat,(2:Int) ^ k=((2 ^ k:Nat):Int):=fun k=>by rw[Int.natCast_pow];rfl
  have p32:(2:Int) ^ (32:Nat)=4294967296:=by decide
  simp only[w1,w2,z9,Nat.min_eq_left (show s<=64 by omega),Nat.min_eq_left (show L<=64 by omega),p32]
  simp only[p2]
  have hPQ:2 ^ s*2 ^ L=18446744073709551616:=by rw[<-Nat.pow_add,show s+L=64 by omega]
  have hP:0<2 ^ s:=Nat.two_pow_pos s
  have hQ:0<2 ^ L:=Nat.two_pow_pos L
  have hYlt:y*2 ^ s<18446744073709551616:=by rw[<-hPQ,Nat.mul_comm (2 ^ s)];exact Nat.mul_lt_mul_of_pos_right e2 hP
  have hYge:9223372036854775808<=y*2 ^ s:=by
   have:=Nat.mul_le_mul_right (2 ^ s) e3
   rw[Nat.mul_comm (2 ^ L),hPQ,Nat.mul_assoc] at this
   omega
  have hhP:h*2 ^ s+2 ^ s<=y*2 ^ s:=by rw[<-Nat.succ_mul];exact Nat.mul_le_mul_right _ hy
  have hlQ:l / 2 ^ L<2 ^ s:=by rw[Nat.div_lt_iff_lt_mul hQ,hPQ];exact hl0
  have hlor:IntKind.wrap .u64 ((Nat.lor (Int.toNat (IntKind.wrap .u64 ((h:Int)*((2 ^ s:Nat):Int)) % Int.ofNat 18446744073709551616)) (Int.toNat (Int.fdiv (l:Int) ((2 ^ L:Nat):Int) % Int.ofNat 18446744073709551616)):Nat):Int)=((h*2 ^ s+l / 2 ^ L:Nat):Int):=by
   have a1:IntKind.wrap .u64 ((h:Int)*((2 ^ s:Nat):Int))=((h*2 ^ s:Nat):Int):=by rw[<-Int.natCast_mul,bC (by omega) (by omega)]
   have a2:Int.fdiv (l:Int) ((2 ^ L:Nat):Int)=((l / 2 ^ L:Nat):Int):=by rw[qC (by omega)];rfl
   have a3:∀n:Nat,n<18446744073709551616->Int.toNat ((n:Int) % Int.ofNat 18446744073709551616)=n:=fun n hn=>by
    rw[show Int.ofNat 18446744073709551616=(18446744073709551616:Int) from rfl];omega
   rw[a1,a2,a3 (h*2 ^ s) (by omega),a3 (l / 2 ^ L) (by omega),PN hlQ]
   exact bC (Int.natCast_nonneg _) (by
    have h5:h*2 ^ s+l / 2 ^ L<18446744073709551616:=by omega
    exact Int.ofNat_lt.2 h5)
  have hlo:IntKind.wrap .u64 ((l:Int)*((2 ^ s:Nat):Int))=((l % 2 ^ L*2 ^ s:Nat):Int):=by
   rw[<-Int.natCast_mul,IntKind.wrap_u64]
   have a1:l*2 ^ s=(l / 2 ^ L)*18446744073709551616+l % 2 ^ L*2 ^ s:=by
    rw[<-hPQ,Nat.mul_comm (2 ^ s),<-Nat.mul_assoc,<-Nat.add_mul,Nat.mul_comm (l / 2 ^ L),Nat.div_add_mod]
   have a2:l % 2 ^ L*2 ^ s<18446744073709551616:=by rw[<-hPQ,Nat.mul_comm (2 ^ s)];exact Nat.mul_lt_mul_of_pos_right (Nat.mod_lt _ hQ) hP
   rw[a1]
   generalize l / 2 ^ L=A at *
   generalize l % 2 ^ L*2 ^ s=B at *
   omega
  have hlolt:l % 2 ^ L*2 ^ s<18446744073709551616:=by rw[<-hPQ,Nat.mul_comm (2 ^ s)];exact Nat.mul_lt_mul_of_pos_right (Nat.mod_lt _ hQ) hP
  have hN:(h*18446744073709551616+l)*2 ^ s=(h*2 ^ s+l / 2 ^ L)*18446744073709551616+l % 2 ^ L*2 ^ s:=by
   have a1:l*2 ^ s=(l / 2 ^ L)*18446744073709551616+l % 2 ^ L*2 ^ s:=by
    rw[<-hPQ,Nat.mul_comm (2 ^ s),<-Nat.mul_assoc,<-Nat.add_mul,Nat.mul_comm (l / 2 ^ L),Nat.div_add_mod]
   rw[Nat.add_mul,a1,Nat.add_mul,Nat.mul_right_comm]
   omega
  have hY:IntKind.wrap .u64 ((y:Int)*((2 ^ s:Nat):Int))=((y*2 ^ s:Nat):Int):=by rw[<-Int.natCast_mul,bC (by omega) (by omega)]
  have hdiv:(h*18446744073709551616+l) / y=((h*2 ^ s+l / 2 ^ L)*18446744073709551616+l % 2 ^ L*2 ^ s) / (y*2 ^ s):=by rw[<-hN,Nat.mul_div_mul_right _ _ hP]
  have hmod:((h*18446744073709551616+l) % y)*2 ^ s=((h*2 ^ s+l / 2 ^ L)*18446744073709551616+l % 2 ^ L*2 ^ s) % (y*2 ^ s):=by rw[<-hN,Nat.mul_mod_mul_right]
  rw[hlor,hlo,hY]
  have hU:h*2 ^ s+l / 2 ^ L<y*2 ^ s:=by omega
  have hm:(h*18446744073709551616+l) % y=((h*2 ^ s+l / 2 ^ L)*18446744073709551616+l % 2 ^ L*2 ^ s) % (y*2 ^ s) / 2 ^ s:=by rw[<-hmod,Nat.mul_div_cancel _ hP]
  rw[hdiv,hm]
  generalize h*2 ^ s+l / 2 ^ L=U at *
  generalize l % 2 ^ L*2 ^ s=W at *
  generalize y*2 ^ s=Y at *
  generalize 2 ^ s=P at *
  clear e2 e3 e1 hlor hlo hN hdiv hmod hm hlQ hPQ hhP hY
  have hdv:=Vp (P:=P) hYge hYlt hlolt hU
  rw[<-hdv]
  have c1:decide ((0:Int)<=(s:Int))=true:=z7 (by omega)
  have c2:decide ((0:Int)<=(L:Int))=true:=z7 (by omega)
  have c3:decide ((0:Int)<=(32:Int))=true:=rfl
  have c4:nzB ((Y:Int) / 4294967296)=true:=ng (by omega)
  have m1:∀n:Nat,n<18446744073709551616->IntKind.wrap .u64 ((Nat.land (Int.toNat ((n:Int) % Int.ofNat 18446744073709551616)) (Int.toNat ((4294967295:Int) % Int.ofNat 18446744073709551616)):Nat):Int)=(n:Int) % 4294967296:=fun n hn=>by
   rw[CS (by omega) (by omega),bC (by omega) (by omega)]
  simp only[qC (show (0:Int)<=4294967296 by omega),c1,c2,c3,c4,m1 Y hYlt,m1 W hlolt,fk,Bool.not_not,Bool.and_self,cT]
  rfl
end
end Go.Proofs.YtegbncajloeepaaGreat

namespace Go.Proofs.YtegbncajloeepaaGreat
open Tryz Dn Dn.Sh
theorem HU {n b:Nat} (hb0:0<b) (hb:b<18446744073709551616) (hn:n<340282366920938463463374607431768211456):eC (hl n) (b:Int)=some (hl (n / b),((n % b:Nat):Int),()):=by
 have hz:nzB (b:Int)=true:=ng (by omega)
 obtain ⟨h,l,hh,hl',hnn⟩:∃h l:Nat,h=n / 18446744073709551616/\l=n % 18446744073709551616/\n=h*18446744073709551616+l:=⟨_,_,rfl,rfl,by omega⟩
 have e:hl n=((h:Int),(l:Int)):=by unfold hl;rw[hh,hl']
 rw[e]
 simp only[eC,pR]
 rw[hz,Dz,zd (Nat.mod_lt h hb0) hb (by omega),af]
 have d1:=Nat.div_add_mod h b
 have d2:=Nat.mod_lt h hb0
 obtain ⟨A,hA⟩:∃A,A=h % b*18446744073709551616+l:=⟨_,rfl⟩
 rw[<-hA]
 have d3:=Nat.div_add_mod A b
 have d4:=Nat.mod_lt A hb0
 have d5:A / b<18446744073709551616:=(Nat.div_lt_iff_lt_mul hb0).2 (by
  have:(h % b+1)*18446744073709551616<=b*18446744073709551616:=Nat.mul_le_mul_right _ d2
  rw[Nat.mul_comm 18446744073709551616 b]
  omega)
 have hN:n=(h / b*18446744073709551616+A / b)*b+A % b:=by
  have e1:(h / b*18446744073709551616+A / b)*b=b*(h / b)*18446744073709551616+b*(A / b):=by grind
  rw[e1,hnn]
  generalize b*(h / b)=x at *
  generalize b*(A / b)=y at *
  generalize A % b=r at *
  generalize h % b=r1 at *
  clear e hz hb0 hb hn hh hl' hnn d5 e1
  omega
 obtain ⟨n1,n2⟩:=Bn d4 hN
 rw[n1,n2,lU]
 have d6:h / b<18446744073709551616:=Nat.lt_of_le_of_lt (Nat.div_le_self h b) (by omega)
 generalize h / b=x at *
 generalize A / b=y at *
 rw[bC (x:=(x:Int)) (by omega) (by omega)]
 unfold hl
 rw[show (x*18446744073709551616+y) / 18446744073709551616=x by omega,show (x*18446744073709551616+y) % 18446744073709551616=y by omega]
 rfl
theorem Ht {na nb:Int} {da A B:Nat} (ha:Nat.gcd na.natAbs da=1) (hA:A∣da) (hAB:Nat.gcd A B=1):Nat.gcd (na*B+nb*A).natAbs A=1:=by
 have d1:=Nat.gcd_dvd_left (na*B+nb*A).natAbs A
 have d2:=Nat.gcd_dvd_right (na*B+nb*A).natAbs A
 generalize Nat.gcd (na*B+nb*A).natAbs A=d at *
 have e1:(d:Int)∣na*B+nb*A:=Int.ofNat_dvd_left.2 d1
 have e2:(d:Int)∣nb*A:=Int.dvd_mul_of_dvd_right (Int.ofNat_dvd.2 d2)
 have e3:(d:Int)∣na*B:=(Int.dvd_iff_dvd_of_dvd_add e1).2 e2
 have e4:d∣na.natAbs*B:=by
  have:=Int.ofNat_dvd_left.1 e3
  rwa [Int.natAbs_mul,Int.natAbs_natCast] at this
 have e5:Nat.Coprime d na.natAbs:=(Nat.Coprime.coprime_dvd_right (Nat.dvd_trans d2 hA) ha).symm
 have e6:d∣B:=Nat.Coprime.dvd_of_dvd_mul_left e5 e4
 have e7:=Nat.dvd_gcd d2 e6
 rw[hAB] at e7
 exact Nat.dvd_one.1 e7
theorem I8 {na nb:Int} {da db g A B:Nat} (ha:Nat.gcd na.natAbs da=1) (hb:Nat.gcd nb.natAbs db=1) (h1:da=A*g) (h2:db=B*g) (hAB:Nat.gcd A B=1) (hg:0<g) (hA:0<A) (hB:0<B) {c:Nat} (hc:c=Nat.gcd g (na*B+nb*A).natAbs) :
  mkRat na da+mkRat nb db=mkRat (na*B+nb*A) (A*db)/\Nat.gcd ((na*B+nb*A).natAbs / c) (A*(db / c))=1/\0<c/\c∣(na*B+nb*A).natAbs/\c∣db:=by
 have hc0:0<c:=by rw[hc];exact Nat.gcd_pos_of_pos_left _ hg
 have k1:Nat.gcd (na*B+nb*A).natAbs A=1:=Ht ha ⟨g,h1⟩ hAB
 have k2:Nat.gcd (na*B+nb*A).natAbs B=1:=by
  rw[Int.add_comm]
  exact Ht hb ⟨g,h2⟩ (by rw[Nat.gcd_comm];exact hAB)
 have c1:c∣(na*B+nb*A).natAbs:=by rw[hc];exact Nat.gcd_dvd_right _ _
 have c2:c∣g:=by rw[hc];exact Nat.gcd_dvd_left _ _
 refine ⟨?_,?_,hc0,c1,by rw[h2];exact Nat.dvd_trans c2 (Nat.dvd_mul_left g B)⟩
 ·have p1:0<A*g:=Nat.mul_pos hA hg
  have p2:0<B*g:=Nat.mul_pos hB hg
  have p3:0<A*(B*g):=Nat.mul_pos hA p2
  rw[Rat.mkRat_add_mkRat _ _ (by omega) (by omega),h1,h2,Rat.mkRat_eq_iff (Nat.ne_of_gt (Nat.mul_pos p1 p2)) (by omega)]
  simp only[Int.natCast_mul]
  grind
 ·have c3:Nat.gcd ((na*B+nb*A).natAbs / c) (g / c)=1:=by
   rw[hc,Nat.gcd_comm]
   exact Nat.gcd_div_gcd_div_gcd_of_pos_left hg
  have hdb:db / c=B*(g / c):=by rw[h2,Nat.mul_div_assoc _ c2]
  have dv:(na*B+nb*A).natAbs / c∣(na*B+nb*A).natAbs:=Nat.div_dvd_of_dvd c1
  rw[hdb]
  exact Nat.Coprime.mul_right (Nat.Coprime.coprime_dvd_left dv k1) (Nat.Coprime.mul_right (Nat.Coprime.coprime_dvd_left dv k2) c3)
theorem TK {a b:Fq} (ha:okF a) (hb:okF b):cK a b=some (xE (qv a+qv b)):=by
 obtain ⟨na,da'⟩:=a
 obtain ⟨nb,db'⟩:=b
 have ha':=ha
 have hb':=hb
 unfold okF at ha' hb'
 simp only at ha' hb'
 obtain ⟨⟨a1,a2⟩,⟨a3,a4⟩,a5⟩:=ha'
 obtain ⟨⟨b1,b2⟩,⟨b3,b4⟩,b5⟩:=hb'
 obtain ⟨da,rfl⟩:∃da:Nat,da'=da:=⟨da'.toNat,by omega⟩
 obtain ⟨db,rfl⟩:∃db:Nat,db'=db:=⟨db'.toNat,by omega⟩
 rw[Int.natAbs_natCast] at a5 b5
 simp only[cK,so,ra,z7 ha,z7 hb,af,Bool.not_true,Bool.not_false,Bool.or_true,cT,cF,jnT]
 rw[bC (x:=(da:Int)) (by omega) (by omega),bC (x:=(db:Int)) (by omega) (by omega),wE _ _ (by omega),af,ly (by omega) (by omega),af,ly (by omega) (by omega)]
 have hg:0<Nat.gcd da db:=Nat.gcd_pos_of_pos_left _ (by omega)
 have hgl:Nat.gcd da db<=da:=Nat.gcd_le_left _ (by omega)
 obtain ⟨A,hA⟩:∃A,A=da / Nat.gcd da db:=⟨_,rfl⟩
 obtain ⟨B,hB⟩:∃B,B=db / Nat.gcd da db:=⟨_,rfl⟩
 have hAg:da=A*Nat.gcd da db:=by rw[hA,Nat.div_mul_cancel (Nat.gcd_dvd_left _ _)]
 have hBg:db=B*Nat.gcd da db:=by rw[hB,Nat.div_mul_cancel (Nat.gcd_dvd_right _ _)]
 have hAB:Nat.gcd A B=1:=by rw[hA,hB];exact Nat.gcd_div_gcd_div_gcd_of_pos_left (by omega)
 have hA0:0<A:=by rw[hA];exact Nat.div_pos (Nat.gcd_le_left _ (by omega)) hg
 have hB0:0<B:=by rw[hB];exact Nat.div_pos (Nat.gcd_le_right _ (by omega)) hg
 have hAl:A<=da:=by rw[hA];exact Nat.div_le_self _ _
 have hBl:B<=db:=by rw[hB];exact Nat.div_le_self _ _
 have hz:nzB ((Nat.gcd da db:Nat):Int)=true:=ng (by omega)
 rw[hz,cT,lU,lU,<-hA,<-hB,bC (x:=(A:Int)) (by omega) (by omega),bC (x:=(B:Int)) (by omega) (by omega)]
 have x1:na.natAbs*B<=1152921504606846976*1152921504606846976:=Nat.mul_le_mul (by omega) (by omega)
 have y1:nb.natAbs*A<=1152921504606846976*1152921504606846976:=Nat.mul_le_mul (by omega) (by omega)
 rw[jE (by omega) (by omega),af,af,cT,jE (by omega) (by omega),af]
 have hsum:=I8 (na:=na) (nb:=nb) a5 b5 hAg hBg hAB hg hA0 hB0 rfl
 generalize Nat.gcd da db=g at *
 have hv:qv (na,(da:Int))+qv (nb,(db:Int))=mkRat na da+mkRat nb db:=rfl
 rw[hv,hsum.1]
 simp only[fk,Bool.not_not,cT]
 have tail:∀(s:Bool) (N:Nat),N<=2658455991569831745807614120560689152->sgn s N=na*B+nb*A->(bif decide ((hl N).1=0)&&(decide ((hl N).2=0)&&true) then some (((0:Int),(1:Int)),(0:Int),PUnit.unit) else
   ah (eC (hl N) (g:Int)) fun t_5=>ah (bE (g:Int) t_5.2.1) fun t_1=>ah (eC (hl N) t_1) fun t_6=>bif nzB t_1 then ah (aK (A:Int) (IntKind.wrap .u64 (Int.tdiv (db:Int) t_1))) fun t =>
    bif bif decide (t_6.1.1>0) then true else decide (t.1>0) then some (((0:Int),(0:Int)),(5:Int),PUnit.unit) else ah (bo s t_6.1.2 t.2) fun t=>some (t.1,t.2.1,PUnit.unit) else none)=some (xE (mkRat (na*B+nb*A) (A*db))):=by
  intro s N hN hs
  have hNT:(na*B+nb*A).natAbs=N:=by rw[<-hs];unfold sgn;split<;>simp
  rw[hNT] at hsum
  rw[Di (by omega)]
  by_cases h0:N=0
  ·rw[z7 h0,cT,<-hs,h0,show sgn s 0=0 by unfold sgn;cases s<;>rfl,Rat.zero_mkRat]
   rfl
  ·obtain ⟨c,hc⟩:∃c,c=Nat.gcd g N:=⟨_,rfl⟩
   rw[<-hc] at hsum
   obtain ⟨_,s2,s3,s4,s5⟩:=hsum
   have hcg:c<=g:=by rw[hc];exact Nat.gcd_le_left _ hg
   rw[z8 h0,cF,HU hg (by omega) (by omega),af,wE _ _ (by have:=Nat.mod_lt N hg;generalize N % g=w at *;omega),af,Nat.gcd_comm,<-Nat.gcd_rec,<-hc,HU s3 (by omega) (by omega),af,ng (by omega),cT,lU]
   have hdc:db / c<=db:=Nat.div_le_self _ _
   have hdc0:0<db / c:=Nat.div_pos (Nat.le_of_dvd (by omega) s5) s3
   rw[bC (by omega) (by generalize db / c=w at *;omega),jE (by omega) (by generalize db / c=w at *;omega),af]
   have hNc:N / c<=N:=Nat.div_le_self _ _
   have hval:mkRat (na*B+nb*A) (A*db)=mkRat (sgn s (N / c)) (A*(db / c)):=by
    rw[<-hs]
    refine Bl (Nat.mul_pos hA0 (by omega)) (Nat.mul_pos hA0 hdc0) ?_
    obtain ⟨x,rfl⟩:=s4
    obtain ⟨y,rfl⟩:=s5
    rw[Nat.mul_div_cancel_left _ s3,Nat.mul_div_cancel_left _ s3]
    grind
   rw[hval,C7 (Nat.mul_pos hA0 hdc0) s2]
   have hden:A*(db / c)<=1152921504606846976*1152921504606846976:=Nat.mul_le_mul (by omega) (by omega)
   generalize N / c=n at *
   generalize A*(db / c)=d at *
   by_cases hn:n<18446744073709551616
   ·by_cases hd:d<18446744073709551616
    ·rw[lV hn,lV hd]
     simp only
     rw[show decide ((0:Int)>0)=false from rfl,cF,cF,wj _ _ _ hn hd,af]
    ·rw[lV hn]
     simp only
     rw[show decide ((0:Int)>0)=false from rfl,z7 (Dr hd),cF,cT,if_neg (by omega)]
   ·rw[z7 (Dr hn),cT,cT,if_neg (by omega)]
 have sx:∀{n:Int} {s:Bool},s=decide (n<0)->n=sgn s n.natAbs:=fun {n s} h=>by rw[h];exact pn n
 by_cases hsg:decide (na<0)=decide (nb<0)
 ·rw[z7 hsg,cT,EL (by omega),af]
  refine tail _ _ (by omega) ?_
  have e1:na=sgn (decide (na<0)) na.natAbs:=pn na
  have e2:nb=sgn (decide (na<0)) nb.natAbs:=by rw[hsg];exact pn nb
  generalize na.natAbs=m at *
  generalize nb.natAbs=n at *
  generalize decide (na<0)=s at *
  rw[e1,e2]
  unfold sgn
  cases s
  ·simp only[Bool.false_eq_true,if_false]
   rw[Int.natCast_add,Int.natCast_mul,Int.natCast_mul]
  ·simp only[if_true]
   rw[Int.natCast_add,Int.natCast_mul,Int.natCast_mul]
   grind
 ·have e1:na=sgn (decide (na<0)) na.natAbs:=pn na
  have e2:nb=sgn (!decide (na<0)) nb.natAbs:=by
   have:(!decide (na<0))=decide (nb<0):=by
    clear tail sx hsum hv ha hb
    revert hsg
    cases decide (na<0)<;>cases decide (nb<0)<;>simp
   rw[this];exact pn nb
  rw[z8 hsg,cF,yU,af]
  by_cases hlt:na.natAbs*B<nb.natAbs*A
  ·rw[z7 hlt,cT,wB (by omega) (by omega),af]
   refine tail _ _ (by omega) ?_
   generalize na.natAbs=m at *
   generalize nb.natAbs=n at *
   generalize decide (na<0)=s at *
   rw[e1,e2]
   have e3:(((n*A - m*B:Nat)):Int)=(n:Int)*A - (m:Int)*B:=by rw[Int.ofNat_sub (Nat.le_of_lt hlt),Int.natCast_mul,Int.natCast_mul]
   unfold sgn
   cases s
   ·simp only[Bool.false_eq_true,if_false,Bool.not_false,if_true]
    grind
   ·simp only[if_true,Bool.not_true,Bool.false_eq_true,if_false]
    grind
  ·rw[z8 hlt,cF,wB (by omega) (by omega),af]
   refine tail _ _ (by omega) ?_
   generalize na.natAbs=m at *
   generalize nb.natAbs=n at *
   generalize decide (na<0)=s at *
   rw[e1,e2]
   have e3:(((m*B - n*A:Nat)):Int)=(m:Int)*B - (n:Int)*A:=by rw[Int.ofNat_sub (Nat.not_lt.1 hlt),Int.natCast_mul,Int.natCast_mul]
   unfold sgn
   cases s
   ·simp only[Bool.false_eq_true,if_false,Bool.not_false,if_true]
    grind
   ·simp only[if_true,Bool.not_true,Bool.false_eq_true,if_false]
    grind
end Go.Proofs.YtegbncajloeepaaGreat

namespace Go.Proofs.YtegbncajloeepaaGreat
namespace Dn
theorem lh {σ α R:Type} {F:(α->Option R)->α->Option R} (n:Nat) (hn:n<=1180591620717411303423) (enc:Nat->σ->α) (b:Nat->σ->(σ->Option R)->Option R) (f:σ->Option R)
  (hb:∀again (i:Nat) s,i<n->F again (enc i s)=b i s (fun s'=>again (enc (i+1) s'))) (hf:∀again s,F again (enc n s)=f s) (s:σ) :
  lpK α R F (enc 0 s)=upF b f n 0 s:=L8 n hn enc b f hb hf s
def jG {α:Type} (p:α->Bool):List α->Int->Int
 | [],_=> -1
 | a ::l,i=>bif p a then i else jG p l (i+1)
theorem zn {α:Type} {p:α->Bool}:∀{l:List α} {i:Int},0<=i->(jG p l i<0↔∀a ∈ l,p a=false)
 | [],i,h=>by simp[jG]
 | a ::l,i,h=>by
  unfold jG
  cases hp:p a with
  | true=>simp only[cond_true,List.mem_cons,forall_eq_or_imp,hp];simp;omega
  | false=>simp only[cond_false,List.mem_cons,forall_eq_or_imp,hp,true_and];exact zn (by omega)
theorem IU {α:Type} {p:α->Bool} {l:List α} {d:α} {i:Nat} (h:i<l.length):jG p (l.drop i) i=bif p (l.getD i d) then (i:Int) else jG p (l.drop (i+1)) ((i:Int)+1):=by
 rw[List.drop_eq_getElem_cons h,bf h]
 rfl
theorem Il {α:Type} {p:α->Bool} {d:α}:∀{l:List α} {i:Int},0<=i->0<=jG p l i->i<=jG p l i/\jG p l i<i+l.length/\p (l.getD (jG p l i - i).toNat d)=true
 | [],i,_,h=>by simp[jG] at h
 | a ::l,i,hi,h=>by
  unfold jG at h ⊢
  cases hp:p a with
  | true=>simp[hp];omega
  | false =>
   rw[hp,cond_false] at h
   obtain ⟨h1,h2,h3⟩:=Il (d:=d) (show 0<=i+1 by omega) h
   rw[cond_false]
   refine ⟨by omega,by simp only[List.length_cons];omega,?_⟩
   have e:(jG p l (i+1) - i).toNat=(jG p l (i+1) - (i+1)).toNat+1:=by omega
   rw[e,List.getD_cons_succ]
   exact h3
theorem lj {α:Type} {f:(α×Unit)->Option Bool} {d:α} {p:α->Bool} {l:List α} (hl:l.length<=1000000) (h:∀a,a ∈ l->f (a,())=some (p a)) :
  lpK (Int×PUnit) Int (fun (again:Int×PUnit->Option Int) (x:Int×PUnit)=>bif decide (x.1<(↑(List.length l):Int)) then bif inB x.1 (List.length l) then ah (f
   (List.getD l (Int.toNat x.1) d,PUnit.unit)) fun (t:Bool)=>bif t then some x.1 else again
   (IntKind.wrap .i64 (x.1+(1:Int)),PUnit.unit) else none else some (-1:Int)) ((0:Int),PUnit.unit)=some (jG p l 0):=by
 refine kn (g:=fun _=>some (jG p l 0)) (I:=fun (x:Int×PUnit)=>0<=x.1/\x.1<=l.length/\jG p (l.drop x.1.toNat) x.1=jG p l 0) (μ:=fun (x:Int×PUnit)=>((l.length:Int) - x.1).toNat) ?_ ⟨by simp,by simp only;omega,rfl⟩ (by simp only;omega)
 rintro ⟨i,_⟩ rec ⟨h0,h1,h2⟩ hrec
 simp only at h0 h1 h2 ⊢
 by_cases hi:i<l.length
 ·obtain ⟨n,rfl⟩:∃n:Nat,i=n:=⟨i.toNat,by omega⟩
  rw[z7 hi,cond_true,ul h0 hi,cond_true,z9,h _ (by rw[bf (by omega)];exact List.getElem_mem (by omega)),af,aO (by omega) (by omega)]
  rw[z9,IU (d:=d) (by omega)] at h2
  cases hp:p (l.getD n d) with
  | true=>rw[hp,cond_true] at h2;rw[cond_true,h2]
  | false=>rw[hp,cond_false] at h2;rw[cond_false];exact hrec _ ⟨by simp only;omega,by simp only;omega,h2⟩ (by simp only;omega)
 ·rw[z8 hi,cond_false]
  have e:i.toNat=l.length:=by omega
  rw[e,List.drop_length] at h2
  rw[<-h2]
  rfl
theorem Bq {α:Type} {p:α->Bool} {d:α} {l:List α} (hl:l.length<=1000000) :
  lpK (Int×PUnit) Int (fun (again:Int×PUnit->Option Int) (x:Int×PUnit)=>bif decide (x.1<(↑(List.length l):Int)) then bif inB x.1 (List.length l) then bif p
   (List.getD l (Int.toNat x.1) d) then some x.1 else again
   (IntKind.wrap .i64 (x.1+(1:Int)),PUnit.unit) else none else some (-1:Int)) ((0:Int),PUnit.unit)=some (jG p l 0) :=
 lj (f:=fun a=>some (p a.1)) hl fun _ _=>rfl
theorem lv {R σ:Type} {b:Nat->σ->(σ->Option R)->Option R} {f:σ->Option R} {p:Nat->Bool} {r:Option R} {s:σ} (n:Nat) (hb:∀i (k:σ->Option R),i<n->b i s k=bif p i then k s else r) :
  ∀(k i:Nat),i+k<=n->upF b f k i s=bif (List.range' i k).all p then f s else r
 | 0,i,_=>rfl
 | k+1,i,h=>by
  simp only[upF,hb i _ (by omega),List.range'_succ,List.all_cons]
  cases hp:p i with
  | true=>exact lv n hb k (i+1) (by omega)
  | false=>rfl
end Dn
end Go.Proofs.YtegbncajloeepaaGreat

namespace Go.Proofs.YtegbncajloeepaaGreat
open Tryz Dn Dn.Sh
theorem S4 {n:Nat} (h:n<18446744073709551616):(decide ((hl n).1=0)&&(decide ((hl n).2=1)&&true))=decide (n=1):=by
 rw[lV h]
 simp only[decide_true,Bool.true_and,Bool.and_true]
 rw[Bool.eq_iff_iff,decide_eq_true_eq,decide_eq_true_eq]
 omega
theorem IQ {a:Fq}:dz a=some (decide (okF a)):=by
 simp only[dz,oQ,aV,fk,cT]
 by_cases h1:a.2<1
 ·rw[z7 h1]
  simp only[cT]
  rw[z8 (by unfold okF;omega)]
 ·rw[z8 h1]
  by_cases h2:a.2>1152921504606846976
  ·rw[z7 h2]
   simp only[cT,cF]
   rw[z8 (by unfold okF;omega)]
  ·rw[z8 h2]
   by_cases h3:a.1< -1152921504606846976
   ·rw[z7 h3]
    simp only[cT,cF]
    rw[z8 (by unfold okF;omega)]
   ·rw[z8 h3]
    by_cases h4:a.1>1152921504606846976
    ·rw[z7 h4]
     simp only[cT,cF]
     rw[z8 (by unfold okF;omega)]
    ·rw[z8 h4]
     simp only[cF]
     have hg:Nat.gcd a.1.natAbs a.2.natAbs<=a.2.natAbs:=Nat.gcd_le_right _ (by omega)
     rw[E7 (by omega) (by omega),af,E7 (by omega) (by omega),af,<-lV (show a.1.natAbs<18446744073709551616 by omega),<-lV (show a.2.natAbs<18446744073709551616 by omega),SU (by omega) (by omega) (by omega),af,S4 (by generalize Nat.gcd a.1.natAbs a.2.natAbs=g at *;omega)]
     congr 1
     rw[Bool.eq_iff_iff,decide_eq_true_eq,decide_eq_true_eq]
     unfold okF
     generalize Nat.gcd a.1.natAbs a.2.natAbs=g at *
     omega
def yj (p q:Rat):Int:=if p<q then -1 else if p=q then 0 else 1
theorem J7 {a b:Fq} (ha:okF a) (hb:okF b) {M N:Nat} (hM:M=a.1.natAbs*b.2.natAbs) (hN:N=b.1.natAbs*a.2.natAbs) :
  yj (qv a) (qv b)=if a.1<0 then (if b.1<0 then (if N<M then -1 else if M=N then 0 else 1) else -1) else (if b.1<0 then 1 else (if M<N then -1 else if M=N then 0 else 1)):=by
 have e1:=S3 ha hb
 have e2:qv a=qv b↔a.1*b.2=b.1*a.2:=by
  have h1:=NS ha hb
  have h2:=NS hb ha
  constructor
  ·intro h
   have h3:=h1.1 (by rw[h];exact Rat.le_refl)
   have h4:=h2.1 (by rw[h];exact Rat.le_refl)
   omega
  ·intro h
   exact Rat.le_antisymm (h1.2 (by omega)) (h2.2 (by omega))
 obtain ⟨⟨a1,_⟩,_,_⟩:=ha
 obtain ⟨⟨b1,_⟩,_,_⟩:=hb
 have eM:(M:Int)=(a.1.natAbs:Int)*b.2:=by rw[hM,Int.natCast_mul,show ((b.2.natAbs:Nat):Int)=b.2 by omega]
 have eN:(N:Int)=(b.1.natAbs:Int)*a.2:=by rw[hN,Int.natCast_mul,show ((a.2.natAbs:Nat):Int)=a.2 by omega]
 have sa:a.1*b.2=if a.1<0 then -(M:Int) else M:=by
  split
  ·rw[eM,<-Int.neg_mul];congr 1;omega
  ·rw[eM];congr 1;omega
 have sb:b.1*a.2=if b.1<0 then -(N:Int) else N:=by
  split
  ·rw[eN,<-Int.neg_mul];congr 1;omega
  ·rw[eN];congr 1;omega
 have p1:a.1<0->0<M:=fun h=>by rw[hM];exact Nat.mul_pos (by omega) (by omega)
 have p2:b.1<0->0<N:=fun h=>by rw[hN];exact Nat.mul_pos (by omega) (by omega)
 unfold yj
 simp only[e1,e2,sa,sb]
 clear e1 e2 sa sb eM eN hM hN
 by_cases c1:a.1<0
 ·by_cases c2:b.1<0
  ·simp only[c1,c2,if_true]
   repeat' split
   all_goals first | rfl | omega
  ·have:=p1 c1
   simp only[c1,c2,if_true,if_false]
   repeat' split
   all_goals first | rfl | omega
 ·by_cases c2:b.1<0
  ·have:=p2 c2
   simp only[c1,c2,if_true,if_false]
   repeat' split
   all_goals first | rfl | omega
  ·simp only[c1,c2,if_false]
   repeat' split
   all_goals first | rfl | omega
theorem Uh {a b:Fq} (ha:okF a) (hb:okF b):iw a b=some (yj (qv a) (qv b),0,()):=by
 have hs:=J7 ha hb rfl rfl
 have ha':=ha
 have hb':=hb
 obtain ⟨⟨a1,a2⟩,⟨a3,a4⟩,_⟩:=ha'
 obtain ⟨⟨b1,b2⟩,⟨b3,b4⟩,_⟩:=hb'
 simp only[iw,rz,ra,z7 ha,z7 hb,af,Bool.not_true,Bool.not_false,Bool.or_true,cT,cF,jnT]
 rw[ly (by omega) (by omega),af,bC (by omega) (by omega),bC (by omega) (by omega),show b.2=((b.2.natAbs:Nat):Int) by omega,jE (by omega) (by omega),af,ly (by omega) (by omega),af,show a.2=((a.2.natAbs:Nat):Int) by omega,jE (by omega) (by omega),af]
 simp only[Hi]
 rw[hs]
 clear hs
 generalize a.1.natAbs*b.2.natAbs=M
 generalize b.1.natAbs*a.2.natAbs=N
 by_cases c1:a.1<0
 ·by_cases c2:b.1<0
  ·rw[if_pos c1,if_pos c2]
   simp only[z7 c1,z7 c2,bne_self_eq_false,cT,cF,yU,af]
   by_cases e:N<M
   ·simp only[z7 e,cT];rw[if_pos e]
   ·simp only[z8 e,cF];rw[if_neg e]
    by_cases e2:M<N
    ·simp only[z7 e2,cT];rw[if_neg (by omega)]
    ·simp only[z8 e2,cF];rw[if_pos (by omega)]
  ·rw[if_pos c1,if_neg c2]
   simp only[z7 c1,z8 c2,Bool.true_bne,Bool.not_false,cT]
 ·by_cases c2:b.1<0
  ·rw[if_neg c1,if_pos c2]
   simp only[z8 c1,z7 c2,Bool.false_bne,cT,cF]
  ·rw[if_neg c1,if_neg c2]
   simp only[z8 c1,z8 c2,bne_self_eq_false,cF,yU,af]
   by_cases e:M<N
   ·simp only[z7 e,cT];rw[if_pos e]
   ·simp only[z8 e,cF];rw[if_neg e]
    by_cases e2:N<M
    ·simp only[z7 e2,cT];rw[if_neg (by omega)]
    ·simp only[z8 e2,cF];rw[if_pos (by omega)]
end Go.Proofs.YtegbncajloeepaaGreat

namespace Go.Proofs.YtegbncajloeepaaGreat
namespace Dn
end Dn
end Go.Proofs.YtegbncajloeepaaGreat

namespace Go.Proofs.YtegbncajloeepaaGreat
open Tryz Dn Dn.Sh
abbrev Rw:=List Int×Int×Int
abbrev Pg:=List Int×List Rw
abbrev rw0:Rw:=([],(0:Int),(0:Int))
def inC (n:Int):Bool:=decide (-1048576<=n/\n<=1048576)
def inR (n:Int):Bool:=decide (-1073741824<=n/\n<=1073741824)
def wS (n:Nat) (r:Rw):Bool:=decide (r.1.length=n)&&(decide (1<=r.2.1/\r.2.1<=3)&&(inR r.2.2&&r.1.all inC))
def Pa (p:Pg):Bool:=decide (1<=p.1.length/\p.1.length<=12/\p.2.length<=6)
def pG (p:Pg):Bool:=Pa p&&(p.1.all inC&&p.2.all (wS p.1.length))
theorem vu {α:Type} {p:α->Bool} {l:List α}:decide (jG p l 0>=0)=l.any p:=by
 have:=zn (p:=p) (l:=l) (i:=0) (by omega)
 rw[Bool.eq_iff_iff,decide_eq_true_iff,List.any_eq_true]
 constructor
 ·intro h1
  by_cases h2:∃a ∈ l,p a=true
  ·exact h2
  ·have:jG p l 0<0:=this.2 fun a ha=>by
    cases e:p a with
    | false=>rfl
    | true=>exact (h2 ⟨a,ha,e⟩).elim
   omega
 ·rintro ⟨a,ha,h3⟩
  by_cases h2:jG p l 0<0
  ·rw[this.1 h2 a ha] at h3;cases h3
  ·omega
theorem Hz {α:Type} {p:α->Bool} {l:List α}:(l.any fun a=>!p a)=!l.all p:=by
 induction l with
 | nil=>rfl
 | cons a l ih=>simp[ih,Bool.not_and]
theorem wu {α:Type} {p:α->Bool} {l:List α} (d:α):(List.range' 0 l.length).all (fun i=>p (l.getD i d))=l.all p:=by
 rw[Bool.eq_iff_iff,List.all_eq_true,List.all_eq_true]
 constructor
 ·intro h a ha
  obtain ⟨i,hi,rfl⟩:=List.getElem_of_mem ha
  have:=h i (List.mem_range'.2 ⟨i,hi,by omega⟩)
  rwa [bf hi] at this
 ·intro h i hi
  obtain ⟨k,hk,rfl⟩:=List.mem_range'.1 hi
  rw[bf (by omega)]
  exact h _ (List.getElem_mem _)
theorem zm {f:(Int×Unit)->Option Bool} {p:Int->Bool} {l:List Int} (hl:l.length<=1000000) (h:∀a,a ∈ l->f (a,())=some (p a)):ax l f=some (l.any p):=by
 have h1:bN l f=some (jG p l 0):=by
  unfold bN ib
  exact lj (f:=f) (d:=(0:Int)) hl h
 simp only[ax,gn,h1,af,vu]
theorem J4 {f:((Int×Int)×Unit)->Option Bool} {p:(Int×Int)->Bool} {l:List (Int×Int)} (hl:l.length<=1000000) (h:∀a,a ∈ l->f (a,())=some (p a)):ai l f=some (l.any p):=by
 have h1:bG l f=some (jG p l 0):=by
  unfold bG gi
  exact lj (f:=f) (d:=((0:Int),(0:Int))) hl h
 simp only[ai,fz,h1,af,vu]
theorem NU (n m:Int) (h0:0<=m) (h1:m<=1099511627776):ce n m=some (!decide (-m<=n/\n<=m)):=by
 have hw:IntKind.wrap .i64 (0 - m)= -m:=by rw[aO (by omega) (by omega)];omega
 simp only[ce,jm,hw,aV,fk,Bool.and_self,cT]
 by_cases g1:n< -m
 ·rw[z7 g1,z8 (show ¬ (-m<=n/\n<=m) by omega)];rfl
 ·rw[z8 g1]
  by_cases g2:n>m
  ·rw[z7 g2,z8 (show ¬ (-m<=n/\n<=m) by omega)];rfl
  ·rw[z8 g2,z7 (show (-m<=n/\n<=m) by omega)];rfl
theorem YZ (n:Int):ce n 1048576=some (!inC n):=NU n _ (by omega) (by omega)
theorem Yp (n:Int):ce n 1073741824=some (!inR n):=NU n _ (by omega) (by omega)
theorem mY (p:Pg):bg p=some (pG p):=by
 obtain ⟨c,rs⟩:=p
 simp only[bg,mm,dn,jY,aV,fk,Bool.and_self,cT,pG,Pa]
 by_cases g1:(c.length:Int)<1
 ·rw[z7 g1,z8 (show ¬ (1<=c.length/\c.length<=12/\rs.length<=6) by omega)]
  rfl
 ·rw[z8 g1]
  by_cases g2:(c.length:Int)>12
  ·rw[z7 g2,z8 (show ¬ (1<=c.length/\c.length<=12/\rs.length<=6) by omega)]
   rfl
  ·rw[z8 g2]
   by_cases g3:(rs.length:Int)>6
   ·rw[z7 g3,z8 (show ¬ (1<=c.length/\c.length<=12/\rs.length<=6) by omega)]
    rfl
   ·rw[z8 g3,z7 (show (1<=c.length/\c.length<=12/\rs.length<=6) by omega)]
    have hc:∀l:List Int,l.length<=1000000->ax l (fun x=>ce x.1 1048576)=some (!l.all inC):=fun l hl=>by
     rw[<-Hz]
     exact zm hl fun a _=>YZ a
    simp only[cF,cT,Bool.not_false,af,hc c (by omega),Bool.true_and]
    cases hcc:c.all inC with
    | false=>rfl
    | true =>
     simp only[Bool.not_true,cF,Bool.true_and]
     refine (lh (α:=Int×PUnit) rs.length (by omega) (fun i (_:Unit)=>((i:Int),PUnit.unit)) (fun i s k=>bif wS c.length (rs.getD i rw0) then k s else some false) (fun _=>some true) ?_ ?_ ()).trans ?_
     ·intro again i _ hi
      have hw:IntKind.wrap .i64 ((i:Int)+1)=((i+1:Nat):Int):=by rw[aO (by omega) (by omega)];rfl
      simp only[aW,z7 hi,z7 (show (i:Int)<rs.length by omega),cT,z9,hw]
      obtain ⟨a,k,b,e⟩:∃a k b,List.getD rs i rw0=(a,k,b):=⟨_,_,_,rfl⟩
      simp only[e,wS,Yp,z7 (show (i:Int)>=0 by omega)]
      by_cases q1:a.length=c.length
      ·have hca:=hc a (by omega)
       simp only[z7 (show (a.length:Int)=c.length by omega),z7 q1,Bool.not_true,Bool.not_false,cT,cF,af,hca,Bool.true_and]
       by_cases q2:k<1
       ·simp only[z7 q2,z8 (show ¬ (1<=k/\k<=3) by omega)]
        cases a.all inC<;>simp[af]
       ·by_cases q3:k>3
        ·simp only[z8 q2,z7 q3,z8 (show ¬ (1<=k/\k<=3) by omega)]
         cases a.all inC<;>simp[af]
        ·simp only[z8 q2,z8 q3,z7 (show (1<=k/\k<=3) by omega)]
         cases h1:a.all inC<;>cases h2:inR b<;>simp[af,h2]
      ·simp only[z8 (show ¬ (a.length:Int)=c.length by omega),z8 q1]
       simp[af]
     ·intro again _
      simp
     ·refine (lv (p:=fun i=>wS c.length (rs.getD i rw0)) (r:=some false) rs.length (fun _ _ _=>rfl) rs.length 0 (by omega)).trans ?_
      rw[wu (p:=wS c.length) (l:=rs) rw0]
      cases rs.all (wS c.length)<;>rfl
end Go.Proofs.YtegbncajloeepaaGreat

namespace Go.Proofs.YtegbncajloeepaaGreat
noncomputable section
open Tryz Dn Dn.Sh
abbrev Bk:=ByteArray×Int
abbrev Hd:=ByteArray×Int×Int×Int
abbrev Rp:=ByteArray×List Hd×Bool
abbrev Sy:=List Bk×List Rp
abbrev bk0:Bk:=({ data:={ toList:=[] } },(0:Int))
abbrev hd0:Hd:=({ data:={ toList:=[] } },(0:Int),(0:Int),(0:Int))
abbrev rp0:Rp:=({ data:={ toList:=[] } },[],false)
theorem CP {σ R:Type} {b:Nat->σ->(σ->Option R)->Option R} {f:σ->Option R} {q:Nat->Bool} {g:Nat->σ->σ} {r:Option R} (n:Nat) (hb:∀i s (k:σ->Option R),i<n->b i s k=bif q i then k (g i s) else r) :
  ∀(k i:Nat) (s:σ),i+k<=n->upF b f k i s=bif (List.range' i k).all q then f ((List.range' i k).foldl (fun s i=>g i s) s) else r
 | 0,i,s,_=>rfl
 | k+1,i,s,h=>by
  simp only[upF,hb i s _ (by omega),List.range'_succ,List.all_cons,List.foldl_cons]
  cases hp:q i with
  | true=>exact CP n hb k (i+1) _ (by omega)
  | false=>rfl
theorem wb {α R:Type} {p:α->Bool} {d:α} {l:List α} {yes no:Option R} {F:(Int×PUnit->Option R)->Int×PUnit->Option R} (hl:l.length<=1000000)
  (hb:∀again (i:Nat),i<l.length->F again ((i:Int),PUnit.unit)=bif p (l.getD i d) then again (((i+1:Nat):Int),PUnit.unit) else no) (hf:∀again,F again ((l.length:Int),PUnit.unit)=yes) :
  lpK (Int×PUnit) R F ((0:Int),PUnit.unit)=bif l.all p then yes else no:=by
 refine (lh (α:=Int×PUnit) l.length (by omega) (fun i (_:Unit)=>((i:Int),PUnit.unit)) (fun i s k=>bif p (l.getD i d) then k s else no) (fun _=>yes) ?_ ?_ ()).trans ?_
 ·intro again i _ hi
  exact hb again i hi
 ·intro again _
  exact hf again
 ·rw[lv l.length (fun i k _=>rfl) l.length 0 (by omega),wu]
theorem A5 (x y:ByteArray):∀m:List (ByteArray×Bool),jc str Sh.bool x false (qV str Sh.bool y true m)=(decide (x=y)||jc str Sh.bool x false m)
 | []=>by
  simp only[qV,jc,mo]
  cases decide (x=y)<;>rfl
 | z ::m=>by
  cases h1:decide (y=z.1) with
  | true =>
   have e:=z12 h1
   simp only[qV,mo,h1,cT,jc]
   rw[e]
   cases decide (x=z.1)<;>rfl
  | false =>
   simp only[qV,mo,h1,cF,jc,A5 x y m]
   cases h2:decide (x=z.1) with
   | false=>rfl
   | true =>
    have h3:decide (x=y)=false:=z8 fun e=>of_decide_eq_false h1 (by rw[<-e];exact z12 h2)
    rw[h3]
    rfl
def oW (x:ByteArray) (l:List ByteArray):Bool:=l.any fun y=>decide (x=y)
theorem Dt {x:ByteArray} {l:List ByteArray}:oW x l=true↔x ∈ l:=by
 unfold oW
 rw[List.any_eq_true]
 constructor
 ·rintro ⟨y,h1,h2⟩;rw[z12 h2];exact h1
 ·intro h;exact ⟨x,h,z7 rfl⟩
theorem uU {x:ByteArray} {l:List ByteArray}:oW x l=false↔x ∉ l:=by rw[<-Dt,Bool.not_eq_true]
def zH (l:List ByteArray):List (ByteArray×Bool):=l.foldl (fun m x=>qV str Sh.bool x true m) []
theorem zi (x:ByteArray):∀(l:List ByteArray) (m:List (ByteArray×Bool)),jc str Sh.bool x false (l.foldl (fun m x=>qV str Sh.bool x true m) m)=(oW x l||jc str Sh.bool x false m)
 | [],m=>rfl
 | y ::l,m=>by
  rw[List.foldl_cons,zi x l,A5,<-Bool.or_assoc]
  congr 1
  unfold oW
  rw[List.any_cons,Bool.or_comm]
theorem BL (x:ByteArray) (l:List ByteArray):jc str Sh.bool x false (zH l)=oW x l:=by
 unfold zH
 rw[zi]
 exact Bool.or_false _
theorem zz (x:ByteArray) (l:List ByteArray):qV str Sh.bool x true (zH l)=zH (l++[x]):=by
 unfold zH
 rw[List.foldl_append]
 rfl
theorem Bo {α:Type} {l:List α} {i:Nat} (d:α) (h:i<l.length):l.take i++[l.getD i d]=l.take (i+1):=by
 rw[bf h,List.take_succ_eq_append_getElem h]
theorem sV {α β:Type} {f:α->β} {l:List α} {d:α} {i:Nat} (h:i<l.length) (e:β):(l.map f).getD i e=f (l.getD i d):=by
 rw[bf (by rw[List.length_map];exact h),bf h,List.getElem_map]
theorem uK {α:Type} {p:α->Bool} (d:α):∀{l:List α} {i:Nat} {k:Int},i<l.length->p (l.getD i d)=true->(jG p l k=k+i↔∀a ∈ l.take i,p a=false)
 | a ::l,0,k,_,hp=>by
  rw[List.getD_cons_zero] at hp
  unfold jG
  rw[hp,cT]
  simp
 | a ::l,i+1,k,h,hp=>by
  rw[List.getD_cons_succ] at hp
  unfold jG
  rw[List.take_succ_cons]
  cases ha:p a with
  | true =>
   rw[cT]
   constructor
   ·intro e;omega
   ·intro e;have:=e a (by simp);rw[ha] at this;cases this
  | false =>
   rw[cF]
   have:=uK d (l:=l) (i:=i) (k:=k+1) (by simpa using h) hp
   rw[show k+((i+1:Nat):Int)=k+1+i by omega,this]
   simp[ha]
def fbI (s:Sy) (n:ByteArray):Int:=jG (fun b:Bk=>decide (b.1=n)) s.1 0
def frI (s:Sy) (n:ByteArray):Int:=jG (fun r:Rp=>decide (r.1=n)) s.2 0
theorem Du (s:Sy) (n:ByteArray) (hl:s.1.length<=1000000):cb s n=some (fbI s n):=by
 simp only[cb,nq,eT,kV,ol]
 unfold bZ ik
 exact congrArg (fun m:Option Int=>ah m fun t=>some t) (lj (f:=fun x:Bk×Unit=>some (decide (x.1.1=n))) (p:=fun b:Bk=>decide (b.1=n)) (d:=bk0) hl (fun a _=>rfl))
theorem AR (s:Sy) (n:ByteArray) (hl:s.1.length<=1000000):bu s n=some (fbI s n):=by
 simp only[bu,kh,ol]
 exact Bq (p:=fun b:Bk=>decide (b.1=n)) (d:=bk0) hl
theorem IY (s:Sy) (n:ByteArray) (hl:s.2.length<=1000000):eh s n=some (frI s n):=by
 simp only[eh,kR,ol]
 exact Bq (p:=fun r:Rp=>decide (r.1=n)) (d:=rp0) hl
def qU (n a b:Int):Bool:=decide (n>=a)&&decide (n<=b)
theorem zg (n a b:Int):bB n a b=some (qU n a b):=by
 simp only[bB,kT,aV,Bool.and_self,cT,jD,qU]
def qw (f:Int×Int):Bool:=decide (okF f)&&(decide (f.1>=f.2)&&decide (f.1<=100))
theorem NJ (f:Int×Int):eP f=some (qw f):=by
 simp only[eP,lX,ra,af,aV,Bool.and_self,cT,jD,qw,Bool.and_assoc]
theorem Kg (f:Int×Int):dI f=some (qw f):=by
 simp only[dI,kj,IQ,af,aV,Bool.and_self,cT,jD,qw,Bool.and_assoc]
def qp (s:ByteArray):Bool:=decide (s={ data:=#[] })
def oc (s:Sy) (h:Hd) (e:Bool):Bool:=(bif e then decide (h.2.2.1=1)&&decide (h.2.2.2=1) else qw h.2.2) &&
 (bif qp h.1 then decide (h.2.1=0) else !decide (fbI s h.1<0)&&(bif e then decide (h.2.1=1)||decide (h.2.1= -1) else decide (h.2.1=2)||(decide (h.2.1=0)||decide (h.2.1= -2))))
theorem MN (s:Sy) (h:Hd) (e:Bool) (hl:s.1.length<=1000000):ep s h e=some (oc s h e):=by
 obtain ⟨b,p,n,d⟩:=h
 simp only[ep,nl,NJ,Du s _ hl,ol,oc,qp,af]
 generalize decide (fbI s b<0)=g1
 generalize decide (b={ data:=#[] })=g2
 generalize qw (n,d)=g3
 generalize decide (p=0)=p0
 generalize decide (p=1)=p1
 generalize decide (p= -1)=p2
 generalize decide (p=2)=p3
 generalize decide (p= -2)=p4
 generalize decide (n=1)=g4
 generalize decide (d=1)=g5
 cases e with
 | false =>
  cases g3;· rfl
  cases g2;case true=>rfl
  cases g1;case true=>rfl
  cases p3<;>cases p0<;>cases p4<;>rfl
 | true =>
  cases g4;· rfl
  cases g5;· rfl
  cases g2;case true=>rfl
  cases g1;case true=>rfl
  cases p1<;>cases p2<;>rfl
theorem Rh (n:Int):aZ n=some (n,1):=id rfl
theorem J5 (s:Sy) (h:Hd) (e:Bool) (hl:s.1.length<=1000000):fN s h e=some (oc s h e):=by
 obtain ⟨b,p,n,d⟩:=h
 have hL:decide (n=1)=true->decide (d=1)=true->qw (n,d)=true:=fun h1 h2=>by
  have e1:=z12 h1
  have e2:=z12 h2
  subst e1;subst e2
  unfold qw
  rw[z7 (CR (by omega) (by omega))]
  rfl
 simp only[fN,qu,Kg,AR s _ hl,ol,oc,qp,af,Rh]
 generalize decide (fbI s b<0)=g1
 generalize decide (b={ data:=#[] })=g2
 generalize qw (n,d)=g3 at hL
 generalize decide (p=0)=p0
 generalize decide (p=1)=p1
 generalize decide (p= -1)=p2
 generalize decide (p=2)=p3
 generalize decide (p= -2)=p4
 cases e with
 | false =>
  cases g3;· rfl
  cases g2;case true=>rfl
  cases g1;case true=>rfl
  cases p3<;>cases p0<;>cases p4<;>rfl
 | true =>
  simp only[cT,af]
  generalize decide (n=1)=g4 at hL
  generalize decide (d=1)=g5 at hL
  cases g4;· rfl
  cases g5;· rfl
  rw[hL rfl rfl]
  cases g2;case true=>rfl
  cases g1;case true=>rfl
  cases p1<;>cases p2<;>rfl
def vl (s:Sy) (r:Rp):Bool:=decide (2<=r.2.1.length/\r.2.1.length<=10)&&((List.range' 0 r.2.1.length).all (fun i=>oc s (r.2.1.getD i hd0) (decide (i=0)||decide (i=r.2.1.length - 1))) &&
 (!r.2.2||qp (r.2.1.getD (r.2.1.length - 1) hd0).1))
theorem MH (s:Sy) (r:Rp) (hl:s.1.length<=1000000):fy s r=some (vl s r):=by
 obtain ⟨nm,hs,ha⟩:=r
 have hh:=fun h e=>MN s h e hl
 simp only[fy,ni,zg,hh,af,vl,ol]
 by_cases h2:2<=hs.length/\hs.length<=10
 ·have e:qU (hs.length:Int) 2 10=true:=by
   unfold qU
   rw[z7 (show (hs.length:Int)>=2 by omega),z7 (show (hs.length:Int)<=10 by omega)];rfl
  have hw0:IntKind.wrap .i64 ((hs.length:Int) - 1)=((hs.length - 1:Nat):Int):=by rw[aO (by omega) (by omega)];omega
  rw[e,z7 h2]
  simp only[Bool.not_true,cF,Bool.true_and,hw0]
  refine (lh (α:=Int×PUnit) hs.length (by omega) (fun i (_:Unit)=>((i:Int),PUnit.unit)) (fun i t k=>bif oc s (hs.getD i hd0) (decide (i=0)||decide (i=hs.length - 1)) then k t else some false) (fun _=>some (!ha||qp (hs.getD (hs.length - 1) hd0).1)) ?_ ?_ ()).trans ?_
  ·intro again i _ hi
   have hw:IntKind.wrap .i64 ((i:Int)+1)=((i+1:Nat):Int):=by rw[aO (by omega) (by omega)];rfl
   have e0:decide ((i:Int)=0)=decide (i=0):=decide_eq_decide.2 (by omega)
   have e1:decide ((i:Int)=((hs.length - 1:Nat):Int))=decide (i=hs.length - 1):=decide_eq_decide.2 (by omega)
   simp only[aW,z7 hi,z7 (show (i:Int)<hs.length by omega),cT,z9,hw,e0,e1,aV,fk,Bool.and_self]
   have e3:(bif decide (i=0) then true else decide (i=hs.length - 1))=(decide (i=0)||decide (i=hs.length - 1)):=by cases decide (i=0)<;>rfl
   rw[e3]
   cases oc s (hs.getD i hd0) (decide (i=0)||decide (i=hs.length - 1))<;>rfl
  ·intro again _
   simp only[z8 (show ¬ (hs.length:Int)<hs.length by omega),cF,aW,z7 (show hs.length - 1<hs.length by omega),z9,qp]
   generalize decide ((List.getD hs (hs.length - 1) hd0).1={ data:=#[] })=g
   cases ha<;>rfl
  ·rw[lv hs.length (fun i k _=>rfl) hs.length 0 (by omega)]
   cases (List.range' 0 hs.length).all fun i=>oc s (hs.getD i hd0) (decide (i=0)||decide (i=hs.length - 1))<;>rfl
 ·have e:qU (hs.length:Int) 2 10=false:=by
   unfold qU
   by_cases g:(hs.length:Int)>=2
   ·rw[z7 g,z8 (show ¬ (hs.length:Int)<=10 by omega)];rfl
   ·rw[z8 g];rfl
  rw[e,z8 h2]
  rfl
theorem IJ (s:Sy) (r:Rp) (hl:s.1.length<=1000000):gI s r=some (vl s r):=by
 obtain ⟨nm,hs,ha⟩:=r
 have hh:=fun h e=>J5 s h e hl
 simp only[gI,pV,hh,af,vl,ol]
 by_cases h2:2<=hs.length/\hs.length<=10
 ·have hw0:IntKind.wrap .i64 ((hs.length:Int) - 1)=((hs.length - 1:Nat):Int):=by rw[aO (by omega) (by omega)];omega
  rw[z7 h2,z8 (show ¬ (hs.length:Int)<2 by omega),z8 (show ¬ (hs.length:Int)>10 by omega)]
  simp only[Bool.not_true,Bool.not_false,Bool.or_true,cT,cF,Bool.true_and,hw0]
  refine (lh (α:=Int×PUnit) hs.length (by omega) (fun i (_:Unit)=>((i:Int),PUnit.unit)) (fun i t k=>bif oc s (hs.getD i hd0) (decide (i=0)||decide (i=hs.length - 1)) then k t else some false) (fun _=>some (!ha||qp (hs.getD (hs.length - 1) hd0).1)) ?_ ?_ ()).trans ?_
  ·intro again i _ hi
   have hw:IntKind.wrap .i64 ((i:Int)+1)=((i+1:Nat):Int):=by rw[aO (by omega) (by omega)];rfl
   have e0:decide ((i:Int)=0)=decide (i=0):=decide_eq_decide.2 (by omega)
   have e1:decide ((i:Int)=((hs.length - 1:Nat):Int))=decide (i=hs.length - 1):=decide_eq_decide.2 (by omega)
   simp only[aW,z7 hi,z7 (show (i:Int)<hs.length by omega),cT,z9,hw,e0,e1,aV,fk,Bool.and_self]
   have e3:(bif decide (i=0) then true else decide (i=hs.length - 1))=(decide (i=0)||decide (i=hs.length - 1)):=by cases decide (i=0)<;>rfl
   rw[e3]
   cases oc s (hs.getD i hd0) (decide (i=0)||decide (i=hs.length - 1))<;>rfl
  ·intro again _
   simp only[z8 (show ¬ (hs.length:Int)<hs.length by omega),cF,aW,z7 (show hs.length - 1<hs.length by omega),z9,qp]
   generalize decide ((List.getD hs (hs.length - 1) hd0).1={ data:=#[] })=g
   cases ha<;>rfl
  ·rw[lv hs.length (fun i k _=>rfl) hs.length 0 (by omega)]
   cases (List.range' 0 hs.length).all fun i=>oc s (hs.getD i hd0) (decide (i=0)||decide (i=hs.length - 1))<;>rfl
 ·rw[z8 h2]
  by_cases g:(hs.length:Int)<2
  ·rw[z7 g];rfl
  ·rw[z8 g,z7 (show (hs.length:Int)>10 by omega)];rfl
def qW (s:Sy) (i:Nat):Bool:=tM (s.1.getD i bk0).1&&(!oW (s.1.getD i bk0).1 ((s.1.map (·.fst)).take i)&&qU (s.1.getD i bk0).2 0 16777216)
def jA (s:Sy) (i:Nat):Bool:=tM (s.2.getD i rp0).1&&(!oW (s.2.getD i rp0).1 (s.1.map (·.fst)++(s.2.map (·.fst)).take i)&&vl s (s.2.getD i rp0))
def uV (rs:List Rp):Int:=(List.range' 0 rs.length).foldl (fun h i=>bif (rs.getD i rp0).2.2 then IntKind.wrap .i64 (h+1) else h) 0
def jJ (s:Sy):Bool:=decide (1<=s.1.length/\s.1.length<=6/\1<=s.2.length/\s.2.length<=6)&&((List.range' 0 s.1.length).all (qW s)&&((List.range' 0 s.2.length).all (jA s)&&decide (uV s.2<=1)))
theorem Hr (s:Sy):ba s=some (jJ s):=by
 obtain ⟨bs,rs⟩:=s
 simp only[ba,mf,zg,Ji,af,jJ]
 by_cases h1:1<=bs.length/\bs.length<=6
 ·have e1:qU (bs.length:Int) 1 6=true:=by
   unfold qU
   rw[z7 (show (bs.length:Int)>=1 by omega),z7 (show (bs.length:Int)<=6 by omega)];rfl
  by_cases h2:1<=rs.length/\rs.length<=6
  ·have e2:qU (rs.length:Int) 1 6=true:=by
    unfold qU
    rw[z7 (show (rs.length:Int)>=1 by omega),z7 (show (rs.length:Int)<=6 by omega)];rfl
   have hr:=fun r=>MH (bs,rs) r (show bs.length<=1000000 by omega)
   simp only[e1,e2,hr,af,Bool.not_true,Bool.not_false,Bool.or_true,cT,cF,z7 (show 1<=bs.length/\bs.length<=6/\1<=rs.length/\rs.length<=6 by omega),Bool.true_and]
   refine (lh (α:=Int×List (ByteArray×Bool)×PUnit) bs.length (by omega) (fun i (_:Unit)=>((i:Int),zH ((bs.map (·.fst)).take i),PUnit.unit)) (fun i t k=>bif qW (bs,rs) i then k t else some false)
    (fun _=>some ((List.range' 0 rs.length).all (jA (bs,rs))&&decide (uV rs<=1))) ?_ ?_ ()).trans ?_
   ·intro again i _ hi
    have hw:IntKind.wrap .i64 ((i:Int)+1)=((i+1:Nat):Int):=by rw[aO (by omega) (by omega)];rfl
    have hn:(bs.map (·.fst)).take (i+1)=(bs.map (·.fst)).take i++[(bs.getD i bk0).1]:=by
     rw[<-Bo (d:=bk0.1) (by rw[List.length_map];exact hi),sV (d:=bk0) hi]
    simp only[aW,z7 hi,z7 (show (i:Int)<bs.length by omega),cT,z9,hw,BL,zz,<-hn,qW,aV,Bool.and_self]
    generalize oW (List.getD bs i bk0).1 ((bs.map (·.fst)).take i)=g1
    generalize qU (List.getD bs i bk0).2 0 16777216=g2
    cases tM (List.getD bs i bk0).1<;>cases g1<;>cases g2<;>rfl
   ·intro again _
    simp only[z8 (show ¬ (bs.length:Int)<bs.length by omega),cF]
    refine (lh (α:=Int×Int×List (ByteArray×Bool)×PUnit) rs.length (by omega) (fun i (h:Int)=>(h,(i:Int),zH (bs.map (·.fst)++(rs.map (·.fst)).take i),PUnit.unit)) (fun i t k=>bif jA (bs,rs) i then k (bif (rs.getD i rp0).2.2 then IntKind.wrap .i64 (t+1) else t) else some false)
     (fun h=>some (decide (h<=1))) ?_ ?_ 0 |>Eq.trans (by rw[List.take_zero,List.append_nil,List.take_of_length_le (by rw[List.length_map];omega)];rfl)).trans ?_
    ·intro again i t hi
     have hw:IntKind.wrap .i64 ((i:Int)+1)=((i+1:Nat):Int):=by rw[aO (by omega) (by omega)];rfl
     have hn:bs.map (·.fst)++(rs.map (·.fst)).take (i+1)=bs.map (·.fst)++(rs.map (·.fst)).take i++[(rs.getD i rp0).1]:=by
      rw[<-Bo (d:=rp0.1) (by rw[List.length_map];exact hi),sV (d:=rp0) hi,List.append_assoc]
     simp only[aW,z7 hi,z7 (show (i:Int)<rs.length by omega),cT,z9,hw,BL,zz,<-hn,jA,aV,Bool.and_self]
     generalize oW (List.getD rs i rp0).1 (bs.map (·.fst)++(rs.map (·.fst)).take i)=g1
     generalize vl (bs,rs) (List.getD rs i rp0)=g2
     cases tM (List.getD rs i rp0).1<;>cases g1<;>cases g2<;>cases (List.getD rs i rp0).2.2<;>rfl
    ·intro again t
     simp only[z8 (show ¬ (rs.length:Int)<rs.length by omega),cF]
    ·rw[CP (q:=jA (bs,rs)) (g:=fun i t=>bif (rs.getD i rp0).2.2 then IntKind.wrap .i64 (t+1) else t) rs.length (fun i s k _=>rfl) rs.length 0 _ (by omega)]
     unfold uV
     cases (List.range' 0 rs.length).all (jA (bs,rs))<;>rfl
   ·rw[lv bs.length (fun i k _=>rfl) bs.length 0 (by omega)]
    cases (List.range' 0 bs.length).all (qW (bs,rs))<;>rfl
  ·have e2:qU (rs.length:Int) 1 6=false:=by
    unfold qU
    by_cases g:(rs.length:Int)>=1
    ·rw[z7 g,z8 (show ¬ (rs.length:Int)<=6 by omega)];rfl
    ·rw[z8 g];rfl
   rw[e1,e2,z8 (show ¬ (1<=bs.length/\bs.length<=6/\1<=rs.length/\rs.length<=6) by omega)]
   rfl
 ·have e1:qU (bs.length:Int) 1 6=false:=by
   unfold qU
   by_cases g:(bs.length:Int)>=1
   ·rw[z7 g,z8 (show ¬ (bs.length:Int)<=6 by omega)];rfl
   ·rw[z8 g];rfl
  rw[e1,z8 (show ¬ (1<=bs.length/\bs.length<=6/\1<=rs.length/\rs.length<=6) by omega)]
  rfl
theorem MJ (s:Sy):aP s=some (jJ s):=by
 obtain ⟨bs,rs⟩:=s
 simp only[aP,oH,CM,af,jJ]
 by_cases h0:1<=bs.length/\bs.length<=6/\1<=rs.length/\rs.length<=6
 ·have hr:=fun r=>IJ (bs,rs) r (show bs.length<=1000000 by omega)
  have hfb:=fun n=>AR (bs,rs) n (show bs.length<=1000000 by omega)
  have hfr:=fun n=>IY (bs,rs) n (show rs.length<=1000000 by omega)
  rw[z7 h0,z8 (show ¬ (bs.length:Int)<1 by omega),z8 (show ¬ (bs.length:Int)>6 by omega),z8 (show ¬ (rs.length:Int)<1 by omega),z8 (show ¬ (rs.length:Int)>6 by omega)]
  simp only[hr,hfb,hfr,Bool.not_true,Bool.not_false,Bool.or_true,cT,cF,Bool.true_and]
  refine (lh (α:=Int×PUnit) bs.length (by omega) (fun i (_:Unit)=>((i:Int),PUnit.unit)) (fun i t k=>bif qW (bs,rs) i then k t else some false)
   (fun _=>some ((List.range' 0 rs.length).all (jA (bs,rs))&&decide (uV rs<=1))) ?_ ?_ ()).trans ?_
  ·intro again i _ hi
   have hw:IntKind.wrap .i64 ((i:Int)+1)=((i+1:Nat):Int):=by rw[aO (by omega) (by omega)];rfl
   have hi1:decide (fbI (bs,rs) (bs.getD i bk0).1=(i:Int))=!oW (bs.getD i bk0).1 ((bs.map (·.fst)).take i):=by
    have:=uK (p:=fun b:Bk=>decide (b.1=(bs.getD i bk0).1)) bk0 (l:=bs) (i:=i) (k:=0) hi (z7 rfl)
    rw[Bool.eq_iff_iff,Bool.not_eq_true',decide_eq_true_iff,uU,<-List.map_take]
    unfold fbI
    rw[Int.zero_add] at this
    rw[this,List.mem_map]
    constructor
    ·rintro h ⟨a,ha,he⟩
     exact of_decide_eq_false (h a ha) he
    ·intro h a ha
     exact z8 fun he=>h ⟨a,ha,he⟩
   simp only[aW,z7 hi,z7 (show (i:Int)<bs.length by omega),cT,z9,hw,qW,qU]
   generalize hg:oW (List.getD bs i bk0).1 ((bs.map (·.fst)).take i)=g1 at hi1
   have hlt:decide ((List.getD bs i bk0).2<0)=!decide ((List.getD bs i bk0).2>=0):=by
    rw[Bool.eq_iff_iff,Bool.not_eq_true',decide_eq_true_iff,decide_eq_false_iff_not];omega
   have hgt:decide ((List.getD bs i bk0).2>16777216)=!decide ((List.getD bs i bk0).2<=16777216):=by
    rw[Bool.eq_iff_iff,Bool.not_eq_true',decide_eq_true_iff,decide_eq_false_iff_not];omega
   rw[hlt,hgt]
   generalize decide ((List.getD bs i bk0).2>=0)=g2
   generalize decide ((List.getD bs i bk0).2<=16777216)=g3
   cases tM (List.getD bs i bk0).1 with
   | false=>rfl
   | true =>
    simp only[Bool.not_true,Bool.not_false,Bool.or_true,Bool.and_self,cT,af,hi1]
    cases g1<;>cases g2<;>cases g3<;>rfl
  ·intro again _
   simp only[z8 (show ¬ (bs.length:Int)<bs.length by omega),cF]
   refine (lh (α:=Int×Int×PUnit) rs.length (by omega) (fun i (h:Int)=>(h,(i:Int),PUnit.unit)) (fun i t k=>bif jA (bs,rs) i then k (bif (rs.getD i rp0).2.2 then IntKind.wrap .i64 (t+1) else t) else some false)
    (fun h=>some (decide (h<=1))) ?_ ?_ 0).trans ?_
   ·intro again i t hi
    have hw:IntKind.wrap .i64 ((i:Int)+1)=((i+1:Nat):Int):=by rw[aO (by omega) (by omega)];rfl
    have hi1:decide (frI (bs,rs) (rs.getD i rp0).1=(i:Int))=!oW (rs.getD i rp0).1 ((rs.map (·.fst)).take i):=by
     have:=uK (p:=fun b:Rp=>decide (b.1=(rs.getD i rp0).1)) rp0 (l:=rs) (i:=i) (k:=0) hi (z7 rfl)
     rw[Bool.eq_iff_iff,Bool.not_eq_true',decide_eq_true_iff,uU,<-List.map_take]
     unfold frI
     rw[Int.zero_add] at this
     rw[this,List.mem_map]
     constructor
     ·rintro h ⟨a,ha,he⟩
      exact of_decide_eq_false (h a ha) he
     ·intro h a ha
      exact z8 fun he=>h ⟨a,ha,he⟩
    have hi2:decide (fbI (bs,rs) (rs.getD i rp0).1>=0)=oW (rs.getD i rp0).1 (bs.map (·.fst)):=by
     unfold fbI
     rw[vu,Bool.eq_iff_iff,List.any_eq_true,Dt,List.mem_map]
     constructor
     ·rintro ⟨a,ha,he⟩;exact ⟨a,ha,z12 he⟩
     ·rintro ⟨a,ha,he⟩;exact ⟨a,ha,z7 he⟩
    have hm:oW (rs.getD i rp0).1 (bs.map (·.fst)++(rs.map (·.fst)).take i)=(oW (rs.getD i rp0).1 (bs.map (·.fst))||oW (rs.getD i rp0).1 ((rs.map (·.fst)).take i)):=by
     unfold oW
     rw[List.any_append]
    simp only[aW,z7 hi,z7 (show (i:Int)<rs.length by omega),cT,z9,hw,jA,hm]
    generalize oW (List.getD rs i rp0).1 (bs.map (·.fst))=g1 at hi2
    generalize oW (List.getD rs i rp0).1 ((rs.map (·.fst)).take i)=g2 at hi1
    generalize vl (bs,rs) (List.getD rs i rp0)=g3
    generalize tM (List.getD rs i rp0).1=g4
    generalize (List.getD rs i rp0).2.2=g5
    cases g4 with
    | false=>rfl
    | true =>
     simp only[Bool.not_true,Bool.not_false,Bool.or_true,Bool.and_self,cT,cF,af,hi1]
     cases g2 with
     | true=>cases g1<;>rfl
     | false =>
      simp only[Bool.not_true,Bool.not_false,Bool.or_true,Bool.or_false,cT,cF,af,hi2]
      cases g1<;>cases g3<;>cases g5<;>rfl
   ·intro again t
    simp only[z8 (show ¬ (rs.length:Int)<rs.length by omega),cF]
   ·rw[CP (q:=jA (bs,rs)) (g:=fun i t=>bif (rs.getD i rp0).2.2 then IntKind.wrap .i64 (t+1) else t) rs.length (fun i s k _=>rfl) rs.length 0 _ (by omega)]
    unfold uV
    cases (List.range' 0 rs.length).all (jA (bs,rs))<;>rfl
  ·rw[lv bs.length (fun i k _=>rfl) bs.length 0 (by omega)]
   cases (List.range' 0 bs.length).all (qW (bs,rs))<;>rfl
 ·rw[z8 h0]
  by_cases g1:(bs.length:Int)<1
  ·rw[z7 g1];rfl
  ·rw[z8 g1]
   by_cases g2:(bs.length:Int)>6
   ·rw[z7 g2];rfl
   ·rw[z8 g2]
    by_cases g3:(rs.length:Int)<1
    ·rw[z7 g3];rfl
    ·rw[z8 g3,z7 (show (rs.length:Int)>6 by omega)];rfl
end
end Go.Proofs.YtegbncajloeepaaGreat

namespace Go.Proofs.YtegbncajloeepaaGreat
namespace Dn
def ab (x:Int):Int:=(x.natAbs:Int)
theorem bM (x:Int):0<=ab x:=by unfold ab;omega
theorem Ta (x y:Int):ab (x+y)<=ab x+ab y:=by unfold ab;omega
theorem tT {x b:Int}:ab x<=b↔ -b<=x/\x<=b:=by unfold ab;omega
theorem nA (x y:Int):ab (x*y)=ab x*ab y:=by
 unfold ab
 rw[Int.natAbs_mul]
 rfl
def sz:Nat->(Nat->Int)->Int
 | 0,_=>0
 | n+1,f=>sz n f+f n
theorem bA:∀{n:Nat} {f g:Nat->Int},(∀i,i<n->f i=g i)->sz n f=sz n g
 | 0,_,_,_=>rfl
 | n+1,f,g,h=>by
  simp only[sz]
  rw[bA (n:=n) fun i hi=>h i (by omega),h n (by omega)]
theorem ov:∀{n:Nat} {f g:Nat->Int},sz n (fun i=>f i+g i)=sz n f+sz n g
 | 0,_,_=>rfl
 | n+1,f,g=>by
  simp only[sz]
  rw[ov]
  omega
theorem gp:∀{n:Nat} {c:Int} {f:Nat->Int},sz n (fun i=>c*f i)=c*sz n f
 | 0,c,_=>by simp[sz]
 | n+1,c,f=>by
  simp only[sz]
  rw[gp,Int.mul_add]
theorem Cp {n:Nat} {c:Int} {f:Nat->Int}:sz n (fun i=>f i*c)=sz n f*c:=by
 rw[Int.mul_comm,<-gp]
 exact bA fun i _=>Int.mul_comm _ _
theorem gN:∀{n:Nat} {f:Nat->Int},(∀i,i<n->f i=0)->sz n f=0
 | 0,_,_=>rfl
 | n+1,f,h=>by
  simp only[sz]
  rw[gN fun i hi=>h i (by omega),h n (by omega)]
  rfl
theorem TI {n:Nat} {f:Nat->Int}:sz n (fun i=> - f i)= - sz n f:=by
 have:sz n (fun i=> - f i)=sz n (fun i=>(-1)*f i):=bA fun i _=>by omega
 rw[this,gp]
 omega
theorem yY {n:Nat} {f g:Nat->Int}:sz n (fun i=>f i - g i)=sz n f - sz n g:=by
 have:sz n (fun i=>f i - g i)=sz n (fun i=>f i+ - g i):=bA fun i _=>by omega
 rw[this,ov,TI]
 omega
theorem fB:∀{n:Nat} {f:Nat->Int} {k:Nat},k<n->(∀i,i<n->i≠k->f i=0)->sz n f=f k
 | n+1,f,k,hk,h=>by
  simp only[sz]
  by_cases e:k=n
  ·subst e
   rw[gN fun i hi=>h i (by omega) (by omega)]
   omega
  ·rw[fB (k:=k) (by omega) fun i hi hne=>h i (by omega) hne,h n (by omega) (fun e'=>e e'.symm)]
   omega
theorem GL {n:Nat} {f:Nat->Int} {k l:Nat} (hk:k<n) (hl:l<n) (hkl:k≠l) (h:∀i,i<n->i≠k->i≠l->f i=0):sz n f=f k+f l:=by
 have e:sz n f=sz n (fun i=>(if i=k then f k else 0)+(if i=l then f l else 0)):=bA fun i hi=>by
  by_cases h1:i=k
  ·subst h1;rw[if_pos rfl,if_neg hkl];omega
  ·by_cases h2:i=l
   ·subst h2;rw[if_neg h1,if_pos rfl];omega
   ·rw[if_neg h1,if_neg h2,h i hi h1 h2];rfl
 rw[e,ov,fB hk (f:=fun i=>if i=k then f k else 0) (fun i _ hne=>if_neg hne),fB hl (f:=fun i=>if i=l then f l else 0) (fun i _ hne=>if_neg hne)]
 simp
theorem vv:∀{m n:Nat} {f:Nat->Nat->Int},sz m (fun i=>sz n (fun j=>f i j))=sz n (fun j=>sz m (fun i=>f i j))
 | 0,n,f=>by
  simp only[sz]
  exact (gN fun _ _=>rfl).symm
 | m+1,n,f=>by
  simp only[sz]
  rw[vv,ov]
theorem oi:∀{n:Nat} {f g:Nat->Int},(∀i,i<n->f i<=g i)->sz n f<=sz n g
 | 0,_,_,_=>Int.le_refl _
 | n+1,f,g,h=>by
  simp only[sz]
  have:=oi (n:=n) fun i hi=>h i (by omega)
  have:=h n (by omega)
  omega
theorem iv {n:Nat} {f:Nat->Int} (h:∀i,i<n->0<=f i):0<=sz n f:=by
 have:=oi (n:=n) (f:=fun _=>0) (g:=f) h
 rwa [gN fun _ _=>rfl] at this
theorem yn:∀{n:Nat} {f:Nat->Int},ab (sz n f)<=sz n (fun i=>ab (f i))
 | 0,_=>by simp[sz,ab]
 | n+1,f=>by
  simp only[sz]
  have:=yn (n:=n) (f:=f)
  have:=Ta (sz n f) (f n)
  omega
def skip (k j:Nat):Nat:=if j<k then j else j+1
def sgd (k:Nat):Int:=if k % 2=0 then 1 else -1
theorem Oy (k:Nat):sgd (k+1)= - sgd k:=by
 unfold sgd
 split<;>split<;>omega
theorem HP (k:Nat) (x:Int):ab (sgd k*x)=ab x:=by
 unfold sgd ab
 split<;>omega
def jo (A:Nat->Nat->Int) (k:Nat):Nat->Nat->Int:=fun i j=>A (i+1) (skip k j)
def det:Nat->(Nat->Nat->Int)->Int
 | 0,_=>1
 | n+1,A=>sz (n+1) fun k=>sgd k*A 0 k*det n (jo A k)
def bV (A:Nat->Nat->Int) (c:Nat) (v:Nat->Int):Nat->Nat->Int:=fun i j=>if j=c then v i else A i j
theorem fV:∀{n:Nat} {A B:Nat->Nat->Int},(∀i j,i<n->j<n->A i j=B i j)->det n A=det n B
 | 0,_,_,_=>rfl
 | n+1,A,B,h=>by
  simp only[det]
  refine bA fun k hk=>?_
  rw[h 0 k (by omega) hk,fV (A:=jo A k) (B:=jo B k) fun i j hi hj=>h (i+1) (skip k j) (by omega) (by unfold skip;split<;>omega)]
theorem qK {A:Nat->Nat->Int} {k:Nat} {v:Nat->Int}:jo (bV A k v) k=jo A k:=by
 funext i j
 unfold jo bV
 rw[if_neg]
 unfold skip
 split<;>omega
def GK (k c:Nat):Nat:=if c<k then c else c - 1
theorem nR {A:Nat->Nat->Int} {k c:Nat} {v:Nat->Int} (h:k≠c):jo (bV A c v) k=bV (jo A k) (GK k c) (fun i=>v (i+1)):=by
 funext i j
 unfold jo bV skip GK
 by_cases h1:j<k<;>by_cases h2:c<k
 ·simp only[h1,h2,if_true]
 ·simp only[h1,h2,if_true,if_false]
  rw[if_neg (by omega),if_neg (by omega)]
 ·simp only[h1,h2,if_true,if_false]
  rw[if_neg (by omega),if_neg (by omega)]
 ·simp only[h1,h2,if_false]
  by_cases h3:j+1=c
  ·rw[if_pos h3,if_pos (by omega)]
  ·rw[if_neg h3,if_neg (by omega)]
theorem mB:∀{n:Nat} {A:Nat->Nat->Int} {c:Nat} {u v:Nat->Int},c<n->det n (bV A c fun i=>u i+v i)=det n (bV A c u)+det n (bV A c v)
 | n+1,A,c,u,v,hc=>by
  simp only[det]
  rw[<-ov]
  refine bA fun k hk=>?_
  by_cases h:k=c
  ·subst h
   simp only[qK]
   have e:∀v:Nat->Int,bV A k v 0 k=v 0:=fun v=>by simp[bV]
   rw[e,e,e,Int.mul_add,Int.add_mul]
  ·have e:∀v:Nat->Int,bV A c v 0 k=A 0 k:=fun v=>by simp[bV,h]
   rw[nR h,nR h,nR h,e,e,e,mB (u:=fun i=>u (i+1)) (v:=fun i=>v (i+1)) (by unfold GK;split<;>omega),Int.mul_add]
theorem nG:∀{n:Nat} {A:Nat->Nat->Int} {c:Nat} {x:Int} {u:Nat->Int},c<n->det n (bV A c fun i=>x*u i)=x*det n (bV A c u)
 | n+1,A,c,x,u,hc=>by
  simp only[det]
  rw[<-gp]
  refine bA fun k hk=>?_
  by_cases h:k=c
  ·subst h
   simp only[qK]
   have e:∀v:Nat->Int,bV A k v 0 k=v 0:=fun v=>by simp[bV]
   rw[e,e]
   simp only[Int.mul_assoc,Int.mul_left_comm]
  ·have e:∀v:Nat->Int,bV A c v 0 k=A 0 k:=fun v=>by simp[bV,h]
   rw[nR h,nR h,e,e,nG (u:=fun i=>u (i+1)) (by unfold GK;split<;>omega)]
   simp only[Int.mul_assoc,Int.mul_left_comm]
theorem MW {n:Nat} {A:Nat->Nat->Int} {c:Nat} (hc:c<n):det n (bV A c fun _=>0)=0:=by
 have:=nG (n:=n) (A:=A) (x:=0) (u:=fun _=>0) hc
 simpa using this
theorem vf {n:Nat} {A:Nat->Nat->Int} {c:Nat} (hc:c<n):∀{m:Nat} {x:Nat->Int} {u:Nat->Nat->Int},det n (bV A c fun i=>sz m fun l=>x l*u l i)=sz m fun l=>x l*det n (bV A c (u l))
 | 0,x,u=>by simp only[sz];exact MW hc
 | m+1,x,u=>by
  simp only[sz]
  rw[mB hc,nG hc,vf hc]
theorem BU:∀{n:Nat} {A:Nat->Nat->Int} {c:Nat},c+1<n->(∀i,i<n->A i c=A i (c+1))->det n A=0
 | n+1,A,c,hc,h=>by
  simp only[det]
  rw[GL (k:=c) (l:=c+1) (by omega) hc (by omega) fun k hk h1 h2=>?_]
  ·have e:det n (jo A c)=det n (jo A (c+1)):=by
    refine fV fun i j hi hj=>?_
    unfold jo skip
    by_cases h1:j<c
    ·rw[if_pos h1,if_pos (by omega)]
    ·by_cases h2:j=c
     ·subst h2
      rw[if_neg h1,if_pos (by omega)]
      exact (h (i+1) (by omega)).symm
     ·rw[if_neg h1,if_neg (by omega)]
   rw[e,Oy,h 0 (by omega)]
   simp only[Int.neg_mul]
   omega
  ·have e:det n (jo A k)=0:=by
    refine BU (c:=GK k c) ?_ fun i hi=>?_
    ·unfold GK;split<;>omega
    ·unfold jo skip GK
     by_cases h3:c<k
     ·simp only[h3,if_true]
      rw[if_pos (by omega)]
      exact h (i+1) (by omega)
     ·simp only[h3,if_false]
      rw[if_neg (by omega),if_neg (by omega),show c - 1+1=c by omega]
      exact h (i+1) (by omega)
   rw[e,Int.mul_zero]
theorem pB (A:Nat->Nat->Int) (c:Nat):bV A c (fun i=>A i c)=A:=by
 funext i j
 unfold bV
 split
 ·rename_i h;rw[h]
 ·rfl
theorem fp {A:Nat->Nat->Int} {c e:Nat} {u v:Nat->Int} (h:c≠e):bV (bV A c u) e v=bV (bV A e v) c u:=by
 funext i j
 unfold bV
 by_cases h1:j=c<;>by_cases h2:j=e
 ·omega
 ·simp[h1,h]
 ·simp[h2,Ne.symm h]
 ·simp[h1,h2]
theorem Ck {n:Nat} {A:Nat->Nat->Int} {c:Nat} {u v:Nat->Int} (hc:c+1<n):det n (bV (bV A c u) (c+1) v)= - det n (bV (bV A c v) (c+1) u):=by
 have h0:∀w:Nat->Int,det n (bV (bV A c w) (c+1) w)=0:=fun w=>BU hc fun i _=>by simp[bV]
 have h1:=h0 fun i=>u i+v i
 rw[mB hc,fp (by omega),fp (u:=fun i=>u i+v i) (by omega),mB (by omega),mB (by omega),fp (c:=c+1) (by omega),fp (c:=c+1) (v:=v) (by omega),fp (c:=c+1) (u:=v) (v:=u) (by omega),fp (c:=c+1) (u:=v) (v:=v) (by omega),h0,h0] at h1
 omega
theorem GT:∀{k:Nat} {n:Nat} {A:Nat->Nat->Int} {c:Nat},c+k+1<n->(∀i,i<n->A i c=A i (c+k+1))->det n A=0
 | 0,n,A,c,hc,h=>BU hc h
 | k+1,n,A,c,hc,h=>by
  have e:A=bV (bV A (c+k+1) fun i=>A i (c+k+1)) (c+k+1+1) fun i=>A i (c+k+1+1):=by
   rw[pB,pB]
  rw[e,Ck (by omega)]
  have:det n (bV (bV A (c+k+1) fun i=>A i (c+k+1+1)) (c+k+1+1) fun i=>A i (c+k+1))=0:=by
   refine GT (k:=k) (c:=c) (by omega) fun i hi=>?_
   simp only[bV]
   rw[if_neg (by omega),if_neg (by omega),if_neg (by omega)]
   simp only[if_true]
   exact h i hi
  rw[this]
  rfl
theorem lw {n:Nat} {A:Nat->Nat->Int} {a b:Nat} (ha:a<n) (hb:b<n) (hab:a≠b) (h:∀i,i<n->A i a=A i b):det n A=0:=by
 by_cases hlt:a<b
 ·obtain ⟨k,rfl⟩:∃k,b=a+k+1:=⟨b - a - 1,by omega⟩
  exact GT hb h
 ·obtain ⟨k,rfl⟩:∃k,a=b+k+1:=⟨a - b - 1,by omega⟩
  exact GT ha fun i hi=>(h i hi).symm
theorem D4 {n:Nat} {A:Nat->Nat->Int} {a b:Nat} {u v:Nat->Int} (ha:a<n) (hb:b<n) (hab:a≠b):det n (bV (bV A a u) b v)= - det n (bV (bV A a v) b u):=by
 have h0:∀w:Nat->Int,det n (bV (bV A a w) b w)=0:=fun w=>lw ha hb hab fun i _=>by simp[bV]
 have h1:=h0 fun i=>u i+v i
 rw[mB hb,fp hab,fp (u:=fun i=>u i+v i) hab,mB ha,mB ha,fp (c:=b) (Ne.symm hab),fp (c:=b) (v:=v) (Ne.symm hab),fp (c:=b) (u:=v) (v:=u) (Ne.symm hab),fp (c:=b) (u:=v) (v:=v) (Ne.symm hab),h0,h0] at h1
 omega
def pz:Nat->(Nat->Int)->Int
 | 0,_=>1
 | n+1,f=>f 0*pz n fun i=>f (i+1)
theorem wz:∀{n:Nat} {f:Nat->Int},(∀i,i<n->0<=f i)->0<=pz n f
 | 0,_,_=>by simp[pz]
 | n+1,f,h=>Int.mul_nonneg (h 0 (by omega)) (wz fun i hi=>h (i+1) (by omega))
theorem Ik:∀{n:Nat} {f g:Nat->Int},(∀i,i<n->0<=f i/\f i<=g i)->pz n f<=pz n g
 | 0,_,_,_=>Int.le_refl _
 | n+1,f,g,h=>by
  simp only[pz]
  have h1:=Ik (n:=n) (f:=fun i=>f (i+1)) (g:=fun i=>g (i+1)) fun i hi=>h (i+1) (by omega)
  have h2:=h 0 (by omega)
  have h3:=wz (n:=n) (f:=fun i=>f (i+1)) fun i hi=>(h (i+1) (by omega)).1
  exact Int.mul_le_mul h2.2 h1 h3 (Int.le_trans h2.1 h2.2)
theorem HX:∀{n k:Nat} {f:Nat->Int},k<=n->sz n (fun j=>f (skip k j))+f k=sz (n+1) f
 | 0,k,f,hk=>by
  have:k=0:=by omega
  subst this
  simp[sz]
 | n+1,k,f,hk=>by
  by_cases h:k=n+1
  ·subst h
   have e:=bA (n:=n+1) (f:=fun j=>f (skip (n+1) j)) (g:=f) fun j hj=>by simp[skip,hj]
   rw[e]
   rfl
  ·have:=HX (n:=n) (k:=k) (f:=f) (by omega)
   simp only[sz] at this ⊢
   have e:f (skip k n)=f (n+1):=by unfold skip;rw[if_neg (by omega)]
   rw[e]
   omega
theorem wa:∀{n:Nat} {A:Nat->Nat->Int},ab (det n A)<=pz n fun i=>sz n fun j=>ab (A i j)
 | 0,A=>by simp[det,pz,ab]
 | n+1,A=>by
  simp only[det,pz]
  refine Int.le_trans yn ?_
  have hP:0<=pz n fun i=>sz (n+1) fun j=>ab (A (i+1) j):=wz fun i _=>iv fun j _=>bM _
  refine Int.le_trans (oi (g:=fun k=>ab (A 0 k)*pz n fun i=>sz (n+1) fun j=>ab (A (i+1) j)) fun k hk=>?_) (by rw[Cp];exact Int.le_refl _)
  rw[Int.mul_assoc,HP,nA]
  refine Int.mul_le_mul_of_nonneg_left (Int.le_trans wa (Ik fun i hi=>⟨iv fun j _=>bM _,?_⟩)) (bM _)
  have:=HX (n:=n) (k:=k) (f:=fun j=>ab (A (i+1) j)) (by omega)
  have h0:=bM (A (i+1) k)
  simp only[jo]
  omega
def upd (β:Nat->Nat) (r c:Nat):Nat->Nat:=fun k=>if k=r then c else β k
def eB (M:Nat->Nat->Int) (γ:Nat->Nat):Nat->Nat->Int:=fun i k=>M i (γ k)
def dc (m:Nat) (M:Nat->Nat->Int) (γ:Nat->Nat):Int:=det m (eB M γ)
theorem nc (M:Nat->Nat->Int) (β:Nat->Nat) (r c:Nat):eB M (upd β r c)=bV (eB M β) r (fun i=>M i c):=by
 funext i k
 unfold eB upd bV
 split<;>rfl
theorem Ql (β:Nat->Nat) (r c e:Nat):upd (upd β r c) r e=upd β r e:=by
 funext k
 unfold upd
 split<;>rfl
theorem ND (β:Nat->Nat) (r:Nat):upd β r (β r)=β:=by
 funext k
 unfold upd
 split
 ·rename_i h;rw[h]
 ·rfl
structure Tb (m w:Nat) (M T:Nat->Nat->Int) (d:Int) (β:Nat->Nat):Prop where
 dpos:0<d
 lt:∀i,i<m->β i<w
 co:∀k,k<m->∀j,j<w->d*M k j=sz m fun i=>T i j*M k (β i)
 cr:∃σ:Int,σ*σ=1/\d=σ*dc m M β/\∀i,i<m->∀j,j<w->T i j=σ*dc m M (upd β i j)
section
variable {m w:Nat} {M T:Nat->Nat->Int} {d:Int} {β:Nat->Nat}
theorem Co {i k:Nat} (hi:i<m) (hk:k<m) (h:i≠k):dc m M (upd β i (β k))=0:=by
 refine lw hi hk h fun l _=>?_
 unfold eB upd
 rw[if_pos rfl,if_neg (Ne.symm h)]
theorem Tb.basis (h:Tb m w M T d β) {i:Nat} (hi:i<m):T i (β i)=d:=by
 obtain ⟨σ,_,h2,h3⟩:=h.cr
 rw[h3 i hi _ (h.lt i hi),ND,<-h2]
theorem Tb.other (h:Tb m w M T d β) {i k:Nat} (hi:i<m) (hk:k<m) (hik:i≠k):T i (β k)=0:=by
 obtain ⟨σ,_,h2,h3⟩:=h.cr
 rw[h3 i hi _ (h.lt k hk),Co hi hk hik,Int.mul_zero]
theorem Tb.inj (h:Tb m w M T d β) {i k:Nat} (hi:i<m) (hk:k<m) (hb:β i=β k):i=k:=by
 by_cases e:i=k
 ·exact e
 ·have h1:=h.other hi hk e
  rw[<-hb,h.basis hi] at h1
  have:=h.dpos
  omega
theorem Pe (h:Tb m w M T d β) {r i c j:Nat} (hr:r<m) (hi:i<m) (hri:r≠i) (hc:c<w) (hj:j<w) :
  d*d*dc m M (upd (upd β r c) i j)=(T r c*T i j - T i c*T r j)*dc m M β:=by
 obtain ⟨B,hB⟩:∃B,B=eB M β:=⟨_,rfl⟩
 have e1:d*d*dc m M (upd (upd β r c) i j)=det m (bV (bV B r fun q=>d*M q c) i fun q=>d*M q j):=by
  have a1:=nG (n:=m) (A:=bV B r fun q=>d*M q c) (c:=i) (x:=d) (u:=fun q=>M q j) hi
  have a2:=nG (n:=m) (A:=bV B i fun q=>M q j) (c:=r) (x:=d) (u:=fun q=>M q c) hr
  unfold dc
  rw[nc,nc,<-hB,a1,fp (u:=fun q=>d*M q c) hri,a2,fp (u:=fun q=>M q c) hri,Int.mul_assoc]
 have e2:det m (bV (bV B r fun q=>d*M q c) i fun q=>d*M q j)=det m (bV (bV B r fun q=>sz m fun k=>T k c*B q k) i fun q=>sz m fun l=>T l j*B q l):=by
  refine fV fun p q hp hq=>?_
  unfold bV
  rw[hB]
  split
  ·exact h.co p hp j hj
  ·split
   ·exact h.co p hp c hc
   ·rfl
 rw[e1,e2,vf hi (x:=fun l=>T l j) (u:=fun l q=>B q l)]
 have e3:∀l,det m (bV (bV B r fun q=>sz m fun k=>T k c*B q k) i fun q=>B q l)=sz m fun k=>T k c*det m (bV (bV B i fun q=>B q l) r fun q=>B q k):=fun l=>by
  rw[fp hri,vf hr (x:=fun k=>T k c) (u:=fun k q=>B q k)]
 have z1:∀k l,k<m->k≠r->k≠i->det m (bV (bV B i fun q=>B q l) r fun q=>B q k)=0:=fun k l hk h1 h2 =>
  lw hr hk h1.symm fun q _=>by simp[bV,h1,h2]
 have z2:∀k l,l<m->l≠r->l≠i->det m (bV (bV B i fun q=>B q l) r fun q=>B q k)=0:=fun k l hl h1 h2 =>
  lw hi hl h2.symm fun q _=>by simp[bV,h1,h2,hri.symm]
 have z3:det m (bV (bV B i fun q=>B q r) r fun q=>B q r)=0:=lw hi hr hri.symm fun q _=>by simp[bV,hri.symm]
 have z4:det m (bV (bV B i fun q=>B q i) r fun q=>B q i)=0:=lw hi hr hri.symm fun q _=>by simp[bV,hri.symm]
 have z5:det m (bV (bV B i fun q=>B q i) r fun q=>B q r)=det m B:=by
  rw[pB,pB]
 have z6:det m (bV (bV B i fun q=>B q r) r fun q=>B q i)= - det m B:=by
  rw[D4 hi hr hri.symm,z5]
 have e4:∀l,l<m->(sz m fun k=>T k c*det m (bV (bV B i fun q=>B q l) r fun q=>B q k))=T r c*det m (bV (bV B i fun q=>B q l) r fun q=>B q r)+T i c*det m (bV (bV B i fun q=>B q l) r fun q=>B q i):=fun l _ =>
  GL hr hi hri fun k hk h1 h2=>by rw[z1 k l hk h1 h2,Int.mul_zero]
 rw[bA (g:=fun l=>T l j*(T r c*det m (bV (bV B i fun q=>B q l) r fun q=>B q r)+T i c*det m (bV (bV B i fun q=>B q l) r fun q=>B q i))) fun l hl=>by rw[e3 l,e4 l hl]]
 rw[GL hr hi hri fun l hl h1 h2=>by rw[z2 r l hl h1 h2,z2 i l hl h1 h2];simp]
 rw[z3,z4,z5,z6]
 have:dc m M β=det m B:=by rw[hB];rfl
 rw[this]
 grind
def piv (T:Nat->Nat->Int) (d:Int) (r c i j:Nat):Int:=(T r c*T i j - T i c*T r j) / d
theorem jU (h:Tb m w M T d β) {r i c j:Nat} (hr:r<m) (hi:i<m) (hri:r≠i) (hc:c<w) (hj:j<w):d*piv T d r c i j=T r c*T i j - T i c*T r j:=by
 obtain ⟨σ,h1,h2,_⟩:=h.cr
 have h3:=Pe h hr hi hri hc hj
 have hd:=h.dpos
 have h4:dc m M β=σ*d:=by rw[h2,<-Int.mul_assoc,h1,Int.one_mul]
 rw[h4] at h3
 have h5:d*(d*dc m M (upd (upd β r c) i j))=d*((T r c*T i j - T i c*T r j)*σ):=by
  rw[<-Int.mul_assoc,h3]
  grind
 have h6:=Int.eq_of_mul_eq_mul_left (by omega) h5
 have h7:T r c*T i j - T i c*T r j=d*(σ*dc m M (upd (upd β r c) i j)):=by
  have:(T r c*T i j - T i c*T r j)*σ*σ=d*dc m M (upd (upd β r c) i j)*σ:=by rw[h6]
  rw[Int.mul_assoc,h1,Int.mul_one] at this
  rw[this]
  grind
 unfold piv
 rw[h7,Int.mul_ediv_cancel_left _ (by omega)]
theorem Tr (h:Tb m w M T d β) {σ:Int} (h1:σ*σ=1) (h2:d=σ*dc m M β) {r i c j:Nat} (hr:r<m) (hi:i<m) (hri:r≠i) (hc:c<w) (hj:j<w):piv T d r c i j=σ*dc m M (upd (upd β r c) i j):=by
 have h3:=Pe h hr hi hri hc hj
 have hd:=h.dpos
 have h4:dc m M β=σ*d:=by rw[h2,<-Int.mul_assoc,h1,Int.one_mul]
 have h5:=jU h hr hi hri hc hj
 rw[h4,<-h5] at h3
 have h6:(d*d)*dc m M (upd (upd β r c) i j)=(d*d)*(piv T d r c i j*σ):=by rw[h3];grind
 have h7:=Int.eq_of_mul_eq_mul_left (Int.ne_of_gt (Int.mul_pos hd hd)) h6
 rw[h7]
 grind
def sg (x:Int):Int:=if x<0 then -1 else 1
theorem G5 (x:Int):sg x*sg x=1:=by unfold sg;split<;>rfl
theorem Pj {x:Int} (h:x≠0):0<sg x*x:=by unfold sg;split<;>omega
def ox (T:Nat->Nat->Int) (d:Int) (r c:Nat):Nat->Nat->Int:=fun i j=>sg (T r c)*(if i=r then T r j else piv T d r c i j)
theorem Tb.step (h:Tb m w M T d β) {r c:Nat} (hr:r<m) (hc:c<w) (he:T r c≠0):Tb m w M (ox T d r c) (sg (T r c)*T r c) (upd β r c):=by
 have hd:=h.dpos
 refine ⟨Pj he,fun i hi=>?_,fun k hk j hj=>?_,?_⟩
 ·unfold upd
  split
  ·exact hc
  ·exact h.lt i hi
 ·have h1:∀i,i<m->d*((if i=r then T r j else piv T d r c i j)*M k (upd β r c i))=(T r c*(T i j*M k (β i)) - T r j*(T i c*M k (β i)))+(if i=r then d*(T r j*M k c) else 0):=fun i hi=>by
   unfold upd
   by_cases e:i=r
   ·subst e
    simp only[if_true]
    grind
   ·simp only[e,if_false,Int.add_zero]
    rw[<-Int.mul_assoc,jU h hr hi (Ne.symm e) hc hj]
    grind
  have h2:d*(sz m fun i=>(if i=r then T r j else piv T d r c i j)*M k (upd β r c i))=d*(T r c*M k j):=by
   rw[<-gp,bA h1,ov,yY,gp,gp,<-h.co k hk j hj,<-h.co k hk c hc,fB hr fun i _ hne=>if_neg hne,if_pos rfl]
   grind
  have h3:=Int.eq_of_mul_eq_mul_left (by omega) h2
  have h4:(sz m fun i=>ox T d r c i j*M k (upd β r c i))=sg (T r c)*sz m fun i=>(if i=r then T r j else piv T d r c i j)*M k (upd β r c i):=by
   rw[<-gp]
   exact bA fun i _=>by unfold ox;rw[Int.mul_assoc]
  rw[h4,h3,Int.mul_assoc]
 ·obtain ⟨σ,h1,h2,h3⟩:=h.cr
  refine ⟨sg (T r c)*σ,?_,?_,fun i hi j hj=>?_⟩
  ·have:=G5 (T r c)
   grind
  ·rw[h3 r hr c hc]
   grind
  ·unfold ox
   by_cases e:i=r
   ·subst e
    rw[if_pos rfl,h3 i hi j hj,Ql]
    grind
   ·rw[if_neg e,Tr h h1 h2 hr hi (Ne.symm e) hc hj]
    grind
theorem Ij:∀n:Nat,det n (fun i k=>if i=k then 1 else 0)=1
 | 0=>rfl
 | n+1=>by
  simp only[det]
  rw[fB (k:=0) (by omega) fun k _ hk=>by rw[if_neg (Ne.symm hk)];simp]
  have:det n (jo (fun i k=>if i=k then 1 else 0) 0)=det n (fun i k=>if i=k then 1 else 0):=fV fun i j _ _=>by
   unfold jo skip
   simp
  rw[this,Ij n]
  simp[sgd]
theorem Tb.first {a:Nat->Nat} (ha:∀i,i<m->a i<w) (hM:∀k,k<m->∀i,i<m->M k (a i)=if k=i then 1 else 0):Tb m w M M 1 a:=by
 have h1:dc m M a=1:=by
  unfold dc
  rw[<-Ij m]
  exact fV fun i j hi hj=>hM i hi j hj
 refine ⟨by omega,ha,fun k hk j hj=>?_,1,by omega,by rw[h1];rfl,fun i hi j hj=>?_⟩
 ·rw[fB hk fun i hi hne=>by rw[hM k hk i hi,if_neg (Ne.symm hne),Int.mul_zero],hM k hk k hk,if_pos rfl]
  omega
 ·unfold dc
  rw[nc]
  have e:det m (bV (eB M a) i fun q=>M q j)=det m (bV (eB M a) i fun q=>sz m fun k=>M k j*eB M a q k):=by
   refine fV fun p q hp hq=>?_
   unfold bV
   split
   ·show M p j=sz m fun k=>M k j*eB M a p k
    rw[fB hp fun k hk hne=>by unfold eB;rw[hM p hp k hk,if_neg (Ne.symm hne),Int.mul_zero]]
    unfold eB
    rw[hM p hp p hp,if_pos rfl]
    omega
   ·rfl
  rw[e,vf hi (x:=fun k=>M k j) (u:=fun k q=>eB M a q k),fB hi fun k hk hne=>by
   rw[lw hi hk (Ne.symm hne) fun q _=>by simp[bV,hne],Int.mul_zero],pB]
  have:det m (eB M a)=1:=h1
  rw[this]
  omega
theorem Tb.rows (h:Tb m w M T d β) {a:Nat->Nat} (ha:∀i,i<m->a i<w) (hM:∀k,k<m->∀i,i<m->M k (a i)=if k=i then 1 else 0) {i j:Nat} (hi:i<m) (hj:j<w):T i j=sz m fun k=>T i (a k)*M k j:=by
 obtain ⟨σ,h1,h2,h3⟩:=h.cr
 rw[h3 i hi j hj]
 have e:dc m M (upd β i j)=sz m fun k=>M k j*dc m M (upd β i (a k)):=by
  unfold dc
  rw[nc]
  have e:det m (bV (eB M β) i fun q=>M q j)=det m (bV (eB M β) i fun q=>sz m fun k=>M k j*M q (a k)):=by
   refine fV fun p q hp hq=>?_
   unfold bV
   split
   ·show M p j=sz m fun k=>M k j*M p (a k)
    rw[fB hp fun k hk hne=>by rw[hM p hp k hk,if_neg (Ne.symm hne),Int.mul_zero],hM p hp p hp,if_pos rfl]
    omega
   ·rfl
  rw[e,vf hi (x:=fun k=>M k j) (u:=fun k q=>M q (a k))]
  exact bA fun k _=>by rw[nc]
 rw[e,<-gp]
 exact bA fun k hk=>by rw[h3 i hi _ (ha k hk)];grind
theorem Tb.bound (h:Tb m w M T d β) {i j:Nat} (hi:i<m) (hj:j<w):ab (T i j)=ab (dc m M (upd β i j)):=by
 obtain ⟨σ,h1,_,h3⟩:=h.cr
 rw[h3 i hi j hj,nA]
 have h4:ab σ*ab σ=1:=by rw[<-nA,h1];rfl
 have h5:ab σ=1:=by
  have h6:=bM σ
  by_cases h7:ab σ<=1
  ·have:ab σ≠0:=fun e=>by rw[e] at h4;simp at h4
   omega
  ·exfalso
   have:2*2<=ab σ*ab σ:=Int.mul_le_mul (by omega) (by omega) (by omega) h6
   omega
 rw[h5,Int.one_mul]
end
structure Sx where
 T:Nat->Nat->Int
 d:Int
 β:Nat->Nat
def zr (m:Nat) (wc:Nat->Int) (S:Sx) (j:Nat):Int:=wc j*S.d - sz m fun i=>wc (S.β i)*S.T i j
structure Leaves (m R:Nat) (S:Sx) (c r:Nat):Prop where
 lt:r<m
 pos:0<S.T r c
 le:∀i,i<m->0<S.T i c->S.T r R*S.T i c<=S.T i R*S.T r c
 tie:∀i,i<m->0<S.T i c->S.T r R*S.T i c=S.T i R*S.T r c->S.β r<=S.β i
structure Enters (m N:Nat) (wc:Nat->Int) (S:Sx) (c:Nat):Prop where
 lt:c<N
 neg:zr m wc S c<0
 least:∀j,j<c->0<=zr m wc S j
structure StepAt (m w:Nat) (S S':Sx) (r c:Nat):Prop where
 T:∀i j,i<m->j<w->S'.T i j=if i=r then S.T r j else piv S.T S.d r c i j
 d:S'.d=S.T r c
 β:∀i,i<m->S'.β i=upd S.β r c i
structure Step (m w N R:Nat) (wc:Nat->Int) (S S':Sx) (r c:Nat):Prop where
 enters:Enters m N wc S c
 leaves:Leaves m R S c r
 at':StepAt m w S S' r c
structure Val (m w N R:Nat) (M:Nat->Nat->Int) (S:Sx):Prop where
 tb:Tb m w M S.T S.d S.β
 feas:∀i,i<m->0<=S.T i R
 ne:∀i,i<m->S.β i≠R
section
variable {m w N R:Nat} {M:Nat->Nat->Int} {wc:Nat->Int}
theorem vi {β β':Nat->Nat} (h:∀i,i<m->β' i=β i):dc m M β'=dc m M β:=fV fun i j _ hj=>by unfold eB;rw[h j hj]
theorem Tb.congr {T T':Nat->Nat->Int} {d:Int} {β β':Nat->Nat} (h:Tb m w M T d β) (hT:∀i j,i<m->j<w->T' i j=T i j) (hβ:∀i,i<m->β' i=β i):Tb m w M T' d β':=by
 refine ⟨h.dpos,fun i hi=>by rw[hβ i hi];exact h.lt i hi,fun k hk j hj=>?_,?_⟩
 ·rw[h.co k hk j hj]
  exact bA fun i hi=>by rw[hT i j hi hj,hβ i hi]
 ·obtain ⟨σ,h1,h2,h3⟩:=h.cr
  refine ⟨σ,h1,by rw[vi hβ];exact h2,fun i hi j hj=>?_⟩
  rw[hT i j hi hj,h3 i hi j hj]
  congr 1
  exact (vi fun k hk=>by unfold upd;rw[hβ k hk]).symm
theorem Val.stepAt {S S':Sx} (h:Val m w N R M S) (hR:R<w) {r c:Nat} (hc:c<w) (hcR:c≠R) (hl:Leaves m R S c r) (hs:StepAt m w S S' r c):Val m w N R M S':=by
 have hr:=hl.lt
 have e1:sg (S.T r c)=1:=by unfold sg;rw[if_neg (by have:=hl.pos;omega)]
 have h1:=h.tb.step hr hc (by have:=hl.pos;omega)
 have h2:=h1.congr (T':=S'.T) (β':=S'.β) (fun i j hi hj=>by rw[hs.T i j hi hj];unfold ox;rw[e1,Int.one_mul]) hs.β
 rw[e1,Int.one_mul,<-hs.d] at h2
 refine ⟨h2,fun i hi=>?_,fun i hi=>?_⟩
 ·rw[hs.T i R hi hR]
  split
  ·exact h.feas r hr
  ·rename_i hne
   have h3:=jU h.tb hr hi (Ne.symm hne) hc hR
   have h4:=h.tb.dpos
   have h5:=hl.pos
   have h6:0<=S.T r c*S.T i R - S.T i c*S.T r R:=by
    by_cases h7:0<S.T i c
    ·have:=hl.le i hi h7
     have e1:=Int.mul_comm (S.T r R) (S.T i c)
     have e2:=Int.mul_comm (S.T i R) (S.T r c)
     omega
    ·have h8:0<=S.T r c*S.T i R:=Int.mul_nonneg (by omega) (h.feas i hi)
     have h9:0<= -S.T i c*S.T r R:=Int.mul_nonneg (by omega) (h.feas r hr)
     rw[Int.neg_mul] at h9
     omega
   rw[<-h3] at h6
   exact Int.nonneg_of_mul_nonneg_right h6 h4
 ·rw[hs.β i hi]
  unfold upd
  split
  ·exact hcR
  ·exact h.ne i hi
theorem Ey {S:Sx} (h:Tb m w M S.T S.d S.β) {i:Nat} (hi:i<m):zr m wc S (S.β i)=0:=by
 unfold zr
 rw[fB hi fun k hk hne=>by rw[h.other hk hi hne,Int.mul_zero],h.basis hi]
 omega
theorem vA {S:Sx} (h:Tb m w M S.T S.d S.β) {a:Nat->Nat} (ha:∀i,i<m->a i<w) (hM:∀k,k<m->∀i,i<m->M k (a i)=if k=i then 1 else 0) {j:Nat} (hj:j<w) :
  zr m wc S j=wc j*S.d - sz m fun k=>(sz m fun i=>wc (S.β i)*S.T i (a k))*M k j:=by
 unfold zr
 congr 1
 rw[bA (g:=fun i=>sz m fun k=>wc (S.β i)*S.T i (a k)*M k j) fun i hi=>by
  rw[h.rows ha hM hi hj,<-gp]
  exact bA fun k _=>by rw[Int.mul_assoc]]
 rw[vv]
 exact bA fun k _=>Cp
theorem QJ {S S':Sx} (h:Tb m w M S.T S.d S.β) {r c j:Nat} (hr:r<m) (hc:c<w) (hj:j<w) (hs:StepAt m w S S' r c):S.d*zr m wc S' j=S.T r c*zr m wc S j - zr m wc S c*S.T r j:=by
 have h1:∀i,i<m->S.d*(wc (S'.β i)*S'.T i j)=(S.T r c*(wc (S.β i)*S.T i j) - S.T r j*(wc (S.β i)*S.T i c))+(if i=r then S.d*(wc c*S.T r j) else 0):=fun i hi=>by
  rw[hs.β i hi,hs.T i j hi hj]
  unfold upd
  by_cases e:i=r
  ·subst e
   simp only[if_true]
   grind
  ·simp only[e,if_false,Int.add_zero]
   have:=jU h hr hi (Ne.symm e) hc hj
   grind
 have h2:S.d*(sz m fun i=>wc (S'.β i)*S'.T i j)=S.T r c*(sz m fun i=>wc (S.β i)*S.T i j) - S.T r j*(sz m fun i=>wc (S.β i)*S.T i c)+S.d*(wc c*S.T r j):=by
  rw[<-gp,bA h1,ov,yY,gp,gp,fB hr fun i _ hne=>if_neg hne,if_pos rfl]
 unfold zr
 rw[Int.mul_sub,h2,hs.d]
 grind
theorem Uk {S S':Sx} (h:Tb m w M S.T S.d S.β) (h':Tb m w M S'.T S'.d S'.β) {a:Nat->Nat} (ha:∀i,i<m->a i<w) (hM:∀k,k<m->∀i,i<m->M k (a i)=if k=i then 1 else 0) {s:Nat} (hs:s<w) :
  S.d*zr m wc S' s=S'.d*zr m wc S s+sz m fun i=>S.T i s*zr m wc S' (S.β i):=by
 have e1:=vA (wc:=wc) h' ha hM hs
 have e2:∀i,i<m->S.T i s*zr m wc S' (S.β i)=S'.d*(wc (S.β i)*S.T i s) - sz m fun k=>(sz m fun i=>wc (S'.β i)*S'.T i (a k))*(S.T i s*M k (S.β i)):=fun i hi=>by
  rw[vA (wc:=wc) h' ha hM (h.lt i hi),Int.mul_sub,<-gp]
  congr 1
  ·grind
  ·exact bA fun k _=>by grind
 rw[bA e2,yY,gp,vv]
 have e3:(sz m fun k=>sz m fun i=>(sz m fun i=>wc (S'.β i)*S'.T i (a k))*(S.T i s*M k (S.β i)))=S.d*sz m fun k=>(sz m fun i=>wc (S'.β i)*S'.T i (a k))*M k s:=by
  rw[<-gp]
  refine bA fun k hk=>?_
  rw[gp,<-h.co k hk s hs]
  grind
 rw[e3,e1]
 unfold zr
 grind
theorem pZ {β:Nat->Nat->Nat} {q:Nat}:∀{k i:Nat},(∃p,p<m/\β i p=q)->(¬ ∃p,p<m/\β (i+k) p=q)->∃n,i<=n/\n<i+k/\(∃p,p<m/\β n p=q)/\¬ ∃p,p<m/\β (n+1) p=q
 | 0,i,h1,h2=>(h2 h1).elim
 | k+1,i,h1,h2=>by
  by_cases h:∃p,p<m/\β (i+k) p=q
  ·exact ⟨i+k,by omega,by omega,h,h2⟩
  ·obtain ⟨n,h3,h4,h5,h6⟩:=pZ h1 h
   exact ⟨n,h3,by omega,h5,h6⟩
theorem mC {β:Nat->Nat->Nat} {q:Nat}:∀{k i:Nat},(¬ ∃p,p<m/\β i p=q)->(∃p,p<m/\β (i+k) p=q)->∃n,i<=n/\n<i+k/\(¬ ∃p,p<m/\β n p=q)/\∃p,p<m/\β (n+1) p=q
 | 0,i,h1,h2=>(h1 h2).elim
 | k+1,i,h1,h2=>by
  by_cases h:∃p,p<m/\β (i+k) p=q
  ·obtain ⟨n,h3,h4,h5,h6⟩:=mC h1 h
   exact ⟨n,h3,by omega,h5,h6⟩
  ·exact ⟨i+k,by omega,by omega,h,h2⟩
theorem Tc {k:Nat} {f:Nat->Nat}:0<k->∃n,n<k/\∀i,i<k->f i<=f n:=by
 induction k with
 | zero=>intro h;omega
 | succ k ih =>
  intro _
  by_cases hk:k=0
  ·subst hk
   exact ⟨0,by omega,fun i hi=>by rw[show i=0 by omega];exact Nat.le_refl _⟩
  ·obtain ⟨n,h1,h2⟩:=ih (by omega)
   by_cases h3:f k<=f n
   ·refine ⟨n,by omega,fun i hi=>?_⟩
    by_cases h4:i=k
    ·rw[h4];exact h3
    ·exact h2 i (by omega)
   ·refine ⟨k,by omega,fun i hi=>?_⟩
    by_cases h4:i=k
    ·rw[h4];exact Nat.le_refl _
    ·have:=h2 i (by omega);omega
theorem A9 {e x y:Int} (he:0<e) (h:e*x<=e*y):x<=y:=Int.le_of_mul_le_mul_left h he
structure Run (m w N R:Nat) (M:Nat->Nat->Int) (wc:Nat->Int) (k:Nat) (S:Nat->Sx) (r c:Nat->Nat):Prop where
 val:∀n,n<=k->Val m w N R M (S n)
 step:∀n,n<k->Step m w N R wc (S n) (S (n+1)) (r n) (c n)
theorem Run.of {k:Nat} {S:Nat->Sx} {r c:Nat->Nat} (hN:N<=R) (hR:R<w) (h0:Val m w N R M (S 0)) (hs:∀n,n<k->Step m w N R wc (S n) (S (n+1)) (r n) (c n)):Run m w N R M wc k S r c:=by
 refine ⟨fun n=>?_,hs⟩
 induction n with
 | zero=>intro _;exact h0
 | succ n ih =>
  intro hn
  have h1:=hs n (by omega)
  have:=h1.enters.lt
  exact (ih (by omega)).stepAt hR (by omega) (by omega) h1.leaves h1.at'
theorem Run.nocycle {k:Nat} {S:Nat->Sx} {r c:Nat->Nat} {a:Nat->Nat} (ha:∀i,i<m->a i<w) (hM:∀k,k<m->∀i,i<m->M k (a i)=if k=i then 1 else 0) (hN:N<=R) (hR:R<w)
  (h:Run m w N R M wc k S r c) (hk:0<k):¬ ∀i,i<m->(S k).β i=(S 0).β i:=by
 intro hcyc
 have cw:∀n,n<k->c n<w:=fun n hn=>by have:=(h.step n hn).enters.lt;omega
 have dp:∀n,n<=k->0<(S n).d:=fun n hn=>(h.val n hn).tb.dpos
 have vstep:∀n,n<k->zr m wc (S n) R*(S (n+1)).d<=zr m wc (S (n+1)) R*(S n).d/\((S n).T (r n) R≠0->zr m wc (S n) R*(S (n+1)).d<zr m wc (S (n+1)) R*(S n).d):=fun n hn=>by
  have hs:=h.step n hn
  have h1:=QJ (wc:=wc) (h.val n (by omega)).tb hs.leaves.lt (cw n hn) hR hs.at'
  have h2:=hs.enters.neg
  have h3:=(h.val n (by omega)).feas (r n) hs.leaves.lt
  have h4:0<= -zr m wc (S n) (c n)*(S n).T (r n) R:=Int.mul_nonneg (by omega) h3
  rw[Int.neg_mul] at h4
  rw[hs.at'.d,Int.mul_comm (zr m wc (S (n+1)) R),h1,Int.mul_comm (zr m wc (S n) R)]
  refine ⟨by omega,fun hne=>?_⟩
  have h5:0< -zr m wc (S n) (c n)*(S n).T (r n) R:=Int.mul_pos (by omega) (by omega)
  rw[Int.neg_mul] at h5
  omega
 have vle:∀i j,i+j<=k->zr m wc (S i) R*(S (i+j)).d<=zr m wc (S (i+j)) R*(S i).d:=by
  intro i j
  induction j with
  | zero=>intro _;exact Int.le_refl _
  | succ j ih =>
   intro hj
   have h1:=ih (by omega)
   have h2:=(vstep (i+j) (by omega)).1
   have d1:=dp i (by omega)
   have d2:=dp (i+j) (by omega)
   have d3:=dp (i+j+1) (by omega)
   refine A9 d2 ?_
   have h3:=z11 h1 (Int.le_of_lt d3)
   have h4:=z11 h2 (Int.le_of_lt d1)
   rw[show i+(j+1)=i+j+1 by omega]
   calc (S (i+j)).d*(zr m wc (S i) R*(S (i+j+1)).d)=zr m wc (S i) R*(S (i+j)).d*(S (i+j+1)).d:=by grind
    _<=zr m wc (S (i+j)) R*(S i).d*(S (i+j+1)).d:=h3
    _=zr m wc (S (i+j)) R*(S (i+j+1)).d*(S i).d:=by grind
    _<=zr m wc (S (i+j+1)) R*(S (i+j)).d*(S i).d:=h4
    _=(S (i+j)).d*(zr m wc (S (i+j+1)) R*(S i).d):=by grind
 have same:(S k).d=(S 0).d/\∀i j,i<m->j<w->(S k).T i j=(S 0).T i j:=by
  obtain ⟨σ,s1,s2,s3⟩:=(h.val k (Nat.le_refl _)).tb.cr
  obtain ⟨τ,t1,t2,t3⟩:=(h.val 0 (by omega)).tb.cr
  rw[vi hcyc] at s2
  have p1:=dp k (Nat.le_refl _)
  have p2:=dp 0 (by omega)
  have e:σ=τ:=by
   have h1:σ*(S k).d=dc m M (S 0).β:=by rw[s2,<-Int.mul_assoc,s1,Int.one_mul]
   have h2:τ*(S 0).d=dc m M (S 0).β:=by rw[t2,<-Int.mul_assoc,t1,Int.one_mul]
   have pm:∀x:Int,x*x=1->x=1\/x= -1:=fun x hx=>by
    have h4:x.natAbs*x.natAbs=1:=by
     have:=congrArg Int.natAbs hx
     rwa [Int.natAbs_mul] at this
    have h5:x.natAbs=1:=Nat.eq_one_of_mul_eq_one_left h4
    omega
   rcases pm σ s1 with rfl | rfl<;>rcases pm τ t1 with rfl | rfl<;>omega
  refine ⟨by rw[s2,e];exact t2.symm,fun i j hi hj=>?_⟩
  rw[s3 i hi j hj,t3 i hi j hj,e]
  congr 1
  exact vi fun l hl=>by unfold upd;rw[hcyc l hl]
 have vend:zr m wc (S k) R=zr m wc (S 0) R:=by
  unfold zr
  rw[same.1]
  congr 1
  exact bA fun i hi=>by rw[hcyc i hi,same.2 i R hi hR]
 have flat:∀n,n<k->(S n).T (r n) R=0:=fun n hn=>by
  by_cases e:(S n).T (r n) R=0
  ·exact e
  ·exfalso
   have h1:=(vstep n hn).2 e
   have h2:=vle 0 n (by omega)
   have h3:=vle (n+1) (k - (n+1)) (by omega)
   rw[Nat.zero_add] at h2
   rw[show n+1+(k - (n+1))=k by omega,vend,same.1] at h3
   have d0:=dp 0 (by omega)
   have d1:=dp n (by omega)
   have d2:=dp (n+1) (by omega)
   have h4:=Int.mul_lt_mul_of_pos_right h1 d0
   have h5:=z11 h2 (Int.le_of_lt d2)
   have h6:=z11 h3 (Int.le_of_lt d1)
   have:zr m wc (S 0) R*(S n).d*(S (n+1)).d<zr m wc (S 0) R*(S n).d*(S (n+1)).d:=by
    calc zr m wc (S 0) R*(S n).d*(S (n+1)).d<=zr m wc (S n) R*(S 0).d*(S (n+1)).d:=h5
     _=zr m wc (S n) R*(S (n+1)).d*(S 0).d:=by grind
     _<zr m wc (S (n+1)) R*(S n).d*(S 0).d:=h4
     _=zr m wc (S (n+1)) R*(S 0).d*(S n).d:=by grind
     _<=zr m wc (S 0) R*(S (n+1)).d*(S n).d:=h6
     _=zr m wc (S 0) R*(S n).d*(S (n+1)).d:=by grind
   omega
 have zeroStep:∀n q,n<k->((∀i,i<m->(S n).β i=q->(S n).T i R=0)↔(∀i,i<m->(S (n+1)).β i=q->(S (n+1)).T i R=0)):=fun n q hn=>by
  have hs:=h.step n hn
  have hf:=flat n hn
  have htb:=(h.val n (by omega)).tb
  have key:∀i,i<m->i≠r n->((S (n+1)).T i R=0↔(S n).T i R=0):=fun i hi hne=>by
   rw[hs.at'.T i R hi hR,if_neg hne]
   have h1:=jU htb hs.leaves.lt hi (Ne.symm hne) (cw n hn) hR
   rw[hf,Int.mul_zero,Int.sub_zero] at h1
   have h2:=hs.leaves.pos
   have h3:=dp n (by omega)
   constructor
   ·intro e
    rw[e,Int.mul_zero] at h1
    rcases Int.mul_eq_zero.1 h1.symm with h4 | h4
    ·omega
    ·exact h4
   ·intro e
    rw[e,Int.mul_zero] at h1
    rcases Int.mul_eq_zero.1 h1 with h4 | h4
    ·omega
    ·exact h4
  constructor
  ·intro hz i hi hb
   by_cases e:i=r n
   ·rw[e,hs.at'.T _ R hs.leaves.lt hR,if_pos rfl];exact hf
   ·rw[hs.at'.β i hi] at hb
    unfold upd at hb
    rw[if_neg e] at hb
    exact (key i hi e).2 (hz i hi hb)
  ·intro hz i hi hb
   by_cases e:i=r n
   ·rw[e];exact hf
   ·refine (key i hi e).1 (hz i hi ?_)
    rw[hs.at'.β i hi]
    unfold upd
    rw[if_neg e]
    exact hb
 have zeroAll:∀q n,n<=k->((∀i,i<m->(S 0).β i=q->(S 0).T i R=0)↔(∀i,i<m->(S n).β i=q->(S n).T i R=0)):=fun q n=>by
  induction n with
  | zero=>intro _;exact Iff.rfl
  | succ n ih=>intro hn;exact (ih (by omega)).trans (zeroStep n q (by omega))
 have comes:∀n q,n<k->(¬ ∃p,p<m/\(S n).β p=q)->(∃p,p<m/\(S (n+1)).β p=q)->q=c n:=fun n q hn h1 ⟨p,hp,hq⟩=>by
  have hs:=h.step n hn
  rw[hs.at'.β p hp] at hq
  unfold upd at hq
  split at hq
  ·exact hq.symm
  ·exact (h1 ⟨p,hp,hq⟩).elim
 have goes:∀n q,n<k->(∃p,p<m/\(S n).β p=q)->(¬ ∃p,p<m/\(S (n+1)).β p=q)->q=(S n).β (r n):=fun n q hn ⟨p,hp,hq⟩ h1=>by
  have hs:=h.step n hn
  by_cases e:p=r n
  ·rw[<-e];exact hq.symm
  ·refine (h1 ⟨p,hp,?_⟩).elim
   rw[hs.at'.β p hp]
   unfold upd
   rw[if_neg e]
   exact hq
 have FE:∀n,n<k->¬ ∃p,p<m/\(S n).β p=c n:=fun n hn ⟨p,hp,hq⟩=>by
  have hs:=h.step n hn
  have h1:=hs.enters.neg
  rw[<-hq,Ey (h.val n (by omega)).tb hp] at h1
  omega
 have isIn:∀n,n<k->∃p,p<m/\(S (n+1)).β p=c n:=fun n hn=>by
  have hs:=h.step n hn
  refine ⟨r n,hs.leaves.lt,?_⟩
  rw[hs.at'.β _ hs.leaves.lt]
  unfold upd
  rw[if_pos rfl]
 have ends:∀q,(∃p,p<m/\(S k).β p=q)↔∃p,p<m/\(S 0).β p=q:=fun q=>by
  constructor
  ·rintro ⟨p,hp,hq⟩;exact ⟨p,hp,by rw[<-hcyc p hp];exact hq⟩
  ·rintro ⟨p,hp,hq⟩;exact ⟨p,hp,by rw[hcyc p hp];exact hq⟩
 obtain ⟨ns,hns,hmax⟩:=Tc (f:=c) hk
 have leaves:∃n,n<k/\(S n).β (r n)=c ns:=by
  by_cases h0:∃p,p<m/\(S 0).β p=c ns
  ·obtain ⟨n,h1,h2,h3,h4⟩:=pZ (β:=fun n=>(S n).β) (k:=ns) (i:=0) h0 (by rw[Nat.zero_add];exact FE ns hns)
   exact ⟨n,by omega,(goes n _ (by omega) h3 h4).symm⟩
  ·have h1:¬ ∃p,p<m/\(S k).β p=c ns:=fun e=>h0 ((ends _).1 e)
   obtain ⟨n,h2,h3,h4,h5⟩:=pZ (β:=fun n=>(S n).β) (k:=k - (ns+1)) (i:=ns+1) (isIn ns hns) (by rw[show ns+1+(k - (ns+1))=k by omega];exact h1)
   exact ⟨n,by omega,(goes n _ (by omega) h4 h5).symm⟩
 obtain ⟨n,hn,hleave⟩:=leaves
 have hs:=h.step n hn
 have hst:=h.step ns hns
 have vn:=h.val n (by omega)
 have vs:=h.val ns (by omega)
 have hcn:=hmax n hn
 have hne:c n≠c ns:=fun e=>FE n hn ⟨r n,hs.leaves.lt,by rw[hleave];exact e.symm⟩
 have id:=Uk (wc:=wc) vn.tb vs.tb ha hM (cw n hn)
 have z1:0<=zr m wc (S ns) (c n):=hst.enters.least (c n) (by omega)
 have z2:=hs.enters.neg
 have d1:=dp n (by omega)
 have d2:=dp ns (by omega)
 have hsum:0<sz m fun i=>(S n).T i (c n)*zr m wc (S ns) ((S n).β i):=by
  have h1:0<=(S n).d*zr m wc (S ns) (c n):=Int.mul_nonneg (by omega) z1
  have h2:0<(S ns).d* -zr m wc (S n) (c n):=Int.mul_pos d2 (by omega)
  rw[Int.mul_neg] at h2
  omega
 have hex:∃i,i<m/\0<(S n).T i (c n)*zr m wc (S ns) ((S n).β i):=by
  by_cases e:∃i,i<m/\0<(S n).T i (c n)*zr m wc (S ns) ((S n).β i)
  ·exact e
  ·exfalso
   have:=oi (n:=m) (f:=fun i=>(S n).T i (c n)*zr m wc (S ns) ((S n).β i)) (g:=fun _=>0) fun i hi=>Int.not_lt.1 fun h'=>e ⟨i,hi,h'⟩
   rw[gN (f:=fun _=>0) fun _ _=>rfl] at this
   omega
 obtain ⟨i,hi,hpos⟩:=hex
 have hq0:zr m wc (S ns) ((S n).β i)≠0:=fun e=>by rw[e,Int.mul_zero] at hpos;omega
 have hq1:¬ ∃p,p<m/\(S ns).β p=(S n).β i:=fun ⟨p,hp,hq⟩=>hq0 (by rw[<-hq];exact Ey vs.tb hp)
 have hq2:∃p,p<m/\(S n).β p=(S n).β i:=⟨i,hi,rfl⟩
 have hq3:∃n',n'<k/\(S n).β i=c n':=by
  by_cases hlt:ns<n
  ·obtain ⟨n',h1,h2,h3,h4⟩:=mC (β:=fun n=>(S n).β) (k:=n - ns) (i:=ns) hq1 (by rw[show ns+(n - ns)=n by omega];exact hq2)
   exact ⟨n',by omega,comes n' _ (by omega) h3 h4⟩
  ·by_cases h0:∃p,p<m/\(S 0).β p=(S n).β i
   ·obtain ⟨n',h1,h2,h3,h4⟩:=mC (β:=fun n=>(S n).β) (k:=k - ns) (i:=ns) hq1 (by rw[show ns+(k - ns)=k by omega];exact (ends _).2 h0)
    exact ⟨n',by omega,comes n' _ (by omega) h3 h4⟩
   ·obtain ⟨n',h1,h2,h3,h4⟩:=mC (β:=fun n=>(S n).β) (k:=n) (i:=0) h0 (by rw[Nat.zero_add];exact hq2)
    exact ⟨n',by omega,comes n' _ (by omega) h3 h4⟩
 obtain ⟨n',hn',hq4⟩:=hq3
 have hq5:(S n).β i<=c ns:=by rw[hq4];exact hmax n' hn'
 by_cases hqt:(S n).β i=c ns
 ·have:i=r n:=vn.tb.inj hi hs.leaves.lt (by rw[hqt,hleave])
  rw[this,hleave] at hpos
  have h1:=hs.leaves.pos
  have h2:=hst.enters.neg
  have h3:0<(S n).T (r n) (c n)* -zr m wc (S ns) (c ns):=Int.mul_pos h1 (by omega)
  rw[Int.mul_neg] at h3
  omega
 ·have z3:0<=zr m wc (S ns) ((S n).β i):=hst.enters.least _ (by omega)
  have hTi:0<(S n).T i (c n):=by
   by_cases e:0<(S n).T i (c n)
   ·exact e
   ·exfalso
    have:0<= -(S n).T i (c n)*zr m wc (S ns) ((S n).β i):=Int.mul_nonneg (by omega) z3
    rw[Int.neg_mul] at this
    omega
  have hiR:(S n).T i R=0:=((zeroAll _ n (by omega)).1 ((zeroAll _ ns (by omega)).2 fun p hp hq=>(hq1 ⟨p,hp,hq⟩).elim)) i hi rfl
  have:=hs.leaves.tie i hi hTi (by rw[flat n hn,hiR,Int.zero_mul,Int.zero_mul])
  rw[hleave] at this
  omega
end
end Dn
end Go.Proofs.YtegbncajloeepaaGreat

namespace Go.Proofs.YtegbncajloeepaaGreat
noncomputable section
namespace Dn
theorem Mr:∀(K:Nat) (f:Nat->Nat),(∀i,i<=K->f i<K)->∃i j,i<j/\j<=K/\f i=f j
 | 0,f,h=>by have:=h 0 (by omega);omega
 | K+1,f,h=>by
  by_cases e:∃i,i<=K/\f i=f (K+1)
  ·obtain ⟨i,h1,h2⟩:=e
   exact ⟨i,K+1,by omega,by omega,h2⟩
  ·
   obtain ⟨i,j,h1,h2,h3⟩:=Mr K (fun i=>if f i<f (K+1) then f i else f i - 1) fun i hi=>by
    have h4:=h i (by omega)
    have h5:=h (K+1) (by omega)
    have h6:f i≠f (K+1):=fun e'=>e ⟨i,hi,e'⟩
    show (if f i<f (K+1) then f i else f i - 1)<K
    split<;>omega
   refine ⟨i,j,h1,by omega,?_⟩
   have h6:f i≠f (K+1):=fun e'=>e ⟨i,by omega,e'⟩
   have h7:f j≠f (K+1):=fun e'=>e ⟨j,by omega,e'⟩
   have h3:(if f i<f (K+1) then f i else f i - 1)=(if f j<f (K+1) then f j else f j - 1):=h3
   split at h3<;>split at h3<;>omega
def code (w:Nat) (β:Nat->Nat):Nat->Nat
 | 0=>0
 | m+1=>code w β m*w+β m
theorem Hu {w:Nat} {β:Nat->Nat}:∀{m:Nat},(∀i,i<m->β i<w)->code w β m<w ^ m
 | 0,_=>by simp[code]
 | m+1,h=>by
  simp only[code]
  have h1:=Hu (m:=m) fun i hi=>h i (by omega)
  have h2:=h m (by omega)
  have h3:(code w β m+1)*w<=w ^ m*w:=Nat.mul_le_mul_right _ h1
  rw[Nat.pow_succ]
  rw[Nat.add_mul,Nat.one_mul] at h3
  omega
theorem DR {w:Nat} {β γ:Nat->Nat}:∀{m:Nat},(∀i,i<m->β i<w)->(∀i,i<m->γ i<w)->code w β m=code w γ m->∀i,i<m->β i=γ i
 | 0,_,_,_,i,hi=>by omega
 | m+1,hβ,hγ,h,i,hi=>by
  simp only[code] at h
  have h1:=hβ m (by omega)
  have h2:=hγ m (by omega)
  have e1:(code w β m*w+β m) % w=β m:=by rw[Nat.mul_comm,Nat.mul_add_mod,Nat.mod_eq_of_lt h1]
  have e2:(code w γ m*w+γ m) % w=γ m:=by rw[Nat.mul_comm,Nat.mul_add_mod,Nat.mod_eq_of_lt h2]
  have e3:β m=γ m:=by rw[<-e1,<-e2,h]
  have e4:code w β m=code w γ m:=by
   have:code w β m*w=code w γ m*w:=by omega
   exact Nat.eq_of_mul_eq_mul_right (by omega) this
  by_cases e:i=m
  ·rw[e];exact e3
  ·exact DR (fun i hi=>hβ i (by omega)) (fun i hi=>hγ i (by omega)) e4 i (by omega)
open Classical in
def jZ (p:Nat->Prop):Nat->Nat
 | 0=>0
 | k+1=>if p k then k else jZ p k
theorem xk {p:Nat->Prop}:∀{K k:Nat},k<K->p k->k<=jZ p K
 | K+1,k,hk,h=>by
  unfold jZ
  by_cases e:k=K
  ·subst e;rw[if_pos h];exact Nat.le_refl _
  ·split
   ·omega
   ·exact xk (by omega) h
theorem tE {p:Nat->Prop} (h0:p 0):∀{K:Nat},p (jZ p K)
 | 0=>h0
 | K+1=>by
  unfold jZ
  split
  ·assumption
  ·exact tE h0
theorem xo {p:Nat->Prop}:∀{K:Nat},0<K->jZ p K<K
 | K+1,_=>by
  unfold jZ
  split
  ·omega
  ·by_cases h:K=0
   ·subst h;simp[jZ]
   ·have:=xo (p:=p) (K:=K) (by omega);omega
section
variable {m w N R:Nat} {M:Nat->Nat->Int} {wc:Nat->Int}
theorem Run.short {k:Nat} {S:Nat->Sx} {r c:Nat->Nat} {a:Nat->Nat} (ha:∀i,i<m->a i<w) (hM:∀k,k<m->∀i,i<m->M k (a i)=if k=i then 1 else 0) (hN:N<=R) (hR:R<w)
  (h:Run m w N R M wc k S r c):k<w ^ m:=by
 by_cases hk:k<w ^ m
 ·exact hk
 ·exfalso
  obtain ⟨i,j,h1,h2,h3⟩:=Mr (w ^ m) (fun n=>code w (S n).β m) fun n hn=>Hu (h.val n (by omega)).tb.lt
  have h4:=DR (h.val i (by omega)).tb.lt (h.val j (by omega)).tb.lt h3
  have h5:Run m w N R M wc (j - i) (fun n=>S (i+n)) (fun n=>r (i+n)) (fun n=>c (i+n)):=⟨fun n hn=>h.val (i+n) (by omega),fun n hn=>h.step (i+n) (by omega)⟩
  refine h5.nocycle ha hM hN hR (by omega) fun p hp=>?_
  show (S (i+(j - i))).β p=(S (i+0)).β p
  rw[show i+(j - i)=j by omega,Nat.add_zero]
  exact (h4 p hp).symm
def left (m w N R:Nat) (M:Nat->Nat->Int) (wc:Nat->Int) (s:Sx):Nat:=jZ (fun k=>∃S r c,S 0=s/\Run m w N R M wc k S r c) (w ^ m)
theorem HJ (hw:0<w) (s:Sx):left m w N R M wc s<w ^ m:=xo (Nat.pow_pos hw)
theorem Bv {a:Nat->Nat} (ha:∀i,i<m->a i<w) (hM:∀k,k<m->∀i,i<m->M k (a i)=if k=i then 1 else 0) (hN:N<=R) (hR:R<w)
  {s s':Sx} {r c:Nat} (hv:Val m w N R M s) (hs:Step m w N R wc s s' r c):left m w N R M wc s'<left m w N R M wc s:=by
 have hv':Val m w N R M s':=by
  have:=hs.enters.lt
  exact hv.stepAt hR (by omega) (by omega) hs.leaves hs.at'
 obtain ⟨S,rr,cc,h0,h1⟩:=tE (p:=fun k=>∃S r c,S 0=s'/\Run m w N R M wc k S r c) ⟨fun _=>s',fun _=>0,fun _=>0,rfl,⟨fun n _=>hv',fun n hn=>by omega⟩⟩ (K:=w ^ m)
 have h2:Run m w N R M wc (left m w N R M wc s'+1) (fun n=>match n with | 0=>s | n+1=>S n) (fun n=>match n with | 0=>r | n+1=>rr n) (fun n=>match n with | 0=>c | n+1=>cc n):=by
  refine ⟨fun n hn=>?_,fun n hn=>?_⟩
  ·cases n with
   | zero=>exact hv
   | succ n=>exact h1.val n (by have:n+1<=left m w N R M wc s'+1:=hn;unfold left at this;omega)
  ·cases n with
   | zero =>
    show Step m w N R wc s (S 0) r c
    rw[h0];exact hs
   | succ n=>exact h1.step n (by have:n+1<left m w N R M wc s'+1:=hn;unfold left at this;omega)
 have h3:=h2.short ha hM hN hR
 exact xk h3 ⟨_,_,_,rfl,h2⟩
end
end Dn
end
end Go.Proofs.YtegbncajloeepaaGreat

namespace Go.Proofs.YtegbncajloeepaaGreat
namespace Dn
def sq:Nat->(Nat->Rat)->Rat
 | 0,_=>0
 | n+1,f=>sq n f+f n
theorem dS:∀{n:Nat} {f g:Nat->Rat},(∀i,i<n->f i=g i)->sq n f=sq n g
 | 0,_,_,_=>rfl
 | n+1,f,g,h=>by
  simp only[sq]
  rw[dS (n:=n) fun i hi=>h i (by omega),h n (by omega)]
theorem LX:∀{n:Nat} {f g:Nat->Rat},sq n (fun i=>f i+g i)=sq n f+sq n g
 | 0,_,_=>by simp only[sq];grind
 | n+1,f,g=>by
  simp only[sq]
  rw[LX]
  grind
theorem uj:∀{n:Nat} {c:Rat} {f:Nat->Rat},sq n (fun i=>c*f i)=c*sq n f
 | 0,c,_=>by simp[sq]
 | n+1,c,f=>by
  simp only[sq]
  rw[uj]
  grind
theorem qe:∀{n:Nat} {f:Nat->Rat},(∀i,i<n->f i=0)->sq n f=0
 | 0,_,_=>rfl
 | n+1,f,h=>by
  simp only[sq]
  rw[qe fun i hi=>h i (by omega),h n (by omega)]
  grind
theorem DY:∀{n:Nat} {f g:Nat->Rat},(∀i,i<n->f i<=g i)->sq n f<=sq n g
 | 0,_,_,_=>Rat.le_refl
 | n+1,f,g,h=>by
  simp only[sq]
  have:=DY (n:=n) fun i hi=>h i (by omega)
  have:=h n (by omega)
  grind
theorem Kf {n:Nat} {f:Nat->Rat} (h:∀i,i<n->0<=f i):0<=sq n f:=by
 have:=DY (n:=n) (f:=fun _=>0) (g:=f) h
 rwa [qe fun _ _=>rfl] at this
theorem Dq:∀{m n:Nat} {f:Nat->Nat->Rat},sq m (fun i=>sq n (fun j=>f i j))=sq n (fun j=>sq m (fun i=>f i j))
 | 0,n,f=>by
  simp only[sq]
  exact (qe fun _ _=>rfl).symm
 | m+1,n,f=>by
  simp only[sq]
  rw[Dq,LX]
theorem tc:∀{n:Nat} {f:Nat->Int},sq n (fun i=>(f i:Rat))=((sz n f:Int):Rat)
 | 0,_=>rfl
 | n+1,f=>by
  simp only[sq,sz]
  rw[tc,Rat.intCast_add]
structure Lin where
 n:Nat
 m:Nat
 A:Nat->Nat->Int
 b:Nat->Int
 c:Nat->Int
 kd:Nat->Int
def Lin.row (L:Lin) (x:Nat->Rat) (k:Nat):Rat:=sq L.n fun j=>(L.A k j:Rat)*x j
def Lin.col (L:Lin) (y:Nat->Rat) (j:Nat):Rat:=sq L.m fun k=>(L.A k j:Rat)*y k
def Lin.val (L:Lin) (x:Nat->Rat):Rat:=sq L.n fun j=>(L.c j:Rat)*x j
def Lin.rhs (L:Lin) (y:Nat->Rat):Rat:=sq L.m fun k=>(L.b k:Rat)*y k
structure Lin.Feas (L:Lin) (x:Nat->Rat):Prop where
 pos:∀j,j<L.n->0<=x j
 most:∀k,k<L.m->L.kd k≠2->L.row x k<=L.b k
 least:∀k,k<L.m->L.kd k≠1->(L.b k:Rat)<=L.row x k
structure Lin.Sgn (L:Lin) (y:Nat->Rat):Prop where
 most:∀k,k<L.m->L.kd k=1->y k<=0
 least:∀k,k<L.m->L.kd k=2->0<=y k
structure Lin.Dual (L:Lin) (y:Nat->Rat):Prop extends L.Sgn y where
 col:∀j,j<L.n->L.col y j<=L.c j
structure Lin.Ref (L:Lin) (y:Nat->Rat):Prop extends L.Sgn y where
 col:∀j,j<L.n->L.col y j<=0
 rhs:0<L.rhs y
structure Lin.Ray (L:Lin) (r:Nat->Rat):Prop where
 pos:∀j,j<L.n->0<=r j
 most:∀k,k<L.m->L.kd k≠2->L.row r k<=0
 least:∀k,k<L.m->L.kd k≠1->0<=L.row r k
 val:L.val r<0
section
variable {L:Lin}
theorem Lin.swap (x y:Nat->Rat):sq L.n (fun j=>L.col y j*x j)=sq L.m (fun k=>y k*L.row x k):=by
 have e1:sq L.n (fun j=>L.col y j*x j)=sq L.n (fun j=>sq L.m fun k=>(L.A k j:Rat)*y k*x j):=dS fun j _=>by
  unfold Lin.col
  rw[<-uj (c:=x j) |>fun h=>(by rw[h];grind:(sq L.m fun k=>x j*((L.A k j:Rat)*y k))=sq L.m (fun k=>(L.A k j:Rat)*y k)*x j)]
  exact dS fun k _=>by grind
 rw[e1,Dq]
 refine dS fun k _=>?_
 unfold Lin.row
 rw[<-uj]
 exact dS fun j _=>by grind
theorem VN {y r b:Rat} (h:(y<=0/\r<=b)\/(0<=y/\b<=r)\/r=b):b*y<=y*r:=by
 rcases h with ⟨h1,h2⟩ | ⟨h1,h2⟩ | h
 ·have:0<=(-y)*(b - r):=Rat.mul_nonneg (by grind) (by grind)
  grind
 ·have:0<=y*(r - b):=Rat.mul_nonneg h1 (by grind)
  grind
 ·subst h;grind
theorem Lin.Sgn.rows {x y:Nat->Rat} (h:L.Sgn y) {b:Nat->Rat} (h1:∀k,k<L.m->L.kd k≠2->L.row x k<=b k) (h2:∀k,k<L.m->L.kd k≠1->b k<=L.row x k):sq L.m (fun k=>b k*y k)<=sq L.m (fun k=>y k*L.row x k):=DY fun k hk=>by
 apply VN
 by_cases e1:L.kd k=1
 ·exact .inl ⟨h.most k hk e1,h1 k hk (by omega)⟩
 ·by_cases e2:L.kd k=2
  ·exact .inr (.inl ⟨h.least k hk e2,h2 k hk e1⟩)
  ·have a1:=h1 k hk e2
   have a2:=h2 k hk e1
   exact .inr (.inr (Rat.le_antisymm a1 a2))
theorem Lin.Ref.none {x y:Nat->Rat} (hy:L.Ref y) (hx:L.Feas x):False:=by
 have h1:=hy.rows (x:=x) (b:=fun k=>(L.b k:Rat)) hx.most hx.least
 rw[<-L.swap x y] at h1
 have h2:sq L.n (fun j=>L.col y j*x j)<=sq L.n (fun _=>0):=DY fun j hj=>by
  have:0<=(-L.col y j)*x j:=Rat.mul_nonneg (by have:=hy.col j hj;grind) (hx.pos j hj)
  grind
 rw[qe (f:=fun _=>0) fun _ _=>rfl] at h2
 have h3:=hy.rhs
 unfold Lin.rhs at h3
 grind
theorem Lin.Ray.none {r y:Nat->Rat} (hr:L.Ray r) (hy:L.Dual y):False:=by
 have h1:=hy.rows (x:=r) (b:=fun _=>0) hr.most hr.least
 rw[<-L.swap r y,qe (f:=fun k=>0*y k) fun k _=>by grind] at h1
 have h2:sq L.n (fun j=>L.col y j*r j)<=L.val r:=DY fun j hj=>Rat.mul_le_mul_of_nonneg_right (hy.col j hj) (hr.pos j hj)
 have h3:=hr.val
 grind
end
structure Lay where
 N:Nat
 sl:Nat->Nat
 σ:Nat->Int
def Lay.M (Y:Lay) (L:Lin) (k j:Nat):Int :=
 if j<L.n then Y.σ k*L.A k j else if j<Y.N then (if L.kd k≠3/\j=Y.sl k then Y.σ k*(if L.kd k=1 then 1 else -1) else 0) else if j<Y.N+L.m then (if j=Y.N+k then 1 else 0) else Y.σ k*L.b k
structure Lay.ok (Y:Lay) (L:Lin):Prop where
 n:L.n<=Y.N
 kd:∀k,k<L.m->L.kd k=1\/L.kd k=2\/L.kd k=3
 sl:∀k,k<L.m->L.kd k≠3->L.n<=Y.sl k/\Y.sl k<Y.N
 inj:∀k l,k<L.m->l<L.m->L.kd k≠3->L.kd l≠3->Y.sl k=Y.sl l->k=l
 sg:∀k,k<L.m->Y.σ k=1\/Y.σ k= -1
 b:∀k,k<L.m->0<=Y.σ k*L.b k
abbrev Lay.R (Y:Lay) (L:Lin):Nat:=Y.N+L.m
abbrev Lay.w (Y:Lay) (L:Lin):Nat:=Y.N+L.m+1
section
variable {L:Lin} {Y:Lay}
theorem Lay.M_x {k j:Nat} (hj:j<L.n):Y.M L k j=Y.σ k*L.A k j:=by unfold Lay.M;rw[if_pos hj]
theorem Lay.M_sl (h:Y.ok L) {k:Nat} (hk:k<L.m) (h3:L.kd k≠3):Y.M L k (Y.sl k)=Y.σ k*(if L.kd k=1 then 1 else -1):=by
 obtain ⟨h1,h2⟩:=h.sl k hk h3
 unfold Lay.M
 rw[if_neg (by omega),if_pos h2,if_pos ⟨h3,rfl⟩]
theorem Lay.M_slo {k j:Nat} (h1:L.n<=j) (h2:j<Y.N) (h:¬ (L.kd k≠3/\j=Y.sl k)):Y.M L k j=0:=by
 unfold Lay.M
 rw[if_neg (by omega),if_pos h2,if_neg h]
theorem Lay.M_a (h:Y.ok L) {k i:Nat} (hi:i<L.m):Y.M L k (Y.N+i)=if k=i then 1 else 0:=by
 have:=h.n
 unfold Lay.M
 rw[if_neg (by omega),if_neg (by omega),if_pos (by omega)]
 by_cases e:k=i
 ·rw[if_pos e,if_pos (by omega)]
 ·rw[if_neg e,if_neg (by omega)]
theorem Lay.M_R (h:Y.ok L) {k:Nat}:Y.M L k (Y.R L)=Y.σ k*L.b k:=by
 have:=h.n
 unfold Lay.M Lay.R
 rw[if_neg (by omega),if_neg (by omega),if_neg (by omega)]
theorem Lay.ss (h:Y.ok L) {k:Nat} (hk:k<L.m):Y.σ k*Y.σ k=1:=by
 rcases h.sg k hk with e | e<;>rw[e]<;>rfl
theorem Lay.ss' (h:Y.ok L) {k:Nat} (hk:k<L.m) (x:Int):Y.σ k*(Y.σ k*x)=x:=by rw[<-Int.mul_assoc,Lay.ss h hk,Int.one_mul]
abbrev Lay.Val (Y:Lay) (L:Lin) (S:Sx):Prop:=Dn.Val L.m (Y.w L) Y.N (Y.R L) (Y.M L) S
theorem Lay.art (h:Y.ok L):(∀i,i<L.m->Y.N+i<Y.w L)/\∀k,k<L.m->∀i,i<L.m->Y.M L k (Y.N+i)=if k=i then 1 else 0 :=
 ⟨fun i hi=>by unfold Lay.w;omega,fun k _ i hi=>Lay.M_a h hi⟩
theorem Lay.first (h:Y.ok L):Y.Val L ⟨Y.M L,1,fun i=>Y.N+i⟩:=by
 refine ⟨Tb.first (Lay.art h).1 (Lay.art h).2,fun i hi=>?_,fun i hi=>?_⟩
 ·show 0<=Y.M L i (Y.R L)
  rw[Lay.M_R h]
  exact h.b i hi
 ·show Y.N+i≠Y.N+L.m
  omega
def wo (m R:Nat) (S:Sx) (j:Nat):Int:=sz m fun i=>if S.β i=j then S.T i R else 0
theorem nZ {S:Sx} (hv:Y.Val L S) (j:Nat):0<=wo L.m (Y.R L) S j:=iv fun i hi=>by
 split
 ·exact hv.feas i hi
 ·exact Int.le_refl _
theorem wG {m n:Nat} {β:Nat->Nat} {t f:Nat->Int}:(sz m fun i=>if β i<n then t i*f (β i) else 0)=sz n fun j=>f j*sz m fun i=>if β i=j then t i else 0:=by
 have e:∀i,i<m->(if β i<n then t i*f (β i) else 0)=sz n fun j=>if β i=j then t i*f j else 0:=fun i _=>by
  by_cases h:β i<n
  ·rw[if_pos h,fB h fun j _ hne=>if_neg (Ne.symm hne),if_pos rfl]
  ·rw[if_neg h,gN fun j hj=>if_neg (by omega)]
 rw[bA e,vv]
 refine bA fun j _=>?_
 rw[<-gp]
 refine bA fun i _=>?_
 split
 ·rw[Int.mul_comm]
 ·rw[Int.mul_zero]
def Fo (m N:Nat) (S:Sx) (q:Nat):Prop:=∀i,i<m->N<=S.β i->S.T i q=0
theorem NN (h:Y.ok L) {S:Sx} (hv:Y.Val L S) {q k:Nat} (hq:q<Y.w L) (hk:k<L.m) (ha:Fo L.m Y.N S q) :
  S.d*(Y.σ k*Y.M L k q)=(sz L.n fun j=>L.A k j*sz L.m fun i=>if S.β i=j then S.T i q else 0)+(if L.kd k≠3 then (if L.kd k=1 then 1 else -1)*sz L.m (fun i=>if S.β i=Y.sl k then S.T i q else 0) else 0):=by
 have h1:=hv.tb.co k hk q hq
 have e1:∀i,i<L.m->S.T i q*Y.M L k (S.β i)=(if S.β i<L.n then S.T i q*(Y.σ k*L.A k (S.β i)) else 0)+(if L.kd k≠3 then (Y.σ k*(if L.kd k=1 then 1 else -1))*(if S.β i=Y.sl k then S.T i q else 0) else 0):=fun i hi=>by
  by_cases c1:S.β i<L.n
  ·rw[if_pos c1,Lay.M_x c1]
   by_cases c2:L.kd k≠3
   ·rw[if_pos c2,if_neg (show ¬ S.β i=Y.sl k by have:=(h.sl k hk c2).1;omega)];omega
   ·rw[if_neg c2];omega
  ·rw[if_neg c1]
   by_cases c3:S.β i<Y.N
   ·by_cases c4:L.kd k≠3/\S.β i=Y.sl k
    ·rw[c4.2,Lay.M_sl h hk c4.1,if_pos c4.1,if_pos rfl,Int.mul_comm];omega
    ·rw[Lay.M_slo (by omega) c3 c4]
     by_cases c2:L.kd k≠3
     ·rw[if_pos c2,if_neg (show ¬ S.β i=Y.sl k from fun e=>c4 ⟨c2,e⟩)];omega
     ·rw[if_neg c2];omega
   ·rw[ha i hi (by omega)]
    by_cases c2:L.kd k≠3
    ·rw[if_pos c2,if_neg (show ¬ S.β i=Y.sl k by have:=(h.sl k hk c2).2;omega)];omega
    ·rw[if_neg c2];omega
 rw[bA e1,ov,wG (f:=fun j=>Y.σ k*L.A k j)] at h1
 have e2:(sz L.m fun i=>if L.kd k≠3 then (Y.σ k*(if L.kd k=1 then 1 else -1))*(if S.β i=Y.sl k then S.T i q else 0) else 0)=Y.σ k*(if L.kd k≠3 then (if L.kd k=1 then 1 else -1)*sz L.m (fun i=>if S.β i=Y.sl k then S.T i q else 0) else 0):=by
  by_cases c2:L.kd k≠3
  ·simp only[c2,not_false_eq_true,if_true,ne_eq]
   rw[gp,Int.mul_assoc]
  ·have c2:L.kd k=3:=by omega
   simp only[c2,ne_eq,not_true_eq_false,if_false]
   rw[gN fun _ _=>rfl,Int.mul_zero]
 have e3:(sz L.n fun j=>Y.σ k*L.A k j*sz L.m fun i=>if S.β i=j then S.T i q else 0)=Y.σ k*sz L.n fun j=>L.A k j*sz L.m fun i=>if S.β i=j then S.T i q else 0:=by
  rw[<-gp]
  exact bA fun j _=>by rw[Int.mul_assoc]
 rw[e2,e3,<-Int.mul_add] at h1
 have h2:=Lay.ss h hk
 have:S.d*(Y.σ k*Y.M L k q)=Y.σ k*(S.d*Y.M L k q):=by grind
 rw[this,h1,<-Int.mul_assoc,h2,Int.one_mul]
theorem Cj {x y d:Int} (hd:0<d) (h:x<=y*d):(x:Rat) / (d:Rat)<=(y:Rat):=by
 have hd':(0:Rat)<(d:Rat):=by have:=Rat.intCast_lt_intCast.2 hd;simpa using this
 have h':(x:Rat)<=(y:Rat)*(d:Rat):=by rw[<-Rat.intCast_mul];exact Rat.intCast_le_intCast.2 h
 refine Rat.le_of_mul_le_mul_right ?_ hd'
 have:(x:Rat) / (d:Rat)*(d:Rat)=(x:Rat):=by grind
 rw[this]
 exact h'
theorem Gb {x y d:Int} (hd:0<d) (h:y*d<=x):(y:Rat)<=(x:Rat) / (d:Rat):=by
 have hd':(0:Rat)<(d:Rat):=by have:=Rat.intCast_lt_intCast.2 hd;simpa using this
 have h':(y:Rat)*(d:Rat)<=(x:Rat):=by rw[<-Rat.intCast_mul];exact Rat.intCast_le_intCast.2 h
 refine Rat.le_of_mul_le_mul_right ?_ hd'
 have:(x:Rat) / (d:Rat)*(d:Rat)=(x:Rat):=by grind
 rw[this]
 exact h'
theorem QW {x d:Rat} (hx:0<x) (hd:0<d):0<x / d:=by
 have e:x / d*d=x:=by grind
 refine Rat.not_le.1 fun h=>?_
 have h1:=Rat.mul_le_mul_of_nonneg_right h (Rat.le_of_lt hd)
 rw[e,Rat.zero_mul] at h1
 exact Rat.not_le.2 hx h1
theorem sH {n:Nat} {a X:Nat->Int} {d:Int} (hd:0<d):sq n (fun j=>(a j:Rat)*((X j:Rat) / (d:Rat)))=((sz n fun j=>a j*X j:Int):Rat) / (d:Rat):=by
 have hd':(0:Rat)<(d:Rat):=by have:=Rat.intCast_lt_intCast.2 hd;simpa using this
 have e:sq n (fun j=>(a j:Rat)*((X j:Rat) / (d:Rat)))=sq n (fun j=>(1 / (d:Rat))*((a j*X j:Int):Rat)):=dS fun j _=>by
  rw[Rat.intCast_mul]
  grind
 rw[e,uj,tc]
 grind
def C6 (m R:Nat) (S:Sx) (j:Nat):Rat:=(wo m R S j:Rat) / (S.d:Rat)
theorem uM (h:Y.ok L) {S:Sx} (hv:Y.Val L S) (ha:Fo L.m Y.N S (Y.R L)):L.Feas (C6 L.m (Y.R L) S):=by
 have hd:=hv.tb.dpos
 have row:∀k,k<L.m->S.d*L.b k=(sz L.n fun j=>L.A k j*wo L.m (Y.R L) S j)+(if L.kd k≠3 then (if L.kd k=1 then 1 else -1)*wo L.m (Y.R L) S (Y.sl k) else 0):=fun k hk=>by
  have h1:=NN h hv (q:=Y.R L) (by unfold Lay.R Lay.w;omega) hk ha
  rw[Lay.M_R h,Lay.ss' h hk] at h1
  exact h1
 have rowq:∀k,L.row (C6 L.m (Y.R L) S) k=((sz L.n fun j=>L.A k j*wo L.m (Y.R L) S j:Int):Rat) / (S.d:Rat):=fun k=>sH hd
 refine ⟨fun j _=>?_,fun k hk h2=>?_,fun k hk h1=>?_⟩
 ·have:=Gb (x:=wo L.m (Y.R L) S j) (y:=0) hd (by rw[Int.zero_mul];exact nZ hv j)
  simpa [C6] using this
 ·rw[rowq]
  have h3:=row k hk
  have h4:=nZ hv (Y.sl k)
  refine Cj hd ?_
  rw[Int.mul_comm,h3]
  rcases h.kd k hk with e | e | e
  ·simp[e];omega
  ·exact (h2 e).elim
  ·simp[e]
 ·rw[rowq]
  have h3:=row k hk
  have h4:=nZ hv (Y.sl k)
  refine Gb hd ?_
  rw[Int.mul_comm,h3]
  rcases h.kd k hk with e | e | e
  ·exact (h1 e).elim
  ·simp[e];omega
  ·simp[e]
def mA (m N:Nat) (wc:Nat->Int) (S:Sx) (σ:Nat->Int) (k:Nat):Int:=σ k*sz m fun i=>wc (S.β i)*S.T i (N+k)
def sr (m N:Nat) (wc:Nat->Int) (S:Sx) (σ:Nat->Int) (k:Nat):Rat:=(mA m N wc S σ k:Rat) / (S.d:Rat)
theorem Sr (h:Y.ok L) {S:Sx} (hv:Y.Val L S) {wc:Nat->Int} {j:Nat} (hj:j<L.n):zr L.m wc S j=wc j*S.d - sz L.m fun k=>L.A k j*mA L.m Y.N wc S Y.σ k:=by
 have hw:j<Y.w L:=by have:=h.n;unfold Lay.w;omega
 rw[vA hv.tb (Lay.art h).1 (Lay.art h).2 hw]
 congr 1
 refine bA fun k hk=>?_
 rw[Lay.M_x hj]
 unfold mA
 grind
theorem HA (h:Y.ok L) {S:Sx} (hv:Y.Val L S) {wc:Nat->Int} {k:Nat} (hk:k<L.m) (h3:L.kd k≠3):zr L.m wc S (Y.sl k)=wc (Y.sl k)*S.d - (if L.kd k=1 then 1 else -1)*mA L.m Y.N wc S Y.σ k:=by
 obtain ⟨h1,h2⟩:=h.sl k hk h3
 rw[vA hv.tb (Lay.art h).1 (Lay.art h).2 (by unfold Lay.w;omega)]
 congr 1
 rw[fB hk fun l hl hne=>by rw[Lay.M_slo h1 h2 fun e=>hne (h.inj l k hl hk e.1 h3 e.2.symm),Int.mul_zero],Lay.M_sl h hk h3]
 unfold mA
 grind
theorem Ia (h:Y.ok L) {S:Sx} (hv:Y.Val L S) {wc:Nat->Int}:zr L.m wc S (Y.R L)=wc (Y.R L)*S.d - sz L.m fun k=>L.b k*mA L.m Y.N wc S Y.σ k:=by
 rw[vA hv.tb (Lay.art h).1 (Lay.art h).2 (by unfold Lay.R Lay.w;omega)]
 congr 1
 refine bA fun k hk=>?_
 rw[Lay.M_R h]
 unfold mA
 grind
theorem Ba (h:Y.ok L) {S:Sx} (hv:Y.Val L S) {wc:Nat->Int} (hw:∀j,L.n<=j->j<Y.N->wc j=0) (hz:∀j,j<Y.N->0<=zr L.m wc S j):L.Sgn (sr L.m Y.N wc S Y.σ):=by
 have hd:=hv.tb.dpos
 refine ⟨fun k hk e=>?_,fun k hk e=>?_⟩
 ·obtain ⟨h1,h2⟩:=h.sl k hk (by omega)
  have h3:=HA h hv (wc:=wc) hk (by omega)
  have h4:=hz _ h2
  rw[h3,hw _ h1 h2,if_pos e] at h4
  have:=Cj (x:=mA L.m Y.N wc S Y.σ k) (y:=0) hd (by omega)
  simpa [sr] using this
 ·obtain ⟨h1,h2⟩:=h.sl k hk (by omega)
  have h3:=HA h hv (wc:=wc) hk (by omega)
  have h4:=hz _ h2
  rw[h3,hw _ h1 h2,if_neg (by omega)] at h4
  have:=Gb (x:=mA L.m Y.N wc S Y.σ k) (y:=0) hd (by omega)
  simpa [sr] using this
def cq (L:Lin) (j:Nat):Int:=if j<L.n then L.c j else 0
theorem Gq (h:Y.ok L) {S:Sx} (hv:Y.Val L S) (hz:∀j,j<Y.N->0<=zr L.m (cq L) S j):L.Dual (sr L.m Y.N (cq L) S Y.σ):=by
 have hd:=hv.tb.dpos
 refine ⟨Ba h hv (fun j h1 _=>if_neg (by omega)) hz,fun j hj=>?_⟩
 have h1:=hz j (by have:=h.n;omega)
 rw[Sr h hv hj] at h1
 have e:L.col (sr L.m Y.N (cq L) S Y.σ) j=((sz L.m fun k=>L.A k j*mA L.m Y.N (cq L) S Y.σ k:Int):Rat) / (S.d:Rat):=sH hd
 rw[e]
 have e2:cq L j=L.c j:=if_pos hj
 rw[e2] at h1
 exact Cj hd (by omega)
theorem EW (h:Y.ok L) {S:Sx} (hv:Y.Val L S):L.val (C6 L.m (Y.R L) S)=((sz L.m fun i=>cq L (S.β i)*S.T i (Y.R L):Int):Rat) / (S.d:Rat)/\L.rhs (sr L.m Y.N (cq L) S Y.σ)=((sz L.m fun i=>cq L (S.β i)*S.T i (Y.R L):Int):Rat) / (S.d:Rat):=by
 have hd:=hv.tb.dpos
 constructor
 ·have e:L.val (C6 L.m (Y.R L) S)=((sz L.n fun j=>L.c j*wo L.m (Y.R L) S j:Int):Rat) / (S.d:Rat):=sH hd
  rw[e]
  congr 2
  rw[show (sz L.n fun j=>L.c j*wo L.m (Y.R L) S j)=sz L.n fun j=>L.c j*sz L.m fun i=>if S.β i=j then S.T i (Y.R L) else 0 from rfl,<-wG (f:=L.c)]
  refine bA fun i _=>?_
  unfold cq
  split
  ·rw[Int.mul_comm]
  ·rw[Int.zero_mul]
 ·have e:L.rhs (sr L.m Y.N (cq L) S Y.σ)=((sz L.m fun k=>L.b k*mA L.m Y.N (cq L) S Y.σ k:Int):Rat) / (S.d:Rat):=sH hd
  rw[e]
  congr 2
  have h1:=Ia h hv (wc:=cq L)
  have e0:cq L (Y.R L)=0:=if_neg (by have:=h.n;unfold Lay.R;omega)
  unfold zr at h1
  rw[e0] at h1
  omega
def eI (N:Nat) (j:Nat):Int:=if N<=j then 1 else 0
theorem JB (h:Y.ok L) {S:Sx} (hv:Y.Val L S) (hz:∀j,j<Y.N->0<=zr L.m (eI Y.N) S j) (hp:0<sz L.m fun i=>eI Y.N (S.β i)*S.T i (Y.R L)):L.Ref (sr L.m Y.N (eI Y.N) S Y.σ):=by
 have hd:=hv.tb.dpos
 refine ⟨Ba h hv (fun j _ h2=>if_neg (by omega)) hz,fun j hj=>?_,?_⟩
 ·have h1:=hz j (by have:=h.n;omega)
  rw[Sr h hv hj] at h1
  have e:L.col (sr L.m Y.N (eI Y.N) S Y.σ) j=((sz L.m fun k=>L.A k j*mA L.m Y.N (eI Y.N) S Y.σ k:Int):Rat) / (S.d:Rat):=sH hd
  have e2:eI Y.N j=0:=if_neg (by have:=h.n;omega)
  rw[e2] at h1
  have:=Cj (x:=sz L.m fun k=>L.A k j*mA L.m Y.N (eI Y.N) S Y.σ k) (y:=0) hd (by omega)
  rw[e]
  simpa using this
 ·have e:L.rhs (sr L.m Y.N (eI Y.N) S Y.σ)=((sz L.m fun k=>L.b k*mA L.m Y.N (eI Y.N) S Y.σ k:Int):Rat) / (S.d:Rat):=sH hd
  have h1:=Ia h hv (wc:=eI Y.N)
  unfold zr at h1
  have h2:0<sz L.m fun k=>L.b k*mA L.m Y.N (eI Y.N) S Y.σ k:=by omega
  rw[e]
  have hd':(0:Rat)<(S.d:Rat):=by have:=Rat.intCast_lt_intCast.2 hd;simpa using this
  have h2':(0:Rat)<((sz L.m fun k=>L.b k*mA L.m Y.N (eI Y.N) S Y.σ k:Int):Rat):=by have:=Rat.intCast_lt_intCast.2 h2;simpa using this
  exact QW h2' hd'
def oz (m:Nat) (S:Sx) (q j:Nat):Int:=(if j=q then S.d else 0) - sz m fun i=>if S.β i=j then S.T i q else 0
theorem Jo (h:Y.ok L) {S:Sx} (hv:Y.Val L S) {q:Nat} (hq:q<Y.N) (ha:Fo L.m Y.N S q) (hz:zr L.m (cq L) S q<0) (hno:∀i,i<L.m->S.T i q<=0):L.Ray (fun j=>(oz L.m S q j:Rat)):=by
 have hd:=hv.tb.dpos
 have hqw:q<Y.w L:=by unfold Lay.w;omega
 have pos:∀j,0<=oz L.m S q j:=fun j=>by
  unfold oz
  have h1:(sz L.m fun i=>if S.β i=j then S.T i q else 0)<=sz L.m fun _=>0:=oi fun i hi=>by
   split
   ·exact hno i hi
   ·exact Int.le_refl _
  rw[gN (f:=fun _=>0) fun _ _=>rfl] at h1
  split<;>omega
 have row:∀k,k<L.m->(sz L.n fun j=>L.A k j*oz L.m S q j)=(if L.kd k≠3 then -(if L.kd k=1 then 1 else -1)*oz L.m S q (Y.sl k) else 0):=fun k hk=>by
  have h1:=NN h hv hqw hk ha
  have e1:(sz L.n fun j=>L.A k j*oz L.m S q j)=(if q<L.n then L.A k q*S.d else 0) - sz L.n fun j=>L.A k j*sz L.m fun i=>if S.β i=j then S.T i q else 0:=by
   have e0:(if q<L.n then L.A k q*S.d else 0)=sz L.n fun j=>if j=q then L.A k q*S.d else 0:=by
    by_cases e:q<L.n
    ·rw[if_pos e,fB e fun j _ hne=>if_neg hne,if_pos rfl]
    ·rw[if_neg e,gN fun j hj=>if_neg (by omega)]
   rw[e0,<-yY]
   refine bA fun j _=>?_
   unfold oz
   by_cases e:j=q
   ·subst e;rw[if_pos rfl,if_pos rfl];grind
   ·rw[if_neg e,if_neg e];grind
  rw[e1]
  by_cases c1:q<L.n
  ·rw[if_pos c1]
   rw[Lay.M_x c1,Lay.ss' h hk] at h1
   by_cases c2:L.kd k≠3
   ·rw[if_pos c2] at h1 ⊢
    unfold oz
    rw[if_neg (show ¬ Y.sl k=q by have:=(h.sl k hk c2).1;omega)]
    grind
   ·rw[if_neg c2] at h1 ⊢
    grind
  ·rw[if_neg c1]
   by_cases c2:L.kd k≠3
   ·rw[if_pos c2] at h1 ⊢
    unfold oz
    by_cases c3:Y.sl k=q
    ·rw[if_pos c3]
     rw[<-c3] at h1 ⊢
     rw[Lay.M_sl h hk c2,Lay.ss' h hk] at h1
     rcases h.kd k hk with e | e | e
     ·simp[e] at h1 ⊢;omega
     ·simp[e] at h1 ⊢;omega
     ·exact (c2 e).elim
    ·rw[if_neg c3]
     rw[Lay.M_slo (by omega) hq fun e=>c3 e.2.symm] at h1
     rcases h.kd k hk with e | e | e
     ·simp[e] at h1 ⊢;omega
     ·simp[e] at h1 ⊢;omega
     ·exact (c2 e).elim
   ·rw[if_neg c2] at h1 ⊢
    rw[Lay.M_slo (by omega) hq fun e=>c2 e.1] at h1
    omega
 have cast:∀a:Nat->Int,sq L.n (fun j=>(a j:Rat)*(oz L.m S q j:Rat))=((sz L.n fun j=>a j*oz L.m S q j:Int):Rat):=fun a=>by
  rw[<-tc]
  exact dS fun j _=>by rw[Rat.intCast_mul]
 refine ⟨fun j _=>by have:=Rat.intCast_le_intCast.2 (pos j);simpa using this,fun k hk h2=>?_,fun k hk h1=>?_,?_⟩
 ·have e:L.row (fun j=>(oz L.m S q j:Rat)) k=((sz L.n fun j=>L.A k j*oz L.m S q j:Int):Rat):=cast _
  rw[e,row k hk]
  have h4:=pos (Y.sl k)
  have h5:(if L.kd k≠3 then -(if L.kd k=1 then 1 else -1)*oz L.m S q (Y.sl k) else 0)<=0:=by
   rcases h.kd k hk with e | e | e
   ·simp[e];omega
   ·exact (h2 e).elim
   ·simp[e]
  have:=Rat.intCast_le_intCast.2 h5
  simpa using this
 ·have e:L.row (fun j=>(oz L.m S q j:Rat)) k=((sz L.n fun j=>L.A k j*oz L.m S q j:Int):Rat):=cast _
  rw[e,row k hk]
  have h4:=pos (Y.sl k)
  have h5:0<=(if L.kd k≠3 then -(if L.kd k=1 then 1 else -1)*oz L.m S q (Y.sl k) else 0):=by
   rcases h.kd k hk with e | e | e
   ·exact (h1 e).elim
   ·simp[e];omega
   ·simp[e]
  have:=Rat.intCast_le_intCast.2 h5
  simpa using this
 ·have e:L.val (fun j=>(oz L.m S q j:Rat))=((sz L.n fun j=>L.c j*oz L.m S q j:Int):Rat):=cast _
  rw[e]
  have e2:(sz L.n fun j=>L.c j*oz L.m S q j)=zr L.m (cq L) S q:=by
   unfold zr
   have e3:(sz L.m fun i=>cq L (S.β i)*S.T i q)=sz L.n fun j=>L.c j*sz L.m fun i=>if S.β i=j then S.T i q else 0:=by
    rw[<-wG (f:=L.c)]
    refine bA fun i _=>?_
    unfold cq
    split
    ·rw[Int.mul_comm]
    ·rw[Int.zero_mul]
   rw[e3]
   have e4:cq L q*S.d=sz L.n fun j=>if j=q then L.c j*S.d else 0:=by
    unfold cq
    by_cases c:q<L.n
    ·rw[if_pos c,fB c fun j _ hne=>if_neg hne,if_pos rfl]
    ·rw[if_neg c,gN fun j hj=>if_neg (by omega),Int.zero_mul]
   rw[e4,<-yY]
   refine bA fun j _=>?_
   unfold oz
   by_cases c:j=q
   ·rw[if_pos c,if_pos c];grind
   ·rw[if_neg c,if_neg c];grind
  rw[e2]
  have:=Rat.intCast_lt_intCast.2 hz
  simpa using this
end
theorem yW {a b:Nat} {f:Nat->Int}:sz (a+b) f=sz a f+sz b fun i=>f (a+i):=by
 induction b with
 | zero=>simp[sz]
 | succ b ih =>
  rw[show a+(b+1)=a+b+1 by omega,sz,sz,ih]
  omega
theorem LW {m w:Nat} {γ:Nat->Nat} {f:Nat->Int} (hlt:∀p,p<m->γ p<w) (hinj:∀p q,p<m->q<m->γ p=γ q->p=q) (hf:∀j,j<w->0<=f j):(sz m fun p=>f (γ p))<=sz w f:=by
 have e:(sz m fun p=>f (γ p))=sz w fun j=>f j*sz m fun p=>if γ p=j then 1 else 0:=by
  rw[bA (g:=fun p=>sz w fun j=>if γ p=j then f j else 0) fun p hp=>by
   rw[fB (hlt p hp) fun j _ hne=>if_neg (Ne.symm hne),if_pos rfl],vv]
  refine bA fun j _=>?_
  rw[<-gp]
  refine bA fun p _=>?_
  split<;>omega
 rw[e]
 refine oi fun j hj=>?_
 have hc:(sz m fun p=>if γ p=j then (1:Int) else 0)<=1:=by
  by_cases h:∃p,p<m/\γ p=j
  ·obtain ⟨p,hp,rfl⟩:=h
   rw[fB hp fun q hq hne=>if_neg fun e'=>hne (hinj q p hq hp e'),if_pos rfl]
   exact Int.le_refl _
  ·rw[gN fun p hp=>if_neg fun e'=>h ⟨p,hp,e'⟩]
   omega
 have:=Int.mul_le_mul_of_nonneg_left hc (hf j hj)
 omega
def Lin.F (L:Lin) (k:Nat):Int:=1+ab (L.b k)+sz L.n fun j=>ab (L.A k j)
def Lin.F0 (L:Lin):Int:=1+sz L.n fun j=>ab (L.c j)
theorem Lin.F_pos (L:Lin) (k:Nat):1<=L.F k:=by
 have h1:=bM (L.b k)
 have h2:0<=sz L.n fun j=>ab (L.A k j):=iv fun j _=>bM _
 unfold Lin.F
 omega
theorem Lin.F0_pos (L:Lin):1<=L.F0:=by
 have h2:0<=sz L.n fun j=>ab (L.c j):=iv fun j _=>bM _
 unfold Lin.F0
 omega
def Lin.P (L:Lin):Int:=pz L.m L.F
theorem Po:∀{n:Nat} {f:Nat->Int},(∀i,i<n->1<=f i)->1<=pz n f
 | 0,_,_=>by simp[pz]
 | n+1,f,h=>by
  simp only[pz]
  have h1:=h 0 (by omega)
  have h2:=Po (n:=n) (f:=fun i=>f (i+1)) fun i hi=>h (i+1) (by omega)
  have:=Int.mul_le_mul h1 h2 (by omega) (by omega)
  omega
theorem Lin.P_pos (L:Lin):1<=L.P:=Po fun k _=>L.F_pos k
section
variable {L:Lin} {Y:Lay}
theorem Nb (h:Y.ok L) {k:Nat} (hk:k<L.m) (x:Int):ab (Y.σ k*x)=ab x:=by
 rw[nA]
 rcases h.sg k hk with e | e<;>rw[e]<;>simp[ab]
theorem Iv (h:Y.ok L) {k:Nat} (hk:k<L.m) {f:Nat->Int} (h1:∀j,j<L.n->f j=ab (Y.M L k j)) (hR:f (Y.R L)=ab (Y.M L k (Y.R L)))
  (h2:((∀j,L.n<=j->j<Y.N->f j=0)/\∀i,i<L.m->f (Y.N+i)=if i=k then 1 else 0)\/(L.kd k≠3/\(∀j,L.n<=j->j<Y.N->f j=if j=Y.sl k then 1 else 0)/\∀i,i<L.m->f (Y.N+i)=0)) :
  sz (Y.w L) f=L.F k:=by
 have hn:=h.n
 have e:Y.w L=(L.n+(Y.N - L.n))+L.m+1:=by unfold Lay.w;omega
 rw[e,sz,yW,yW,show L.n+(Y.N - L.n)+L.m=Y.R L by unfold Lay.R;omega,hR,Lay.M_R h,Nb h hk]
 have e1:sz L.n f=sz L.n fun j=>ab (L.A k j):=bA fun j hj=>by rw[h1 j hj,Lay.M_x hj,Nb h hk]
 rw[e1,show L.n+(Y.N - L.n)=Y.N by omega]
 unfold Lin.F
 rcases h2 with ⟨h3,h4⟩ | ⟨h3,h4,h5⟩
 ·rw[gN fun i hi=>h3 (L.n+i) (by omega) (by omega),fB hk fun i hi hne=>by rw[h4 i hi,if_neg hne],h4 k hk,if_pos rfl]
  omega
 ·obtain ⟨h6,h7⟩:=h.sl k hk h3
  have a1:(sz (Y.N - L.n) fun i=>f (L.n+i))=1:=by
   rw[fB (k:=Y.sl k - L.n) (by omega) fun i hi hne=>by rw[h4 _ (by omega) (by omega),if_neg (by omega)],h4 _ (by omega) (by omega),if_pos (by omega)]
  have a2:(sz L.m fun i=>f (Y.N+i))=0:=gN fun i hi=>h5 i hi
  rw[a1,a2]
  omega
theorem Ir (h:Y.ok L) {γ:Nat->Nat} (hlt:∀p,p<L.m->γ p<Y.w L):dc L.m (Y.M L) γ=0\/∀k,k<L.m->(sz L.m fun p=>ab (Y.M L k (γ p)))<=L.F k:=by
 have zero:dc L.m (Y.M L) γ=0->dc L.m (Y.M L) γ=0\/∀k,k<L.m->(sz L.m fun p=>ab (Y.M L k (γ p)))<=L.F k:=fun e=>.inl e
 by_cases hinj:∀p q,p<L.m->q<L.m->γ p=γ q->p=q
 ·by_cases hboth:∃k p q,k<L.m/\L.kd k≠3/\p<L.m/\q<L.m/\γ p=Y.sl k/\γ q=Y.N+k
  ·obtain ⟨k,p,q,hk,h3,hp,hq,e1,e2⟩:=hboth
   obtain ⟨h4,h5⟩:=h.sl k hk h3
   have hpq:p≠q:=fun e=>by rw[e,e2] at e1;omega
   apply zero
   unfold dc
   have e3:det L.m (eB (Y.M L) γ)=det L.m (bV (eB (Y.M L) γ) p fun l=>(Y.σ k*(if L.kd k=1 then 1 else -1))*Y.M L l (Y.N+k)):=by
    refine fV fun l j hl hj=>?_
    unfold bV
    split
    ·rename_i e
     rw[e]
     show Y.M L l (γ p)=(Y.σ k*(if L.kd k=1 then 1 else -1))*Y.M L l (Y.N+k)
     rw[e1,Lay.M_a h hk]
     by_cases el:l=k
     ·subst el
      rw[Lay.M_sl h hl h3,if_pos rfl,Int.mul_one]
     ·rw[if_neg el,Int.mul_zero,Lay.M_slo h4 h5 fun e'=>el (h.inj l k hl hk e'.1 h3 e'.2.symm)]
    ·rfl
   rw[e3,nG hp,lw hp hq hpq fun l _=>by
    unfold bV
    rw[if_pos rfl,if_neg (Ne.symm hpq)]
    show Y.M L l (Y.N+k)=Y.M L l (γ q)
    rw[e2],Int.mul_zero]
  ·refine .inr fun k hk=>?_
   by_cases hs:L.kd k≠3/\∃p,p<L.m/\γ p=Y.sl k
   ·obtain ⟨h3,p,hp,e1⟩:=hs
    obtain ⟨h4,h5⟩:=h.sl k hk h3
    have e:(sz L.m fun p=>ab (Y.M L k (γ p)))=sz L.m fun p=>(fun j=>if Y.N<=j/\j<Y.N+L.m then 0 else ab (Y.M L k j)) (γ p):=bA fun q hq=>by
     show _=if Y.N<=γ q/\γ q<Y.N+L.m then 0 else ab (Y.M L k (γ q))
     split
     ·rename_i hr
      obtain ⟨i,hi⟩:∃i,γ q=Y.N+i:=⟨γ q - Y.N,by omega⟩
      rw[hi,Lay.M_a h (by omega),if_neg fun e'=>hboth ⟨k,p,q,hk,h3,hp,hq,e1,by rw[hi,e']⟩]
      rfl
     ·rfl
    rw[e]
    refine Int.le_trans (LW (f:=fun j=>if Y.N<=j/\j<Y.N+L.m then 0 else ab (Y.M L k j)) hlt hinj fun j _=>?_) (Int.le_of_eq (Iv h hk (fun j hj=>?_) ?_ (.inr ⟨h3,fun j h6 h7=>?_,fun i hi=>?_⟩)))
    ·split
     ·exact Int.le_refl _
     ·exact bM _
    ·have:=h.n
     rw[if_neg (by omega)]
    ·rw[if_neg (by unfold Lay.R;omega)]
    ·rw[if_neg (by omega)]
     by_cases ej:j=Y.sl k
     ·subst ej
      rw[Lay.M_sl h hk h3,Nb h hk,if_pos rfl]
      split<;>rfl
     ·rw[if_neg ej,Lay.M_slo h6 h7 fun e'=>ej e'.2]
      rfl
    ·rw[if_pos (by omega)]
   ·have e:(sz L.m fun p=>ab (Y.M L k (γ p)))=sz L.m fun p=>(fun j=>if L.n<=j/\j<Y.N then 0 else ab (Y.M L k j)) (γ p):=bA fun q hq=>by
     show _=if L.n<=γ q/\γ q<Y.N then 0 else ab (Y.M L k (γ q))
     split
     ·rename_i hr
      rw[Lay.M_slo hr.1 hr.2 fun e'=>hs ⟨e'.1,q,hq,e'.2⟩]
      rfl
     ·rfl
    rw[e]
    refine Int.le_trans (LW (f:=fun j=>if L.n<=j/\j<Y.N then 0 else ab (Y.M L k j)) hlt hinj fun j _=>?_) (Int.le_of_eq (Iv h hk (fun j hj=>?_) ?_ (.inl ⟨fun j h6 h7=>?_,fun i hi=>?_⟩)))
    ·split
     ·exact Int.le_refl _
     ·exact bM _
    ·rw[if_neg (by omega)]
    ·rw[if_neg (by unfold Lay.R;omega)]
    ·rw[if_pos ⟨h6,h7⟩]
    ·rw[if_neg (by omega),Lay.M_a h hi]
     by_cases ei:k=i
     ·rw[if_pos ei,if_pos ei.symm];rfl
     ·rw[if_neg ei,if_neg (Ne.symm ei)];rfl
 ·have:∃p q,p<L.m/\q<L.m/\γ p=γ q/\p≠q:=by
   apply Classical.byContradiction
   intro hno
   refine hinj fun p q hp hq e=>?_
   apply Classical.byContradiction
   intro hne
   exact hno ⟨p,q,hp,hq,e,hne⟩
  obtain ⟨p,q,hp,hq,e,hne⟩:=this
  apply zero
  refine lw hp hq hne fun l _=>?_
  show Y.M L l (γ p)=Y.M L l (γ q)
  rw[e]
theorem Ej (h:Y.ok L) {γ:Nat->Nat} (hlt:∀p,p<L.m->γ p<Y.w L):ab (dc L.m (Y.M L) γ)<=L.P:=by
 rcases Ir h hlt with e | e
 ·have hP:=L.P_pos
  rw[e]
  simp[ab]
  omega
 ·exact Int.le_trans wa (Ik fun k hk=>⟨iv fun _ _=>bM _,e k hk⟩)
theorem NB {m w:Nat} {β:Nat->Nat} {r c:Nat} (h:∀p,p<m->β p<w) (hc:c<w):∀p,p<m->upd β r c p<w:=fun p hp=>by
 unfold upd
 split
 ·exact hc
 ·exact h p hp
theorem rN (h:Y.ok L) {T:Nat->Nat->Int} {d:Int} {β:Nat->Nat} (ht:Tb L.m (Y.w L) (Y.M L) T d β):d<=L.P/\∀i j,i<L.m->j<Y.w L->ab (T i j)<=L.P:=by
 refine ⟨?_,fun i j hi hj=>by rw[ht.bound hi hj];exact Ej h (NB ht.lt hj)⟩
 obtain ⟨σ,h1,h2,_⟩:=ht.cr
 have h3:=Ej h ht.lt
 have h4:ab d=ab (dc L.m (Y.M L) β):=by
  have h5:ab σ=1:=by
   have h6:ab σ*ab σ=1:=by rw[<-nA,h1];rfl
   have h7:=bM σ
   have h8:ab σ<=1:=by
    apply Int.not_lt.1
    intro h9
    have:2*2<=ab σ*ab σ:=Int.mul_le_mul (by omega) (by omega) (by omega) h7
    omega
   have:ab σ≠0:=fun e=>by rw[e] at h6;simp at h6
   omega
  have h6:ab (σ*dc L.m (Y.M L) β)=ab d:=by rw[<-h2]
  rw[nA,h5,Int.one_mul] at h6
  exact h6.symm
 rw[<-h4] at h3
 exact (tT.1 h3).2
end
theorem Fg {n:Nat} {A:Nat->Nat->Int} {i k:Nat} (hi:i<n) (hA:∀r,r<n->A r i=if r=k then 1 else 0):∀t,t<=n->det n A=det n (fun r c=>if r=k/\c≠i/\c<t then 0 else A r c)
 | 0,_=>fV fun r c _ _=>by rw[if_neg (by omega)]
 | t+1,ht=>by
  rw[Fg hi hA t (by omega)]
  obtain ⟨B,hB⟩:∃B:Nat->Nat->Int,B=fun r c=>if r=k/\c≠i/\c<t then 0 else A r c:=⟨_,rfl⟩
  rw[<-hB]
  by_cases e:t=i
  ·refine fV fun r c _ _=>?_
   rw[hB]
   by_cases c1:r=k/\c≠i/\c<t
   ·simp only
    rw[if_pos c1,if_pos ⟨c1.1,c1.2.1,by omega⟩]
   ·simp only
    rw[if_neg c1,if_neg (by omega)]
  ·have e1:det n B=det n (bV B t fun r=>(if r=k then 0 else A r t)+(A k t*if r=k then 1 else 0)):=by
    refine fV fun r c _ _=>?_
    unfold bV
    by_cases c1:c=t
    ·rw[if_pos c1,hB,c1]
     simp only
     rw[if_neg (by omega)]
     by_cases c2:r=k
     ·rw[if_pos c2,if_pos c2,c2];omega
     ·rw[if_neg c2,if_neg c2];omega
    ·rw[if_neg c1]
   rw[e1,mB (u:=fun r=>if r=k then 0 else A r t) (v:=fun r=>A k t*if r=k then 1 else 0) (by omega),nG (u:=fun r=>if r=k then (1:Int) else 0) (by omega)]
   have e2:det n (bV B t fun r=>if r=k then (1:Int) else 0)=0:=by
    refine lw (show t<n by omega) hi e fun r hr=>?_
    unfold bV
    rw[if_pos rfl,if_neg (Ne.symm e),hB]
    simp only
    rw[if_neg (show ¬ (r=k/\i≠i/\i<t) from fun h=>h.2.1 rfl),hA r hr]
   rw[e2,Int.mul_zero,Int.add_zero]
   refine fV fun r c _ _=>?_
   unfold bV
   by_cases c1:c=t
   ·rw[if_pos c1,c1]
    simp only
    by_cases c2:r=k
    ·rw[if_pos c2,if_pos ⟨c2,e,by omega⟩]
    ·rw[if_neg c2,if_neg fun h=>c2 h.1]
   ·rw[if_neg c1,hB]
    by_cases c2:r=k/\c≠i/\c<t
    ·simp only
     rw[if_pos c2,if_pos ⟨c2.1,c2.2.1,by omega⟩]
    ·simp only
     rw[if_neg c2,if_neg (by omega)]
theorem zJ:∀{n k:Nat} {f:Nat->Int},k<n->f k*pz n (fun r=>if r=k then 1 else f r)=pz n f
 | 0,k,_,h=>by omega
 | n+1,k,f,h=>by
  simp only[pz]
  cases k with
  | zero =>
   rw[if_pos rfl,Int.one_mul]
   congr 1
  | succ k =>
   rw[if_neg (by omega)]
   have h1:=zJ (n:=n) (k:=k) (f:=fun i=>f (i+1)) (by omega)
   rw[<-h1]
   have e:(fun i=>if i+1=k+1 then (1:Int) else f (i+1))=fun r=>if r=k then 1 else f (r+1):=by
    funext r
    by_cases c:r=k
    ·rw[if_pos c,if_pos (by omega)]
    ·rw[if_neg c,if_neg (by omega)]
   rw[e]
   grind
section
variable {L:Lin} {Y:Lay}
theorem J3 (h:Y.ok L) {T:Nat->Nat->Int} {d:Int} {β:Nat->Nat} (ht:Tb L.m (Y.w L) (Y.M L) T d β) {i k:Nat} (hi:i<L.m) (hk:k<L.m):L.F k*ab (T i (Y.N+k))<=L.P:=by
 have hw:Y.N+k<Y.w L:=by unfold Lay.w;omega
 have hF:=L.F_pos k
 rw[ht.bound hi hw]
 rcases Ir h (NB ht.lt hw (r:=i)) with e | e
 ·have:=L.P_pos
  rw[e]
  simp[ab]
  omega
 ·have hcol:∀r,r<L.m->eB (Y.M L) (upd β i (Y.N+k)) r i=if r=k then 1 else 0:=fun r _=>by
   unfold eB upd
   rw[if_pos rfl,Lay.M_a h hk]
  have e1:dc L.m (Y.M L) (upd β i (Y.N+k))=_:=Fg hi hcol L.m (Nat.le_refl _)
  rw[e1]
  have e2:=wa (n:=L.m) (A:=fun r c=>if r=k/\c≠i/\c<L.m then 0 else eB (Y.M L) (upd β i (Y.N+k)) r c)
  have e3:pz L.m (fun r=>sz L.m fun c=>ab (if r=k/\c≠i/\c<L.m then 0 else eB (Y.M L) (upd β i (Y.N+k)) r c))<=pz L.m (fun r=>if r=k then 1 else L.F r):=Ik fun r hr=>by
   refine ⟨iv fun _ _=>bM _,?_⟩
   by_cases c:r=k
   ·rw[if_pos c,fB hi fun l hl hne=>by rw[if_pos ⟨c,hne,hl⟩];rfl,if_neg (by simp),hcol i hi |>fun _=>hcol r hr,if_pos c]
    exact Int.le_refl _
   ·rw[if_neg c,bA (g:=fun p=>ab (Y.M L r (upd β i (Y.N+k) p))) fun l _=>by rw[if_neg fun h=>c h.1];rfl]
    exact e r hr
  have e4:=Int.le_trans e2 e3
  have e5:=Int.mul_le_mul_of_nonneg_left e4 (show 0<=L.F k by omega)
  have e6:L.F k*pz L.m (fun r=>if r=k then 1 else L.F r)=L.P:=zJ hk
  rw[e6] at e5
  exact e5
end
end Dn
end Go.Proofs.YtegbncajloeepaaGreat
