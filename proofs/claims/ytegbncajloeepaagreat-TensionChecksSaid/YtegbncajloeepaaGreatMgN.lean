/- r50: what its functions answer (printed by a program), and that they do; part 3. r50: what its functions answer (printed by a program), and that they do; part 4. Plain lemmas for what functions answer: loops, machine numbers, lists. Names: both programs know the same ones. Fractions: rational numbers, and the pairs of numbers that stand for them. Fractions: what 'Make', 'Valid', 'Mul', 'Floor', 'Ceil' of package ratio answer. Fractions: products of two words, 'Mul', 'Floor', 'Ceil' of package ratio. Fractions of the reference: numbers of two words, their greatest common divisors and quotients. Fractions of the reference: 'Div', 'Made', 'Make', 'Times', 'Floor', 'Ceil'. Numbers of 128 bits: sums, differences, comparisons; the length of a number. The quotient of a number of 128 bits by one of 64. Fractions: 'Add' of package ratio. Loops over lists: searches and tests of all elements. Fractions: 'Add', 'Valid', 'All' of the reference. Fractions: 'Sub' and 'Cmp' of both. Loops over the elements of a list, as recursions over it. Programs: both programs know the same valid ones. Systems: both programs know the same valid ones. Sums of integers, and determinants. Tables of the simplex method: integers with a common denominator, as determinants of columns. Steps of the simplex method by the rule of least indices: they never come back to a basis. Steps of the simplex method come to an end: a measure. Linear programs over the rationals: what points and multipliers prove; and what tables of the simplex method prove. How great the numbers of a program's tables may get: the product of the rows' factors. Tables of programs: how great the numbers of the artificial columns may get. Tables of numbers as lists of rows, and loops over them. -/
import Derived.Laws.StructEq
import Derived.Test.YtegbncajloeepaaGreatMgM

namespace Go.Proofs.YtegbncajloeepaaGreat
noncomputable section
open Tryz Dn Dn.Sh
set_option maxRecDepth 100000
def vM (lp:Lp) (_:Jn) (x0:List Int) (x1:Int):Option (Int×Bool×Unit) :=
 lp (Int×Int×PUnit) (Int×Bool×PUnit) (fun (again:Int×Int×PUnit->Option (Int×Bool×PUnit)) (x:Int×Int×PUnit) =>
 let v6:Bool:=inB x.2.1 x0.length;bif decide (x.2.1<(↑x0.length:Int)) then bif v6 then bif nzB x.1 then bif decide (x0.getD x.2.1.toNat (0 : Int)>IntKind.wrap .i64 (Int.tdiv x1 x.1)) then some (0,false,PUnit.unit) else bif v6 then again (IntKind.wrap .i64 (x.1*x0.getD x.2.1.toNat 0),IntKind.wrap .i64 (x.2.1+1),PUnit.unit) else none else none else none else some (x.1,true,PUnit.unit)) (1,0,PUnit.unit)
def nt (x0:List Int) (x1:Int):Option (Int×Bool×Unit):=vM lpK jnK x0 x1
abbrev t80:=(List Int)->(Int)->Option (Int×Bool×Unit)
def A4 (lp:Lp) (_:Jn) (nB:t79) (nt:t80) (x0:(List Int)×List ((List Int)×Int×Int)):Option Bool :=
 ah (nB x0) fun (t:List Int)=>ah (nt t 17592186044416) fun (t_1:Int×Bool×PUnit) =>
 let v5:Bool:=!t_1.2.1;
 let v6:Int:=IntKind.wrap .i64 (Int.tdiv 144115188075855872 t_1.1);
 let v7:Bool:=v5||t_1.2.1;lp (Int×Int×PUnit) Bool (fun (again:Int×Int×PUnit->Option Bool) (x:Int×Int×PUnit)=>bif decide (x.2.1<(↑t.length:Int)) then bif inB x.2.1 t.length then again (if t.getD x.2.1.toNat 0>x.1 then t.getD x.2.1.toNat 0 else x.1,IntKind.wrap IntKind.i64 (x.2.1+1),PUnit.unit) else none else bif v7&&(v5||nzB t_1.1) then bif v7&&v7 then bif v7 then some (bif t_1.2.1 then decide (x.1<=v6) else false) else none else none else none) (0,0,PUnit.unit)
def sU (x0:(List Int)×List ((List Int)×Int×Int)):Option Bool:=A4 lpK jnK nB nt x0
abbrev t43:=((List Int)×List ((List Int)×Int×Int))->Option (Bool)
def oz (lp:Lp) (_:Jn) (x0:ByteArray×(List (ByteArray×Int×Int×Int))×Bool) (x1:ByteArray):Option Int :=
 lp (Int×Int×PUnit) Int (fun (again:Int×Int×PUnit->Option Int) (x:Int×Int×PUnit) =>
 let v6:Int×PUnit:=(IntKind.wrap .i64 (x.2.1+1),PUnit.unit);
 let v7:Bool:=inB x.2.1 x0.2.1.length;
 let v8:ByteArray×Int×Int×Int:=x0.2.1.getD x.2.1.toNat ({ data:={ toList:=[] } },0,0,0);bif decide (x.2.1<(↑x0.2.1.length:Int)) then bif v7 then bif List.beq (ByteArray.toList v8.1) (ByteArray.toList x1) then bif v7 then again (IntKind.wrap .i64 (x.1+v8.2.1),v6) else none else again (x.1,v6) else none else some x.1) (0,0,PUnit.unit)
def fK (x0:ByteArray×(List (ByteArray×Int×Int×Int))×Bool) (x1:ByteArray):Option Int:=oz lpK jnK x0 x1
abbrev S3:=(ByteArray×(List (ByteArray×Int×Int×Int))×Bool)->(ByteArray)->Option (Int)
def HM:Ctr:=⟨[T72,.str],[],[],.one i64,fun x _ _=>fK x.1 x.2.1⟩
theorem T8 (lp:Lp) (jn:Jn):∀(x:TsS HM.as) (F:TsF HM.fs) (y:TsS HM.cs),oz lp jn x.1 x.2.1=aX lp jn (cx [] [(32,r32),(92,r92),(112,aJ)]) aj 4 118 f118 HM x F y:=fun x F y=>by kernel_rfl
theorem RE:HM.ok prog 118:=Ctr.of_den (al (q32)) av (hl:=aj) (d:=4) func118 rfl (by decide) (T8 lpK jnK)
def mn (lp:Lp) (_:Jn) (fK:S3) (x0:(List (ByteArray×Int))×List (ByteArray×(List (ByteArray×Int×Int×Int))×Bool)):Option (List (List Int)) :=
 lp ((List Nat×List (Option (List Int)))×Int×PUnit) (List (List Int)) (fun (again:(List Nat×List (Option (List Int)))×Int×PUnit->Option (List (List Int))) (x:(List Nat × List (Option (List Int)))×Int×PUnit)=>bif decide (x.2.1<(↑x0.1.length:Int)) then lp (List Int×Int×PUnit) (List (List Int)) (fun (again_1:List Int×Int × PUnit->Option (List (List Int))) (x_1:List Int×Int×PUnit)=>bif decide (x_1.2.1<(↑x0.2.length:Int)) then bif inB x_1.2.1 x0.2.length then bif inB x.2.1 x0.1.length then ah (fK (x0.2.getD x_1.2.1.toNat ({ data:={ toList:=[] } },[],false)) (x0.1.getD x.2.1.toNat ({ data:={ toList:=[] } },0)).1) fun (t:Int)=>bif eQ (List.length x_1.1+1) 8 then again_1 (x_1.1++[t],IntKind.wrap .i64 (x_1.2.1 + 1),PUnit.unit) else none else none else none else bif eQ (List.length x.1.1+1) 24 then again ((x.1.1++[List.length x.1.2+0], x.1.2++[some x_1.1]),IntKind.wrap .i64 (x.2.1+1),PUnit.unit) else none) ([],0,PUnit.unit) else bif List.all x.1.1 fun (x_1:Nat)=>gu x.1.2 x_1 then some (List.map (fun (x_1:Nat)=>bw x.1.2 x_1) x.1.1) else none) (([],[]),0,PUnit.unit)
def bQ (x0:(List (ByteArray×Int))×List (ByteArray×(List (ByteArray×Int×Int×Int))×Bool)):Option (List (List Int)):=mn lpK jnK fK x0
abbrev t81:=((List (ByteArray×Int))×List (ByteArray×(List (ByteArray×Int×Int×Int))×Bool))->Option (List (List Int))
def k81 (bQ:t81):Ctr:=⟨[T25],[],[],.one (.sl (.sl i64)),fun x _ _=>bQ x.1⟩
def c81:Ctr:=k81 bQ
theorem e81 (lp:Lp) (jn:Jn) (fK:S3):∀(x:TsS c81.as) (F:TsF c81.fs) (y:TsS c81.cs),mn lp jn fK x.1=aX lp jn (cx [(118,⟨[T72,.str],[],[],.one i64,fun x _ _=>fK x.1 x.2.1⟩)] [(32,r32),(92,r92),(112,aJ)]) aj 4 81 f81 c81 x F y:=fun x F y=>by kernel_rfl
theorem SF:c81.ok prog 81:=Ctr.of_den (al (aa (q32) (by kernel_rfl) RE)) av (hl:=aj) (d:=4) func81 rfl (by decide) (e81 lpK jnK fK)
def lh (lp:Lp) (_:Jn) (bQ:t81) (x0:(List (ByteArray×Int))×List (ByteArray×(List (ByteArray×Int×Int×Int))×Bool)) (x1:List Int):Option ((List Int)×List ((List Int)×Int×Int)) :=
 ah (bQ x0) fun (t:List (List Int))=>lp (Int×List Int×List (List Int×Int×Int)×PUnit) (List Int×List (List Int×Int×Int)) (fun (again:Int×List Int×List (List Int×Int×Int)×PUnit->Option (List Int×List (List Int×Int×Int))) (x:Int×List Int×List (List Int×Int×Int)×PUnit)=>bif decide (x.1<(↑x0.1.length:Int)) then bif inB x.1 t.length then bif inB x.1 x0.1.length then bif eQ (List.length x.2.2.1+1) 40 then again (IntKind.wrap IntKind.i64 (x.1+1),x.2.1,x.2.2.1++[(t.getD x.1.toNat [],3,(x0.1.getD x.1.toNat ({ data:={ toList:=[] } },(0 : Int))).2)],PUnit.unit) else none else none else none else some (x.2.1,x.2.2.1)) (0,x1,[],PUnit.unit)
def cu (x0:(List (ByteArray×Int))×List (ByteArray×(List (ByteArray×Int×Int×Int))×Bool)) (x1:List Int):Option ((List Int)×List ((List Int)×Int×Int)):=lh lpK jnK bQ x0 x1
abbrev t44:=((List (ByteArray×Int))×List (ByteArray×(List (ByteArray×Int×Int×Int))×Bool))->(List Int)->Option ((List Int)×List ((List Int)×Int×Int))
def k44 (cu:t44):Ctr:=⟨[T25,(.sl i64)],[],[],.one T82,fun x _ _=>cu x.1 x.2.1⟩
def c44:Ctr:=k44 cu
theorem e44 (lp:Lp) (jn:Jn) (bQ:t81):∀(x:TsS c44.as) (F:TsF c44.fs) (y:TsS c44.cs),lh lp jn bQ x.1 x.2.1=aX lp jn (cx [(81,k81 bQ)] [(32,r32),(92,r92),(112,aJ)]) aj 4 44 f44 c44 x F y:=fun x F y=>by kernel_rfl
theorem VR:c44.ok prog 44:=Ctr.of_den (al (aa (q32) (by kernel_rfl) SF)) av (hl:=aj) (d:=4) func44 rfl (by decide) (e44 lpK jnK bQ)
def pB (lp:Lp) (_:Jn) (x0:(List (ByteArray×Int))×List (ByteArray×(List (ByteArray×Int×Int×Int))×Bool)):Option (List Int) :=
 lp (List Int×Int×PUnit) (List Int) (fun (again:List Int×Int×PUnit->Option (List Int)) (x:List Int×Int×PUnit)=>bif decide (x.2.1<(↑x0.2.length:Int)) then bif eQ (List.length x.1+1) 8 then again (x.1++[1],IntKind.wrap .i64 (x.2.1+1),PUnit.unit) else none else some x.1) ([],(0 : Int),PUnit.unit)
def ep (x0:(List (ByteArray×Int))×List (ByteArray×(List (ByteArray×Int×Int×Int))×Bool)):Option (List Int):=pB lpK jnK x0
abbrev t45:=((List (ByteArray×Int))×List (ByteArray×(List (ByteArray×Int×Int×Int))×Bool))->Option (List Int)
def k45 (ep:t45):Ctr:=⟨[T25],[],[],.one (.sl i64),fun x _ _=>ep x.1⟩
def c45:Ctr:=k45 ep
theorem e45 (lp:Lp) (jn:Jn):∀(x:TsS c45.as) (F:TsF c45.fs) (y:TsS c45.cs),pB lp jn x.1=aX lp jn (cx [] [(32,r32),(92,r92),(112,aJ)]) aj 4 45 f45 c45 x F y:=fun x F y=>by kernel_rfl
theorem Uv:c45.ok prog 45:=Ctr.of_den (al (q32)) av (hl:=aj) (d:=4) func45 rfl (by decide) (e45 lpK jnK)
def Am (_:Lp) (_:Jn) (sU:t43) (cu:t44) (ep:t45) (x0:(List (ByteArray×Int))×List (ByteArray×(List (ByteArray×Int×Int×Int))×Bool)):Option Bool :=
 ah (ep x0) fun (t:List Int)=>ah (cu x0 t) fun (t:List Int×List (List Int×Int×Int))=>ah (sU t) fun (t:Bool)=>some t
def kr (x0:(List (ByteArray×Int))×List (ByteArray×(List (ByteArray×Int×Int×Int))×Bool)):Option Bool:=Am lpK jnK sU cu ep x0
abbrev t16:=((List (ByteArray×Int))×List (ByteArray×(List (ByteArray×Int×Int×Int))×Bool))->Option (Bool)
def pk (_:Lp) (_:Jn) (x0:(List (Int×Int))×Bool×List (Int×Int)):Option Bool :=
 
 let v3:Bool:=decide ((↑x0.1.length:Int)>30);
 let v4:Bool:=!v3;
 let v5:Bool:=!v4||v4;bif v5 then bif v5 then bif v5 then bif v3||v4 then some (bif v3 then true else decide ((↑x0.2.2.length:Int)>30)) else none else none else none else none
def aR (x0:(List (Int×Int))×Bool×List (Int×Int)):Option Bool:=pk lpK jnK x0
abbrev t17:=((List (Int×Int))×Bool×List (Int×Int))->Option (Bool)
def k17 (aR:t17):Ctr:=⟨[T30],[],[],.one .bool,fun x _ _=>aR x.1⟩
def c17:Ctr:=k17 aR
theorem e17 (lp:Lp) (jn:Jn):∀(x:TsS c17.as) (F:TsF c17.fs) (y:TsS c17.cs),pk lp jn x.1=aX lp jn (cx [] [(32,r32),(92,r92),(112,aJ)]) aj 4 17 f17 c17 x F y:=fun x F y=>by kernel_rfl
theorem U7:c17.ok prog 17:=Ctr.of_den (al (q32)) av (hl:=aj) (d:=4) func17 rfl (by decide) (e17 lpK jnK)
def qZ (lp:Lp) (_:Jn) (cn:HK) (x0:List (Int×Int)):Option Bool :=
 lp (Int×PUnit) Bool (fun (again:Int×PUnit->Option Bool) (x:Int×PUnit)=>bif decide (x.1<(↑x0.length:Int)) then bif inB x.1 x0.length then ah (cn (x0.getD x.1.toNat (0,0))) fun (t:Bool)=>bif !t then some false else again (IntKind.wrap .i64 (x.1+1),PUnit.unit) else none else some true) (0,PUnit.unit)
def cZ (x0:List (Int×Int)):Option Bool:=qZ lpK jnK cn x0
abbrev t70:=(List (Int×Int))->Option (Bool)
def k70 (cZ:t70):Ctr:=⟨[(.sl T47)],[],[],.one .bool,fun x _ _=>cZ x.1⟩
def c70:Ctr:=k70 cZ
theorem e70 (lp:Lp) (jn:Jn) (cn:HK):∀(x:TsS c70.as) (F:TsF c70.fs) (y:TsS c70.cs),qZ lp jn cn x.1=aX lp jn (cx [(108,Qs cn)] [(32,r32),(92,r92),(112,aJ)]) aj 4 70 f70 c70 x F y:=fun x F y=>by kernel_rfl
theorem R2:c70.ok prog 70:=Ctr.of_den (al (aa (q32) (by kernel_rfl) O0)) av (hl:=aj) (d:=4) func70 rfl (by decide) (e70 lpK jnK cn)
def nk (_:Lp) (_:Jn) (x0:(List (Int×Int))×Bool×List (Int×Int)):Option (List (Int×Int)) :=
 bif x0.2.1 then some x0.1 else some x0.2.2
def fG (x0:(List (Int×Int))×Bool×List (Int×Int)):Option (List (Int×Int)):=nk lpK jnK x0
abbrev t71:=((List (Int×Int))×Bool×List (Int×Int))->Option (List (Int×Int))
def c71:Ctr:=⟨[T30],[],[],.one (.sl T47),fun x _ _=>fG x.1⟩
theorem e71 (lp:Lp) (jn:Jn):∀(x:TsS c71.as) (F:TsF c71.fs) (y:TsS c71.cs),nk lp jn x.1=aX lp jn (cx [] [(32,r32),(92,r92),(112,aJ)]) aj 4 71 f71 c71 x F y:=fun x F y=>by kernel_rfl
theorem UL:c71.ok prog 71:=Ctr.of_den (al (q32)) av (hl:=aj) (d:=4) func71 rfl (by decide) (e71 lpK jnK)
def nF (_:Lp) (_:Jn) (cZ:t70) (fG:t71) (x0:(List (Int×Int))×Bool×List (Int×Int)):Option Int :=
 ah (cZ x0.1) fun (t:Bool) =>
 let v4:Bool:=!t;
 let v5:Bool:=!v4;
 let v6:Bool:=!v5||v5;bif v6 then bif v6 then ah (bif v5 then cZ x0.2.2 else some false) fun (t:Bool)=>bif v6 then bif v4||v5 then bif bif v4 then true else !t then some 1 else ah (fG x0) fun (t:List (Int×Int))=>bif decide ((↑t.length:Int)>0) then some 19 else some 0 else none else none else none else none
def dh (x0:(List (Int×Int))×Bool×List (Int×Int)):Option Int:=nF lpK jnK cZ fG x0
abbrev t31:=((List (Int×Int))×Bool×List (Int×Int))->Option (Int)
def k31 (dh:t31):Ctr:=⟨[T30],[],[],.one i64,fun x _ _=>dh x.1⟩
def c31:Ctr:=k31 dh
theorem e31 (lp:Lp) (jn:Jn) (cZ:t70) (fG:t71):∀(x:TsS c31.as) (F:TsF c31.fs) (y:TsS c31.cs),nF lp jn cZ fG x.1=aX lp jn (cx [(71,⟨[T30],[],[],.one (.sl T47),fun x _ _=>fG x.1⟩),(70,k70 cZ)] [(32,r32),(92,r92),(112,aJ)]) aj 4 31 f31 c31 x F y:=fun x F y=>by kernel_rfl
theorem VO:c31.ok prog 31:=Ctr.of_den (al (aa (aa (q32) (by kernel_rfl) R2) (by kernel_rfl) UL)) av (hl:=aj) (d:=4) func31 rfl (by decide) (e31 lpK jnK cZ fG)
def ow (_:Lp) (_:Jn) (x0:(List (Int×Int))×Bool×List (Int×Int)):Option (List (Int×Int)) :=
 bif x0.2.1 then some x0.2.2 else some x0.1
def eh (x0:(List (Int×Int))×Bool×List (Int×Int)):Option (List (Int×Int)):=ow lpK jnK x0
abbrev t46:=((List (Int×Int))×Bool×List (Int×Int))->Option (List (Int×Int))
def k46 (eh:t46):Ctr:=⟨[T30],[],[],.one (.sl T47),fun x _ _=>eh x.1⟩
def c46:Ctr:=k46 eh
theorem e46 (lp:Lp) (jn:Jn):∀(x:TsS c46.as) (F:TsF c46.fs) (y:TsS c46.cs),ow lp jn x.1=aX lp jn (cx [] [(32,r32),(92,r92),(112,aJ)]) aj 4 46 f46 c46 x F y:=fun x F y=>by kernel_rfl
theorem UO:c46.ok prog 46:=Ctr.of_den (al (q32)) av (hl:=aj) (d:=4) func46 rfl (by decide) (e46 lpK jnK)
def qA (_:Lp) (_:Jn) (x0:Int) (x1:Int):Option (Int×Int) :=
 
 let v4:Int:=2 ^ 32;
 let v5:Int:=Int.fdiv x0 v4;
 let v6:Int:=Int.fdiv x1 v4;
 let v7:Bool:=decide ((0:Int)<=32);
 let v8:Int:=IntKind.wrap .u64 (↑(Nat.land (Int.toNat (x1 % Int.ofNat 18446744073709551616)) (Int.toNat (4294967295 % Int.ofNat 18446744073709551616))) : Int);
 let v9:Int:=IntKind.wrap .u64 (↑(Nat.land (Int.toNat (x0 % Int.ofNat 18446744073709551616)) (Int.toNat (4294967295 % Int.ofNat 18446744073709551616))) : Int);
 let v10:Int:=IntKind.wrap .u64 (v9*v8);
 let v11:Int:=IntKind.wrap .u64 (IntKind.wrap .u64 (v5*v8)+Int.fdiv v10 v4);
 let v12:Int:=IntKind.wrap .u64 (IntKind.wrap .u64 (v9*v6)+IntKind.wrap .u64 (↑(Nat.land (Int.toNat (v11 % Int.ofNat 18446744073709551616)) (Int.toNat (4294967295 % Int.ofNat 18446744073709551616))):Int));bif v7 then bif v7 then bif v7 then bif v7 then bif v7 then bif v7 then some (IntKind.wrap .u64 (IntKind.wrap .u64 (IntKind.wrap .u64 (v5*v6)+Int.fdiv v11 v4)+Int.fdiv v12 v4),IntKind.wrap .u64 (IntKind.wrap .u64 (v12*v4)+IntKind.wrap IntKind.u64 (↑(Nat.land (Int.toNat (v10 % Int.ofNat 18446744073709551616)) (Int.toNat (4294967295 % Int.ofNat 18446744073709551616))):Int))) else none else none else none else none else none else none
def bE (x0:Int) (x1:Int):Option (Int×Int):=qA lpK jnK x0 x1
abbrev Ec:=(Int)->(Int)->Option (Int×Int)
def Ob (bE:Ec):Ctr:=⟨[(.int .u64),(.int .u64)],[],[],.one ia,fun x _ _=>bE x.1 x.2.1⟩
def Ma:Ctr:=Ob bE
theorem Vw (lp:Lp) (jn:Jn):∀(x:TsS Ma.as) (F:TsF Ma.fs) (y:TsS Ma.cs),qA lp jn x.1 x.2.1=aX lp jn (cx [] [(32,r32),(92,r92),(112,aJ)]) aj 4 160 f160 Ma x F y:=fun x F y=>by kernel_rfl
theorem Ky:Ma.ok prog 160:=Ctr.of_den (al (q32)) av (hl:=aj) (d:=4) func160 rfl (by decide) (Vw lpK jnK)
def qT (lp:Lp) (_:Jn) (be:Ad) (aZ:EC) (x0:Int×Int) (x1:Int×Int):Option ((Int×Int)×(Int×Int)×Unit) :=
 
 let v4:Bool:=nzB x1.2;
 let v5:Int:=2 ^ 63;
 let v6:Int:=2 ^ 1;
 let v7:Bool:=decide (x0.1=0);
 let v8:Bool:=decide ((0:Int)<=63);
 let v9:Bool:=decide ((0:Int)<=1);
 let v10:Bool:=!v7||v7;bif v10 then bif v10 then bif v10 then bif bif v7 then decide (x1.1=0) else false then bif v4 then bif v4 then some ((0,IntKind.wrap IntKind.u64 (Int.tdiv x0.2 x1.2)),(0,Int.tmod x0.2 x1.2),PUnit.unit) else none else none else lp (Int×(Int×Int)×(Int×Int)×(Int×Int)×PUnit) ((Int×Int) × (Int×Int)×PUnit) (fun (again:Int×(Int×Int)×(Int×Int)×(Int×Int)×PUnit->Option ((Int×Int)×(Int×Int)×PUnit)) (x:Int×(Int×Int)×(Int×Int)×(Int × Int)×PUnit) =>
 let v13:Int:=IntKind.wrap .i64 (x.1+1);
 let v14:Int:=IntKind.wrap .u64 (x.2.2.1.2*v6);
 let v15:Int:=IntKind.wrap .u64 (IntKind.wrap .u64 (x.2.2.1.1*v6)+Int.fdiv x.2.2.1.2 v5);
 let v16:Bool:=decide (Int.fdiv x.2.2.2.1.1 v5>0);
 let v17:Bool:=!v16;
 let v18:Int×Int:=(IntKind.wrap .u64 (IntKind.wrap .u64 (x.2.1.1*v6)+Int.fdiv x.2.1.2 v5),IntKind.wrap .u64 (x.2.1.2*v6));
 let v19:Int×Int:=(IntKind.wrap .u64 (IntKind.wrap .u64 (x.2.2.2.1.1*v6)+Int.fdiv x.2.2.2.1.2 v5),IntKind.wrap .u64 (IntKind.wrap IntKind.u64 (x.2.2.2.1.2*v6)+Int.fdiv x.2.1.1 v5));
 let v20:Bool:=!v17||v17;bif decide (x.1<128) then bif v8 then bif v9 then bif v8 then bif v9 then bif v8 then bif v9 then bif v8 then bif v9 then bif v9 then bif v8 then bif v9 then bif v20&&v20 then ah (bif v17 then be v19 x1 else some false) fun (t:Bool)=>bif v20 then bif v16||v17 then bif bif v16 then true else !t then ah (aZ v19 x1) fun (t:Int×Int)=>again (v13,v18,(v15,IntKind.wrap .u64 (v14+1)),t,PUnit.unit) else again (v13,v18,(v15,v14),v19,PUnit.unit) else none else none else none else none else none else none else none else none else none else none else none else none else none else none else some (x.2.2.1,x.2.2.2.1, PUnit.unit)) (0,x0,(0,0),(0,0),PUnit.unit) else none else none else none
def gz (x0:Int×Int) (x1:Int×Int):Option ((Int×Int)×(Int×Int)×Unit):=qT lpK jnK be aZ x0 x1
abbrev Sd:=(Int×Int)->(Int×Int)->Option ((Int×Int)×(Int×Int)×Unit)
def IR:Ctr:=⟨[ia,ia],[],[],.tup [ia,ia],fun x _ _=>gz x.1 x.2.1⟩
theorem Vr (lp:Lp) (jn:Jn) (be:Ad) (aZ:EC):∀(x:TsS IR.as) (F:TsF IR.fs) (y:TsS IR.cs),qT lp jn be aZ x.1 x.2.1=aX lp jn (cx [(164,ND aZ),(161,KG be)] [(32,r32),(92,r92),(112,aJ)]) aj 4 186 f186 IR x F y:=fun x F y=>by kernel_rfl
theorem Tg:IR.ok prog 186:=Ctr.of_den (al (aa (aa (q32) (by kernel_rfl) Fj) (by kernel_rfl) LC)) av (hl:=aj) (d:=4) func186 rfl (by decide) (Vr lpK jnK be aZ)
def oW (_:Lp) (_:Jn) (dx:LY) (gz:Sd) (x0:Int×Int) (x1:Bool) (x2:Int×Int):Option ((Int×Int)×Int×Unit) :=
 bif decide (x2.1=0)&&(decide (x2.2=0)&&true) then some ((0,0),16,PUnit.unit) else ah (dx x0 x2) fun (t:Int×Int)=>ah (gz x0 t) fun (t_1:(Int×Int)×(Int×Int)×PUnit) =>
 let v7:Int:=IntKind.wrap .i64 t_1.1.2;
 let v8:Bool:=decide (t_1.1.1>0);
 let v9:Bool:=!v8;
 let v10:Bool:=bif v8 then true else decide (t_1.1.2>1152921504606846976);
 let v11:Bool:=!v9||v9;
 let v12:Bool:=!v10;
 let v13:Bool:=!v12||v12;ah (gz x2 t) fun (t:(Int×Int)×(Int×Int)×PUnit) =>
 let v15:Int:=IntKind.wrap .i64 t.1.2;
 let v16:Bool:=bif v10 then true else decide (t.1.1>0);
 let v17:Bool:=!v16;
 let v18:Bool:=!v17||v17;bif v11 then bif v11 then bif v8||v9 then bif v13 then bif v13 then bif v10||v12 then bif v18 then bif v18 then bif v16||v17 then bif bif v16 then true else decide (t.1.2>1152921504606846976) then some ((0,0),5,PUnit.unit) else bif x1 then some ((IntKind.wrap .i64 (0 - v7), v15),0,PUnit.unit) else some ((v7,v15),0,PUnit.unit) else none else none else none else none else none else none else none else none else none
def cv (x0:Int×Int) (x1:Bool) (x2:Int×Int):Option ((Int×Int)×Int×Unit):=oW lpK jnK dx gz x0 x1 x2
abbrev Ix:=(Int×Int)->(Bool)->(Int×Int)->Option ((Int×Int)×Int×Unit)
def Q2 (cv:Ix):Ctr:=⟨[ia,.bool,ia],[],[],.tup [T47,i64],fun x _ _=>cv x.1 x.2.1 x.2.2.1⟩
def Lm:Ctr:=Q2 cv
theorem U4 (lp:Lp) (jn:Jn) (dx:LY) (gz:Sd):∀(x:TsS Lm.as) (F:TsF Lm.fs) (y:TsS Lm.cs),oW lp jn dx gz x.1 x.2.1 x.2.2.1=aX lp jn (cx [(186,⟨[ia,ia],[],[],.tup [ia,ia],fun x _ _=>gz x.1 x.2.1⟩),(152,QE dx)] [(32,r32),(92,r92),(112,aJ)]) aj 4 162 f162 Lm x F y:=fun x F y=>by kernel_rfl
theorem Pn:Lm.ok prog 162:=Ctr.of_den (al (aa (aa (q32) (by kernel_rfl) OZ) (by kernel_rfl) Tg)) av (hl:=aj) (d:=4) func162 rfl (by decide) (U4 lpK jnK dx gz)
def nK (_:Lp) (_:Jn) (aB:Ap) (bE:Ec) (cv:Ix) (x0:Int×Int) (x1:Int×Int):Option ((Int×Int)×Int×Unit) :=
 ah (aB x0.1) fun (t:Int)=>ah (aB x1.1) fun (t_1:Int)=>ah (bE t t_1) fun (t:Int×Int)=>ah (aB x0.2) fun (t_2:Int)=>ah (aB x1.2) fun (t_3:Int)=>ah (bE t_2 t_3) fun (t_4:Int×Int)=>ah (cv t (!decide (decide (x0.1<0)=decide (x1.1<0))) t_4) fun (t:(Int×Int)×Int×PUnit)=>some (t.1,t.2.1,PUnit.unit)
def cj (x0:Int×Int) (x1:Int×Int):Option ((Int×Int)×Int×Unit):=nK lpK jnK aB bE cv x0 x1
abbrev JG:=(Int×Int)->(Int×Int)->Option ((Int×Int)×Int×Unit)
def PN (cj:JG):Ctr:=⟨[T47,T47],[],[],.tup [T47,i64],fun x _ _=>cj x.1 x.2.1⟩
def Jg:Ctr:=PN cj
theorem Vv (lp:Lp) (jn:Jn) (aB:Ap) (bE:Ec) (cv:Ix):∀(x:TsS Jg.as) (F:TsF Jg.fs) (y:TsS Jg.cs),nK lp jn aB bE cv x.1 x.2.1=aX lp jn (cx [(162,Q2 cv),(160,Ob bE),(153,Jf aB)] [(32,r32),(92,r92),(112,aJ)]) aj 4 121 f121 Jg x F y:=fun x F y=>by kernel_rfl
theorem O8:Jg.ok prog 121:=Ctr.of_den (al (aa (aa (aa (q32) (by kernel_rfl) FB) (by kernel_rfl) Ky) (by kernel_rfl) Pn)) av (hl:=aj) (d:=4) func121 rfl (by decide) (Vv lpK jnK aB bE cv)
def qj (_:Lp) (_:Jn) (be:Ad) (cP:Jo) (aZ:EC) (aB:Ap) (bE:Ec) (cv:Ix) (x0:Int×Int) (x1:Int×Int):Option ((Int×Int)×Int×Unit) :=
 
 let v4:Bool:=decide (x0.1<0);ah (aB x0.1) fun (t:Int)=>ah (aB x1.2) fun (t_1:Int)=>ah (bE t t_1) fun (t:Int×Int)=>ah (aB x1.1) fun (t_2:Int)=>ah (aB x0.2) fun (t_3:Int)=>ah (bE t_2 t_3) fun (t_4:Int×Int)=>ah (aB x0.2) fun (t_5:Int)=>ah (aB x1.2) fun (t_6:Int)=>ah (bE t_5 t_6) fun (t_7:Int×Int)=>bif decide (v4=decide (x1.1<0)) then ah (cP t t_4) fun (t:Int×Int) =>ah (cv t v4 t_7) fun (t:(Int×Int)×Int×PUnit)=>some (t.1,t.2.1,PUnit.unit) else ah (be t t_4) fun (t_8:Bool)=>bif t_8 then ah (aZ t_4 t) fun (t:Int×Int)=>ah (cv t (decide (x1.1<0)) t_7) fun (t:(Int×Int)×Int×PUnit)=>some (t.1,t.2.1,PUnit.unit) else ah (aZ t t_4) fun (t:Int×Int)=>ah (cv t v4 t_7) fun (t:(Int×Int)×Int×PUnit)=>some (t.1,t.2.1,PUnit.unit)
def bZ (x0:Int×Int) (x1:Int×Int):Option ((Int×Int)×Int×Unit):=qj lpK jnK be cP aZ aB bE cv x0 x1
abbrev EG:=(Int×Int)->(Int×Int)->Option ((Int×Int)×Int×Unit)
def Nx (bZ:EG):Ctr:=⟨[T47,T47],[],[],.tup [T47,i64],fun x _ _=>bZ x.1 x.2.1⟩
def HT:Ctr:=Nx bZ
theorem Us (lp:Lp) (jn:Jn) (be:Ad) (cP:Jo) (aZ:EC) (aB:Ap) (bE:Ec) (cv:Ix):∀(x:TsS HT.as) (F:TsF HT.fs) (y:TsS HT.cs),qj lp jn be cP aZ aB bE cv x.1 x.2.1=aX lp jn (cx [(162,Q2 cv),(160,Ob bE),(153,Jf aB),(164,ND aZ),(163,Qk cP),(161,KG be)] [(32,r32),(92,r92),(112,aJ)]) aj 4 122 f122 HT x F y:=fun x F y=>by kernel_rfl
theorem Lu:HT.ok prog 122:=Ctr.of_den (al (aa (aa (aa (aa (aa (aa (q32) (by kernel_rfl) Fj) (by kernel_rfl) OW) (by kernel_rfl) LC) (by kernel_rfl) FB) (by kernel_rfl) Ky) (by kernel_rfl) Pn)) av (hl:=aj) (d:=4) func122 rfl (by decide) (Us lpK jnK be cP aZ aB bE cv)
def qy (lp:Lp) (_:Jn) (ap:t24) (cj:JG) (bZ:EG) (x0:List Int) (x1:List (Int×Int)):Option ((Int×Int)×Int×Unit) :=
 ah (ap 0) fun (t:Int×Int)=>lp (Int×(Int×Int)×(Int×Int)×PUnit) ((Int×Int)×Int×PUnit) (fun (again:Int×(Int×Int)×(Int×Int)×PUnit->Option ((Int×Int)×Int×PUnit)) (x:Int×(Int×Int)×(Int×Int)×PUnit)=>bif decide (x.1<(↑x0.length:Int)) then bif inB x.1 x0.length then ah (ap (x0.getD x.1.toNat 0)) fun (t:Int×Int)=>bif inB x.1 x1.length then ah (cj t (x1.getD x.1.toNat (0,0))) fun (t:(Int×Int)×Int×PUnit)=>bif !decide (t.2.1=0) then some ((0,0),t.2.1,PUnit.unit) else ah (bZ x.2.2.1 t.1) fun (t:(Int × Int)×Int×PUnit)=>bif !decide (t.2.1=0) then some ((0,0),t.2.1,PUnit.unit) else again (IntKind.wrap .i64 (x.1+1), x.2.1,t.1,PUnit.unit) else none else none else some (x.2.2.1,0,PUnit.unit)) (0,(0,0),t,PUnit.unit)
def dD (x0:List Int) (x1:List (Int×Int)):Option ((Int×Int)×Int×Unit):=qy lpK jnK ap cj bZ x0 x1
abbrev t83:=(List Int)->(List (Int×Int))->Option ((Int×Int)×Int×Unit)
def k83 (dD:t83):Ctr:=⟨[(.sl i64),(.sl T47)],[],[],.tup [T47,i64],fun x _ _=>dD x.1 x.2.1⟩
def c83:Ctr:=k83 dD
theorem e83 (lp:Lp) (jn:Jn) (ap:t24) (cj:JG) (bZ:EG):∀(x:TsS c83.as) (F:TsF c83.fs) (y:TsS c83.cs),qy lp jn ap cj bZ x.1 x.2.1=aX lp jn (cx [(122,Nx bZ),(121,PN cj),(24,k24 ap)] [(32,r32),(92,r92),(112,aJ)]) aj 4 83 f83 c83 x F y:=fun x F y=>by kernel_rfl
theorem TI:c83.ok prog 83:=Ctr.of_den (al (aa (aa (aa (q32) (by kernel_rfl) A0) (by kernel_rfl) O8) (by kernel_rfl) Lu)) av (hl:=aj) (d:=4) func83 rfl (by decide) (e83 lpK jnK ap cj bZ)
def qo (lp:Lp) (_:Jn) (x0:(List Int)×List ((List Int)×Int×Int)) (x1:Int):Option (List Int) :=
 lp (List Int×Int×PUnit) (List Int) (fun (again:List Int×Int×PUnit->Option (List Int)) (x:List Int×Int×PUnit)=>bif decide (x.2.1<(↑x0.2.length:Int)) then bif inB x.2.1 x0.2.length then bif inB x1 (List.length (x0.2.getD x.2.1.toNat ([],0,0)).1) then bif eQ (List.length x.1+(1 : Nat)) 8 then again (x.1++[List.getD (x0.2.getD x.2.1.toNat ([],0,0)).1 x1.toNat 0],IntKind.wrap .i64 (x.2.1 + 1),PUnit.unit) else none else none else none else some x.1) ([],0,PUnit.unit)
def fz (x0:(List Int)×List ((List Int)×Int×Int)) (x1:Int):Option (List Int):=qo lpK jnK x0 x1
abbrev RP:=((List Int)×List ((List Int)×Int×Int))->(Int)->Option (List Int)
def Mb:Ctr:=⟨[T82,i64],[],[],.one (.sl i64),fun x _ _=>fz x.1 x.2.1⟩
theorem VV (lp:Lp) (jn:Jn):∀(x:TsS Mb.as) (F:TsF Mb.fs) (y:TsS Mb.cs),qo lp jn x.1 x.2.1=aX lp jn (cx [] [(32,r32),(92,r92),(112,aJ)]) aj 4 119 f119 Mb x F y:=fun x F y=>by kernel_rfl
theorem Se:Mb.ok prog 119:=Ctr.of_den (al (q32)) av (hl:=aj) (d:=4) func119 rfl (by decide) (VV lpK jnK)
def qa (_:Lp) (_:Jn) (be:Ad) (aB:Ap) (bE:Ec) (x0:Int×Int) (x1:Int×Int):Option Int :=
 
 let v4:Bool:=decide (x0.1<0);
 let v5:Bool:=decide (x0.1>=0);
 let v6:Bool:=!v4||v4;
 let v7:Bool:=!v5||v5;ah (aB x0.1) fun (t:Int)=>ah (aB x1.2) fun (t_1:Int)=>ah (bE t t_1) fun (t:Int×Int)=>ah (aB x1.1) fun (t_2:Int)=>ah (aB x0.2) fun (t_3:Int)=>ah (bE t_2 t_3) fun (t_4:Int×Int)=>bif v6 then bif v6 then bif v6 then bif bif v4 then decide (x1.1>=0) else false then some (-1) else bif v7 then bif v7 then bif v7 then bif bif v5 then decide (x1.1<0) else false then some 1 else bif decide (t.1=t_4.1)&&(decide (t.2=t_4.2)&&true) then some 0 else ah (be t t_4) fun (t:Bool)=>bif decide (t=v5) then some (-1) else some 1 else none else none else none else none else none else none
def dE (x0:Int×Int) (x1:Int×Int):Option Int:=qa lpK jnK be aB bE x0 x1
abbrev Jm:=(Int×Int)->(Int×Int)->Option (Int)
def Qt (dE:Jm):Ctr:=⟨[T47,T47],[],[],.one i64,fun x _ _=>dE x.1 x.2.1⟩
def KR:Ctr:=Qt dE
theorem Vj (lp:Lp) (jn:Jn) (be:Ad) (aB:Ap) (bE:Ec):∀(x:TsS KR.as) (F:TsF KR.fs) (y:TsS KR.cs),qa lp jn be aB bE x.1 x.2.1=aX lp jn (cx [(160,Ob bE),(153,Jf aB),(161,KG be)] [(32,r32),(92,r92),(112,aJ)]) aj 4 120 f120 KR x F y:=fun x F y=>by kernel_rfl
theorem O7:KR.ok prog 120:=Ctr.of_den (al (aa (aa (aa (q32) (by kernel_rfl) Fj) (by kernel_rfl) FB) (by kernel_rfl) Ky)) av (hl:=aj) (d:=4) func120 rfl (by decide) (Vj lpK jnK be aB bE)
def ny (lp:Lp) (_:Jn) (ap:t24) (dD:t83) (fz:RP) (dE:Jm) (x0:(List Int)×List ((List Int)×Int×Int)) (x1:List (Int×Int)) (x2:List Int):Option (Bool×Int×Unit) :=
 lp (Bool×Int×PUnit) (Bool×Int×PUnit) (fun (again:Bool×Int×PUnit->Option (Bool×Int×PUnit)) (x:Bool×Int×PUnit) =>
 let v7:Bool:=!x.1;
 let v8:Bool:=v7||x.1;bif decide (x.2.1<(↑x2.length:Int)) then ah (fz x0 x.2.1) fun (t:List Int)=>ah (dD t x1) fun (t:(Int×Int) × Int×PUnit)=>bif !decide (t.2.1=0) then some (false,t.2.1,PUnit.unit) else bif v8&&(v8&&(v7||inB x.2.1 x2.length)) then bif v8 then bif v8 then ah (bif x.1 then ap (x2.getD x.2.1.toNat 0) else some (0,0)) fun (t_1:Int×Int)=>bif v8&&v8 then ah (bif x.1 then dE t.1 t_1 else some 0) fun (t:Int)=>bif v8 then bif v8 then again (bif x.1 then decide (t<=0) else false,IntKind.wrap .i64 (x.2.1+(1 : Int)),PUnit.unit) else none else none else none else none else none else none else some (x.1,0,PUnit.unit)) (true,0,PUnit.unit)
def eP (x0:(List Int)×List ((List Int)×Int×Int)) (x1:List (Int×Int)) (x2:List Int):Option (Bool×Int×Unit):=ny lpK jnK ap dD fz dE x0 x1 x2
abbrev t82:=((List Int)×List ((List Int)×Int×Int))->(List (Int×Int))->(List Int)->Option (Bool×Int×Unit)
def k82 (eP:t82):Ctr:=⟨[T82,(.sl T47),(.sl i64)],[],[],.tup [.bool,i64],fun x _ _=>eP x.1 x.2.1 x.2.2.1⟩
def c82:Ctr:=k82 eP
theorem e82 (lp:Lp) (jn:Jn) (ap:t24) (dD:t83) (fz:RP) (dE:Jm):∀(x:TsS c82.as) (F:TsF c82.fs) (y:TsS c82.cs),ny lp jn ap dD fz dE x.1 x.2.1 x.2.2.1=aX lp jn (cx [(120,Qt dE),(119,⟨[T82,i64],[],[],.one (.sl i64),fun x _ _=>fz x.1 x.2.1⟩),(83,k83 dD),(24,k24 ap)] [(32,r32),(92,r92),(112,aJ)]) aj 4 82 f82 c82 x F y:=fun x F y=>by kernel_rfl
theorem Ue:c82.ok prog 82:=Ctr.of_den (al (aa (aa (aa (aa (q32) (by kernel_rfl) A0) (by kernel_rfl) TI) (by kernel_rfl) Se) (by kernel_rfl) O7)) av (hl:=aj) (d:=4) func82 rfl (by decide) (e82 lpK jnK ap dD fz dE)
def rc (lp:Lp) (_:Jn) (x0:(List Int)×List ((List Int)×Int×Int)):Option (List Int) :=
 lp (List Int×Int×PUnit) (List Int) (fun (again:List Int×Int×PUnit->Option (List Int)) (x:List Int×Int×PUnit)=>bif decide (x.2.1<(↑x0.2.length:Int)) then bif inB x.2.1 x0.2.length then bif eQ (List.length x.1+1) 8 then again (x.1++[(x0.2.getD x.2.1.toNat ([],0,(0 : Int))).2.2],IntKind.wrap .i64 (x.2.1+1),PUnit.unit) else none else none else some x.1) ([],0,PUnit.unit)
def fA (x0:(List Int)×List ((List Int)×Int×Int)):Option (List Int):=rc lpK jnK x0
abbrev t84:=((List Int)×List ((List Int)×Int×Int))->Option (List Int)
def c84:Ctr:=⟨[T82],[],[],.one (.sl i64),fun x _ _=>fA x.1⟩
theorem e84 (lp:Lp) (jn:Jn):∀(x:TsS c84.as) (F:TsF c84.fs) (y:TsS c84.cs),rc lp jn x.1=aX lp jn (cx [] [(32,r32),(92,r92),(112,aJ)]) aj 4 84 f84 c84 x F y:=fun x F y=>by kernel_rfl
theorem U6:c84.ok prog 84:=Ctr.of_den (al (q32)) av (hl:=aj) (d:=4) func84 rfl (by decide) (e84 lpK jnK)
def pE (_:Lp) (_:Jn) (ap:t24) (dE:Jm) (x0:Int×Int):Option Int :=
 ah (ap 0) fun (t:Int×Int)=>ah (dE x0 t) fun (t:Int)=>some t
def cJ (x0:Int×Int):Option Int:=pE lpK jnK ap dE x0
abbrev t85:=(Int×Int)->Option (Int)
def k85 (cJ:t85):Ctr:=⟨[T47],[],[],.one i64,fun x _ _=>cJ x.1⟩
def c85:Ctr:=k85 cJ
theorem e85 (lp:Lp) (jn:Jn) (ap:t24) (dE:Jm):∀(x:TsS c85.as) (F:TsF c85.fs) (y:TsS c85.cs),pE lp jn ap dE x.1=aX lp jn (cx [(120,Qt dE),(24,k24 ap)] [(32,r32),(92,r92),(112,aJ)]) aj 4 85 f85 c85 x F y:=fun x F y=>by kernel_rfl
theorem SA:c85.ok prog 85:=Ctr.of_den (al (aa (aa (q32) (by kernel_rfl) A0) (by kernel_rfl) O7)) av (hl:=aj) (d:=4) func85 rfl (by decide) (e85 lpK jnK ap dE)
def mF (lp:Lp) (_:Jn) (cJ:t85) (x0:(List Int)×List ((List Int)×Int×Int)) (x1:List (Int×Int)):Option Bool :=
 lp (Int×PUnit) Bool (fun (again:Int×PUnit->Option Bool) (x:Int×PUnit) =>
 let v6:Bool:=inB x.1 x1.length;
 let v7:Bool:=inB x.1 x0.2.length;
 let v8:Bool:=decide ((x0.2.getD x.1.toNat ([],0,0)).2.1=1);
 let v9:Bool:=decide ((x0.2.getD x.1.toNat ([],0,0)).2.1=2);
 let v10:Bool:=!v8;
 let v11:Bool:=v10||v8;bif decide (x.1<(↑x1.length:Int)) then bif v7 then bif v11&&(v11&&(v10||v6)) then bif v11 then bif v11 then ah (bif v8 then cJ (x1.getD x.1.toNat (0,0)) else some 0) fun (t:Int) =>
 let v13:Bool:=bif v8 then decide (t>0) else false;
 let v14:Bool:=!v13;
 let v15:Bool:=!v14;
 let v16:Bool:=v14&&v9;
 let v17:Bool:=!v16;
 let v18:Bool:=v15||v14;
 let v19:Bool:=v17||v16;bif v11 then bif v11 then bif v18 then bif v18&&(v18&&(v15||v7)) then bif v18 then bif v18 then bif v18 then bif v18 then bif v19&&(v19&&(v17 || v6)) then bif v19 then bif v19 then ah (bif v16 then cJ (x1.getD x.1.toNat (0,0)) else some 0) fun (t:Int)=>bif v19 then bif (v15 || v18)&&(v15||(!v9||(v15||v16))) then bif v13||v14 then bif bif v13 then true else bif v9 then decide (t<0) else false then some false else again (IntKind.wrap IntKind.i64 (x.1+1),PUnit.unit) else none else none else none else none else none else none else none else none else none else none else none else none else none else none else none else none else none else none else some true) (0,PUnit.unit)
def eW (x0:(List Int)×List ((List Int)×Int×Int)) (x1:List (Int×Int)):Option Bool:=mF lpK jnK cJ x0 x1
abbrev t86:=((List Int)×List ((List Int)×Int×Int))->(List (Int×Int))->Option (Bool)
def c86:Ctr:=⟨[T82,(.sl T47)],[],[],.one .bool,fun x _ _=>eW x.1 x.2.1⟩
theorem e86 (lp:Lp) (jn:Jn) (cJ:t85):∀(x:TsS c86.as) (F:TsF c86.fs) (y:TsS c86.cs),mF lp jn cJ x.1 x.2.1=aX lp jn (cx [(85,k85 cJ)] [(32,r32),(92,r92),(112,aJ)]) aj 4 86 f86 c86 x F y:=fun x F y=>by kernel_rfl
theorem Uw:c86.ok prog 86:=Ctr.of_den (al (aa (q32) (by kernel_rfl) SA)) av (hl:=aj) (d:=4) func86 rfl (by decide) (e86 lpK jnK cJ)
def lj (_:Lp) (_:Jn) (dD:t83) (eP:t82) (fA:t84) (cJ:t85) (eW:t86) (x0:(List Int)×List ((List Int)×Int×Int)) (x1:List (Int×Int)):Option (Bool×Int×Unit) :=
 bif decide (0<=(↑x0.1.length:Int))&&eQ (Int.toNat (↑x0.1.length:Int)) 8 then ah (eP x0 x1 (List.replicate (Int.toNat (↑x0.1.length:Int)) 0)) fun (t:Bool×Int×PUnit) =>
 let v5:Bool:=!t.1||t.1;bif !decide (t.2.1=0) then some (false,t.2.1,PUnit.unit) else ah (fA x0) fun (t_1:List Int)=>ah (dD t_1 x1) fun (t_2:(Int×Int)×Int×PUnit)=>bif !decide (t_2.2.1=0) then some (false,t_2.2.1,PUnit.unit) else bif v5 then ah (bif t.1 then cJ t_2.1 else some 0) fun (t_3:Int) =>
 let v9:Bool:=bif t.1 then decide (t_3>0) else false;
 let v10:Bool:=!v9||v9;bif v5 then bif v5 then bif v10&&v10 then ah (bif v9 then eW x0 x1 else some false) fun (t:Bool)=>bif v10 then some (bif v9 then t else false,0,PUnit.unit) else none else none else none else none else none else none
def dw (x0:(List Int)×List ((List Int)×Int×Int)) (x1:List (Int×Int)):Option (Bool×Int×Unit):=lj lpK jnK dD eP fA cJ eW x0 x1
abbrev t47:=((List Int)×List ((List Int)×Int×Int))->(List (Int×Int))->Option (Bool×Int×Unit)
def k47 (dw:t47):Ctr:=⟨[T82,(.sl T47)],[],[],.tup [.bool,i64],fun x _ _=>dw x.1 x.2.1⟩
def c47:Ctr:=k47 dw
theorem e47 (lp:Lp) (jn:Jn) (dD:t83) (eP:t82) (fA:t84) (cJ:t85) (eW:t86):∀(x:TsS c47.as) (F:TsF c47.fs) (y:TsS c47.cs),lj lp jn dD eP fA cJ eW x.1 x.2.1=aX lp jn (cx [(86,⟨[T82,(.sl T47)],[],[],.one .bool,fun x _ _=>eW x.1 x.2.1⟩),(85,k85 cJ),(84,⟨[T82],[],[],.one (.sl i64),fun x _ _=>fA x.1⟩),(82,k82 eP),(83,k83 dD)] [(32,r32),(92,r92),(112,aJ)]) aj 4 47 f47 c47 x F y:=fun x F y=>by kernel_rfl
theorem Va:c47.ok prog 47:=Ctr.of_den (al (aa (aa (aa (aa (aa (q32) (by kernel_rfl) TI) (by kernel_rfl) Ue) (by kernel_rfl) U6) (by kernel_rfl) SA) (by kernel_rfl) Uw)) av (hl:=aj) (d:=4) func47 rfl (by decide) (e47 lpK jnK dD eP fA cJ eW)
def nI (_:Lp) (_:Jn) (aF:t14) (cZ:t70) (x0:(List (ByteArray×Int))×List (ByteArray×(List (ByteArray×Int×Int×Int))×Bool)) (x1:List (Int×Int)):Option Int :=
 ah (aF x0) fun (t:Bool) =>
 let v5:Bool:=!t;
 let v6:Bool:=!v5;
 let v7:Bool:=!v6||v6;bif v7 then ah (bif v6 then cZ x1 else some false) fun (t:Bool)=>bif v7 then bif v5||v6 then bif bif v5 then true else !t then some 1 else bif !decide ((↑x1.length:Int)=(↑x0.2.length:Int)) then some 3 else some 0 else none else none else none
def fF (x0:(List (ByteArray×Int))×List (ByteArray×(List (ByteArray×Int×Int×Int))×Bool)) (x1:List (Int×Int)):Option Int:=nI lpK jnK aF cZ x0 x1
abbrev Sw:=((List (ByteArray×Int))×List (ByteArray×(List (ByteArray×Int×Int×Int))×Bool))->(List (Int×Int))->Option (Int)
def HA:Ctr:=⟨[T25,(.sl T47)],[],[],.one i64,fun x _ _=>fF x.1 x.2.1⟩
theorem VG (lp:Lp) (jn:Jn) (aF:t14) (cZ:t70):∀(x:TsS HA.as) (F:TsF HA.fs) (y:TsS HA.cs),nI lp jn aF cZ x.1 x.2.1=aX lp jn (cx [(70,k70 cZ),(14,k14 aF)] [(32,r32),(92,r92),(112,aJ)]) aj 4 123 f123 HA x F y:=fun x F y=>by kernel_rfl
theorem RJ:HA.ok prog 123:=Ctr.of_den (al (aa (aa (q32) (by kernel_rfl) Rr) (by kernel_rfl) R2)) av (hl:=aj) (d:=4) func123 rfl (by decide) (VG lpK jnK aF cZ)
def qI (lp:Lp) (_:Jn) (ap:t24) (cj:JG) (bZ:EG) (x0:List Int) (x1:List (Int×Int)):Option ((Int×Int)×Int×Unit) :=
 ah (ap 0) fun (t:Int×Int)=>lp (Int×(Int×Int)×(Int×Int)×PUnit) ((Int×Int)×Int×PUnit) (fun (again:Int×(Int×Int)×(Int×Int)×PUnit->Option ((Int×Int)×Int×PUnit)) (x:Int×(Int×Int)×(Int×Int)×PUnit)=>bif decide (x.1<(↑x1.length:Int)) then bif inB x.1 x0.length then ah (ap (x0.getD x.1.toNat 0)) fun (t:Int×Int)=>bif inB x.1 x1.length then ah (cj t (x1.getD x.1.toNat (0,0))) fun (t:(Int×Int)×Int×PUnit)=>bif !decide (t.2.1=0) then some ((0,0),t.2.1,PUnit.unit) else ah (bZ x.2.2.1 t.1) fun (t:(Int × Int)×Int×PUnit)=>bif !decide (t.2.1=0) then some ((0,0),t.2.1,PUnit.unit) else again (IntKind.wrap .i64 (x.1+1), x.2.1,t.1,PUnit.unit) else none else none else some (x.2.2.1,0,PUnit.unit)) (0,(0,0),t,PUnit.unit)
def fT (x0:List Int) (x1:List (Int×Int)):Option ((Int×Int)×Int×Unit):=qI lpK jnK ap cj bZ x0 x1
abbrev PS:=(List Int)->(List (Int×Int))->Option ((Int×Int)×Int×Unit)
def Rj (fT:PS):Ctr:=⟨[(.sl i64),(.sl T47)],[],[],.tup [T47,i64],fun x _ _=>fT x.1 x.2.1⟩
def Hz:Ctr:=Rj fT
theorem TZ (lp:Lp) (jn:Jn) (ap:t24) (cj:JG) (bZ:EG):∀(x:TsS Hz.as) (F:TsF Hz.fs) (y:TsS Hz.cs),qI lp jn ap cj bZ x.1 x.2.1=aX lp jn (cx [(122,Nx bZ),(121,PN cj),(24,k24 ap)] [(32,r32),(92,r92),(112,aJ)]) aj 4 124 f124 Hz x F y:=fun x F y=>by kernel_rfl
theorem SL:Hz.ok prog 124:=Ctr.of_den (al (aa (aa (aa (q32) (by kernel_rfl) A0) (by kernel_rfl) O8) (by kernel_rfl) Lu)) av (hl:=aj) (d:=4) func124 rfl (by decide) (TZ lpK jnK ap cj bZ)
def qB (_:Lp) (_:Jn) (x0:Int×Int):Option (Int×Int) :=
 some (IntKind.wrap .i64 (0 - x0.1),x0.2)
def gQ (x0:Int×Int):Option (Int×Int):=qB lpK jnK x0
abbrev Tx:=(Int×Int)->Option (Int×Int)
def IL:Ctr:=⟨[T47],[],[],.one T47,fun x _ _=>gQ x.1⟩
theorem Um (lp:Lp) (jn:Jn):∀(x:TsS IL.as) (F:TsF IL.fs) (y:TsS IL.cs),qB lp jn x.1=aX lp jn (cx [] [(32,r32),(92,r92),(112,aJ)]) aj 4 165 f165 IL x F y:=fun x F y=>by kernel_rfl
theorem Sf:IL.ok prog 165:=Ctr.of_den (al (q32)) av (hl:=aj) (d:=4) func165 rfl (by decide) (Um lpK jnK)
def qd (_:Lp) (_:Jn) (bZ:EG) (gQ:Tx) (x0:Int×Int) (x1:Int×Int):Option ((Int×Int)×Int×Unit) :=
 ah (gQ x1) fun (t:Int×Int)=>ah (bZ x0 t) fun (t:(Int×Int)×Int×PUnit)=>some (t.1,t.2.1,PUnit.unit)
def gx (x0:Int×Int) (x1:Int×Int):Option ((Int×Int)×Int×Unit):=qd lpK jnK bZ gQ x0 x1
abbrev S4:=(Int×Int)->(Int×Int)->Option ((Int×Int)×Int×Unit)
def LN:Ctr:=⟨[T47,T47],[],[],.tup [T47,i64],fun x _ _=>gx x.1 x.2.1⟩
theorem Vm (lp:Lp) (jn:Jn) (bZ:EG) (gQ:Tx):∀(x:TsS LN.as) (F:TsF LN.fs) (y:TsS LN.cs),qd lp jn bZ gQ x.1 x.2.1=aX lp jn (cx [(165,⟨[T47],[],[],.one T47,fun x _ _=>gQ x.1⟩),(122,Nx bZ)] [(32,r32),(92,r92),(112,aJ)]) aj 4 125 f125 LN x F y:=fun x F y=>by kernel_rfl
theorem Sq:LN.ok prog 125:=Ctr.of_den (al (aa (aa (q32) (by kernel_rfl) Lu) (by kernel_rfl) Sf)) av (hl:=aj) (d:=4) func125 rfl (by decide) (Vm lpK jnK bZ gQ)
def jG (lp:Lp) (_:Jn) (ap:t24) (bQ:t81) (fF:Sw) (fT:PS) (gx:S4) (x0:(List (ByteArray×Int))×List (ByteArray×(List (ByteArray×Int×Int×Int))×Bool)) (x1:List (Int×Int)):Option ((List (Int×Int))×Int×Unit) :=
 ah (fF x0 x1) fun (t:Int)=>bif !decide (t=0) then some ([],t,PUnit.unit) else ah (bQ x0) fun (t:List (List Int))=>lp (List (Int×Int)×Int × PUnit) (List (Int×Int)×Int×PUnit) (fun (again:List (Int×Int)×Int×PUnit->Option (List (Int×Int)×Int×PUnit)) (x:List (Int×Int)×Int×PUnit)=>bif decide (x.2.1<(↑x0.1.length:Int)) then bif inB x.2.1 t.length then ah (fT (t.getD x.2.1.toNat []) x1) fun (t:(Int×Int)×Int×PUnit) =>bif !decide (t.2.1=0) then some ([],t.2.1,PUnit.unit) else bif inB x.2.1 x0.1.length then ah (ap (x0.1.getD x.2.1.toNat ({ data:={ toList:=[] } },0)).2) fun (t_1:Int×Int)=>ah (gx t_1 t.1) fun (t:(Int×Int)×Int×PUnit)=>bif !decide (t.2.1=0) then some ([],t.2.1,PUnit.unit) else bif eQ (List.length x.1+1) 16 then again (x.1++[t.1],IntKind.wrap .i64 (x.2.1+1),PUnit.unit) else none else none else none else some (x.1,0,PUnit.unit)) ([],0,PUnit.unit)
def cE (x0:(List (ByteArray×Int))×List (ByteArray×(List (ByteArray×Int×Int×Int))×Bool)) (x1:List (Int×Int)):Option ((List (Int×Int))×Int×Unit):=jG lpK jnK ap bQ fF fT gx x0 x1
abbrev t87:=((List (ByteArray×Int))×List (ByteArray×(List (ByteArray×Int×Int×Int))×Bool))->(List (Int×Int))->Option ((List (Int×Int))×Int×Unit)
def k87 (cE:t87):Ctr:=⟨[T25,(.sl T47)],[],[],.tup [(.sl T47),i64],fun x _ _=>cE x.1 x.2.1⟩
def c87:Ctr:=k87 cE
theorem e87 (lp:Lp) (jn:Jn) (ap:t24) (bQ:t81) (fF:Sw) (fT:PS) (gx:S4):∀(x:TsS c87.as) (F:TsF c87.fs) (y:TsS c87.cs),jG lp jn ap bQ fF fT gx x.1 x.2.1=aX lp jn (cx [(125,⟨[T47,T47],[],[],.tup [T47,i64],fun x _ _=>gx x.1 x.2.1⟩),(124,Rj fT),(123,⟨[T25,(.sl T47)],[],[],.one i64,fun x _ _=>fF x.1 x.2.1⟩),(81,k81 bQ),(24,k24 ap)] [(32,r32),(92,r92),(112,aJ)]) aj 4 87 f87 c87 x F y:=fun x F y=>by kernel_rfl
theorem Uq:c87.ok prog 87:=Ctr.of_den (al (aa (aa (aa (aa (aa (q32) (by kernel_rfl) A0) (by kernel_rfl) SF) (by kernel_rfl) RJ) (by kernel_rfl) SL) (by kernel_rfl) Sq)) av (hl:=aj) (d:=4) func87 rfl (by decide) (e87 lpK jnK ap bQ fF fT gx)
def nz (lp:Lp) (_:Jn) (ap:t24) (cE:t87) (x0:(List (ByteArray×Int))×List (ByteArray×(List (ByteArray×Int×Int×Int))×Bool)) (x1:List (Int×Int)):Option (Bool×Int×Unit) :=
 ah (cE x0 x1) fun (t:List (Int×Int)×Int×PUnit)=>bif !decide (t.2.1=0) then some (false,t.2.1,PUnit.unit) else lp (Int×PUnit) (Bool×Int × PUnit) (fun (again:Int×PUnit->Option (Bool×Int×PUnit)) (x:Int×PUnit) =>
 let v7:Int×Int:=t.1.getD x.1.toNat (0,0);bif decide (x.1<(↑t.1.length:Int)) then bif inB x.1 t.1.length then ah (ap 0) fun (t:Int×Int)=>bif !(decide (v7.1=t.1)&&(decide (v7.2=t.2)&&true)) then some (false,0,PUnit.unit) else again (IntKind.wrap IntKind.i64 (x.1+1),PUnit.unit) else none else some (true,0,PUnit.unit)) (0,PUnit.unit)
def eL (x0:(List (ByteArray×Int))×List (ByteArray×(List (ByteArray×Int×Int×Int))×Bool)) (x1:List (Int×Int)):Option (Bool×Int×Unit):=nz lpK jnK ap cE x0 x1
abbrev t48:=((List (ByteArray×Int))×List (ByteArray×(List (ByteArray×Int×Int×Int))×Bool))->(List (Int×Int))->Option (Bool×Int×Unit)
def k48 (eL:t48):Ctr:=⟨[T25,(.sl T47)],[],[],.tup [.bool,i64],fun x _ _=>eL x.1 x.2.1⟩
def c48:Ctr:=k48 eL
theorem e48 (lp:Lp) (jn:Jn) (ap:t24) (cE:t87):∀(x:TsS c48.as) (F:TsF c48.fs) (y:TsS c48.cs),nz lp jn ap cE x.1 x.2.1=aX lp jn (cx [(87,k87 cE),(24,k24 ap)] [(32,r32),(92,r92),(112,aJ)]) aj 4 48 f48 c48 x F y:=fun x F y=>by kernel_rfl
theorem UQ:c48.ok prog 48:=Ctr.of_den (al (aa (aa (q32) (by kernel_rfl) A0) (by kernel_rfl) Uq)) av (hl:=aj) (d:=4) func48 rfl (by decide) (e48 lpK jnK ap cE)
def nu (lp:Lp) (jn:Jn) (aF:t14) (cu:t44) (ep:t45) (dh:t31) (eh:t46) (dw:t47) (eL:t48) (x0:(List (ByteArray×Int))×List (ByteArray×(List (ByteArray×Int×Int×Int))×Bool)) (x1:(List (Int×Int))×Bool×List (Int×Int)):Option (Bool×Int×Unit) :=
 ah (aF x0) fun (t:Bool)=>bif !t then some (false,1,PUnit.unit) else ah (dh x1) fun (t:Int)=>bif !decide (t=0) then some (false,t, PUnit.unit) else ah (eh x1) fun (t:List (Int×Int))=>jn (Int×PUnit) (Bool×Int×PUnit) (fun (x:Int×PUnit)=>bif !decide ((↑t.length:Int)=x.1) then some (false,3,PUnit.unit) else bif x1.2.1 then ah (ep x0) fun (t_1:List Int)=>ah (cu x0 t_1) fun (t_2:List Int×List (List Int×Int × Int))=>ah (dw t_2 t) fun (t:Bool×Int×PUnit)=>some (t.1,t.2.1,PUnit.unit) else ah (eL x0 t) fun (t_1:Bool×Int×PUnit)=>bif !decide (t_1.2.1=0) then some (false,t_1.2.1,PUnit.unit) else lp (Bool×Int×PUnit) (Bool×Int×PUnit) (fun (again:Bool×Int×PUnit->Option (Bool×Int×PUnit)) (x : Bool×Int×PUnit) =>
 let v11:Bool:=!x.1;
 let v12:Bool:=v11||x.1;bif decide (x.2.1<(↑t.length:Int)) then bif v12&&(v12&&(v11||inB x.2.1 t.length)) then bif v12 then bif v12 then bif v12 then bif v12 then again (bif x.1 then decide ((t.getD x.2.1.toNat (0,0)).1>=0) else false,IntKind.wrap .i64 (x.2.1+1), PUnit.unit) else none else none else none else none else none else some (x.1,0,PUnit.unit)) (t_1.1,0,PUnit.unit)) fun (j:Int×PUnit->Option (Bool×Int × PUnit))=>bif x1.2.1 then j ((↑x0.1.length:Int),PUnit.unit) else j ((↑x0.2.length:Int),PUnit.unit)
def cA (x0:(List (ByteArray×Int))×List (ByteArray×(List (ByteArray×Int×Int×Int))×Bool)) (x1:(List (Int×Int))×Bool×List (Int×Int)):Option (Bool×Int×Unit):=nu lpK jnK aF cu ep dh eh dw eL x0 x1
abbrev t18:=((List (ByteArray×Int))×List (ByteArray×(List (ByteArray×Int×Int×Int))×Bool))->((List (Int×Int))×Bool×List (Int×Int))->Option (Bool×Int×Unit)
def k18 (cA:t18):Ctr:=⟨[T25,T30],[],[],.tup [.bool,i64],fun x _ _=>cA x.1 x.2.1⟩
def c18:Ctr:=k18 cA
theorem e18 (lp:Lp) (jn:Jn) (aF:t14) (cu:t44) (ep:t45) (dh:t31) (eh:t46) (dw:t47) (eL:t48):∀(x:TsS c18.as) (F:TsF c18.fs) (y:TsS c18.cs),nu lp jn aF cu ep dh eh dw eL x.1 x.2.1=aX lp jn (cx [(48,k48 eL),(47,k47 dw),(46,k46 eh),(31,k31 dh),(45,k45 ep),(44,k44 cu),(14,k14 aF)] [(32,r32),(92,r92),(112,aJ)]) aj 4 18 f18 c18 x F y:=fun x F y=>by kernel_rfl
theorem Vy:c18.ok prog 18:=Ctr.of_den (al (aa (aa (aa (aa (aa (aa (aa (q32) (by kernel_rfl) Rr) (by kernel_rfl) VR) (by kernel_rfl) Uv) (by kernel_rfl) VO) (by kernel_rfl) UO) (by kernel_rfl) Va) (by kernel_rfl) UQ)) av (hl:=aj) (d:=4) func18 rfl (by decide) (e18 lpK jnK aF cu ep dh eh dw eL)
def jR (_:Lp) (_:Jn) (bh:t13) (bp:t15) (aH:t11) (ba:t12) (aF:t14) (kr:t16) (aR:t17) (cA:t18) (x0:(List (ByteArray×Int))×List (ByteArray×(List (ByteArray×Int×Int×Int))×Bool)):Option Bool :=
 ah aH fun (t:Bool)=>bif !t then some false else ah (ba x0) fun (t:Bool)=>bif !t then some true else ah (bh x0) fun (t:(List (Int×Int) × Bool×List (Int×Int))×Int×PUnit) =>
 let v6:Bool:=decide (t.2.1=1);
 let v7:Bool:=decide (t.2.1=5);
 let v8:Bool:=!decide (t.2.1=0);
 let v9:Bool:=!v8;
 let v10:Bool:=!v6||v6;
 let v11:Bool:=!v7||v7;ah (aF x0) fun (t_1:Bool)=>bif !t_1 then bif v10&&v10 then ah (bif v6 then bp t.1 ([],false,[]) else some false) fun (t : Bool)=>bif v10 then some (bif v6 then t else false) else none else none else ah (kr x0) fun (t_2:Bool)=>bif !t_2 then bif v11&&v11 then ah (bif v7 then bp t.1 ([],false,[]) else some false) fun (t:Bool)=>bif v11 then some (bif v7 then t else false) else none else none else bif !v9||v9 then ah (bif v9 then aR t.1 else some false) fun (t_3:Bool)=>bif v8||v9 then bif bif v8 then true else t_3 then some false else ah (cA x0 t.1) fun (t:Bool×Int×PUnit) =>
 let v16:Bool:=decide (t.2.1=0);
 let v17:Bool:=bif v16 then t.1 else false;
 let v18:Bool:=!v17;bif !v16||v16 then bif !v18||v18 then bif v17||v18 then some (bif v17 then true else decide (t.2.1=5)) else none else none else none else none else none
def rZ (x0:(List (ByteArray×Int))×List (ByteArray×(List (ByteArray×Int×Int×Int))×Bool)):Option Bool:=jR lpK jnK bh bp aH ba aF kr aR cA x0
def c3:Ctr:=⟨[T25],[],[],.one .bool,fun x _ _=>rZ x.1⟩
theorem e3 (lp:Lp) (jn:Jn) (bh:t13) (bp:t15) (aH:t11) (ba:t12) (aF:t14) (kr:t16) (aR:t17) (cA:t18):∀(x:TsS c3.as) (F:TsF c3.fs) (y:TsS c3.cs),jR lp jn bh bp aH ba aF kr aR cA x.1=aX lp jn (cx [(18,k18 cA),(17,k17 aR),(16,⟨[T25],[],[],.one .bool,fun x _ _=>kr x.1⟩),(14,k14 aF),(12,k12 ba),(11,k11 aH),(15,k15 bp),(13,k13 bh)] [(32,r32),(92,r92),(112,aJ)]) aj 4 3 f3 c3 x F y:=fun x F y=>by kernel_rfl
def gY (_:Lp) (_:Jn) (aA:t19) (aH:t11) (ba:t12) (aR:t17) (cA:t18) (x0:(List (ByteArray×Int))×List (ByteArray×(List (ByteArray×Int×Int×Int))×Bool)) (x1:(List (Int×Int))×Bool×List (Int×Int)):Option Bool :=
 ah aH fun (t:Bool)=>bif !t then some false else ah (ba x0) fun (t:Bool) =>
 let v6:Bool:=!t;
 let v7:Bool:=!v6;bif !v7||v7 then ah (bif v7 then aR x1 else some false) fun (t:Bool)=>bif v6||v7 then bif bif v6 then true else t then some true else ah (aA x0 x1) fun (t:Bool×Int×PUnit)=>ah (cA x0 x1) fun (t_1:Bool×Int×PUnit) =>
 let v11:Bool:=decide (t.1=t_1.1);
 let v12:Bool:=!v11||v11;bif v12&&v12 then bif v12 then some (bif v11 then decide (t.2.1=t_1.2.1) else false) else none else none else none else none
def iK (x0:(List (ByteArray×Int))×List (ByteArray×(List (ByteArray×Int×Int×Int))×Bool)) (x1:(List (Int×Int))×Bool×List (Int×Int)):Option Bool:=gY lpK jnK aA aH ba aR cA x0 x1
def c4:Ctr:=⟨[T25,T30],[],[],.one .bool,fun x _ _=>iK x.1 x.2.1⟩
theorem e4 (lp:Lp) (jn:Jn) (aA:t19) (aH:t11) (ba:t12) (aR:t17) (cA:t18):∀(x:TsS c4.as) (F:TsF c4.fs) (y:TsS c4.cs),gY lp jn aA aH ba aR cA x.1 x.2.1=aX lp jn (cx [(18,k18 cA),(17,k17 aR),(12,k12 ba),(11,k11 aH),(19,k19 aA)] [(32,r32),(92,r92),(112,aJ)]) aj 4 4 f4 c4 x F y:=fun x F y=>by kernel_rfl
theorem ok4:c4.ok prog 4:=Ctr.of_den (al (aa (aa (aa (aa (aa (q32) (by kernel_rfl) Q9) (by kernel_rfl) Uo) (by kernel_rfl) Vl) (by kernel_rfl) U7) (by kernel_rfl) Vy)) av (hl:=aj) (d:=4) func4 rfl (by decide) (e4 lpK jnK aA aH ba aR cA)
def jH (_:Lp) (_:Jn) (dK:t20) (cC:t21) (bh:t13) (aA:t19) (aH:t11) (ba:t12) (aF:t14) (aR:t17) (x0:(List (ByteArray×Int))×List (ByteArray×(List (ByteArray×Int×Int×Int))×Bool)) (x1:(List (Int×Int))×Bool×List (Int×Int)):Option Bool :=
 ah aH fun (t:Bool)=>bif !t then some false else ah (ba x0) fun (t:Bool) =>
 let v6:Bool:=!t;
 let v7:Bool:=!v6;
 let v8:Bool:=!v7||v7;bif v8 then ah (bif v7 then aF x0 else some false) fun (t:Bool) =>
 let v10:Bool:=bif v6 then true else !t;
 let v11:Bool:=!v10;bif v8 then bif v6||v7 then bif !v11||v11 then ah (bif v11 then aR x1 else some false) fun (t:Bool)=>bif v10||v11 then bif bif v10 then true else t then some true else ah (bh x0) fun (t:(List (Int×Int)×Bool×List (Int×Int))×Int×PUnit) =>
 let v14:Bool:=!t.1.2.1;
 let v15:Bool:=v14||t.1.2.1;
 let v16:Bool:=v14||v15;bif !decide (t.2.1=0) then some (decide (t.2.1=5)) else ah (dK x0) fun (t_1:List (Int×Int)×Int×PUnit) =>
 let v18:Bool:=!decide (t_1.2.1=22);
 let v19:Bool:=!decide (t_1.2.1=0);
 let v20:Bool:=t.1.2.1&&!v18;
 let v21:Bool:=bif v18 then true else !decide ((↑t_1.1.length:Int)=0);
 let v22:Bool:=t.1.2.1&&!v21;
 let v23:Bool:=!v20||v20;ah (cC x0) fun (t_2:List (Int×Int)×Int×PUnit) =>
 let v25:Bool:=bif v19 then true else !decide (t_2.2.1=12);
 let v26:Bool:=bif t.1.2.1 then bif v21 then true else !decide (t_2.2.1=0) else false;
 let v27:Bool:=!v26;
 let v28:Bool:=!v27;
 let v29:Bool:=v27&&v14;
 let v30:Bool:=!v29;
 let v31:Bool:=v29&&!v19;
 let v32:Bool:=v29&&!v25;
 let v33:Bool:=v28||v27;
 let v34:Bool:=v30||v29;
 let v35:Bool:=v30||v34;
 let v36:Bool:=!v32||v32;bif v15 then bif v15 then bif v23 then bif v23 then bif v16&&(v14||(v18||(v14||v20))) then bif v15 then bif !v22||v22 then bif v16&&(v14||(v21 || (v14||v22))) then bif v15 then bif v33 then bif v33 then bif v33 then bif v34 then bif v34 then bif !v31||v31 then bif v35&&(v30||(v19||(v30||v31))) then bif v34 then bif v36 then bif v36 then bif v35&&(v30||(v25||(v30||v32))) then bif (v28||v33)&&(v28||(!v14||(v28||v29))) then bif v26||v27 then bif bif v26 then true else bif v14 then bif v25 then true else !decide ((↑t_2.1.length:Int)=0) else false then some false else ah (aA x0 t.1) fun (t_3:Bool×Int×PUnit) =>
 let v38:Bool:=!decide (t_3.2.1=5);
 let v39:Bool:=!decide (t_3.2.1=0);
 let v40:Bool:=!v38;
 let v41:Bool:=v40||v38;
 let v42:Bool:=v38&&!v39;bif v41 then bif v41 then bif !v42||v42 then bif (v40||v41)&&(v40||(v39||(v40||v42))) then bif v41 then bif bif v38 then bif v39 then true else !t_3.1 else false then some false else ah (aA x0 x1) fun (t_4:Bool×Int×PUnit) =>
 let v44:Bool:=!decide (t_4.2.1=0);
 let v45:Bool:=!v44;
 let v46:Bool:=bif v44 then true else !t_4.1;
 let v47:Bool:=!v46;
 let v48:Bool:=!v47||v47;bif !v45||v45 then bif v44||v45 then bif v48 then bif v48 then bif v48&&v48 then bif v46||v47 then some (bif v46 then true else decide (x1.2.1 = t.1.2.1)) else none else none else none else none else none else none else none else none else none else none else none else none else none else none else none else none else none else none else none else none else none else none else none else none else none else none else none else none else none else none else none else none else none else none else none else none else none else none
def qU (x0:(List (ByteArray×Int))×List (ByteArray×(List (ByteArray×Int×Int×Int))×Bool)) (x1:(List (Int×Int))×Bool×List (Int×Int)):Option Bool:=jH lpK jnK dK cC bh aA aH ba aF aR x0 x1
def c5:Ctr:=⟨[T25,T30],[],[],.one .bool,fun x _ _=>qU x.1 x.2.1⟩
theorem e5 (lp:Lp) (jn:Jn) (dK:t20) (cC:t21) (bh:t13) (aA:t19) (aH:t11) (ba:t12) (aF:t14) (aR:t17):∀(x:TsS c5.as) (F:TsF c5.fs) (y:TsS c5.cs),jH lp jn dK cC bh aA aH ba aF aR x.1 x.2.1=aX lp jn (cx [(17,k17 aR),(14,k14 aF),(12,k12 ba),(11,k11 aH),(19,k19 aA),(13,k13 bh),(21,k21 cC),(20,k20 dK)] [(32,r32),(92,r92),(112,aJ)]) aj 4 5 f5 c5 x F y:=fun x F y=>by kernel_rfl
def AB (lp:Lp) (_:Jn) (x0:(List (ByteArray×Int))×List (ByteArray×(List (ByteArray×Int×Int×Int))×Bool)):Option ((List (ByteArray×Int))×List (ByteArray×(List (ByteArray×Int×Int×Int))×Bool)) :=
 
 let v3:List (ByteArray×List (ByteArray×Int×Int×Int)×Bool):=[];bif eQ (0+List.length x0.1) 24 then lp (Int×List (ByteArray×Int)×List (ByteArray × List (ByteArray×Int×Int×Int)×Bool)×PUnit) (List (ByteArray×Int)×List (ByteArray×List (ByteArray×Int×Int×Int)×Bool)) (fun (again:Int×List (ByteArray×Int) × List (ByteArray×List (ByteArray×Int×Int×Int)×Bool)×PUnit->Option (List (ByteArray×Int)×List (ByteArray×List (ByteArray×Int×Int×Int)×Bool))) (x:Int×List (ByteArray×Int)×List (ByteArray×List (ByteArray×Int×Int×Int)×Bool)×PUnit) =>
 let v6:ByteArray×List (ByteArray×Int×Int×Int)×Bool:=x0.2.getD x.1.toNat ({ data:={ toList:=[] } },[],false);bif decide (x.1<(↑x0.2.length : Int)) then bif inB x.1 x0.2.length then bif eQ (0+List.length v6.2.1) 40 then bif eQ (List.length x.2.2.1+1) 48 then again (IntKind.wrap .i64 (x.1+1),x.2.1,x.2.2.1++v6 ::v3,PUnit.unit) else none else none else none else some (x.2.1,x.2.2.1)) (0,x0.1, v3,PUnit.unit) else none
def km (x0:(List (ByteArray×Int))×List (ByteArray×(List (ByteArray×Int×Int×Int))×Bool)):Option ((List (ByteArray×Int))×List (ByteArray×(List (ByteArray×Int×Int×Int))×Bool)):=AB lpK jnK x0
def kU (lp:Lp) (jn:Jn) (ce:t23) (aA:t19) (ap:t24) (aH:t11) (ba:t12) (aF:t14) (aR:t17) (km:((List (ByteArray×Int))×List (ByteArray×(List (ByteArray×Int×Int×Int))×Bool))->Option ((List (ByteArray×Int))×List (ByteArray×(List (ByteArray×Int×Int×Int))×Bool))) (x0:(List (ByteArray×Int))×List (ByteArray×(List (ByteArray×Int×Int×Int))×Bool)) (x1:(List (Int×Int))×Bool×List (Int×Int)):Option Bool :=
 ah aH fun (t:Bool)=>bif !t then some false else ah (ba x0) fun (t:Bool) =>
 let v6:Bool:=!t;
 let v7:Bool:=!v6;
 let v8:Bool:=!v7||v7;bif v8 then ah (bif v7 then aF x0 else some false) fun (t:Bool) =>
 let v10:Bool:=bif v6 then true else !t;
 let v11:Bool:=!v10;bif v8 then bif v6||v7 then bif !v11||v11 then ah (bif v11 then aR x1 else some false) fun (t:Bool)=>bif v10||v11 then bif bif v10 then true else t then some true else ah (aA x0 x1) fun (t:Bool×Int×PUnit) =>
 let v14:Bool:=!decide (t.2.1=0);
 let v15:Bool:=!v14;bif !v15||v15 then bif v14||v15 then bif bif v14 then true else !t.1 then some true else ah (km x0) fun (t:List (ByteArray×Int)×List (ByteArray×List (ByteArray×Int×Int×Int)×Bool))=>lp (Int×List (ByteArray×Int)×PUnit) Bool (fun (again:Int×List (ByteArray×Int)×PUnit->Option Bool) (x:Int × List (ByteArray×Int)×PUnit) =>
 let v19:Bool:=inB x.1 x.2.1.length;
 let v20:Bool:=Nat.ble (Nat.succ x.1.toNat) x.2.1.length;
 let v21:ByteArray×Int:=x.2.1.getD x.1.toNat ({ data:={ toList:=[] } },0);
 let v22:List (ByteArray×Int)×List (ByteArray×List (ByteArray×Int×Int×Int)×Bool):=(x.2.1,t.2);bif decide (x.1<(↑t.1.length:Int)) then bif v19 then bif v20 then bif v19 then bif v20 then again (IntKind.wrap .i64 (x.1+1),x.2.1.set x.1.toNat (v21.1,IntKind.wrap .i64 (v21.2*(2 : Int))),PUnit.unit) else none else none else none else none else ah (aF v22) fun (t:Bool)=>bif !t then some true else jn (List (Int×Int)×Bool×List (Int×Int) × PUnit) Bool (fun (x:List (Int×Int)×Bool×List (Int×Int)×PUnit)=>ah (aA v22 (x.1,x.2.1,x.2.2.1)) fun (t:Bool×Int×PUnit) =>
 let v26:Bool:=decide (t.2.1=5);
 let v27:Bool:=decide (t.2.1=0);
 let v28:Bool:=!v26;
 let v29:Bool:=!v28;
 let v30:Bool:=v29||v28;bif v30 then bif v30 then bif (v29||v30)&&(v29||(!v27||(v29||v28&&v27))) then bif v26||v28 then some (bif v26 then true else bif v27 then t.1 else false) else none else none else none else none) fun (j:List (Int×Int)×Bool×List (Int×Int)×PUnit->Option Bool)=>bif !x1.2.1 then lp (Int×List (Int×Int)×Bool × List (Int×Int)×PUnit) Bool (fun (again:Int×List (Int×Int)×Bool×List (Int×Int)×PUnit->Option Bool) (x:Int×List (Int×Int)×Bool×List (Int×Int)×PUnit) =>
 let v27:Bool×List (Int×Int)×PUnit:=(x.2.2.1,x.2.2.2.1,PUnit.unit);bif decide (x.1<(↑x1.1.length:Int)) then bif inB x.1 x1.1.length then ah (ap 2) fun (t:Int×Int)=>ah (ce (x1.1.getD x.1.toNat (0,0)) t) fun (t:(Int×Int)×Int×PUnit)=>bif !decide (t.2.1=0) then some (decide (t.2.1=5)) else bif eQ (List.length x.2.1+1) 16 then again (IntKind.wrap .i64 (x.1+1), x.2.1++[t.1],v27) else none else none else j (x.2.1,v27)) (0,[],x1.2.1,x1.2.2,PUnit.unit) else none) (0,t.1,PUnit.unit) else none else none else none else none else none else none else none
def sQ (x0:(List (ByteArray×Int))×List (ByteArray×(List (ByteArray×Int×Int×Int))×Bool)) (x1:(List (Int×Int))×Bool×List (Int×Int)):Option Bool:=kU lpK jnK ce aA ap aH ba aF aR km x0 x1
def c6:Ctr:=⟨[T25,T30],[],[],.one .bool,fun x _ _=>sQ x.1 x.2.1⟩
theorem e6 (lp:Lp) (jn:Jn) (ce:t23) (aA:t19) (ap:t24) (aH:t11) (ba:t12) (aF:t14) (aR:t17) (km:((List (ByteArray×Int))×List (ByteArray×(List (ByteArray×Int×Int×Int))×Bool))->Option ((List (ByteArray×Int))×List (ByteArray×(List (ByteArray×Int×Int×Int))×Bool))):∀(x:TsS c6.as) (F:TsF c6.fs) (y:TsS c6.cs),kU lp jn ce aA ap aH ba aF aR km x.1 x.2.1=aX lp jn (xW ym yk (Ug [(22,⟨[T25],45,T45,(.sl T72),fun x=>km x.1⟩)] (iP prog shs sJ its [(17,k17 aR),(14,k14 aF),(12,k12 ba),(11,k11 aH),(24,k24 ap),(19,k19 aA),(23,k23 ce)] [(32,r32),(92,r92),(112,aJ)]))) aj 4 6 f6 c6 x F y:=fun x F y=>by kernel_rfl
def xB (lp:Lp) (_:Jn) (x0:List Int) (x1:Int) (x2:Int):Option (List Int) :=
 lp (List Int×Int×PUnit) (List Int) (fun (again:List Int×Int×PUnit->Option (List Int)) (x:List Int×Int×PUnit)=>bif decide (x.2.1>=0) then bif decide ((0 : Int)<=IntKind.wrap .i64 (8*x.2.1)) then bif eQ (List.length x.1+1) 1 then again (x.1++[IntKind.wrap IntKind.u8 (Int.fdiv x1 (2 ^ min (Int.toNat (IntKind.wrap .i64 (8*x.2.1))) 64))],IntKind.wrap .i64 (x.2.1 - 1),PUnit.unit) else none else none else bif Nat.ble (1 : Nat) x.1.length then some x.1 else none) (x0,IntKind.wrap .i64 (x2 - 1),PUnit.unit)
def jJ (x0:List Int) (x1:Int) (x2:Int):Option (List Int):=xB lpK jnK x0 x1 x2
def CB (lp:Lp) (_:Jn) (x0:List Int):Option Int :=
 lp (Int×Int×PUnit) Int (fun (again:Int×Int×PUnit->Option Int) (x:Int×Int×PUnit)=>bif decide (x.2.1<(↑x0.length:Int)) then bif inB x.2.1 x0.length then again (Int.tmod (IntKind.wrap .i64 (IntKind.wrap .i64 (IntKind.wrap .i64 (31*x.1)+IntKind.wrap .i64 (x0.getD x.2.1.toNat 0))+1)) 4294967296,IntKind.wrap .i64 (x.2.1+1),PUnit.unit) else none else some x.1) (0,0,PUnit.unit)
def uD (x0:List Int):Option Int:=CB lpK jnK x0
abbrev t66:=(List Int)->Option (Int)
def xJ (lp:Lp) (jn:Jn) (dh:t31) (eh:t46) (uD:t66) (jJ:(List Int)->(Int)->(Int)->Option (List Int)) (x0:(List (Int×Int))×Bool×List (Int×Int)):Option ((List Int)×Int×Unit) :=
 ah (dh x0) fun (t:Int)=>bif !decide (t=0) then some ([],t,PUnit.unit) else ah (eh x0) fun (t:List (Int×Int)) =>
 let v5:List Int:=[IntKind.wrap IntKind.u8 (↑t.length:Int)];bif decide ((↑t.length:Int)>20) then some ([],4,PUnit.unit) else jn (List Int × PUnit) (List Int×Int×PUnit) (fun (x:List Int×PUnit)=>lp (List Int×Int×PUnit) (List Int×Int×PUnit) (fun (again:List Int×Int×PUnit->Option (List Int×Int × PUnit)) (x:List Int×Int×PUnit) =>
 let v9:Bool:=inB x.2.1 t.length;
 let v10:Int×Int:=t.getD x.2.1.toNat (0,0);bif decide (x.2.1<(↑t.length:Int)) then bif v9 then ah (jJ x.1 v10.1 (8 : Int)) fun (t:List Int)=>bif v9 then ah (jJ t v10.2 8) fun (t:List Int)=>again (t,IntKind.wrap .i64 (x.2.1+1),PUnit.unit) else none else none else ah (uD x.1) fun (t:Int)=>ah (jJ x.1 t 4) fun (t:List Int)=>some (t,0,PUnit.unit)) (x.1,0,PUnit.unit)) fun (j:List Int×PUnit->Option (List Int×Int×PUnit))=>bif x0.2.1 then j (84 ::67 ::1 ::v5,PUnit.unit) else j (84 ::67 ::0 ::v5,PUnit.unit)
def iz (x0:(List (Int×Int))×Bool×List (Int×Int)):Option ((List Int)×Int×Unit):=xJ lpK jnK dh eh uD jJ x0
abbrev t26:=((List (Int×Int))×Bool×List (Int×Int))->Option ((List Int)×Int×Unit)
def tJ (lp:Lp) (_:Jn) (x0:List Int) (x1:List Int):Option Bool :=
 bif !decide ((↑x0.length:Int)=(↑x1.length:Int)) then some false else lp (Int×PUnit) Bool (fun (again:Int×PUnit->Option Bool) (x:Int×PUnit)=>bif decide (x.1<(↑x0.length:Int)) then bif inB x.1 x0.length then bif inB x.1 x1.length then bif !decide (x0.getD x.1.toNat 0=x1.getD x.1.toNat 0) then some false else again (IntKind.wrap .i64 (x.1+1),PUnit.unit) else none else none else some true) (0,PUnit.unit)
def eO (x0:List Int) (x1:List Int):Option Bool:=tJ lpK jnK x0 x1
abbrev t27:=(List Int)->(List Int)->Option (Bool)
def k27 (eO:t27):Ctr:=⟨[(.sl (.int .u8)),(.sl (.int .u8))],[],[],.one .bool,fun x _ _=>eO x.1 x.2.1⟩
def zQ (lp:Lp) (_:Jn) (x0:List (Int×Int)) (x1:List (Int×Int)):Option Bool :=
 bif !decide ((↑x0.length:Int)=(↑x1.length:Int)) then some false else lp (Int×PUnit) Bool (fun (again:Int×PUnit->Option Bool) (x:Int×PUnit)=>bif decide (x.1<(↑x0.length:Int)) then bif inB x.1 x0.length then bif inB x.1 x1.length then bif !(decide ((x0.getD x.1.toNat (0,(0 : Int))).1=(x1.getD x.1.toNat (0,0)).1)&&(decide ((x0.getD x.1.toNat (0,0)).2=(x1.getD x.1.toNat ((0 : Int),0)).2)&&true)) then some false else again (IntKind.wrap .i64 (x.1+1),PUnit.unit) else none else none else some true) (0,PUnit.unit)
def oH (x0:List (Int×Int)) (x1:List (Int×Int)):Option Bool:=zQ lpK jnK x0 x1
abbrev t67:=(List (Int×Int))->(List (Int×Int))->Option (Bool)
def Aw (_:Lp) (_:Jn) (oH:t67) (x0:(List (Int×Int))×Bool×List (Int×Int)) (x1:(List (Int×Int))×Bool×List (Int×Int)):Option Bool :=
 
 let v4:Bool:=decide (x0.2.1=x1.2.1);
 let v5:Bool:=!v4||v4;bif v5 then bif v5 then bif v5&&v5 then ah (bif v4 then oH x0.1 x1.1 else some false) fun (t:Bool) =>
 let v7:Bool:=bif v4 then t else false;
 let v8:Bool:=!v7||v7;bif v5 then bif v8 then bif v8 then bif v8&&v8 then ah (bif v7 then oH x0.2.2 x1.2.2 else some false) fun (t:Bool)=>bif v8 then some (bif v7 then t else false) else none else none else none else none else none else none else none else none
def ig (x0:(List (Int×Int))×Bool×List (Int×Int)) (x1:(List (Int×Int))×Bool×List (Int×Int)):Option Bool:=Aw lpK jnK oH x0 x1
abbrev t28:=((List (Int×Int))×Bool×List (Int×Int))->((List (Int×Int))×Bool×List (Int×Int))->Option (Bool)
def k28 (ig:t28):Ctr:=⟨[T30,T30],[],[],.one .bool,fun x _ _=>ig x.1 x.2.1⟩
def yn (lp:Lp) (_:Jn) (x0:List Int):Option Int :=
 lp (Int×Int×PUnit) Int (fun (again:Int×Int×PUnit->Option Int) (x:Int×Int×PUnit)=>bif decide (x.2.1<(↑x0.length:Int)) then bif inB x.2.1 x0.length then bif decide ((0:Int)<=8) then again (IntKind.wrap .i64 (↑(Nat.lor (Int.toNat (IntKind.wrap .i64 (x.1*2 ^ 8) % Int.ofNat 18446744073709551616)) (Int.toNat (IntKind.wrap .i64 (x0.getD x.2.1.toNat 0) % Int.ofNat 18446744073709551616))):Int),IntKind.wrap IntKind.i64 (x.2.1+1),PUnit.unit) else none else none else some x.1) (0,0,PUnit.unit)
def kF (x0:List Int):Option Int:=yn lpK jnK x0
abbrev t68:=(List Int)->Option (Int)
def uS (lp:Lp) (_:Jn) (ao:t58) (er:t64) (kF:t68) (x0:List Int):Option (((List (Int×Int))×Bool×List (Int×Int))×Int×Unit) :=
 
 let v3:Bool:=inB 2 x0.length;
 let v4:Bool:=inB 3 x0.length;
 let v5:Int:=IntKind.wrap .i64 ((↑x0.length:Int) - 4);
 let v6:Bool:=!decide (x0.getD 0 0=84);
 let v7:Bool:=!v6;
 let v8:Bool:=!v7;
 let v9:Bool:=bif v6 then true else !decide (x0.getD 1 0=67);
 let v10:Bool:=v8||v7;
 let v11:Bool:=!v9;
 let v12:Bool:=!v11;
 let v13:Bool:=bif v9 then true else decide (x0.getD 2 0>1);
 let v14:Bool:=!v13;
 let v15:Bool:=!v14;
 let v16:Bool:=bif v13 then true else decide (x0.getD 3 0>20);
 let v17:Bool:=v12||v11;
 let v18:Bool:=!v16;
 let v19:Bool:=!v18;
 let v20:Bool:=v15||v14;
 let v21:Bool:=v19||v18;bif decide ((↑x0.length:Int)>1048576) then some (([],false,[]),4,PUnit.unit) else bif decide ((↑x0.length:Int)<(8 : Int)) then some (([],false,[]),8,PUnit.unit) else bif inB 0 x0.length then bif v10&&(v8||inB 1 x0.length) then bif v10 then bif v10 then bif v6||v7 then bif v17&&(v12||v3) then bif v17 then bif v17 then bif v9||v11 then bif v20&&(v15||v4) then bif v20 then bif v20 then bif v13||v14 then bif v21&&(v19 || v4) then bif v21 then bif v21 then bif v21 then bif v21 then bif v21&&v21 then bif v16||v18 then bif bif v16 then true else !decide ((↑x0.length:Int)=IntKind.wrap IntKind.i64 (8+IntKind.wrap .i64 (16*IntKind.wrap .i64 (x0.getD 3 0)))) then some (([],false,[]),7,PUnit.unit) else bif slB v5 (↑x0.length:Int) x0.length then ah (kF (List.drop v5.toNat (List.take (Int.toNat (↑x0.length:Int)) x0))) fun (t:Int)=>bif slB 0 v5 x0.length then ah (er (List.drop 0 (List.take v5.toNat x0))) fun (t_1:Int)=>bif !decide (t=t_1) then some (([],false,[]),(18 : Int),PUnit.unit) else lp (List (Int×Int)×Int×(List (Int×Int)×Bool×List (Int×Int))×PUnit) ((List (Int×Int)×Bool×List (Int×Int))×Int×PUnit) (fun (again:List (Int×Int)×Int×(List (Int×Int)×Bool×List (Int×Int))×PUnit->Option ((List (Int×Int)×Bool×List (Int×Int))×Int×PUnit)) (x:List (Int×Int)×Int×(List (Int × Int)×Bool×List (Int×Int))×PUnit) =>
 let v26:Int:=IntKind.wrap .i64 (x.2.1+8);
 let v27:Int:=IntKind.wrap .i64 (x.2.1+16);bif decide (x.2.1<v5) then bif slB x.2.1 v26 x0.length then ah (kF (List.drop x.2.1.toNat (List.take v26.toNat x0))) fun (t:Int)=>bif slB v26 v27 x0.length then ah (kF (List.drop v26.toNat (List.take v27.toNat x0))) fun (t_2:Int) =>
 let v30:Int×Int:=(t,t_2);ah (ao v30) fun (t:Bool)=>bif !t then some (([],false,[]),1,PUnit.unit) else bif eQ (List.length x.1+1) (16 : Nat) then again (x.1++[v30],v27,x.2.2.1,PUnit.unit) else none else none else none else bif v3 then bif decide (x0.getD 2 0=1) then some (([], true,x.1),0,PUnit.unit) else some ((x.1,false,[]),0,PUnit.unit) else none) ([],4,([],false,[]),PUnit.unit) else none else none else none else none else none else none else none else none else none else none else none else none else none else none else none else none else none else none else none else none else none else none
def fe (x0:List Int):Option (((List (Int×Int))×Bool×List (Int×Int))×Int×Unit):=uS lpK jnK ao er kF x0
abbrev t29:=(List Int)->Option (((List (Int×Int))×Bool×List (Int×Int))×Int×Unit)
def k29 (fe:t29):Ctr:=⟨[(.sl (.int .u8))],[],[],.tup [T30,i64],fun x _ _=>fe x.1⟩
def kO (_:Lp) (_:Jn) (bp:t15) (bN:t25) (aH:t11) (aR:t17) (iz:t26) (eO:t27) (ig:t28) (fe:t29) (x0:(List (Int×Int))×Bool×List (Int×Int)) (x1:(List (Int×Int))×Bool×List (Int×Int)):Option Bool :=
 ah aH fun (t:Bool)=>bif !t then some false else ah (aR x0) fun (t:Bool) =>
 let v6:Bool:=!t;bif !v6||v6 then ah (bif v6 then aR x1 else some false) fun (t_1:Bool)=>bif t||v6 then bif bif t then true else t_1 then some true else ah (bN x0) fun (t:List Int×Int×PUnit)=>ah (iz x0) fun (t_2:List Int×Int×PUnit) =>
 let v10:Bool:=!decide (t.2.1=t_2.2.1);ah (eO t.1 t_2.1) fun (t_3:Bool) =>
 let v12:Bool:=!t_3;
 let v13:Bool:=!v12;
 let v14:Bool:=bif v12 then true else v10;
 let v15:Bool:=!v14;
 let v16:Bool:=!v13||v13;
 let v17:Bool:=!v15||v15;
 let v18:Bool:=v17&&v17;bif v16&&v16 then bif v12||v13 then bif v18 then ah (bif v15 then bp x0 x1 else some false) fun (t_4:Bool)=>bif v18 then ah (bif v15 then ig x0 x1 else some false) fun (t_5:Bool)=>bif v18 then bif v14||v15 then bif bif v14 then true else !decide (t_4=t_5) then some false else bif !decide (t.2.1 = 0) then some true else ah (fe t.1) fun (t:(List (Int×Int)×Bool×List (Int×Int))×Int×PUnit) =>
 let v22:Bool:=decide (t.2.1=0);
 let v23:Bool:=!v22||v22;bif v23&&v23 then ah (bif v22 then bp t.1 x0 else some false) fun (t:Bool)=>bif v23 then some (bif v22 then t else false) else none else none else none else none else none else none else none else none else none else none
def tc (x0:(List (Int×Int))×Bool×List (Int×Int)) (x1:(List (Int×Int))×Bool×List (Int×Int)):Option Bool:=kO lpK jnK bp bN aH aR iz eO ig fe x0 x1
def c7:Ctr:=⟨[T30,T30],[],[],.one .bool,fun x _ _=>tc x.1 x.2.1⟩
theorem e7 (lp:Lp) (jn:Jn) (bp:t15) (bN:t25) (aH:t11) (aR:t17) (iz:t26) (eO:t27) (ig:t28) (fe:t29):∀(x:TsS c7.as) (F:TsF c7.fs) (y:TsS c7.cs),kO lp jn bp bN aH aR iz eO ig fe x.1 x.2.1=aX lp jn (cx [(29,k29 fe),(28,k28 ig),(27,k27 eO),(26,⟨[T30],[],[],.tup [(.sl (.int .u8)),i64],fun x _ _=>iz x.1⟩),(17,k17 aR),(11,k11 aH),(25,k25 bN),(15,k15 bp)] [(32,r32),(92,r92),(112,aJ)]) aj 4 7 f7 c7 x F y:=fun x F y=>by kernel_rfl
end
end Go.Proofs.YtegbncajloeepaaGreat

namespace Go.Proofs.YtegbncajloeepaaGreat
open Tryz Dn Dn.Sh
set_option maxRecDepth 100000
end Go.Proofs.YtegbncajloeepaaGreat

namespace Go.Proofs.YtegbncajloeepaaGreat
namespace Dn
section
variable {T R α σ:Type}
theorem af {t:T} {k:T->Option R}:ah (some t) k=k t:=rfl
theorem CV {F:(α->Option R)->α->Option R} {g:α->Option R} (I:α->Prop) (μ:α->Nat)
  (h:∀x rec,I x->(∀y,I y->μ y<μ x->rec y=g y)->F rec x=g x):∀{n:Nat} {x:α},I x->μ x<n->lv F n x=g x
 | 0,x,_,hn=>by omega
 | n+1,x,hx,hn=>by
  rw[jV]
  exact h x _ hx fun y hy hlt=>CV I μ h hy (by omega)
theorem iL {F:(α->Option R)->α->Option R} {g:α->Option R} (I:α->Prop) (μ:α->Nat)
  (h:∀x rec,I x->(∀y,I y->μ y<μ x->rec y=g y)->F rec x=g x) {x:α} (hx:I x) (hn:μ x<1180591620717411303424):lpK α R F x=g x:=CV I μ h hx hn
theorem Az {j:α->Option R} {f:(α->Option R)->Option R}:jnK α R j f=f j:=rfl
theorem bm {x:Int} (h1: -9223372036854775808<=x) (h2:x<9223372036854775808):IntKind.wrap .i64 x=x:=by
 rw[IntKind.wrap_i64];omega
def upF (b:Nat->σ->(σ->Option R)->Option R) (f:σ->Option R):Nat->Nat->σ->Option R
 | 0,_,s=>f s
 | k+1,i,s=>b i s (upF b f k (i+1))
theorem Jy {F:(α->Option R)->α->Option R} (n:Nat) (hn:n<=1180591620717411303423) (enc:Nat->σ->α) (b:Nat->σ->(σ->Option R)->Option R) (f:σ->Option R)
  (hb:∀again (i:Nat) s,i<n->F again (enc i s)=b i s (fun s'=>again (enc (i+1) s'))) (hf:∀again s,F again (enc n s)=f s) (s:σ) :
  lv F K0 (enc 0 s)=upF b f n 0 s:=by
 have key:∀(k:Nat) (i:Nat) (m:Nat) (s:σ),i+k=n->k<m->lv F m (enc i s)=upF b f k i s:=by
  intro k
  induction k with
  | zero =>
   intro i m s h1 h2
   obtain ⟨m,rfl⟩:∃m',m=m'+1:=⟨m - 1,by omega⟩
   have:i=n:=by omega
   subst this
   simp only[jV,hf,upF]
  | succ k ih =>
   intro i m s h1 h2
   obtain ⟨m,rfl⟩:∃m',m=m'+1:=⟨m - 1,by omega⟩
   simp only[jV,upF]
   rw[hb _ _ _ (by omega)]
   congr 1
   funext s'
   exact ih (i+1) m s' (by omega) (by omega)
 exact key n 0 K0 s (by omega) (by unfold K0;omega)
theorem bV {i n:Nat}:inB (i:Int) n=decide (i<n):=by
 rw[Bool.eq_iff_iff,jk,decide_eq_true_iff];omega
theorem td {i:Int} {n:Nat} (h1:0<=i) (h2:i<n):inB i n=true:=jk.2 ⟨h1,h2⟩
theorem oV {n:Int} (h:n≠0):nzB n=true:=An.2 h
theorem DI {lo hi:Int} {n:Nat} (h1:0<=lo) (h2:lo<=hi) (h3:hi<=n):slB lo hi n=true:=rC.2 ⟨h1,h2,h3⟩
theorem fZ {n k:Nat} (h:n*k<=140737488355328):eQ n k=true:=kG.2 h
theorem wJ {n m:Nat} (h:n<=m):Nat.ble n m=true:=by rw[Nat.ble_eq];exact h
theorem cT0 {α:Sort _} {c:Bool} (h:c=true) (a b:α):cond c a b=a:=by subst h;rfl
theorem cT {α:Sort _} (a b:α):cond true a b=a:=cT0 (Eq.trans rfl rfl) a b
theorem cF0 {α:Sort _} {c:Bool} (h:c=false) (a b:α):cond c a b=b:=by subst h;rfl
theorem cF {α:Sort _} (a b:α):cond false a b=b:=cF0 (Eq.trans rfl rfl) a b
theorem eu {b:Bool}:(b||!b)=true:=by cases b<;>rfl
theorem bv {b:Bool}:(!b||b)=true:=by cases b<;>rfl
theorem oT {b:Bool} {c:Bool}:(bif b then c else false)=(b&&c):=by cases b<;>rfl
theorem Hh {b:Bool} {c:Bool}:(bif b then true else c)=(b||c):=by cases b<;>rfl
theorem cm {l:List α} {d:α} {i:Nat} (h:i<l.length):l.getD i d=l[i]:=by simp[List.getD,h]
end
end Dn
end Go.Proofs.YtegbncajloeepaaGreat

namespace Go.Proofs.YtegbncajloeepaaGreat
noncomputable section
open Tryz Dn Dn.Sh
theorem lK (a b:ByteArray):List.beq (ByteArray.toList a) (ByteArray.toList b)=decide (a=b):=by
 show (a.toList ==b.toList)=_
 rw[ByteArray.toList_eq,ByteArray.toList_eq,Bool.eq_iff_iff,decide_eq_true_iff,beq_iff_eq]
 exact ⟨fun h=>ByteArray.ext (Array.toList_inj.mp h),fun h=>by rw[h]⟩
theorem JD {α R:Type} {F:(α->Option R)->α->Option R} (I:α->Prop) (μ:α->Nat) (h:∀x rec,I x->(∀y,I y->μ y<μ x->(rec y).isSome=true)->(F rec x).isSome=true) {x:α} (hx:I x) (hn:μ x<1180591620717411303424):(lpK α R F x).isSome=true:=by
 have key:∀n x,I x->μ x<n->(lv F n x).isSome=true:=by
  intro n
  induction n with
  | zero=>intro x _ h;omega
  | succ n ih =>
   intro x hx hn
   rw[jV]
   exact h x _ hx fun y hy hlt=>ih y hy (by omega)
 exact key _ x hx hn
theorem vJ:bg=bW:=by
 funext c
 rfl
theorem Eh:dN=fY:=by
 funext c
 rfl
theorem qp (c:Int):∃b,bg c=some b:=by
 simp only[bg,kA,bv,eu,cond_true]
 cases decide (c>=97)<;>cases decide (c<=122)<;>cases decide (c>=65)<;>exact ⟨_,rfl⟩
theorem DJ (c:Int):∃b,dN c=some b:=by
 simp only[dN,ln,bv,cond_true]
 exact ⟨_,rfl⟩
theorem yv {s:ByteArray} (h:s.size<=1000000):∃n,dy s=some n:=by
 rw[<-Option.isSome_iff_exists]
 simp only[dy,jm]
 refine JD (I:=fun (x:Int×PUnit)=>0<=x.1/\x.1<=s.size) (μ:=fun (x:Int×PUnit)=>((s.size:Int) - x.1).toNat) (x:=((0:Int),PUnit.unit)) ?_ ⟨Int.le_refl _,by simp only;omega⟩ (by simp only;omega)
 rintro ⟨i,_⟩ rec ⟨h0,h1⟩ hrec
 simp only at h0 h1 ⊢
 by_cases hi:i<s.size
 ·rw[td h0 hi,z7 hi]
  obtain ⟨b,hb⟩:=qp (fw s i.toNat)
  obtain ⟨c,hc⟩:=DJ (fw s i.toNat)
  have hw:IntKind.wrap .i64 (i+1)=i+1:=bm (by omega) (by omega)
  have hr:=hrec (i+1,PUnit.unit) ⟨by simp only;omega,by simp only;omega⟩ (by simp only;omega)
  simp only[hb,hc,hw]
  cases b<;>cases c<;>cases decide (fw s i.toNat=95)<;>simp[af,hr]
 ·rw[z8 hi]
  simp[af]
theorem Hs (s:ByteArray):gg s 0=dy s:=by
 simp only[gg,pv,dy,jm,vJ,Eh]
def su (s:ByteArray):Bool:=decide (0<s.size)&&(decide (s.size<=20)&&((bg (fw s 0)).getD false&&decide ((dy s).getD 0=(s.size:Int))))
theorem zD (s:ByteArray):s={ data:=#[] }↔s.size=0:=by
 constructor
 ·intro h;rw[h];rfl
 ·intro h
  apply ByteArray.ext
  exact Array.eq_empty_of_size_eq_zero h
theorem Gz (s:ByteArray):de s=some (su s):=by
 simp only[de,jU,lK,bv,Bool.and_self,cond_true]
 unfold su
 by_cases h0:s.size=0
 ·have e:decide (s={ data:=#[] })=true:=z7 ((zD s).2 h0)
  simp[e,h0,af]
 ·have e:decide (s={ data:=#[] })=false:=z8 fun h=>h0 ((zD s).1 h)
  by_cases h1:s.size<=20
  ·obtain ⟨b,hb⟩:=qp (fw s 0)
   obtain ⟨n,hn⟩:=yv (s:=s) (by omega)
   have h2:decide ((s.size:Int)<=20)=true:=z7 (by omega)
   rw[td (show (0:Int)<=0 by omega) (show (0:Int)<s.size by omega)]
   simp only[e,h2,hb,hn]
   cases b<;>simp[af,h1,show 0<s.size by omega]
  ·have h2:decide ((s.size:Int)<=20)=false:=z8 (by omega)
   simp[e,h2,h1,af]
theorem AE (s:ByteArray):eE s=some (su s):=by
 simp only[eE,mH,bv,eu,cond_true]
 unfold su
 by_cases h0:s.size=0
 ·simp[h0,af]
 ·have e:decide ((s.size:Int)=0)=false:=z8 (by omega)
  by_cases h1:s.size<=20
  ·obtain ⟨b,hb⟩:=qp (fw s 0)
   obtain ⟨n,hn⟩:=yv (s:=s) (by omega)
   have h2:decide ((s.size:Int)>20)=false:=z8 (by omega)
   rw[td (show (0:Int)<=0 by omega) (show (0:Int)<s.size by omega),Hs]
   simp only[e,h2,<-vJ,hb,hn]
   cases b<;>simp[af,h1,show 0<s.size by omega]
  ·have h2:decide ((s.size:Int)>20)=true:=z7 (by omega)
   simp[h2,h1,af]
end
end Go.Proofs.YtegbncajloeepaaGreat

namespace Go.Proofs.YtegbncajloeepaaGreat
namespace Dn
abbrev Fq:=Int×Int
def okF (a:Fq):Prop:=(1<=a.2/\a.2<=1152921504606846976)/\(-1152921504606846976<=a.1/\a.1<=1152921504606846976)/\Nat.gcd a.1.natAbs a.2.natAbs=1
instance (a:Fq):Decidable (okF a):=by unfold okF;infer_instance
def qv (a:Fq):Rat:=mkRat a.1 a.2.toNat
def dU (q:Rat):Prop:=q.num.natAbs<=1152921504606846976/\q.den<=1152921504606846976
instance (q:Rat):Decidable (dU q):=by unfold dU;infer_instance
def prQ (q:Rat):Fq:=(q.num,(q.den:Int))
def tI (q:Rat):Fq×Int×Unit:=if dU q then (prQ q,0,()) else ((0,0),5,())
theorem rS {a:Fq} (h:okF a):(qv a).num=a.1:=by
 obtain ⟨⟨h1,h2⟩,_,h3⟩:=h
 have h0:a.2.toNat≠0:=by omega
 have h4:Nat.gcd a.2.toNat a.1.natAbs=1:=by rw[Nat.gcd_comm,show a.2.toNat=a.2.natAbs by omega];exact h3
 rw[qv,Rat.num_mkRat,if_neg h0,h4]
 simp
theorem wm {a:Fq} (h:okF a):((qv a).den:Int)=a.2:=by
 obtain ⟨⟨h1,h2⟩,_,h3⟩:=h
 have h0:a.2.toNat≠0:=by omega
 have h4:Nat.gcd a.2.toNat a.1.natAbs=1:=by rw[Nat.gcd_comm,show a.2.toNat=a.2.natAbs by omega];exact h3
 rw[qv,Rat.den_mkRat,if_neg h0,h4]
 simp;omega
theorem jb (q:Rat):qv (prQ q)=q:=by
 unfold qv prQ
 simp only[z9]
 exact Rat.mkRat_self q
theorem gZ {q:Rat} (h:dU q):okF (prQ q):=by
 obtain ⟨h1,h2⟩:=h
 have:=q.den_pos
 refine ⟨⟨?_,?_⟩,⟨?_,?_⟩,?_⟩
 ·simp only[prQ];omega
 ·simp only[prQ];omega
 ·simp only[prQ];omega
 ·simp only[prQ];omega
 ·simp only[prQ]
  rw[Int.natAbs_natCast]
  exact q.reduced
theorem gm (q:Rat):(dU q/\tI q=(prQ q,0,()))\/(¬ dU q/\tI q=((0,0),5,())):=by
 unfold tI
 by_cases h:dU q
 ·exact .inl ⟨h,by rw[if_pos h]⟩
 ·exact .inr ⟨h,by rw[if_neg h]⟩
theorem oY (n:Int):qv (n,1)=(n:Rat):=by
 show mkRat n 1=(n:Rat)
 rw[Rat.mkRat_eq_div]
 show (n:Rat) / ((1:Nat):Rat)=n
 rw[show ((1:Nat):Rat)=1 from rfl]
 grind
theorem kC {n:Int} (h1: -1152921504606846976<=n) (h2:n<=1152921504606846976):okF (n,1):=⟨⟨by simp,by simp⟩,⟨h1,h2⟩,by simp⟩
theorem Df {a:Fq} (h:okF a):0<=qv a↔0<=a.1:=by rw[<-Rat.num_nonneg,rS h]
theorem HG {a:Fq} (h:okF a):qv a=0↔a.1=0:=by rw[<-Rat.num_eq_zero,rS h]
theorem M2 {a:Fq} (h:okF a):qv a<0↔a.1<0:=by
 rw[<-Rat.not_le,Df h];omega
theorem J8 {a b:Fq} (ha:okF a) (hb:okF b):qv a<=qv b↔a.1*b.2<=b.1*a.2:=by
 rw[Rat.le_iff,rS ha,rS hb,wm ha,wm hb]
theorem QJ {a b:Fq} (ha:okF a) (hb:okF b):qv a<qv b↔a.1*b.2<b.1*a.2:=by
 rw[Rat.lt_iff,rS ha,rS hb,wm ha,wm hb]
def sgn (s:Bool) (n:Nat):Int:=if s then -(n:Int) else n
theorem MP {s:Bool} {n d:Nat} (hd:0<d) (hc:Nat.gcd n d=1):(mkRat (sgn s n) d).num=sgn s n/\(mkRat (sgn s n) d).den=d:=by
 have h0:d≠0:=by omega
 have ha:(sgn s n).natAbs=n:=by unfold sgn;split<;>simp
 have hg:Nat.gcd d (sgn s n).natAbs=1:=by rw[ha,Nat.gcd_comm];exact hc
 rw[Rat.num_mkRat,Rat.den_mkRat,if_neg h0,if_neg h0,hg]
 simp
theorem N3 {s:Bool} {n d:Nat} (hd:0<d):mkRat (sgn s n) d=mkRat (sgn s (n / Nat.gcd n d)) (d / Nat.gcd n d)/\0<d / Nat.gcd n d/\Nat.gcd (n / Nat.gcd n d) (d / Nat.gcd n d)=1:=by
 have hg:0<Nat.gcd n d:=Nat.gcd_pos_of_pos_right _ hd
 have h1:n / Nat.gcd n d*Nat.gcd n d=n:=Nat.div_mul_cancel (Nat.gcd_dvd_left n d)
 have h2:d / Nat.gcd n d*Nat.gcd n d=d:=Nat.div_mul_cancel (Nat.gcd_dvd_right n d)
 refine ⟨?_,Nat.div_pos (Nat.le_of_dvd hd (Nat.gcd_dvd_right n d)) hg,Nat.gcd_div_gcd_div_gcd_of_pos_right hd⟩
 have h3:sgn s n=sgn s (n / Nat.gcd n d)*(Nat.gcd n d:Int):=by
  unfold sgn
  split
  ·rw[Int.neg_mul,<-Int.natCast_mul,h1]
  ·rw[<-Int.natCast_mul,h1]
 have h4:mkRat (sgn s n) d=mkRat (sgn s (n / Nat.gcd n d)*(Nat.gcd n d:Int)) (d / Nat.gcd n d*Nat.gcd n d):=by rw[<-h3,h2]
 rw[h4]
 exact Rat.mkRat_mul_right (by omega)
theorem yR {s:Bool} {n d m e:Nat} (hd:0<d) (he:0<e) (h:n*e=m*d):mkRat (sgn s n) d=mkRat (sgn s m) e:=by
 rw[Rat.mkRat_eq_iff (by omega) (by omega)]
 unfold sgn
 split
 ·rw[Int.neg_mul,Int.neg_mul,<-Int.natCast_mul,<-Int.natCast_mul,h]
 ·rw[<-Int.natCast_mul,<-Int.natCast_mul,h]
theorem zO {s:Bool} {n d:Nat} (hd:0<d) (hc:Nat.gcd n d=1):tI (mkRat (sgn s n) d)=if n<=1152921504606846976/\d<=1152921504606846976 then ((sgn s n,(d:Int)),0,()) else ((0,0),5,()):=by
 obtain ⟨h1,h2⟩:=MP (s:=s) hd hc
 have ha:(sgn s n).natAbs=n:=by unfold sgn;split<;>simp
 unfold tI
 have e:dU (mkRat (sgn s n) d)↔n<=1152921504606846976/\d<=1152921504606846976:=by unfold dU;rw[h1,h2,ha]
 have e2:prQ (mkRat (sgn s n) d)=(sgn s n,(d:Int)):=by unfold prQ;rw[h1,h2]
 rw[e2]
 by_cases h:n<=1152921504606846976/\d<=1152921504606846976
 ·rw[if_pos h,if_pos (e.2 h)]
 ·rw[if_neg h,if_neg (fun hh=>h (e.1 hh))]
theorem io (n:Int):n=sgn (decide (n<0)) n.natAbs:=by
 unfold sgn
 by_cases h:n<0
 ·simp[h];omega
 ·simp[h];omega
theorem wu (a:Fq):qv a=mkRat (sgn (decide (a.1<0)) a.1.natAbs) a.2.toNat:=by
 unfold qv
 rw[<-io]
theorem MD {s t:Bool} {m n:Nat}:sgn s m*sgn t n=sgn (s !=t) (m*n):=by
 unfold sgn
 cases s<;>cases t<;>simp[Int.neg_mul,Int.mul_neg]
theorem Fg {s t:Bool} {m n d e:Nat}:mkRat (sgn s m) d*mkRat (sgn t n) e=mkRat (sgn (s !=t) (m*n)) (d*e):=by
 rw[Rat.mkRat_mul_mkRat,MD]
theorem Lj (s t:Bool):sgn s 0=sgn t 0:=by unfold sgn;cases s<;>cases t<;>rfl
end Dn
end Go.Proofs.YtegbncajloeepaaGreat

namespace Go.Proofs.YtegbncajloeepaaGreat
open Tryz Dn Dn.Sh
theorem aU {x:Int} (h1:0<=x) (h2:x<18446744073709551616):IntKind.wrap .u64 x=x:=by
 rw[IntKind.wrap_u64];omega
theorem py {x:Int} (h1: -9223372036854775808<=x) (h2:x<9223372036854775808):ay x=some (x.natAbs:Int):=by
 simp only[ay,pc]
 by_cases h:x<0
 ·simp only[h,decide_true,cond_true]
  rw[IntKind.wrap_u64,IntKind.wrap_u64]
  congr 1;omega
 ·simp only[h,decide_false,cond_false]
  rw[aU (by omega) (by omega)]
  congr 1;omega
theorem xV (m n:Nat) (hn:n<18446744073709551616):bi (m:Int) (n:Int)=some ((Nat.gcd m n:Nat):Int):=by
 simp only[bi,qc]
 refine iL (g:=fun x=>some ((Nat.gcd x.1.toNat x.2.1.toNat:Nat):Int)) (I:=fun (x:Int×Int×PUnit)=>0<=x.1/\0<=x.2.1) (μ:=fun (x:Int×Int×PUnit)=>x.2.1.toNat) (x:=((m:Int),(n:Int),PUnit.unit)) ?_ ⟨Int.natCast_nonneg _,Int.natCast_nonneg _⟩ (by simp only;omega)
 rintro ⟨a,b,_⟩ rec ⟨h1,h2⟩ hrec
 simp only at h1 h2 ⊢
 by_cases hb:b=0
 ·subst hb
  simp only[decide_true,Bool.not_true,cond_false,Int.toNat_zero,Nat.gcd_zero_right]
  congr 1;omega
 ·rw[z8 hb,oV hb,Int.tmod_eq_emod_of_nonneg h1]
  simp only[Bool.not_false,cT]
  have h3:0<=a % b:=Int.emod_nonneg _ hb
  have h4:a % b<b:=Int.emod_lt_of_pos _ (by omega)
  rw[hrec _ ⟨by simp only;omega,by simp only;omega⟩ (by simp only;omega)]
  simp only
  congr 2
  rw[Int.toNat_emod h1 h2,Nat.gcd_comm a.toNat,Nat.gcd_rec b.toNat a.toNat,Nat.gcd_comm]
theorem zz (s:Bool) (n d:Nat) (h1:n<18446744073709551616) (h2:d<18446744073709551616) :
  aY s (n:Int) (d:Int)=some (if n<=1152921504606846976/\d<=1152921504606846976 then ((sgn s n,(d:Int)),0,()) else ((0,0),5,())):=by
 simp only[aY,mA,bv,eu,cond_true]
 by_cases hn:n<=1152921504606846976
 ·by_cases hd:d<=1152921504606846976
  ·have e1:decide ((n:Int)>1152921504606846976)=false:=z8 (by omega)
   have e2:decide ((d:Int)>1152921504606846976)=false:=z8 (by omega)
   rw[bm (x:=(n:Int)) (by omega) (by omega),bm (x:=(d:Int)) (by omega) (by omega),bm (x:=0 - (n:Int)) (by omega) (by omega)]
   simp only[e1,e2,cond_false,hn,hd,and_self,if_true]
   cases s<;>simp[sgn]
  ·have e2:decide ((d:Int)>1152921504606846976)=true:=z7 (by omega)
   simp only[e2,Hh,Bool.or_true,cond_true,hd,and_false,if_false]
 ·have e1:decide ((n:Int)>1152921504606846976)=true:=z7 (by omega)
  simp only[e1,cond_true,hn,false_and,if_false]
theorem mu (m n:Nat):Int.tdiv (m:Int) (n:Int)=((m / n:Nat):Int):=by
 rw[Int.tdiv_eq_ediv_of_nonneg (by omega)]
 rfl
theorem kL {a:Fq}:ao a=some (decide (okF a)):=by
 simp only[ao,nA,bv,Bool.and_self,cond_true,oT]
 unfold okF
 by_cases h1:1<=a.2
 ·by_cases h2:a.2<=1152921504606846976
  ·by_cases h3: -1152921504606846976<=a.1
   ·by_cases h4:a.1<=1152921504606846976
    ·have e:IntKind.wrap .u64 a.2=((a.2.natAbs:Nat):Int):=by rw[aU (by omega) (by omega)];omega
     simp only[ge_iff_le,h1,h2,h3,h4,decide_true,Bool.and_self,cond_true]
     rw[py (by omega) (by omega),af,e,xV _ _ (by omega),af]
     congr 1
     rw[Bool.eq_iff_iff]
     simp only[Bool.true_and,decide_eq_true_eq,true_and]
     generalize Nat.gcd a.1.natAbs a.2.natAbs=g
     omega
    ·simp[af,h4]
   ·simp[af,h3]
  ·simp[af,h2]
 ·simp[af,h1]
theorem qG {x:Int} (h1:0<=x) (h2:x<18446744073709551616):((Nat.land (Int.toNat (x % Int.ofNat 18446744073709551616)) (Int.toNat ((4294967295:Int) % Int.ofNat 18446744073709551616)):Nat):Int)=x % 4294967296:=by
 have e1:x % Int.ofNat 18446744073709551616=x:=Int.emod_eq_of_lt h1 h2
 have e2:Int.toNat ((4294967295:Int) % Int.ofNat 18446744073709551616)=2 ^ 32 - 1:=by decide
 rw[e1,e2]
 have:Nat.land x.toNat (2 ^ 32 - 1)=x.toNat % 2 ^ 32:=Nat.and_two_pow_sub_one_eq_mod x.toNat 32
 rw[this]
 omega
def hl (n:Nat):Int×Int:=(((n / 18446744073709551616:Nat):Int),((n % 18446744073709551616:Nat):Int))
theorem S5 {x y:Int} (x0:0<=x) (x1:x<18446744073709551616) (y0:0<=y) (y1:y<18446744073709551616):bG x y=some (x*y / 18446744073709551616,x*y % 18446744073709551616,()):=by
 have p32:(2:Int) ^ (32:Nat)=4294967296:=by decide
 simp only[bG,oQ,p32,show decide ((0:Int)<=32)=true from rfl,cond_true]
 obtain ⟨a,b,ha,hb,hx⟩:∃a b,a=x / 4294967296/\b=x % 4294967296/\x=a*4294967296+b:=⟨_,_,rfl,rfl,by omega⟩
 obtain ⟨c,d,hc,hd,hy⟩:∃c d,c=y / 4294967296/\d=y % 4294967296/\y=c*4294967296+d:=⟨_,_,rfl,rfl,by omega⟩
 have fd:∀n:Int,Int.fdiv n 4294967296=n / 4294967296:=fun n=>Int.fdiv_eq_ediv_of_nonneg n (by omega)
 rw[qG x0 x1,qG y0 y1,<-hb,<-hd]
 simp only[fd,<-ha,<-hc]
 have a0:0<=a/\a<=4294967295:=by omega
 have b0:0<=b/\b<=4294967295:=by omega
 have c0:0<=c/\c<=4294967295:=by omega
 have d0:0<=d/\d<=4294967295:=by omega
 have mb:∀{m n:Int},0<=m/\m<=4294967295->0<=n/\n<=4294967295->0<=m*n/\m*n<=18446744065119617025:=fun {m n} hm hn=>⟨Int.mul_nonneg hm.1 hn.1,Int.le_trans (Int.mul_le_mul hm.2 hn.2 hn.1 (by omega)) (by decide)⟩
 have e1:=mb a0 c0
 have e2:=mb a0 d0
 have e3:=mb b0 c0
 have e4:=mb b0 d0
 have hxy:x*y=a*c*18446744073709551616+(a*d+b*c)*4294967296+b*d:=by rw[hx,hy];grind
 rw[IntKind.wrap_u64 (x*y)]
 rw[hxy]
 rw[aU (x:=b) (by omega) (by omega),aU (x:=d) (by omega) (by omega)]
 rw[aU (x:=b*d) (by omega) (by omega),aU (x:=a*d) (by omega) (by omega),aU (x:=b*c) (by omega) (by omega),aU (x:=a*c) (by omega) (by omega)]
 generalize b*d=bd at *
 generalize a*d=ad at *
 generalize b*c=bc at *
 generalize a*c=ac at *
 rw[aU (x:=ad+bd / 4294967296) (by omega) (by omega)]
 generalize ht:ad+bd / 4294967296=t
 rw[qG (by omega) (by omega)]
 rw[aU (x:=t % 4294967296) (by omega) (by omega)]
 rw[aU (x:=t % 4294967296+bc) (by omega) (by omega),aU (x:=ac+t / 4294967296) (by omega) (by omega)]
 rw[aU (x:=ac+t / 4294967296+(t % 4294967296+bc) / 4294967296) (by omega) (by omega)]
 congr 1
 ext
 ·simp only;omega
 ·rfl
theorem iW {m n:Nat} (hm:m<18446744073709551616) (hn:n<18446744073709551616):aE (m:Int) (n:Int)=some (hl (m*n)):=by
 simp only[aE,lf]
 rw[S5 (by omega) (by omega) (by omega) (by omega),af,<-Int.natCast_mul]
 rfl
theorem ga {n:Nat} (h:n<18446744073709551616):hl n=(0,(n:Int)):=by
 unfold hl
 rw[Nat.div_eq_of_lt h,Nat.mod_eq_of_lt h]
 rfl
theorem Bb {n:Nat} (h:¬ n<18446744073709551616):(hl n).1>0:=by
 unfold hl
 simp only
 omega
theorem Lf {a b:Fq} (ha:okF a) (hb:okF b):ce a b=some (tI (qv a*qv b)):=by
 simp only[ce,ra,kL,ha,hb,decide_true,af,Bool.not_true,Bool.not_false,Bool.and_self,cond_true,cond_false,bv,eu]
 have ha':=ha
 have hb':=hb
 obtain ⟨⟨a1,a2⟩,⟨a3,a4⟩,a5⟩:=ha'
 obtain ⟨⟨b1,b2⟩,⟨b3,b4⟩,b5⟩:=hb'
 rw[wu a,wu b,Fg]
 obtain ⟨d,hd⟩:∃d:Nat,a.2=(d:Int):=⟨a.2.toNat,by omega⟩
 obtain ⟨e,he⟩:∃e:Nat,b.2=(e:Int):=⟨b.2.toNat,by omega⟩
 rw[py (by omega) (by omega),py (by omega) (by omega)]
 simp only[af,hd,he,z9] at *
 rw[aU (x:=(d:Int)) (by omega) (by omega),aU (x:=(e:Int)) (by omega) (by omega),xV _ _ (by omega),af,xV _ _ (by omega),af]
 have sa:a.1.natAbs<=1152921504606846976:=by omega
 have sb:b.1.natAbs<=1152921504606846976:=by omega
 have za:a.1=0↔a.1.natAbs=0:=by omega
 have zb:b.1=0↔b.1.natAbs=0:=by omega
 have hlt:decide (a.1<0)=true->a.1.natAbs≠0:=fun h=>by have:=z12 h;omega
 rw[Int.natAbs_natCast] at a5 b5
 generalize a.1.natAbs=m at *
 generalize b.1.natAbs=n at *
 generalize decide (a.1<0)=s at *
 generalize decide (b.1<0)=t at *
 have hd0:0<d:=by omega
 have he0:0<e:=by omega
 have hg:0<Nat.gcd m e:=Nat.gcd_pos_of_pos_right _ he0
 have hh:0<Nat.gcd n d:=Nat.gcd_pos_of_pos_right _ hd0
 rw[oV (show ((Nat.gcd m e:Nat):Int)≠0 by omega),oV (show ((Nat.gcd n d:Nat):Int)≠0 by omega)]
 simp only[cond_true,mu]
 have m1:m / Nat.gcd m e*Nat.gcd m e=m:=Nat.div_mul_cancel (Nat.gcd_dvd_left m e)
 have e1:e / Nat.gcd m e*Nat.gcd m e=e:=Nat.div_mul_cancel (Nat.gcd_dvd_right m e)
 have n1:n / Nat.gcd n d*Nat.gcd n d=n:=Nat.div_mul_cancel (Nat.gcd_dvd_left n d)
 have d1:d / Nat.gcd n d*Nat.gcd n d=d:=Nat.div_mul_cancel (Nat.gcd_dvd_right n d)
 have c1:Nat.Coprime (m / Nat.gcd m e) (e / Nat.gcd m e):=Nat.coprime_div_gcd_div_gcd hg
 have c2:Nat.Coprime (n / Nat.gcd n d) (d / Nat.gcd n d):=Nat.coprime_div_gcd_div_gcd hh
 have q1:m / Nat.gcd m e<=m:=Nat.div_le_self _ _
 have q2:e / Nat.gcd m e<=e:=Nat.div_le_self _ _
 have q3:n / Nat.gcd n d<=n:=Nat.div_le_self _ _
 have q4:d / Nat.gcd n d<=d:=Nat.div_le_self _ _
 have p2:0<e / Nat.gcd m e:=Nat.div_pos (Nat.le_of_dvd he0 (Nat.gcd_dvd_right m e)) hg
 have p4:0<d / Nat.gcd n d:=Nat.div_pos (Nat.le_of_dvd hd0 (Nat.gcd_dvd_right n d)) hh
 have x1:m / Nat.gcd m e∣m:=Nat.div_dvd_of_dvd (Nat.gcd_dvd_left m e)
 have x2:e / Nat.gcd m e∣e:=Nat.div_dvd_of_dvd (Nat.gcd_dvd_right m e)
 have x3:n / Nat.gcd n d∣n:=Nat.div_dvd_of_dvd (Nat.gcd_dvd_left n d)
 have x4:d / Nat.gcd n d∣d:=Nat.div_dvd_of_dvd (Nat.gcd_dvd_right n d)
 generalize Nat.gcd m e=g at *
 generalize Nat.gcd n d=h at *
 generalize m / g=m' at *
 generalize e / g=e' at *
 generalize n / h=n' at *
 generalize d / h=d' at *
 have cop:Nat.gcd (m'*n') (d'*e')=1:=by
  refine Nat.Coprime.mul_left (Nat.Coprime.mul_right ?_ c1) (Nat.Coprime.mul_right c2 ?_)
  ·exact Nat.Coprime.coprime_dvd_left x1 (Nat.Coprime.coprime_dvd_right x4 a5)
  ·exact Nat.Coprime.coprime_dvd_left x3 (Nat.Coprime.coprime_dvd_right x2 b5)
 have hq:mkRat (sgn (s !=t) (m*n)) (d*e)=mkRat (sgn (s !=t) (m'*n')) (d'*e'):=by
  refine yR (Nat.mul_pos hd0 he0) (Nat.mul_pos p4 p2) ?_
  rw[<-m1,<-n1,<-d1,<-e1]
  grind
 rw[hq,zO (Nat.mul_pos p4 p2) cop]
 rw[aU (by omega) (by omega),aU (by omega) (by omega),iW (by omega) (by omega),af,aU (by omega) (by omega),aU (by omega) (by omega),iW (by omega) (by omega),af]
 by_cases hN:m'*n'<18446744073709551616
 ·rw[ga hN]
  by_cases hD:d'*e'<18446744073709551616
  ·rw[ga hD]
   simp only[show decide ((0:Int)>0)=false from rfl,cond_false]
   rw[zz _ _ _ hN hD,af]
   have hs:sgn (bif decide (((m'*n':Nat):Int)>0) then !decide (s=t) else false) (m'*n')=sgn (s !=t) (m'*n'):=by
    by_cases h0:m'*n'=0
    ·rw[h0];exact Lj _ _
    ·rw[z7 (show ((m'*n':Nat):Int)>0 by omega)]
     cases s<;>cases t<;>rfl
   rw[hs]
  ·have:=Bb hD
   simp only[show decide ((0:Int)>0)=false from rfl,cond_false,z7 this,cond_true]
   rw[if_neg (by omega)]
 ·have:=Bb hN
  simp only[z7 this,cond_true]
  rw[if_neg (by omega)]
theorem lI {n d:Int} (h:0<=d):Int.fdiv n d=n / d:=Int.fdiv_eq_ediv_of_nonneg n h
theorem ww {n:Nat} (_:n<340282366920938463463374607431768211456):eT (hl n)=some (hl (n / 2)):=by
 simp only[eT,pG,show decide ((0:Int)<=1)=true from rfl,show decide ((0:Int)<=63)=true from rfl,cond_true,show (2:Int) ^ (1:Nat)=2 from rfl,show (2:Int) ^ (63:Nat)=9223372036854775808 from rfl,IntKind.wrap_u64,lI (show (0:Int)<=2 by omega),hl]
 congr 1
 ext<;>simp only<;>omega
theorem vY {a b:Nat}:be (hl a) (hl b)=some (decide (a<b)):=by
 simp only[be,oZ]
 have e:decide (a<b)=(bif decide ((hl a).1<(hl b).1) then true else bif decide ((hl a).1=(hl b).1) then decide ((hl a).2<(hl b).2) else false):=by
  by_cases c1:(hl a).1<(hl b).1
  ·simp only[c1,decide_true,cond_true]
   simp only[hl] at c1
   exact z7 (by omega)
  ·by_cases c2:(hl a).1=(hl b).1
   ·rw[z8 c1,z7 c2,cond_true,cond_false]
    have e2:a<b↔(hl a).2<(hl b).2:=by
     simp only[hl] at c1 c2 ⊢
     omega
    rw[Bool.eq_iff_iff,decide_eq_true_iff,decide_eq_true_iff]
    exact e2
   ·simp only[c1,c2,decide_false,cond_false]
    simp only[hl] at c1 c2
    exact z8 (by omega)
 rw[e]
 cases decide ((hl a).1<(hl b).1)<;>cases decide ((hl a).1=(hl b).1)<;>rfl
theorem qw {a b:Nat} (h:b<=a) (ha:a<340282366920938463463374607431768211456):aZ (hl a) (hl b)=some (hl (a - b)):=by
 simp only[aZ,kD]
 by_cases hc:(hl a).2<(hl b).2
 ·rw[z7 hc,cond_true]
  simp only[IntKind.wrap_u64,hl] at hc ⊢
  congr 1
  ext<;>simp only<;>omega
 ·rw[z8 hc,cond_false]
  simp only[IntKind.wrap_u64,hl] at hc ⊢
  congr 1
  ext<;>simp only<;>omega
theorem Dk {a b:Nat} (h:b<=a) (hb:a - b<340282366920938463463374607431768211456) (_:b<340282366920938463463374607431768211456):aZ (hl (a % 340282366920938463463374607431768211456)) (hl b)=some (hl (a - b)):=by
 simp only[aZ,kD]
 by_cases hc:(hl (a % 340282366920938463463374607431768211456)).2<(hl b).2
 ·rw[z7 hc,cond_true]
  simp only[IntKind.wrap_u64,hl] at hc ⊢
  congr 1
  ext<;>simp only<;>omega
 ·rw[z8 hc,cond_false]
  simp only[IntKind.wrap_u64,hl] at hc ⊢
  congr 1
  ext<;>simp only<;>omega
theorem Fo {m n:Nat} (h:m+n<340282366920938463463374607431768211456):cP (hl m) (hl n)=some (hl (m+n)):=by
 simp only[cP,pt]
 by_cases hc:IntKind.wrap .u64 ((hl m).2+(hl n).2)<(hl m).2
 ·rw[z7 hc,cond_true]
  simp only[IntKind.wrap_u64,hl] at hc ⊢
  congr 1
  ext<;>simp only<;>omega
 ·rw[z8 hc,cond_false]
  simp only[IntKind.wrap_u64,hl] at hc ⊢
  congr 1
  ext<;>simp only<;>omega
theorem UH {x:Int} (h1:0<=x) (h2:x<18446744073709551616):IntKind.wrap .u64 ((Nat.land (Int.toNat (x % Int.ofNat 18446744073709551616)) (Int.toNat ((1:Int) % Int.ofNat 18446744073709551616)):Nat):Int)=x % 2:=by
 have e1:x % Int.ofNat 18446744073709551616=x:=Int.emod_eq_of_lt h1 h2
 have e2:Int.toNat ((1:Int) % Int.ofNat 18446744073709551616)=2 ^ 1 - 1:=by decide
 rw[e1,e2]
 have:Nat.land x.toNat (2 ^ 1 - 1)=x.toNat % 2 ^ 1:=Nat.and_two_pow_sub_one_eq_mod x.toNat 1
 rw[this,IntKind.wrap_u64]
 omega
theorem zR {n:Nat}:decide (IntKind.wrap .u64 ((Nat.land (Int.toNat ((hl n).2 % Int.ofNat 18446744073709551616)) (Int.toNat ((1:Int) % Int.ofNat 18446744073709551616)):Nat):Int)=0)=decide (n % 2=0):=by
 rw[UH (by simp only[hl];omega) (by simp only[hl];omega)]
 rw[Bool.eq_iff_iff,decide_eq_true_iff,decide_eq_true_iff]
 simp only[hl]
 omega
theorem wq {n:Nat} (_:n<340282366920938463463374607431768211456):(decide ((hl n).1=0)&&(decide ((hl n).2=0)&&true))=decide (n=0):=by
 rw[Bool.and_true,Bool.eq_iff_iff,z10,decide_eq_true_iff,decide_eq_true_iff,decide_eq_true_iff]
 simp only[hl]
 omega
def Cs (p:Int×Int):Nat:=p.1.toNat*18446744073709551616+p.2.toNat
theorem lL {n:Nat}:Cs (hl n)=n:=by
 simp only[Cs,hl];omega
theorem Bh {a b:Nat} (ha:a % 2=0) (h:Nat.gcd a b % 2=1):Nat.gcd (a / 2) b=Nat.gcd a b:=by
 have h2:a / 2∣a:=Nat.div_dvd_of_dvd (Nat.dvd_of_mod_eq_zero ha)
 refine Nat.dvd_antisymm (Nat.dvd_gcd (Nat.dvd_trans (Nat.gcd_dvd_left _ _) h2) (Nat.gcd_dvd_right _ _)) (Nat.dvd_gcd ?_ (Nat.gcd_dvd_right _ _))
 have h3:Nat.gcd a b∣2*(a / 2):=by rw[show 2*(a / 2)=a by omega];exact Nat.gcd_dvd_left _ _
 refine Nat.Coprime.dvd_of_dvd_mul_left ?_ h3
 show Nat.gcd (Nat.gcd a b) 2=1
 rw[Nat.gcd_comm,Nat.gcd_rec,h]
 rfl
theorem rz {a:Nat} (h:2<=a):Nat.log2 (a / 2)+1=Nat.log2 a:=by
 conv=>rhs;rw[Nat.log2_def]
 rw[if_pos h]
theorem rx {a b:Nat} (h:a<=b):Nat.log2 a<=Nat.log2 b:=by
 by_cases ha:a=0
 ·subst ha;simp
 ·have hb:b≠0:=by omega
  rw[Nat.le_log2 hb]
  exact Nat.le_trans ((Nat.le_log2 ha).1 (Nat.le_refl _)) h
theorem LO {a b:Nat} (ha:0<a) (h:2*a<=b):Nat.log2 a+1<=Nat.log2 b:=by
 have h1:=rz (a:=b) (by omega)
 have:=rx (show a<=b / 2 by omega)
 omega
theorem nZ {a:Nat} (h:a<340282366920938463463374607431768211456):Nat.log2 a<=127:=by
 by_cases ha:a=0
 ·subst ha;simp
 ·have:Nat.log2 a<128:=(Nat.log2_lt ha).2 h
  omega
theorem KB {A B:Nat} (hA:A<340282366920938463463374607431768211456) (hB0:0<B) (hB:B<340282366920938463463374607431768211456):dx (hl A) (hl B)=some (hl (Nat.gcd A B)):=by
 simp only[dx,qW]
 rw[wq hA]
 by_cases hA0:A=0
 ·rw[z7 hA0,cond_true,hA0,Nat.gcd_zero_left]
 rw[z8 hA0,cond_false]
 have hG:Nat.gcd A B<=B:=Nat.le_of_dvd hB0 (Nat.gcd_dvd_right A B)
 have hGdef:∃G,G=Nat.gcd A B:=⟨_,rfl⟩
 obtain ⟨G,hGd⟩:=hGdef
 rw[<-hGd]
 refine iL (g:=fun _=>some (hl G)) (I:=fun (x:Int×(Int×Int)×(Int×Int)×PUnit)=>∃t a b:Nat,x=((t:Int),hl a,hl b,⟨⟩)/\0<a/\a<340282366920938463463374607431768211456/\0<b/\b<340282366920938463463374607431768211456/\2 ^ t*Nat.gcd a b=G/\t+Nat.log2 a<=127)
  (μ:=fun (x:Int×(Int×Int)×(Int×Int)×PUnit)=>Nat.log2 (Cs x.2.1)) (x:=((0:Int),hl A,hl B,PUnit.unit)) ?_ ⟨0,A,B,rfl,by omega,hA,hB0,hB,by rw[hGd];simp,by have:=nZ hA;omega⟩ (by simp only[lL];have:=nZ hA;omega)
 rintro _ rec ⟨t,a,b,rfl,a0,a1,b0,b1,hg,ht⟩ hrec
 simp only[zR,bv,cond_true]
 by_cases hev:a % 2=0/\b % 2=0
 ·rw[z7 hev.1,cond_true,z7 hev.2,cond_true,ww a1,af,ww b1,af,bm (by omega) (by omega)]
  have hl2:=rz (a:=a) (by omega)
  refine hrec _ ⟨t+1,a / 2,b / 2,by rfl,by omega,by omega,by omega,by omega,?_,by omega⟩ (by simp only[lL];omega)
  rw[<-hg,Nat.pow_succ,Nat.mul_assoc,<-Nat.gcd_mul_left,show 2*(a / 2)=a by omega,show 2*(b / 2)=b by omega]
 have hodd:Nat.gcd a b % 2=1:=by
  rcases Nat.mod_two_eq_zero_or_one (Nat.gcd a b) with h | h
  ·exfalso
   have h2:=Nat.dvd_of_mod_eq_zero h
   exact hev ⟨Nat.mod_eq_zero_of_dvd (Nat.dvd_trans h2 (Nat.gcd_dvd_left a b)),Nat.mod_eq_zero_of_dvd (Nat.dvd_trans h2 (Nat.gcd_dvd_right a b))⟩
  ·exact h
 have hcond:(bif decide (a % 2=0) then decide (b % 2=0) else false)=false:=by
  rw[Bool.eq_false_iff]
  intro h
  by_cases h2:a % 2=0
  ·rw[z7 h2,cond_true,decide_eq_true_iff] at h
   exact hev ⟨h2,h⟩
  ·rw[z8 h2,cond_false] at h
   cases h
 rw[hcond,cond_false]
 clear hcond hrec
 generalize hgd:Nat.gcd a b=g at *
 refine iL (g:=fun _=>some (hl G)) (I:=fun (x:(Int×Int)×(Int×Int)×PUnit)=>∃a b:Nat,x=(hl a,hl b,⟨⟩)/\a<340282366920938463463374607431768211456/\0<b/\b<340282366920938463463374607431768211456/\Nat.gcd a b=g)
  (μ:=fun (x:(Int×Int)×(Int×Int)×PUnit)=>Nat.log2 (Cs x.1)+Nat.log2 (Cs x.2.1)+Cs x.1 % 2) (x:=(hl a,hl b,PUnit.unit)) ?_ ⟨a,b,rfl,a1,b0,b1,hgd⟩ (by simp only[lL];have:=nZ a1;have:=nZ b1;omega)
 clear hgd hev a0 a1 b0 b1
 rintro _ rec ⟨a,b,rfl,a1,b0,b1,hgd⟩ hrec
 simp only[wq a1]
 by_cases ha0:a=0
 ·rw[z7 ha0,Bool.not_true,cond_false]
  have hbg:b=g:=by rw[<-hgd,ha0,Nat.gcd_zero_left]
  refine iL (g:=fun _=>some (hl G)) (I:=fun (x:Int×(Int×Int)×PUnit)=>∃t b:Nat,x=((t:Int),hl b,⟨⟩)/\0<b/\2 ^ t*b=G/\t<=127)
   (μ:=fun (x:Int×(Int×Int)×PUnit)=>x.1.toNat) (x:=((t:Int),hl b,PUnit.unit)) ?_ ⟨t,b,rfl,b0,by rw[hbg];exact hg,by omega⟩ (by simp only;omega)
  rintro _ rec ⟨t,b,rfl,b0,hg,ht⟩ hrec
  simp only
  by_cases ht0:t=0
  ·rw[z8 (by omega),cond_false,<-hg,ht0];simp
  ·rw[z7 (by omega),cond_true]
   obtain ⟨s,rfl⟩:∃s,t=s+1:=⟨t - 1,by omega⟩
   have h2:2 ^ s*(b+b)=G:=by rw[<-hg,Nat.pow_succ,Nat.mul_assoc];congr 1;omega
   have h3:b+b<=G:=by
    rw[<-h2]
    exact Nat.le_mul_of_pos_left _ (Nat.pow_pos (by omega))
   rw[Fo (by omega),af,bm (by omega) (by omega)]
   exact hrec _ ⟨s,b+b,by simp only[Prod.mk.injEq,and_true];omega,by omega,h2,by omega⟩ (by simp only;omega)
 rw[z8 ha0,Bool.not_false,cond_true]
 refine iL (g:=fun _=>some (hl G)) (I:=fun (x:(Int×Int)×PUnit)=>∃c:Nat,x=(hl c,⟨⟩)/\0<c/\c<340282366920938463463374607431768211456/\Nat.gcd c b=g/\(c=a\/2*c<=a))
  (μ:=fun (x:(Int×Int)×PUnit)=>Nat.log2 (Cs x.1)) (x:=(hl a,PUnit.unit)) ?_ ⟨a,rfl,by omega,a1,hgd,.inl rfl⟩ (by simp only[lL];have:=nZ a1;omega)
 rintro _ rec3 ⟨c,rfl,c0,c1,hgc,hca⟩ hrec3
 simp only[zR]
 by_cases hce:c % 2=0
 ·rw[z7 hce,cond_true,ww c1,af]
  have hl2:=rz (a:=c) (by omega)
  exact hrec3 _ ⟨c / 2,rfl,by omega,by omega,by rw[Bh hce (by rw[hgc];exact hodd),hgc],.inr (by omega)⟩ (by simp only[lL];omega)
 rw[z8 hce,cond_false]
 clear hrec3
 refine iL (g:=fun _=>some (hl G)) (I:=fun (x:(Int×Int)×PUnit)=>∃d:Nat,x=(hl d,⟨⟩)/\0<d/\d<=b/\Nat.gcd c d=g)
  (μ:=fun (x:(Int×Int)×PUnit)=>Nat.log2 (Cs x.1)) (x:=(hl b,PUnit.unit)) ?_ ⟨b,rfl,b0,Nat.le_refl _,hgc⟩ (by simp only[lL];have:=nZ b1;omega)
 rintro _ rec4 ⟨d,rfl,d0,d1,hgd'⟩ hrec4
 simp only[zR]
 by_cases hde:d % 2=0
 ·rw[z7 hde,cond_true,ww (by omega),af]
  have hl2:=rz (a:=d) (by omega)
  exact hrec4 _ ⟨d / 2,rfl,by omega,by omega,by rw[Nat.gcd_comm,Bh hde (by rw[Nat.gcd_comm,hgd'];exact hodd),Nat.gcd_comm,hgd']⟩ (by simp only[lL];omega)
 rw[z8 hde,cond_false,vY,af]
 clear hrec4
 have lb:=rx d1
 have la:Nat.log2 c+1<=Nat.log2 a+a % 2:=by
  rcases hca with rfl | h
  ·omega
  ·have:=LO c0 h;omega
 by_cases hlt:c<d
 ·rw[z7 hlt,cond_true,qw (by omega) (by omega),af]
  have l1:=rx (show d - c<=d by omega)
  exact hrec _ ⟨d - c,c,rfl,by omega,c0,c1,by rw[Nat.gcd_sub_self_left (by omega),Nat.gcd_comm,hgd']⟩ (by simp only[lL];omega)
 ·rw[z8 hlt,cond_false,qw (by omega) (by omega),af]
  have l1:=rx (show c - d<=c by omega)
  exact hrec _ ⟨c - d,d,rfl,by omega,d0,by omega,by rw[Nat.gcd_sub_self_left (by omega),hgd']⟩ (by simp only[lL];omega)
theorem Lq {n:Nat}:(IntKind.wrap .u64 (IntKind.wrap .u64 ((hl n).1*2)+(hl n).2 / 9223372036854775808),IntKind.wrap .u64 ((hl n).2*2))=hl (2*n % 340282366920938463463374607431768211456):=by
 simp only[IntKind.wrap_u64,hl]
 ext<;>simp only<;>omega
theorem M4 {r a:Nat} (_:r<340282366920938463463374607431768211456) (ha:a<340282366920938463463374607431768211456):(IntKind.wrap .u64 (IntKind.wrap .u64 ((hl r).1*2)+(hl r).2 / 9223372036854775808),IntKind.wrap .u64 (IntKind.wrap .u64 ((hl r).2*2)+(hl a).1 / 9223372036854775808))=hl ((2*r+2*a / 340282366920938463463374607431768211456) % 340282366920938463463374607431768211456):=by
 simp only[IntKind.wrap_u64,hl]
 ext<;>simp only<;>omega
theorem Fc {q:Nat} (hq:2*q+1<340282366920938463463374607431768211456):(IntKind.wrap .u64 (IntKind.wrap .u64 ((hl q).1*2)+(hl q).2 / 9223372036854775808),IntKind.wrap .u64 (IntKind.wrap .u64 ((hl q).2*2)+1))=hl (2*q+1):=by
 simp only[IntKind.wrap_u64,hl]
 ext<;>simp only<;>omega
theorem NH {r a:Nat} (hr:r<340282366920938463463374607431768211456) (ha:a<340282366920938463463374607431768211456):decide ((hl r).1 / 9223372036854775808>0)=decide (340282366920938463463374607431768211456<=2*r+2*a / 340282366920938463463374607431768211456):=by
 rw[Bool.eq_iff_iff,decide_eq_true_iff,decide_eq_true_iff]
 simp only[hl]
 omega
theorem uU {t b q r:Nat} (hr:r<b) (h:t=q*b+r):t / b=q/\t % b=r:=by
 subst h
 constructor
 ·rw[Nat.mul_comm,Nat.mul_add_div (by omega),Nat.div_eq_of_lt hr,Nat.add_zero]
 ·rw[Nat.mul_comm,Nat.mul_add_mod,Nat.mod_eq_of_lt hr]
theorem FO {A B:Nat} (hA:A<340282366920938463463374607431768211456) (hB0:0<B) (hB:B<340282366920938463463374607431768211456):gz (hl A) (hl B)=some (hl (A / B),hl (A % B),()):=by
 simp only[gz,qT,show decide ((0:Int)<=1)=true from rfl,show decide ((0:Int)<=63)=true from rfl,cond_true,bv,show (2:Int) ^ (1:Nat)=2 from rfl,show (2:Int) ^ (63:Nat)=9223372036854775808 from rfl,lI (show (0:Int)<=9223372036854775808 by omega),Bool.and_self]
 by_cases hs:A<18446744073709551616/\B<18446744073709551616
 ·rw[ga hs.1,ga hs.2]
  have q1:A / B<=A:=Nat.div_le_self _ _
  have q2:A % B<=A:=Nat.mod_le _ _
  simp only[decide_true,cond_true,oV (show (B:Int)≠0 by omega),mu]
  have hq:((A / B:Nat):Int)<18446744073709551616:=by
   generalize A / B=z at *
   omega
  rw[ga (show A / B<18446744073709551616 by omega),ga (show A % B<18446744073709551616 by omega),aU (Int.natCast_nonneg _) hq,Int.tmod_eq_emod_of_nonneg (by omega),Int.natCast_emod]
 ·have hc:(bif decide ((hl A).1=0) then decide ((hl B).1=0) else false)=false:=by
   rw[Bool.eq_false_iff]
   intro h
   by_cases h1:(hl A).1=0
   ·rw[z7 h1,cond_true,decide_eq_true_iff] at h
    simp only[hl] at h1 h
    omega
   ·rw[z8 h1,cond_false] at h
    cases h
  rw[hc,cond_false]
  refine iL (g:=fun _=>some (hl (A / B),hl (A % B),())) (I:=fun (x:Int×(Int×Int)×(Int×Int)×(Int×Int)×PUnit)=>∃i X:Nat,i<=128/\X=A*2 ^ i/\x=((i:Int),hl (X % 340282366920938463463374607431768211456),hl (X / 340282366920938463463374607431768211456 / B),hl (X / 340282366920938463463374607431768211456 % B),⟨⟩))
   (μ:=fun (x:Int×(Int×Int)×(Int×Int)×(Int×Int)×PUnit)=>(128 - x.1).toNat) (x:=((0:Int),hl A,((0:Int),(0:Int)),((0:Int),(0:Int)),PUnit.unit)) ?_ ⟨0,A,by omega,by simp,by
    rw[Nat.mod_eq_of_lt hA,Nat.div_eq_of_lt hA,Nat.zero_div,Nat.zero_mod];rfl⟩ (by simp only;omega)
  rintro _ rec ⟨i,X,hi,hX,rfl⟩ hrec
  simp only
  by_cases hlt:i<128
  ·rw[z7 (show (i:Int)<128 by omega),cond_true]
   have hX2:2*X=A*2 ^ (i+1):=by rw[hX,Nat.pow_succ];grind
   have hT:2*X / 340282366920938463463374607431768211456<=A:=by
    have:A*2 ^ (i+1)<=A*2 ^ 128:=Nat.mul_le_mul_left _ (Nat.pow_le_pow_right (by omega) (by omega))
    rw[hX2]
    refine Nat.div_le_of_le_mul ?_
    rw[show (2:Nat) ^ 128=340282366920938463463374607431768211456 from rfl,Nat.mul_comm A 340282366920938463463374607431768211456] at this
    exact this
   have ha:=Nat.mod_lt X (show 340282366920938463463374607431768211456>0 by omega)
   have hr:=Nat.mod_lt (X / 340282366920938463463374607431768211456) hB0
   have e1:2*X % 340282366920938463463374607431768211456=2*(X % 340282366920938463463374607431768211456) % 340282366920938463463374607431768211456:=by omega
   have e2:2*X / 340282366920938463463374607431768211456=2*(X / 340282366920938463463374607431768211456)+2*(X % 340282366920938463463374607431768211456) / 340282366920938463463374607431768211456:=by omega
   have e3:X / 340282366920938463463374607431768211456=X / 340282366920938463463374607431768211456 / B*B+X / 340282366920938463463374607431768211456 % B:=by rw[Nat.mul_comm];exact (Nat.div_add_mod _ _).symm
   have hq:X / 340282366920938463463374607431768211456 / B<=X / 340282366920938463463374607431768211456:=Nat.div_le_self _ _
   rw[bm (x:=(i:Int)+1) (by omega) (by omega)]
   have bit:2*(X % 340282366920938463463374607431768211456) / 340282366920938463463374607431768211456<=1:=by omega
   have step:∀q r,r<B->2*X / 340282366920938463463374607431768211456=q*B+r->rec ((i:Int)+1,hl (2*(X % 340282366920938463463374607431768211456) % 340282366920938463463374607431768211456),hl q,hl r,PUnit.unit)=some (hl (A / B),hl (A % B),()):=fun q r h1 h2=>by
    obtain ⟨h3,h4⟩:=uU h1 h2
    exact hrec _ ⟨i+1,2*X,by omega,hX2,by rw[h3,h4,e1];rfl⟩ (by simp only;omega)
   generalize hTd:X / 340282366920938463463374607431768211456=T at *
   generalize hαd:X % 340282366920938463463374607431768211456=α at *
   generalize hqd:T / B=q at *
   generalize hrd:T % B=r at *
   have hq2:2*q+1<340282366920938463463374607431768211456:=by
    by_cases hq0:q=0
    ·omega
    ·have h1:q*1<=q*B:=Nat.mul_le_mul_left _ hB0
     have h2:A<=340282366920938463463374607431768211455:=by omega
     omega
   rw[NH (r:=r) (a:=α) (by omega) ha,Lq (n:=α),M4 (r:=r) (a:=α) (by omega) ha]
   have hmul2:2*(q*B)=2*q*B:=by rw[Nat.mul_assoc]
   have hmul3:(2*q+1)*B=2*q*B+B:=by rw[Nat.add_mul,Nat.one_mul]
   by_cases ho:340282366920938463463374607431768211456<=2*r+2*α / 340282366920938463463374607431768211456
   ·simp only[z7 ho,Bool.not_true,cond_true,cond_false,af]
    rw[Dk (a:=2*r+2*α / 340282366920938463463374607431768211456) (b:=B) (by omega) (by omega) hB,af,Fc hq2]
    exact step _ _ (by omega) (by rw[hmul3];omega)
   ·have hR:(2*r+2*α / 340282366920938463463374607431768211456) % 340282366920938463463374607431768211456=2*r+2*α / 340282366920938463463374607431768211456:=Nat.mod_eq_of_lt (by omega)
    simp only[z8 ho,hR,Bool.not_false,cond_true,cond_false,af,Bool.or_true,vY]
    by_cases hl2:2*r+2*α / 340282366920938463463374607431768211456<B
    ·simp only[z7 hl2,Bool.not_true,cond_false]
     have e:=Lq (n:=q)
     rw[Nat.mod_eq_of_lt (show 2*q<340282366920938463463374607431768211456 by omega)] at e
     rw[e]
     exact step _ _ (by omega) (by omega)
    ·simp only[z8 hl2,Bool.not_false,cond_true]
     rw[qw (by omega) (by omega),af,Fc hq2]
     exact step _ _ (by omega) (by rw[hmul3];omega)
  ·have:i=128:=by omega
   subst this
   have hx:X / 340282366920938463463374607431768211456=A:=by
    rw[hX]
    exact Nat.mul_div_cancel A (by decide)
   rw[z8 (by omega),cond_false,hx]
theorem tP {s:Bool} {n d:Nat} (hn:n<340282366920938463463374607431768211456) (hd0:0<d) (hd:d<340282366920938463463374607431768211456):cv (hl n) s (hl d)=some (tI (mkRat (sgn s n) d)):=by
 have hG0:0<Nat.gcd n d:=Nat.gcd_pos_of_pos_right _ hd0
 have hG:Nat.gcd n d<=d:=Nat.le_of_dvd hd0 (Nat.gcd_dvd_right n d)
 simp only[cv,oW,bv,eu,cond_true]
 rw[wq hd,z8 (show ¬ d=0 by omega),cond_false,KB hn hd0 hd,af,FO hn hG0 (by omega),af,FO hd hG0 (by omega),af]
 obtain ⟨m1,m2,m3⟩:=N3 (s:=s) (n:=n) (d:=d) hd0
 rw[m1,zO m2 m3]
 have q1:n / Nat.gcd n d<=n:=Nat.div_le_self _ _
 have q2:d / Nat.gcd n d<=d:=Nat.div_le_self _ _
 generalize n / Nat.gcd n d=p at *
 generalize d / Nat.gcd n d=q at *
 simp only
 have big:∀{x:Nat},x<340282366920938463463374607431768211456->(bif decide ((hl x).1>0) then true else decide ((hl x).2>1152921504606846976))=decide (¬ x<=1152921504606846976):=fun {x} hx=>by
  by_cases h1:(hl x).1>0
  ·rw[z7 h1,cond_true]
   simp only[hl] at h1
   exact (z7 (by omega)).symm
  ·rw[z8 h1,cond_false,Bool.eq_iff_iff,decide_eq_true_iff,decide_eq_true_iff]
   simp only[hl] at h1 ⊢
   omega
 rw[big (show p<340282366920938463463374607431768211456 by omega)]
 by_cases hp:p<=1152921504606846976
 ·simp only[hp,not_true_eq_false,decide_false,cond_false,true_and]
  rw[big (show q<340282366920938463463374607431768211456 by omega)]
  by_cases hq:q<=1152921504606846976
  ·simp only[hq,not_true_eq_false,decide_false,cond_false,if_true]
   rw[ga (show p<18446744073709551616 by omega),ga (show q<18446744073709551616 by omega)]
   simp only
   rw[bm (x:=(p:Int)) (by omega) (by omega),bm (x:=(q:Int)) (by omega) (by omega),bm (x:=0 - (p:Int)) (by omega) (by omega)]
   cases s<;>simp[sgn]
  ·simp only[hq,not_false_eq_true,decide_true,cond_true,if_false]
 ·simp only[hp,not_false_eq_true,decide_true,cond_true,false_and,if_false]
theorem fX {x:Int} (h1: -9223372036854775808<=x) (h2:x<9223372036854775808):aB x=some (x.natAbs:Int):=by
 simp only[aB,ox]
 by_cases h:x<0
 ·simp only[h,decide_true,cond_true]
  rw[IntKind.wrap_u64,IntKind.wrap_u64]
  congr 1;omega
 ·simp only[h,decide_false,cond_false]
  rw[aU (by omega) (by omega)]
  congr 1;omega
theorem xR {a b:Prop} [Decidable a] [Decidable b]:(!decide (decide a=decide b))=(decide a !=decide b):=by
 cases decide a<;>cases decide b<;>rfl
theorem oO {m n:Nat} (hm:m<18446744073709551616) (hn:n<18446744073709551616):bE (m:Int) (n:Int)=some (hl (m*n)):=by
 have x0:0<=(m:Int):=by omega
 have x1:(m:Int)<18446744073709551616:=by omega
 have y0:0<=(n:Int):=by omega
 have y1:(n:Int)<18446744073709551616:=by omega
 have hmn:((m*n:Nat):Int)=(m:Int)*n:=Int.natCast_mul m n
 simp only[hl,Int.natCast_ediv,Int.natCast_emod,hmn]
 generalize (m:Int)=x at *
 generalize (n:Int)=y at *
 have p32:(2:Int) ^ (32:Nat)=4294967296:=by decide
 simp only[bE,qA,p32,show decide ((0:Int)<=32)=true from rfl,cond_true]
 obtain ⟨a,b,ha,hb,hx⟩:∃a b,a=x / 4294967296/\b=x % 4294967296/\x=a*4294967296+b:=⟨_,_,rfl,rfl,by omega⟩
 obtain ⟨c,d,hc,hd,hy⟩:∃c d,c=y / 4294967296/\d=y % 4294967296/\y=c*4294967296+d:=⟨_,_,rfl,rfl,by omega⟩
 rw[qG x0 x1,qG y0 y1,<-hb,<-hd]
 simp only[lI (show (0:Int)<=4294967296 by omega),<-ha,<-hc]
 have a0:0<=a/\a<=4294967295:=by omega
 have b0:0<=b/\b<=4294967295:=by omega
 have c0:0<=c/\c<=4294967295:=by omega
 have d0:0<=d/\d<=4294967295:=by omega
 have mb:∀{m n:Int},0<=m/\m<=4294967295->0<=n/\n<=4294967295->0<=m*n/\m*n<=18446744065119617025:=fun {m n} hm hn=>⟨Int.mul_nonneg hm.1 hn.1,Int.le_trans (Int.mul_le_mul hm.2 hn.2 hn.1 (by omega)) (by decide)⟩
 have e1:=mb a0 c0
 have e2:=mb a0 d0
 have e3:=mb b0 c0
 have e4:=mb b0 d0
 have hxy:x*y=a*c*18446744073709551616+(a*d+b*c)*4294967296+b*d:=by rw[hx,hy];grind
 rw[hxy]
 rw[aU (x:=b) (by omega) (by omega),aU (x:=d) (by omega) (by omega)]
 rw[aU (x:=b*d) (by omega) (by omega),aU (x:=a*d) (by omega) (by omega),aU (x:=b*c) (by omega) (by omega),aU (x:=a*c) (by omega) (by omega)]
 generalize b*d=bd at *
 generalize a*d=ad at *
 generalize b*c=bc at *
 generalize a*c=ac at *
 rw[aU (x:=ad+bd / 4294967296) (by omega) (by omega)]
 generalize ht:ad+bd / 4294967296=t
 rw[qG (by omega) (by omega),qG (by omega) (by omega)]
 rw[aU (x:=t % 4294967296) (by omega) (by omega),aU (x:=bd % 4294967296) (by omega) (by omega)]
 rw[aU (x:=bc+t % 4294967296) (by omega) (by omega),aU (x:=ac+t / 4294967296) (by omega) (by omega)]
 rw[aU (x:=ac+t / 4294967296+(bc+t % 4294967296) / 4294967296) (by omega) (by omega)]
 rw[IntKind.wrap_u64 ((bc+t % 4294967296)*4294967296),IntKind.wrap_u64]
 congr 1
 ext<;>simp only<;>omega
theorem yE {a b:Fq} (ha:okF a) (hb:okF b):cj a b=some (tI (qv a*qv b)):=by
 have ha':=ha
 have hb':=hb
 obtain ⟨⟨a1,a2⟩,⟨a3,a4⟩,_⟩:=ha'
 obtain ⟨⟨b1,b2⟩,⟨b3,b4⟩,_⟩:=hb'
 simp only[cj,nK]
 rw[fX (by omega) (by omega),af,fX (by omega) (by omega),af,oO (by omega) (by omega),af,fX (by omega) (by omega),af,fX (by omega) (by omega),af,oO (by omega) (by omega),af,xR]
 have bd:∀{x y:Nat},x<=1152921504606846976->y<=1152921504606846976->x*y<340282366920938463463374607431768211456:=fun {x y} hx hy=>Nat.lt_of_le_of_lt (Nat.mul_le_mul hx hy) (by decide)
 rw[tP (bd (by omega) (by omega)) (Nat.mul_pos (by omega) (by omega)) (bd (by omega) (by omega)),af,wu a,wu b,Fg,show a.2.natAbs=a.2.toNat by omega,show b.2.natAbs=b.2.toNat by omega]
theorem OQ {a:Fq} (ha:okF a):gQ a=some (-a.1,a.2)/\okF (-a.1,a.2)/\qv (-a.1,a.2)= - qv a:=by
 obtain ⟨⟨a1,a2⟩,⟨a3,a4⟩,a5⟩:=ha
 refine ⟨?_,⟨⟨a1,a2⟩,⟨by simp only;omega,by simp only;omega⟩,by simpa using a5⟩,?_⟩
 ·simp only[gQ,qB]
  rw[bm (by omega) (by omega),Int.zero_sub]
 ·simp only[qv]
  rw[Rat.neg_mkRat]
end Go.Proofs.YtegbncajloeepaaGreat

namespace Go.Proofs.YtegbncajloeepaaGreat
noncomputable section
open Tryz Dn Dn.Sh
theorem xP {a b:Nat}:cH (hl a) (hl b)=some (decide (a<b)):=by
 simp only[cH,oJ]
 have e:decide (a<b)=(bif decide ((hl a).1<(hl b).1) then true else bif decide ((hl a).1=(hl b).1) then decide ((hl a).2<(hl b).2) else false):=by
  by_cases c1:(hl a).1<(hl b).1
  ·simp only[c1,decide_true,cond_true]
   simp only[hl] at c1
   exact z7 (by omega)
  ·by_cases c2:(hl a).1=(hl b).1
   ·rw[z8 c1,z7 c2,cond_true,cond_false]
    have e2:a<b↔(hl a).2<(hl b).2:=by
     simp only[hl] at c1 c2 ⊢
     omega
    rw[Bool.eq_iff_iff,decide_eq_true_iff,decide_eq_true_iff]
    exact e2
   ·simp only[c1,c2,decide_false,cond_false]
    simp only[hl] at c1 c2
    exact z8 (by omega)
 rw[e]
 cases decide ((hl a).1<(hl b).1)<;>cases decide ((hl a).1=(hl b).1)<;>rfl
theorem NA {m n:Nat}:xK (hl m).2 (hl n).2 0=(((m % 18446744073709551616+n % 18446744073709551616) / 18446744073709551616:Nat):Int):=by
 simp only[xK,hl,z9,Int.toNat_zero,Nat.add_zero]
 rfl
theorem NP {m n:Nat}:uN (hl m).2 (hl n).2 0=(((if m % 18446744073709551616<n % 18446744073709551616 then 1 else 0:Nat):Nat):Int):=by
 simp only[uN,hl,z9,Int.toNat_zero,Nat.add_zero]
 cases h:Nat.blt (m % 18446744073709551616) (n % 18446744073709551616) with
 | true =>
  have h':m % 18446744073709551616<n % 18446744073709551616:=by simpa [Nat.blt_eq] using h
  rw[if_pos h'];rfl
 | false =>
  have h':¬ m % 18446744073709551616<n % 18446744073709551616:=by
   intro h2
   have:Nat.blt (m % 18446744073709551616) (n % 18446744073709551616)=true:=by simpa [Nat.blt_eq] using h2
   rw[this] at h;cases h
  rw[if_neg h'];rfl
theorem Iz {m n:Nat} (h:m+n<340282366920938463463374607431768211456):gl (hl m) (hl n)=some (hl (m+n)):=by
 simp only[gl,pn,NA]
 have c1:decide ((0:Int)<=(0:Int))=true:=rfl
 have c2:decide ((0:Int)<=(1:Int))=true:=rfl
 rw[c1,c2,z7 (show (0:Int)<=(((m % 18446744073709551616+n % 18446744073709551616) / 18446744073709551616:Nat):Int) by omega),z7 (show (((m % 18446744073709551616+n % 18446744073709551616) / 18446744073709551616:Nat):Int)<=1 by omega)]
 simp only[Bool.and_self,cT,Option.some.injEq,BO,hl,z9,Int.toNat_zero,Nat.add_zero,Prod.mk.injEq]
 constructor
 ·show ((_:Nat):Int)=((_:Nat):Int)
  omega
 ·show ((_:Nat):Int)=((_:Nat):Int)
  omega
theorem zd {m n:Nat} (h:n<=m) (hm:m<340282366920938463463374607431768211456):fc (hl m) (hl n)=some (hl (m - n)):=by
 simp only[fc,nq,NP]
 have c1:decide ((0:Int)<=(0:Int))=true:=rfl
 have c2:decide ((0:Int)<=(1:Int))=true:=rfl
 have hb:(if m % 18446744073709551616<n % 18446744073709551616 then 1 else 0:Nat)<=1:=by split<;>omega
 have hc:(if m % 18446744073709551616<n % 18446744073709551616 then 1 else 0:Nat)=1/\m % 18446744073709551616<n % 18446744073709551616\/(if m % 18446744073709551616<n % 18446744073709551616 then 1 else 0:Nat)=0/\¬ m % 18446744073709551616<n % 18446744073709551616:=by split<;>simp_all
 generalize (if m % 18446744073709551616<n % 18446744073709551616 then 1 else 0:Nat)=c at *
 rw[c1,c2,z7 (show (0:Int)<=(c:Int) by omega),z7 (show (c:Int)<=1 by omega)]
 simp only[Bool.and_self,cT,Option.some.injEq,xI,hl,z9,Int.toNat_zero,Nat.sub_zero,Prod.mk.injEq]
 constructor
 ·show ((_:Nat):Int)=((_:Nat):Int)
  omega
 ·show ((_:Nat):Int)=((_:Nat):Int)
  omega
def OH (T:ByteArray) (a b:Int):Option Int :=
 bif decide (a>=(256:Int)) then bif decide ((0:Int)<=(8:Int)) then bif inB (IntKind.wrap .u8 (Int.fdiv a ((2:Int) ^ (8:Nat)))) (256:Nat) then
  some (IntKind.wrap .i64 (IntKind.wrap .i64 (b+(8:Int))+IntKind.wrap .i64 (fw T (Int.toNat (IntKind.wrap .u8 (Int.fdiv a ((2:Int) ^ (8:Nat)))))))) else none else none
 else bif inB (IntKind.wrap .u8 a) (256:Nat) then some (IntKind.wrap .i64 (b+IntKind.wrap .i64 (fw T (Int.toNat (IntKind.wrap .u8 a))))) else none
def Nh (T:ByteArray) (a b:Int):Option Int:=bif decide (a>=(65536:Int)) then bif decide ((0:Int)<=(16:Int)) then OH T (Int.fdiv a ((2:Int) ^ (16:Nat))) (IntKind.wrap .i64 (b+(16:Int))) else none else OH T a b
theorem Gp:∃T:ByteArray,(∀i,i<256->0<=fw T i/\fw T i<=8/\(0<i->i<2 ^ (fw T i).toNat/\2 ^ (fw T i).toNat<=2*i)) /\
  ∀x,gi x=bif decide (x>=(4294967296:Int)) then bif decide ((0:Int)<=(32:Int)) then Nh T (Int.fdiv x ((2:Int) ^ (32:Nat))) 32 else none else Nh T x 0 :=
 ⟨_,by decide +kernel,fun _=>rfl⟩
def xS (n L:Nat):Prop:=n<2 ^ L/\2 ^ L<=2*n
theorem qg {n k L:Nat} (h:xS (n / 2 ^ k) L):xS n (L+k):=by
 obtain ⟨h1,h2⟩:=h
 have hk:0<2 ^ k:=Nat.two_pow_pos k
 unfold xS
 rw[Nat.pow_add]
 constructor
 ·exact (Nat.div_lt_iff_lt_mul hk).1 h1
 ·have h3:n / 2 ^ k*2 ^ k<=n:=Nat.div_mul_le_self n _
  have h4:=Nat.mul_le_mul_right (2 ^ k) h2
  rw[Nat.mul_assoc] at h4
  omega
theorem ET {x:Int} (h1:0<=x) (h2:x<256):IntKind.wrap .u8 x=x:=by
 rw[IntKind.wrap_u8];omega
theorem J7 {n:Nat} (h0:0<n) (h1:n<18446744073709551616):∃L:Nat,gi (n:Int)=some (L:Int)/\xS n L/\L<=64:=by
 obtain ⟨T,hT,hx⟩:=Gp
 have tab:∀i:Nat,0<i->i<256->∃L:Nat,fw T i=L/\L<=8/\xS i L:=fun i h2 h3=>by
  obtain ⟨a1,a2,a3⟩:=hT i h3
  exact ⟨(fw T i).toNat,by omega,by omega,a3 h2⟩
 have p8:(2:Int) ^ (8:Nat)=256:=by decide
 have p16:(2:Int) ^ (16:Nat)=65536:=by decide
 have p32:(2:Int) ^ (32:Nat)=4294967296:=by decide
 have stepT:∀a b:Nat,0<a->a<65536->b<=48->∃L:Nat,OH T (a:Int) (b:Int)=some ((L+b:Nat):Int)/\xS a L/\L<=16:=fun a b ha hb hb2=>by
  unfold OH
  by_cases h:a<256
  ·obtain ⟨L,e1,e2,e3⟩:=tab a ha h
   rw[z8 (show ¬ (a:Int)>=256 by omega),cond_false,ET (by omega) (by omega),td (by omega) (by omega),cond_true,z9,e1,bm (x:=(L:Int)) (by omega) (by omega),bm (by omega) (by omega)]
   exact ⟨L,by congr 1;omega,e3,by omega⟩
  ·obtain ⟨L,e1,e2,e3⟩:=tab (a / 256) (by omega) (by omega)
   rw[z7 (show (a:Int)>=256 by omega),cond_true,show decide ((0:Int)<=8)=true from rfl,cond_true,p8,lI (by omega),ET (by omega) (by omega),td (by omega) (by omega),cond_true,show ((a:Int) / 256).toNat=a / 256 by omega,e1,bm (x:=(L:Int)) (by omega) (by omega),bm (x:=(b:Int)+8) (by omega) (by omega),bm (by omega) (by omega)]
   exact ⟨L+8,by congr 1;omega,qg (k:=8) e3,by omega⟩
 have stepU:∀a b:Nat,0<a->a<4294967296->b<=32->∃L:Nat,Nh T (a:Int) (b:Int)=some ((L+b:Nat):Int)/\xS a L/\L<=32:=fun a b ha hb hb2=>by
  unfold Nh
  by_cases h:a<65536
  ·obtain ⟨L,e1,e2,e3⟩:=stepT a b ha h (by omega)
   rw[z8 (show ¬ (a:Int)>=65536 by omega),cond_false,e1]
   exact ⟨L,rfl,e2,by omega⟩
  ·obtain ⟨L,e1,e2,e3⟩:=stepT (a / 65536) (b+16) (by omega) (by omega) (by omega)
   rw[z7 (show (a:Int)>=65536 by omega),cond_true,show decide ((0:Int)<=16)=true from rfl,cond_true,p16,lI (by omega),bm (by omega) (by omega),show (a:Int) / 65536=((a / 65536:Nat):Int) by omega,show (b:Int)+16=((b+16:Nat):Int) by omega,e1]
   exact ⟨L+16,by congr 1;omega,qg (k:=16) e2,by omega⟩
 rw[hx]
 by_cases h:n<4294967296
 ·obtain ⟨L,e1,e2,e3⟩:=stepU n 0 h0 h (by omega)
  rw[z8 (show ¬ (n:Int)>=4294967296 by omega),cond_false]
  exact ⟨L,e1,e2,by omega⟩
 ·obtain ⟨L,e1,e2,e3⟩:=stepU (n / 4294967296) 32 (by omega) (by omega) (by omega)
  rw[z7 (show (n:Int)>=4294967296 by omega),cond_true,show decide ((0:Int)<=32)=true from rfl,cond_true,p32,lI (by omega),show (n:Int) / 4294967296=((n / 4294967296:Nat):Int) by omega]
  exact ⟨L+32,e1,qg (k:=32) e2,by omega⟩
theorem Eb {q r U u y1 y0:Int} (hq:q*y1+r=U) (_:0<=u) (hy:0<y1*4294967296+y0) (hge:(U*4294967296+u) / (y1*4294967296+y0)<=q) (ht:q*y0<=4294967296*r+u):q=(U*4294967296+u) / (y1*4294967296+y0):=by
 refine Int.le_antisymm (Int.le_ediv_of_mul_le hy ?_) hge
 rw[Int.mul_add,<-Int.mul_assoc]
 omega
theorem DR {q r U u y1 y0:Int} (hq:q*y1+r=U) (hy:0<y1*4294967296+y0) (hU:U*4294967296+u<(y1*4294967296+y0)*4294967296) (ht:q>=4294967296\/q*y0>4294967296*r+u):(U*4294967296+u) / (y1*4294967296+y0)<=q - 1:=by
 have:(U*4294967296+u) / (y1*4294967296+y0)<q:=by
  refine Int.ediv_lt_of_lt_mul hy ?_
  rcases ht with ht | ht
  ·exact Int.lt_of_lt_of_le hU (by rw[Int.mul_comm q];exact Int.mul_le_mul_of_nonneg_left ht (by omega))
  ·rw[Int.mul_add,<-Int.mul_assoc]
   omega
 omega
theorem FZ {q r U u y1 y0:Int} (hq:q*y1+r=U) (hu:0<=u) (hy:0<y1*4294967296+y0) (h0:0<=y0/\y0<4294967296) (hge:(U*4294967296+u) / (y1*4294967296+y0)<=q - 1) (hr:r+y1>=4294967296) (hq2:1<=q/\q<=4294967297):q - 1=(U*4294967296+u) / (y1*4294967296+y0):=by
 refine Int.le_antisymm (Int.le_ediv_of_mul_le hy ?_) hge
 have e1:(q - 1)*y0<=4294967296*4294967295:=Int.mul_le_mul (by omega) (by omega) h0.1 (by omega)
 rw[Int.mul_add,<-Int.mul_assoc,Int.sub_mul q 1 y1,Int.one_mul]
 omega
theorem MA {s:Nat} {a b:Nat} (h:b<2 ^ s):Nat.lor (a*2 ^ s) b=a*2 ^ s+b:=by
 have:=Nat.two_pow_add_eq_or_of_lt h a
 rw[Nat.mul_comm a]
 exact this.symm
theorem wy {α R:Type} {F:(α->Option R)->α->Option R} {J:Int->Option R} {U u y1 y0:Int} (enc:Int->Int->α) (dec:α->Int) (hdec:∀q r,dec (enc q r)=q)
  (hu:0<=u) (h0:0<=y0/\y0<4294967296) (h1:2147483648<=y1/\y1<4294967296) (hU0:0<=U) (hU:U*4294967296+u<(y1*4294967296+y0)*4294967296)
  (hF1:∀again q r,1<=q->q<=4294967297->0<=r->r<4294967296->(q>=4294967296\/q*y0>4294967296*r+u)->F again (enc q r)=bif decide (r+y1>=4294967296) then J (q - 1) else again (enc (q - 1) (r+y1)))
  (hF2:∀again q r,0<=q->q<4294967296->0<=r->r<4294967296->¬ q*y0>4294967296*r+u->F again (enc q r)=J q)
  {q r:Int} (hq:q*y1+r=U) (hq0:0<=q) (hq2:q<=4294967297) (hr0:0<=r) (hr1:r<4294967296) (hge:(U*4294967296+u) / (y1*4294967296+y0)<=q) :
  lpK α R F (enc q r)=J ((U*4294967296+u) / (y1*4294967296+y0)):=by
 have hD:0<=(U*4294967296+u) / (y1*4294967296+y0):=Int.ediv_nonneg (by omega) (by omega)
 refine iL (g:=fun _=>J ((U*4294967296+u) / (y1*4294967296+y0))) (I:=fun x=>∃q r,x=enc q r/\q*y1+r=U/\0<=q/\q<=4294967297/\0<=r/\r<4294967296/\(U*4294967296+u) / (y1*4294967296+y0)<=q) (μ:=fun x=>(dec x).toNat) ?_ ⟨q,r,rfl,hq,hq0,hq2,hr0,hr1,hge⟩ (by rw[hdec];omega)
 rintro _ rec ⟨q,r,rfl,hq,hq0,hq2,hr0,hr1,hge⟩ hrec
 have hy:0<y1*4294967296+y0:=by omega
 by_cases ht:q>=4294967296\/q*y0>4294967296*r+u
 ·have hl:=DR hq hy hU ht
  rw[hF1 _ _ _ (by omega) hq2 hr0 hr1 ht]
  by_cases hr:r+y1>=4294967296
  ·rw[z7 hr,cond_true,FZ hq hu hy h0 hl hr ⟨by omega,hq2⟩]
  ·rw[z8 hr,cond_false]
   refine hrec _ ⟨q - 1,r+y1,rfl,?_,by omega,by omega,by omega,by omega,hl⟩ (by rw[hdec,hdec];omega)
   rw[Int.sub_mul,Int.one_mul];omega
 ·rw[not_or] at ht
  rw[hF2 _ _ _ hq0 (by omega) hr0 hr1 ht.2,<-Eb hq hu hy hge (by omega)]
theorem wE {U u y1 y0:Int} (hu:0<=u/\u<4294967296) (h0:0<=y0/\y0<4294967296) (h1:2147483648<=y1/\y1<4294967296) (hU0:0<=U) (hU:U<y1*4294967296+y0) :
  (U / y1)*y1+(U - U / y1*y1)=U/\0<=U / y1/\U / y1<=4294967297/\0<=U - U / y1*y1/\U - U / y1*y1<4294967296/\(U*4294967296+u) / (y1*4294967296+y0)<=U / y1:=by
 have e1:=Int.mul_ediv_add_emod U y1
 have e2:=Int.emod_nonneg U (show y1≠0 by omega)
 have e3:=Int.emod_lt_of_pos U (show 0<y1 by omega)
 rw[Int.mul_comm] at e1
 refine ⟨by omega,Int.ediv_nonneg hU0 (by omega),?_,by omega,by omega,?_⟩
 ·have:U / y1<4294967298:=Int.ediv_lt_of_lt_mul (by omega) (by omega)
  omega
 ·have:(U*4294967296+u) / (y1*4294967296+y0)<U / y1+1:=by
   refine Int.ediv_lt_of_lt_mul (by omega) ?_
   have hq:0<=U / y1:=Int.ediv_nonneg hU0 (by omega)
   have e4:0<=(U / y1+1)*y0:=Int.mul_nonneg (by omega) h0.1
   rw[Int.mul_add,<-Int.mul_assoc,Int.add_mul (U / y1) 1 y1,Int.one_mul]
   omega
  omega
def OL (_ _ Y u0 P q1 un:Int) (q:Int):Option (Int×Int×Unit):=some (IntKind.wrap .u64 (IntKind.wrap .u64 (q1*4294967296)+q),Int.fdiv (IntKind.wrap .u64 (IntKind.wrap .u64 (IntKind.wrap .u64 (un*4294967296)+u0) - IntKind.wrap .u64 (q*Y))) P,())
def dv2 (y1 y0 Y u0 P q1 un:Int):Option (Int×Int×Unit):=lpK (Int×Int×PUnit) (Int×Int×PUnit) (fun again x=>bif (bif decide (x.2.1>=4294967296) then true else decide (IntKind.wrap .u64 (x.2.1*y0)>IntKind.wrap .u64 (IntKind.wrap .u64 (4294967296*x.1)+u0))) then
 (bif decide (IntKind.wrap .u64 (x.1+y1)>=4294967296) then OL y1 y0 Y u0 P q1 un (IntKind.wrap .u64 (x.2.1 - 1)) else again (IntKind.wrap .u64 (x.1+y1),IntKind.wrap .u64 (x.2.1 - 1),PUnit.unit)) else OL y1 y0 Y u0 P q1 un x.2.1)
 (IntKind.wrap .u64 (un - IntKind.wrap .u64 (IntKind.wrap .u64 (Int.tdiv un y1)*y1)),IntKind.wrap .u64 (Int.tdiv un y1),PUnit.unit)
theorem Qd {y1 y0 u0 P q1 un:Int} (hu:0<=u0/\u0<4294967296) (h0:0<=y0/\y0<4294967296) (h1:2147483648<=y1/\y1<4294967296) (hU0:0<=un) (hU:un<y1*4294967296+y0) :
  dv2 y1 y0 (y1*4294967296+y0) u0 P q1 un=OL y1 y0 (y1*4294967296+y0) u0 P q1 un ((un*4294967296+u0) / (y1*4294967296+y0)):=by
 obtain ⟨i1,i2,i3,i4,i5,i6⟩:=wE (U:=un) hu h0 h1 hU0 hU
 unfold dv2
 rw[Int.tdiv_eq_ediv_of_nonneg hU0]
 have hm:un / y1*y1<=un:=by omega
 have hm0:0<=un / y1*y1:=Int.mul_nonneg i2 (by omega)
 rw[aU (x:=un / y1) i2 (by omega),aU (x:=un / y1*y1) hm0 (by omega),aU (x:=un - un / y1*y1) (by omega) (by omega)]
 refine wy (α:=Int×Int×PUnit) (enc:=fun q r=>(r,q,PUnit.unit)) (dec:=fun x=>x.2.1) (fun _ _=>rfl) hu.1 h0 h1 hU0 (by omega) ?_ ?_ i1 i2 i3 i4 i5 i6
 ·intro again q r g1 g2 g3 g4 g5
  have e1:0<=q*y0:=Int.mul_nonneg (by omega) h0.1
  have e2:q*y0<=4294967297*4294967295:=Int.mul_le_mul g2 (by omega) h0.1 (by omega)
  simp only
  rw[aU (x:=q*y0) e1 (by omega),aU (x:=4294967296*r) (by omega) (by omega),aU (x:=4294967296*r+u0) (by omega) (by omega),aU (x:=r+y1) (by omega) (by omega),aU (x:=q - 1) (by omega) (by omega)]
  have e:(bif decide (q>=4294967296) then true else decide (q*y0>4294967296*r+u0))=true:=by
   rcases g5 with ht | ht
   ·rw[z7 ht];rfl
   ·rw[z7 ht];cases decide (q>=4294967296)<;>rfl
  rw[e,cT]
 ·intro again q r g1 g2 g3 g4 g5
  have e1:0<=q*y0:=Int.mul_nonneg (by omega) h0.1
  have e2:q*y0<=4294967297*4294967295:=Int.mul_le_mul (by omega) (by omega) h0.1 (by omega)
  simp only
  rw[aU (x:=q*y0) e1 (by omega),aU (x:=4294967296*r) (by omega) (by omega),aU (x:=4294967296*r+u0) (by omega) (by omega)]
  rw[z8 (show ¬ q>=4294967296 by omega),z8 g5,cF,cF]
def OI (y1 y0 Y u1 u0 P U:Int) (q1:Int):Option (Int×Int×Unit):=dv2 y1 y0 Y u0 P q1 (IntKind.wrap .u64 (IntKind.wrap .u64 (IntKind.wrap .u64 (U*4294967296)+u1) - IntKind.wrap .u64 (q1*Y)))
def dv1 (y1 y0 Y u1 u0 P U:Int):Option (Int×Int×Unit):=lpK (Int×Int×PUnit) (Int×Int×PUnit) (fun again x=>bif (bif decide (x.1>=4294967296) then true else decide (IntKind.wrap .u64 (x.1*y0)>IntKind.wrap .u64 (IntKind.wrap .u64 (4294967296*x.2.1)+u1))) then
 (bif decide (IntKind.wrap .u64 (x.2.1+y1)>=4294967296) then OI y1 y0 Y u1 u0 P U (IntKind.wrap .u64 (x.1 - 1)) else again (IntKind.wrap .u64 (x.1 - 1),IntKind.wrap .u64 (x.2.1+y1),PUnit.unit)) else OI y1 y0 Y u1 u0 P U x.1)
 (IntKind.wrap .u64 (Int.tdiv U y1),IntKind.wrap .u64 (U - IntKind.wrap .u64 (IntKind.wrap .u64 (Int.tdiv U y1)*y1)),PUnit.unit)
theorem Py {y1 y0 u1 u0 P U:Int} (hu:0<=u1/\u1<4294967296) (h0:0<=y0/\y0<4294967296) (h1:2147483648<=y1/\y1<4294967296) (hU0:0<=U) (hU:U<y1*4294967296+y0) :
  dv1 y1 y0 (y1*4294967296+y0) u1 u0 P U=OI y1 y0 (y1*4294967296+y0) u1 u0 P U ((U*4294967296+u1) / (y1*4294967296+y0)):=by
 obtain ⟨i1,i2,i3,i4,i5,i6⟩:=wE (U:=U) hu h0 h1 hU0 hU
 unfold dv1
 rw[Int.tdiv_eq_ediv_of_nonneg hU0]
 have hm:U / y1*y1<=U:=by omega
 have hm0:0<=U / y1*y1:=Int.mul_nonneg i2 (by omega)
 rw[aU (x:=U / y1) i2 (by omega),aU (x:=U / y1*y1) hm0 (by omega),aU (x:=U - U / y1*y1) (by omega) (by omega)]
 refine wy (α:=Int×Int×PUnit) (enc:=fun q r=>(q,r,PUnit.unit)) (dec:=fun x=>x.1) (fun _ _=>rfl) hu.1 h0 h1 hU0 (by omega) ?_ ?_ i1 i2 i3 i4 i5 i6
 ·intro again q r g1 g2 g3 g4 g5
  have e1:0<=q*y0:=Int.mul_nonneg (by omega) h0.1
  have e2:q*y0<=4294967297*4294967295:=Int.mul_le_mul g2 (by omega) h0.1 (by omega)
  simp only
  rw[aU (x:=q*y0) e1 (by omega),aU (x:=4294967296*r) (by omega) (by omega),aU (x:=4294967296*r+u1) (by omega) (by omega),aU (x:=r+y1) (by omega) (by omega),aU (x:=q - 1) (by omega) (by omega)]
  have e:(bif decide (q>=4294967296) then true else decide (q*y0>4294967296*r+u1))=true:=by
   rcases g5 with ht | ht
   ·rw[z7 ht];rfl
   ·rw[z7 ht];cases decide (q>=4294967296)<;>rfl
  rw[e,cT]
 ·intro again q r g1 g2 g3 g4 g5
  have e1:0<=q*y0:=Int.mul_nonneg (by omega) h0.1
  have e2:q*y0<=4294967297*4294967295:=Int.mul_le_mul (by omega) (by omega) h0.1 (by omega)
  simp only
  rw[aU (x:=q*y0) e1 (by omega),aU (x:=4294967296*r) (by omega) (by omega),aU (x:=4294967296*r+u1) (by omega) (by omega)]
  rw[z8 (show ¬ q>=4294967296 by omega),z8 g5,cF,cF]
theorem Sv {U W Y P:Nat} (hY:9223372036854775808<=Y) (hY2:Y<18446744073709551616) (hW:W<18446744073709551616) (hU:U<Y) :
  dv1 ((Y:Int) / 4294967296) ((Y:Int) % 4294967296) (Y:Int) ((W:Int) / 4294967296) ((W:Int) % 4294967296) (P:Int) (U:Int)=some ((((U*18446744073709551616+W) / Y:Nat):Int),(((U*18446744073709551616+W) % Y / P:Nat):Int),()):=by
 have eY:(Y:Int) / 4294967296*4294967296+(Y:Int) % 4294967296=Y:=by omega
 have h1:=Py (y1:=(Y:Int) / 4294967296) (y0:=(Y:Int) % 4294967296) (u1:=(W:Int) / 4294967296) (u0:=(W:Int) % 4294967296) (P:=(P:Int)) (U:=(U:Int)) (by omega) (by omega) (by omega) (by omega) (by omega)
 rw[eY] at h1
 rw[h1]
 unfold OI
 obtain ⟨A,hA⟩:∃A:Nat,A=U*4294967296+W / 4294967296:=⟨_,rfl⟩
 have hAi:(U:Int)*4294967296+(W:Int) / 4294967296=(A:Int):=by omega
 rw[hAi]
 have hq1:A / Y<4294967296:=(Nat.div_lt_iff_lt_mul (by omega)).2 (by omega)
 have d1:=Nat.div_add_mod A Y
 have d2:=Nat.mod_lt A (show Y>0 by omega)
 rw[show (A:Int) / (Y:Int)=((A / Y:Nat):Int) from rfl]
 have hun:IntKind.wrap .u64 (IntKind.wrap .u64 (IntKind.wrap .u64 ((U:Int)*4294967296)+(W:Int) / 4294967296) - IntKind.wrap .u64 (((A / Y:Nat):Int)*(Y:Int)))=((A % Y:Nat):Int):=by
  rw[<-Int.natCast_mul,Nat.mul_comm (A / Y)]
  generalize A / Y=q1 at *
  generalize Y*q1=m at *
  rw[IntKind.wrap_u64,IntKind.wrap_u64,IntKind.wrap_u64,IntKind.wrap_u64]
  omega
 rw[hun]
 have h2:=Qd (y1:=(Y:Int) / 4294967296) (y0:=(Y:Int) % 4294967296) (u0:=(W:Int) % 4294967296) (P:=(P:Int)) (q1:=((A / Y:Nat):Int)) (un:=((A % Y:Nat):Int)) (by omega) (by omega) (by omega) (by omega) (by omega)
 rw[eY] at h2
 rw[h2]
 unfold OL
 obtain ⟨B,hB⟩:∃B:Nat,B=A % Y*4294967296+W % 4294967296:=⟨_,rfl⟩
 have hBi:((A % Y:Nat):Int)*4294967296+(W:Int) % 4294967296=(B:Int):=by omega
 rw[hBi,show (B:Int) / (Y:Int)=((B / Y:Nat):Int) from rfl]
 have hq0:B / Y<4294967296:=(Nat.div_lt_iff_lt_mul (by omega)).2 (by omega)
 have d3:=Nat.div_add_mod B Y
 have d4:=Nat.mod_lt B (show Y>0 by omega)
 have hN:U*18446744073709551616+W=(A / Y*4294967296+B / Y)*Y+B % Y:=by
  rw[Nat.add_mul,Nat.mul_right_comm,Nat.mul_comm (A / Y),Nat.mul_comm (B / Y)]
  omega
 obtain ⟨n1,n2⟩:=uU d4 hN
 rw[n1,n2]
 have hrest:IntKind.wrap .u64 (IntKind.wrap .u64 (IntKind.wrap .u64 (((A % Y:Nat):Int)*4294967296)+(W:Int) % 4294967296) - IntKind.wrap .u64 (((B / Y:Nat):Int)*(Y:Int)))=((B % Y:Nat):Int):=by
  rw[<-Int.natCast_mul,Nat.mul_comm (B / Y)]
  generalize B / Y=q0 at *
  generalize Y*q0=m at *
  generalize A % Y=r1 at *
  rw[IntKind.wrap_u64,IntKind.wrap_u64,IntKind.wrap_u64,IntKind.wrap_u64]
  omega
 rw[hrest,lI (by omega)]
 generalize A / Y=q1 at *
 generalize B / Y=q0 at *
 rw[aU (x:=(q1:Int)*4294967296) (by omega) (by omega),aU (by omega) (by omega)]
 rfl
theorem Ch (m n:Nat):Int.tmod (m:Int) (n:Int)=((m % n:Nat):Int):=by
 rw[Int.tmod_eq_emod_of_nonneg (by omega)]
 rfl
theorem jnT {α R:Type} (j:α->Option R) (f:(α->Option R)->Option R):jnK α R j f=f j:=Eq.trans rfl rfl
theorem JO {h l y:Nat} (hy:h<y) (hy2:y<18446744073709551616) (hl0:l<18446744073709551616):cO (h:Int) (l:Int) (y:Int)=some ((((h*18446744073709551616+l) / y:Nat):Int),(((h*18446744073709551616+l) % y:Nat):Int),()):=by
 simp only[cO,ov,jnT]
 rw[z8 (show ¬ (y:Int)=0 by omega),cF,z8 (show ¬ (y:Int)<=(h:Int) by omega),cF]
 have hz:nzB (y:Int)=true:=oV (by omega)
 by_cases h0:h=0
 ·subst h0
  rw[z7 (show ((0:Nat):Int)=0 from rfl),cT,hz,cT,cT,mu,Ch,Nat.zero_mul,Nat.zero_add]
  have:=Nat.div_le_self l y
  generalize l / y=d at *
  rw[aU (by omega) (by omega)]
 ·rw[z8 (show ¬ (h:Int)=0 by omega),cF]
  obtain ⟨L,e1,⟨e2,e3⟩,e4⟩:=J7 (n:=y) (by omega) hy2
  simp only[cD,gW,e1,af]
  rw[bm (x:=64 - (L:Int)) (by omega) (by omega)]
  obtain ⟨s,hs⟩:∃s:Nat,L+s=64:=⟨64 - L,by omega⟩
  have w1:IntKind.wrap .u64 (64 - (L:Int))=(s:Int):=by rw[aU (by omega) (by omega)];omega
  have w2:IntKind.wrap .u64 (64 - (s:Int))=(L:Int):=by rw[aU (by omega) (by omega)];omega
  have p2:∀k:Nat,(2:Int) ^ k=((2 ^ k:Nat):Int):=fun k=>by rw[Int.natCast_pow];rfl
  have p32:(2:Int) ^ (32:Nat)=4294967296:=by decide
  simp only[w1,w2,z9,Nat.min_eq_left (show s<=64 by omega),Nat.min_eq_left (show L<=64 by omega),p32]
  simp only[p2]
  have hPQ:2 ^ s*2 ^ L=18446744073709551616:=by rw[<-Nat.pow_add,show s+L=64 by omega]
  have hP:0<2 ^ s:=Nat.two_pow_pos s
  have hQ:0<2 ^ L:=Nat.two_pow_pos L
  have hYlt:y*2 ^ s<18446744073709551616:=by rw[<-hPQ,Nat.mul_comm (2 ^ s)];exact Nat.mul_lt_mul_of_pos_right e2 hP
  have hYge:9223372036854775808<=y*2 ^ s:=by
   have:=Nat.mul_le_mul_right (2 ^ s) e3
   rw[Nat.mul_comm (2 ^ L),hPQ,Nat.mul_assoc] at this
   omega
  have hhP:h*2 ^ s+2 ^ s<=y*2 ^ s:=by rw[<-Nat.succ_mul];exact Nat.mul_le_mul_right _ hy
  have hlQ:l / 2 ^ L<2 ^ s:=by rw[Nat.div_lt_iff_lt_mul hQ,hPQ];exact hl0
  have hlor:IntKind.wrap .u64 ((Nat.lor (Int.toNat (IntKind.wrap .u64 ((h:Int)*((2 ^ s:Nat):Int)) % Int.ofNat 18446744073709551616)) (Int.toNat (Int.fdiv (l:Int) ((2 ^ L:Nat):Int) % Int.ofNat 18446744073709551616)):Nat):Int)=((h*2 ^ s+l / 2 ^ L:Nat):Int):=by
   have a1:IntKind.wrap .u64 ((h:Int)*((2 ^ s:Nat):Int))=((h*2 ^ s:Nat):Int):=by rw[<-Int.natCast_mul,aU (by omega) (by omega)]
   have a2:Int.fdiv (l:Int) ((2 ^ L:Nat):Int)=((l / 2 ^ L:Nat):Int):=by rw[lI (by omega)];rfl
   have a3:∀n:Nat,n<18446744073709551616->Int.toNat ((n:Int) % Int.ofNat 18446744073709551616)=n:=fun n hn=>by
    rw[show Int.ofNat 18446744073709551616=(18446744073709551616:Int) from rfl];omega
   rw[a1,a2,a3 (h*2 ^ s) (by omega),a3 (l / 2 ^ L) (by omega),MA hlQ]
   exact aU (Int.natCast_nonneg _) (by
    have h5:h*2 ^ s+l / 2 ^ L<18446744073709551616:=by omega
    exact Int.ofNat_lt.2 h5)
  have hlo:IntKind.wrap .u64 ((l:Int)*((2 ^ s:Nat):Int))=((l % 2 ^ L*2 ^ s:Nat):Int):=by
   rw[<-Int.natCast_mul,IntKind.wrap_u64]
   have a1:l*2 ^ s=(l / 2 ^ L)*18446744073709551616+l % 2 ^ L*2 ^ s:=by
    rw[<-hPQ,Nat.mul_comm (2 ^ s),<-Nat.mul_assoc,<-Nat.add_mul,Nat.mul_comm (l / 2 ^ L),Nat.div_add_mod]
   have a2:l % 2 ^ L*2 ^ s<18446744073709551616:=by rw[<-hPQ,Nat.mul_comm (2 ^ s)];exact Nat.mul_lt_mul_of_pos_right (Nat.mod_lt _ hQ) hP
   rw[a1]
   generalize l / 2 ^ L=A at *
   generalize l % 2 ^ L*2 ^ s=B at *
   omega
  have hlolt:l % 2 ^ L*2 ^ s<18446744073709551616:=by rw[<-hPQ,Nat.mul_comm (2 ^ s)];exact Nat.mul_lt_mul_of_pos_right (Nat.mod_lt _ hQ) hP
  have hN:(h*18446744073709551616+l)*2 ^ s=(h*2 ^ s+l / 2 ^ L)*18446744073709551616+l % 2 ^ L*2 ^ s:=by
   have a1:l*2 ^ s=(l / 2 ^ L)*18446744073709551616+l % 2 ^ L*2 ^ s:=by
    rw[<-hPQ,Nat.mul_comm (2 ^ s),<-Nat.mul_assoc,<-Nat.add_mul,Nat.mul_comm (l / 2 ^ L),Nat.div_add_mod]
   rw[Nat.add_mul,a1,Nat.add_mul,Nat.mul_right_comm]
   omega
  have hY:IntKind.wrap .u64 ((y:Int)*((2 ^ s:Nat):Int))=((y*2 ^ s:Nat):Int):=by rw[<-Int.natCast_mul,aU (by omega) (by omega)]
  have hdiv:(h*18446744073709551616+l) / y=((h*2 ^ s+l / 2 ^ L)*18446744073709551616+l % 2 ^ L*2 ^ s) / (y*2 ^ s):=by rw[<-hN,Nat.mul_div_mul_right _ _ hP]
  have hmod:((h*18446744073709551616+l) % y)*2 ^ s=((h*2 ^ s+l / 2 ^ L)*18446744073709551616+l % 2 ^ L*2 ^ s) % (y*2 ^ s):=by rw[<-hN,Nat.mul_mod_mul_right]
  rw[hlor,hlo,hY]
  have hU:h*2 ^ s+l / 2 ^ L<y*2 ^ s:=by omega
  have hm:(h*18446744073709551616+l) % y=((h*2 ^ s+l / 2 ^ L)*18446744073709551616+l % 2 ^ L*2 ^ s) % (y*2 ^ s) / 2 ^ s:=by rw[<-hmod,Nat.mul_div_cancel _ hP]
  rw[hdiv,hm]
  generalize h*2 ^ s+l / 2 ^ L=U at *
  generalize l % 2 ^ L*2 ^ s=W at *
  generalize y*2 ^ s=Y at *
  generalize 2 ^ s=P at *
  clear e2 e3 e1 hlor hlo hN hdiv hmod hm hlQ hPQ hhP hY
  have hdv:=Sv (P:=P) hYge hYlt hlolt hU
  rw[<-hdv]
  have c1:decide ((0:Int)<=(s:Int))=true:=z7 (by omega)
  have c2:decide ((0:Int)<=(L:Int))=true:=z7 (by omega)
  have c3:decide ((0:Int)<=(32:Int))=true:=rfl
  have c4:nzB ((Y:Int) / 4294967296)=true:=oV (by omega)
  have m1:∀n:Nat,n<18446744073709551616->IntKind.wrap .u64 ((Nat.land (Int.toNat ((n:Int) % Int.ofNat 18446744073709551616)) (Int.toNat ((4294967295:Int) % Int.ofNat 18446744073709551616)):Nat):Int)=(n:Int) % 4294967296:=fun n hn=>by
   rw[qG (by omega) (by omega),aU (by omega) (by omega)]
  simp only[lI (show (0:Int)<=4294967296 by omega),c1,c2,c3,c4,m1 Y hYlt,m1 W hlolt,eu,Bool.not_not,Bool.and_self,cT]
  rfl
end
end Go.Proofs.YtegbncajloeepaaGreat

namespace Go.Proofs.YtegbncajloeepaaGreat
open Tryz Dn Dn.Sh
theorem FG {n b:Nat} (hb0:0<b) (hb:b<18446744073709551616) (hn:n<340282366920938463463374607431768211456):eo (hl n) (b:Int)=some (hl (n / b),((n % b:Nat):Int),()):=by
 have hz:nzB (b:Int)=true:=oV (by omega)
 obtain ⟨h,l,hh,hl',hnn⟩:∃h l:Nat,h=n / 18446744073709551616/\l=n % 18446744073709551616/\n=h*18446744073709551616+l:=⟨_,_,rfl,rfl,by omega⟩
 have e:hl n=((h:Int),(l:Int)):=by unfold hl;rw[hh,hl']
 rw[e]
 simp only[eo,oI]
 rw[hz,Ch,JO (Nat.mod_lt h hb0) hb (by omega),af]
 have d1:=Nat.div_add_mod h b
 have d2:=Nat.mod_lt h hb0
 obtain ⟨A,hA⟩:∃A,A=h % b*18446744073709551616+l:=⟨_,rfl⟩
 rw[<-hA]
 have d3:=Nat.div_add_mod A b
 have d4:=Nat.mod_lt A hb0
 have d5:A / b<18446744073709551616:=(Nat.div_lt_iff_lt_mul hb0).2 (by
  have:(h % b+1)*18446744073709551616<=b*18446744073709551616:=Nat.mul_le_mul_right _ d2
  rw[Nat.mul_comm 18446744073709551616 b]
  omega)
 have hN:n=(h / b*18446744073709551616+A / b)*b+A % b:=by
  have e1:(h / b*18446744073709551616+A / b)*b=b*(h / b)*18446744073709551616+b*(A / b):=by grind
  rw[e1,hnn]
  generalize b*(h / b)=x at *
  generalize b*(A / b)=y at *
  generalize A % b=r at *
  generalize h % b=r1 at *
  clear e hz hb0 hb hn hh hl' hnn d5 e1
  omega
 obtain ⟨n1,n2⟩:=uU d4 hN
 rw[n1,n2,mu]
 have d6:h / b<18446744073709551616:=Nat.lt_of_le_of_lt (Nat.div_le_self h b) (by omega)
 generalize h / b=x at *
 generalize A / b=y at *
 rw[aU (x:=(x:Int)) (by omega) (by omega)]
 unfold hl
 rw[show (x*18446744073709551616+y) / 18446744073709551616=x by omega,show (x*18446744073709551616+y) % 18446744073709551616=y by omega]
 rfl
theorem Fa {na nb:Int} {da A B:Nat} (ha:Nat.gcd na.natAbs da=1) (hA:A∣da) (hAB:Nat.gcd A B=1):Nat.gcd (na*B+nb*A).natAbs A=1:=by
 have d1:=Nat.gcd_dvd_left (na*B+nb*A).natAbs A
 have d2:=Nat.gcd_dvd_right (na*B+nb*A).natAbs A
 generalize Nat.gcd (na*B+nb*A).natAbs A=d at *
 have e1:(d:Int)∣na*B+nb*A:=Int.ofNat_dvd_left.2 d1
 have e2:(d:Int)∣nb*A:=Int.dvd_mul_of_dvd_right (Int.ofNat_dvd.2 d2)
 have e3:(d:Int)∣na*B:=(Int.dvd_iff_dvd_of_dvd_add e1).2 e2
 have e4:d∣na.natAbs*B:=by
  have:=Int.ofNat_dvd_left.1 e3
  rwa [Int.natAbs_mul,Int.natAbs_natCast] at this
 have e5:Nat.Coprime d na.natAbs:=(Nat.Coprime.coprime_dvd_right (Nat.dvd_trans d2 hA) ha).symm
 have e6:d∣B:=Nat.Coprime.dvd_of_dvd_mul_left e5 e4
 have e7:=Nat.dvd_gcd d2 e6
 rw[hAB] at e7
 exact Nat.dvd_one.1 e7
theorem Gy {na nb:Int} {da db g A B:Nat} (ha:Nat.gcd na.natAbs da=1) (hb:Nat.gcd nb.natAbs db=1) (h1:da=A*g) (h2:db=B*g) (hAB:Nat.gcd A B=1) (hg:0<g) (hA:0<A) (hB:0<B) {c:Nat} (hc:c=Nat.gcd g (na*B+nb*A).natAbs) :
  mkRat na da+mkRat nb db=mkRat (na*B+nb*A) (A*db)/\Nat.gcd ((na*B+nb*A).natAbs / c) (A*(db / c))=1/\0<c/\c∣(na*B+nb*A).natAbs/\c∣db:=by
 have hc0:0<c:=by rw[hc];exact Nat.gcd_pos_of_pos_left _ hg
 have k1:Nat.gcd (na*B+nb*A).natAbs A=1:=Fa ha ⟨g,h1⟩ hAB
 have k2:Nat.gcd (na*B+nb*A).natAbs B=1:=by
  rw[Int.add_comm]
  exact Fa hb ⟨g,h2⟩ (by rw[Nat.gcd_comm];exact hAB)
 have c1:c∣(na*B+nb*A).natAbs:=by rw[hc];exact Nat.gcd_dvd_right _ _
 have c2:c∣g:=by rw[hc];exact Nat.gcd_dvd_left _ _
 refine ⟨?_,?_,hc0,c1,by rw[h2];exact Nat.dvd_trans c2 (Nat.dvd_mul_left g B)⟩
 ·have p1:0<A*g:=Nat.mul_pos hA hg
  have p2:0<B*g:=Nat.mul_pos hB hg
  have p3:0<A*(B*g):=Nat.mul_pos hA p2
  rw[Rat.mkRat_add_mkRat _ _ (by omega) (by omega),h1,h2,Rat.mkRat_eq_iff (Nat.ne_of_gt (Nat.mul_pos p1 p2)) (by omega)]
  simp only[Int.natCast_mul]
  grind
 ·have c3:Nat.gcd ((na*B+nb*A).natAbs / c) (g / c)=1:=by
   rw[hc,Nat.gcd_comm]
   exact Nat.gcd_div_gcd_div_gcd_of_pos_left hg
  have hdb:db / c=B*(g / c):=by rw[h2,Nat.mul_div_assoc _ c2]
  have dv:(na*B+nb*A).natAbs / c∣(na*B+nb*A).natAbs:=Nat.div_dvd_of_dvd c1
  rw[hdb]
  exact Nat.Coprime.mul_right (Nat.Coprime.coprime_dvd_left dv k1) (Nat.Coprime.mul_right (Nat.Coprime.coprime_dvd_left dv k2) c3)
theorem Eo {a b:Fq} (ha:okF a) (hb:okF b):ca a b=some (tI (qv a+qv b)):=by
 obtain ⟨na,da'⟩:=a
 obtain ⟨nb,db'⟩:=b
 have ha':=ha
 have hb':=hb
 unfold okF at ha' hb'
 simp only at ha' hb'
 obtain ⟨⟨a1,a2⟩,⟨a3,a4⟩,a5⟩:=ha'
 obtain ⟨⟨b1,b2⟩,⟨b3,b4⟩,b5⟩:=hb'
 obtain ⟨da,rfl⟩:∃da:Nat,da'=da:=⟨da'.toNat,by omega⟩
 obtain ⟨db,rfl⟩:∃db:Nat,db'=db:=⟨db'.toNat,by omega⟩
 rw[Int.natAbs_natCast] at a5 b5
 simp only[ca,qQ,kL,z7 ha,z7 hb,af,Bool.not_true,Bool.not_false,Bool.or_true,cT,cF,jnT]
 rw[aU (x:=(da:Int)) (by omega) (by omega),aU (x:=(db:Int)) (by omega) (by omega),xV _ _ (by omega),af,py (by omega) (by omega),af,py (by omega) (by omega)]
 have hg:0<Nat.gcd da db:=Nat.gcd_pos_of_pos_left _ (by omega)
 have hgl:Nat.gcd da db<=da:=Nat.gcd_le_left _ (by omega)
 obtain ⟨A,hA⟩:∃A,A=da / Nat.gcd da db:=⟨_,rfl⟩
 obtain ⟨B,hB⟩:∃B,B=db / Nat.gcd da db:=⟨_,rfl⟩
 have hAg:da=A*Nat.gcd da db:=by rw[hA,Nat.div_mul_cancel (Nat.gcd_dvd_left _ _)]
 have hBg:db=B*Nat.gcd da db:=by rw[hB,Nat.div_mul_cancel (Nat.gcd_dvd_right _ _)]
 have hAB:Nat.gcd A B=1:=by rw[hA,hB];exact Nat.gcd_div_gcd_div_gcd_of_pos_left (by omega)
 have hA0:0<A:=by rw[hA];exact Nat.div_pos (Nat.gcd_le_left _ (by omega)) hg
 have hB0:0<B:=by rw[hB];exact Nat.div_pos (Nat.gcd_le_right _ (by omega)) hg
 have hAl:A<=da:=by rw[hA];exact Nat.div_le_self _ _
 have hBl:B<=db:=by rw[hB];exact Nat.div_le_self _ _
 have hz:nzB ((Nat.gcd da db:Nat):Int)=true:=oV (by omega)
 rw[hz,cT,mu,mu,<-hA,<-hB,aU (x:=(A:Int)) (by omega) (by omega),aU (x:=(B:Int)) (by omega) (by omega)]
 have x1:na.natAbs*B<=1152921504606846976*1152921504606846976:=Nat.mul_le_mul (by omega) (by omega)
 have y1:nb.natAbs*A<=1152921504606846976*1152921504606846976:=Nat.mul_le_mul (by omega) (by omega)
 rw[iW (by omega) (by omega),af,af,cT,iW (by omega) (by omega),af]
 have hsum:=Gy (na:=na) (nb:=nb) a5 b5 hAg hBg hAB hg hA0 hB0 rfl
 generalize Nat.gcd da db=g at *
 have hv:qv (na,(da:Int))+qv (nb,(db:Int))=mkRat na da+mkRat nb db:=rfl
 rw[hv,hsum.1]
 simp only[eu,Bool.not_not,cT]
 have tail:∀(s:Bool) (N:Nat),N<=2658455991569831745807614120560689152->sgn s N=na*B+nb*A->(bif decide ((hl N).1=0)&&(decide ((hl N).2=0)&&true) then some (((0:Int),(1:Int)),(0:Int),PUnit.unit) else
   ah (eo (hl N) (g:Int)) fun t_5=>ah (bi (g:Int) t_5.2.1) fun t_1=>ah (eo (hl N) t_1) fun t_6=>bif nzB t_1 then ah (aE (A:Int) (IntKind.wrap .u64 (Int.tdiv (db:Int) t_1))) fun t =>
    bif bif decide (t_6.1.1>0) then true else decide (t.1>0) then some (((0:Int),(0:Int)),(5:Int),PUnit.unit) else ah (aY s t_6.1.2 t.2) fun t=>some (t.1,t.2.1,PUnit.unit) else none)=some (tI (mkRat (na*B+nb*A) (A*db))):=by
  intro s N hN hs
  have hNT:(na*B+nb*A).natAbs=N:=by rw[<-hs];unfold sgn;split<;>simp
  rw[hNT] at hsum
  rw[wq (by omega)]
  by_cases h0:N=0
  ·rw[z7 h0,cT,<-hs,h0,show sgn s 0=0 by unfold sgn;cases s<;>rfl,Rat.zero_mkRat]
   rfl
  ·obtain ⟨c,hc⟩:∃c,c=Nat.gcd g N:=⟨_,rfl⟩
   rw[<-hc] at hsum
   obtain ⟨_,s2,s3,s4,s5⟩:=hsum
   have hcg:c<=g:=by rw[hc];exact Nat.gcd_le_left _ hg
   rw[z8 h0,cF,FG hg (by omega) (by omega),af,xV _ _ (by have:=Nat.mod_lt N hg;generalize N % g=w at *;omega),af,Nat.gcd_comm,<-Nat.gcd_rec,<-hc,FG s3 (by omega) (by omega),af,oV (by omega),cT,mu]
   have hdc:db / c<=db:=Nat.div_le_self _ _
   have hdc0:0<db / c:=Nat.div_pos (Nat.le_of_dvd (by omega) s5) s3
   rw[aU (by omega) (by generalize db / c=w at *;omega),iW (by omega) (by generalize db / c=w at *;omega),af]
   have hNc:N / c<=N:=Nat.div_le_self _ _
   have hval:mkRat (na*B+nb*A) (A*db)=mkRat (sgn s (N / c)) (A*(db / c)):=by
    rw[<-hs]
    refine yR (Nat.mul_pos hA0 (by omega)) (Nat.mul_pos hA0 hdc0) ?_
    obtain ⟨x,rfl⟩:=s4
    obtain ⟨y,rfl⟩:=s5
    rw[Nat.mul_div_cancel_left _ s3,Nat.mul_div_cancel_left _ s3]
    grind
   rw[hval,zO (Nat.mul_pos hA0 hdc0) s2]
   have hden:A*(db / c)<=1152921504606846976*1152921504606846976:=Nat.mul_le_mul (by omega) (by omega)
   generalize N / c=n at *
   generalize A*(db / c)=d at *
   by_cases hn:n<18446744073709551616
   ·by_cases hd:d<18446744073709551616
    ·rw[ga hn,ga hd]
     simp only
     rw[show decide ((0:Int)>0)=false from rfl,cF,cF,zz _ _ _ hn hd,af]
    ·rw[ga hn]
     simp only
     rw[show decide ((0:Int)>0)=false from rfl,z7 (Bb hd),cF,cT,if_neg (by omega)]
   ·rw[z7 (Bb hn),cT,cT,if_neg (by omega)]
 have sx:∀{n:Int} {s:Bool},s=decide (n<0)->n=sgn s n.natAbs:=fun {n s} h=>by rw[h];exact io n
 by_cases hsg:decide (na<0)=decide (nb<0)
 ·rw[z7 hsg,cT,Iz (by omega),af]
  refine tail _ _ (by omega) ?_
  have e1:na=sgn (decide (na<0)) na.natAbs:=io na
  have e2:nb=sgn (decide (na<0)) nb.natAbs:=by rw[hsg];exact io nb
  generalize na.natAbs=m at *
  generalize nb.natAbs=n at *
  generalize decide (na<0)=s at *
  rw[e1,e2]
  unfold sgn
  cases s
  ·simp only[Bool.false_eq_true,if_false]
   rw[Int.natCast_add,Int.natCast_mul,Int.natCast_mul]
  ·simp only[if_true]
   rw[Int.natCast_add,Int.natCast_mul,Int.natCast_mul]
   grind
 ·have e1:na=sgn (decide (na<0)) na.natAbs:=io na
  have e2:nb=sgn (!decide (na<0)) nb.natAbs:=by
   have:(!decide (na<0))=decide (nb<0):=by
    clear tail sx hsum hv ha hb
    revert hsg
    cases decide (na<0)<;>cases decide (nb<0)<;>simp
   rw[this];exact io nb
  rw[z8 hsg,cF,xP,af]
  by_cases hlt:na.natAbs*B<nb.natAbs*A
  ·rw[z7 hlt,cT,zd (by omega) (by omega),af]
   refine tail _ _ (by omega) ?_
   generalize na.natAbs=m at *
   generalize nb.natAbs=n at *
   generalize decide (na<0)=s at *
   rw[e1,e2]
   have e3:(((n*A - m*B:Nat)):Int)=(n:Int)*A - (m:Int)*B:=by rw[Int.ofNat_sub (Nat.le_of_lt hlt),Int.natCast_mul,Int.natCast_mul]
   unfold sgn
   cases s
   ·simp only[Bool.false_eq_true,if_false,Bool.not_false,if_true]
    grind
   ·simp only[if_true,Bool.not_true,Bool.false_eq_true,if_false]
    grind
  ·rw[z8 hlt,cF,zd (by omega) (by omega),af]
   refine tail _ _ (by omega) ?_
   generalize na.natAbs=m at *
   generalize nb.natAbs=n at *
   generalize decide (na<0)=s at *
   rw[e1,e2]
   have e3:(((m*B - n*A:Nat)):Int)=(m:Int)*B - (n:Int)*A:=by rw[Int.ofNat_sub (Nat.not_lt.1 hlt),Int.natCast_mul,Int.natCast_mul]
   unfold sgn
   cases s
   ·simp only[Bool.false_eq_true,if_false,Bool.not_false,if_true]
    grind
   ·simp only[if_true,Bool.not_true,Bool.false_eq_true,if_false]
    grind
end Go.Proofs.YtegbncajloeepaaGreat

namespace Go.Proofs.YtegbncajloeepaaGreat
namespace Dn
theorem gF {σ α R:Type} {F:(α->Option R)->α->Option R} (n:Nat) (hn:n<=1180591620717411303423) (enc:Nat->σ->α) (b:Nat->σ->(σ->Option R)->Option R) (f:σ->Option R)
  (hb:∀again (i:Nat) s,i<n->F again (enc i s)=b i s (fun s'=>again (enc (i+1) s'))) (hf:∀again s,F again (enc n s)=f s) (s:σ) :
  lpK α R F (enc 0 s)=upF b f n 0 s:=Jy n hn enc b f hb hf s
def ji {α:Type} (p:α->Bool):List α->Int->Int
 | [],_=> -1
 | a ::l,i=>bif p a then i else ji p l (i+1)
theorem xL {α:Type} {p:α->Bool}:∀{l:List α} {i:Int},0<=i->(ji p l i<0↔∀a ∈ l,p a=false)
 | [],i,h=>by simp[ji]
 | a ::l,i,h=>by
  unfold ji
  cases hp:p a with
  | true=>simp only[cond_true,List.mem_cons,forall_eq_or_imp,hp];simp;omega
  | false=>simp only[cond_false,List.mem_cons,forall_eq_or_imp,hp,true_and];exact xL (by omega)
theorem Hf {α:Type} {p:α->Bool} {l:List α} {d:α} {i:Nat} (h:i<l.length):ji p (l.drop i) i=bif p (l.getD i d) then (i:Int) else ji p (l.drop (i+1)) ((i:Int)+1):=by
 rw[List.drop_eq_getElem_cons h,cm h]
 rfl
theorem FI {α:Type} {p:α->Bool} {d:α}:∀{l:List α} {i:Int},0<=i->0<=ji p l i->i<=ji p l i/\ji p l i<i+l.length/\p (l.getD (ji p l i - i).toNat d)=true
 | [],i,_,h=>by simp[ji] at h
 | a ::l,i,hi,h=>by
  unfold ji at h ⊢
  cases hp:p a with
  | true=>simp[hp];omega
  | false =>
   rw[hp,cond_false] at h
   obtain ⟨h1,h2,h3⟩:=FI (d:=d) (show 0<=i+1 by omega) h
   rw[cond_false]
   refine ⟨by omega,by simp only[List.length_cons];omega,?_⟩
   have e:(ji p l (i+1) - i).toNat=(ji p l (i+1) - (i+1)).toNat+1:=by omega
   rw[e,List.getD_cons_succ]
   exact h3
theorem mI {α:Type} {f:(α×Unit)->Option Bool} {d:α} {p:α->Bool} {l:List α} (hl:l.length<=1000000) (h:∀a,a ∈ l->f (a,())=some (p a)) :
  lpK (Int×PUnit) Int (fun (again:Int×PUnit->Option Int) (x:Int×PUnit)=>bif decide (x.1<(↑(List.length l):Int)) then bif inB x.1 (List.length l) then ah (f
   (List.getD l (Int.toNat x.1) d,PUnit.unit)) fun (t:Bool)=>bif t then some x.1 else again
   (IntKind.wrap .i64 (x.1+(1:Int)),PUnit.unit) else none else some (-1:Int)) ((0:Int),PUnit.unit)=some (ji p l 0):=by
 refine iL (g:=fun _=>some (ji p l 0)) (I:=fun (x:Int×PUnit)=>0<=x.1/\x.1<=l.length/\ji p (l.drop x.1.toNat) x.1=ji p l 0) (μ:=fun (x:Int×PUnit)=>((l.length:Int) - x.1).toNat) ?_ ⟨by simp,by simp only;omega,rfl⟩ (by simp only;omega)
 rintro ⟨i,_⟩ rec ⟨h0,h1,h2⟩ hrec
 simp only at h0 h1 h2 ⊢
 by_cases hi:i<l.length
 ·obtain ⟨n,rfl⟩:∃n:Nat,i=n:=⟨i.toNat,by omega⟩
  rw[z7 hi,cond_true,td h0 hi,cond_true,z9,h _ (by rw[cm (by omega)];exact List.getElem_mem (by omega)),af,bm (by omega) (by omega)]
  rw[z9,Hf (d:=d) (by omega)] at h2
  cases hp:p (l.getD n d) with
  | true=>rw[hp,cond_true] at h2;rw[cond_true,h2]
  | false=>rw[hp,cond_false] at h2;rw[cond_false];exact hrec _ ⟨by simp only;omega,by simp only;omega,h2⟩ (by simp only;omega)
 ·rw[z8 hi,cond_false]
  have e:i.toNat=l.length:=by omega
  rw[e,List.drop_length] at h2
  rw[<-h2]
  rfl
theorem zF {α:Type} {p:α->Bool} {d:α} {l:List α} (hl:l.length<=1000000) :
  lpK (Int×PUnit) Int (fun (again:Int×PUnit->Option Int) (x:Int×PUnit)=>bif decide (x.1<(↑(List.length l):Int)) then bif inB x.1 (List.length l) then bif p
   (List.getD l (Int.toNat x.1) d) then some x.1 else again
   (IntKind.wrap .i64 (x.1+(1:Int)),PUnit.unit) else none else some (-1:Int)) ((0:Int),PUnit.unit)=some (ji p l 0) :=
 mI (f:=fun a=>some (p a.1)) hl fun _ _=>rfl
theorem jz {R σ:Type} {b:Nat->σ->(σ->Option R)->Option R} {f:σ->Option R} {p:Nat->Bool} {r:Option R} {s:σ} (n:Nat) (hb:∀i (k:σ->Option R),i<n->b i s k=bif p i then k s else r) :
  ∀(k i:Nat),i+k<=n->upF b f k i s=bif (List.range' i k).all p then f s else r
 | 0,i,_=>rfl
 | k+1,i,h=>by
  simp only[upF,hb i _ (by omega),List.range'_succ,List.all_cons]
  cases hp:p i with
  | true=>exact jz n hb k (i+1) (by omega)
  | false=>rfl
end Dn
end Go.Proofs.YtegbncajloeepaaGreat

namespace Go.Proofs.YtegbncajloeepaaGreat
open Tryz Dn Dn.Sh
theorem L6 {na nb:Int} {A B:Nat} (h:decide (na<0)=decide (nb<0)):sgn (decide (na<0)) (na.natAbs*B+nb.natAbs*A)=na*B+nb*A:=by
 have e1:na=sgn (decide (na<0)) na.natAbs:=io na
 have e2:nb=sgn (decide (na<0)) nb.natAbs:=by rw[h];exact io nb
 generalize na.natAbs=m at *
 generalize nb.natAbs=n at *
 generalize decide (na<0)=s at *
 rw[e1,e2]
 unfold sgn
 cases s
 ·simp only[Bool.false_eq_true,if_false]
  rw[Int.natCast_add,Int.natCast_mul,Int.natCast_mul]
 ·simp only[if_true]
  rw[Int.natCast_add,Int.natCast_mul,Int.natCast_mul]
  grind
theorem Db {na nb:Int} (h:¬ decide (na<0)=decide (nb<0)):nb=sgn (!decide (na<0)) nb.natAbs:=by
 have:(!decide (na<0))=decide (nb<0):=by
  revert h
  cases decide (na<0)<;>cases decide (nb<0)<;>simp
 rw[this];exact io nb
theorem HF {na nb:Int} {A B:Nat} (h:¬ decide (na<0)=decide (nb<0)) (hlt:na.natAbs*B<nb.natAbs*A):sgn (!decide (na<0)) (nb.natAbs*A - na.natAbs*B)=na*B+nb*A:=by
 have e1:na=sgn (decide (na<0)) na.natAbs:=io na
 have e2:=Db h
 generalize na.natAbs=m at *
 generalize nb.natAbs=n at *
 generalize decide (na<0)=s at *
 rw[e1,e2]
 have e3:(((n*A - m*B:Nat)):Int)=(n:Int)*A - (m:Int)*B:=by rw[Int.ofNat_sub (Nat.le_of_lt hlt),Int.natCast_mul,Int.natCast_mul]
 unfold sgn
 cases s
 ·simp only[Bool.false_eq_true,if_false,Bool.not_false,if_true]
  grind
 ·simp only[if_true,Bool.not_true,Bool.false_eq_true,if_false]
  grind
theorem Kb {na nb:Int} {A B:Nat} (h:¬ decide (na<0)=decide (nb<0)) (hlt:¬ na.natAbs*B<nb.natAbs*A):sgn (decide (na<0)) (na.natAbs*B - nb.natAbs*A)=na*B+nb*A:=by
 have e1:na=sgn (decide (na<0)) na.natAbs:=io na
 have e2:=Db h
 generalize na.natAbs=m at *
 generalize nb.natAbs=n at *
 generalize decide (na<0)=s at *
 rw[e1,e2]
 have e3:(((m*B - n*A:Nat)):Int)=(m:Int)*B - (n:Int)*A:=by rw[Int.ofNat_sub (Nat.not_lt.1 hlt),Int.natCast_mul,Int.natCast_mul]
 unfold sgn
 cases s
 ·simp only[Bool.false_eq_true,if_false,Bool.not_false,if_true]
  grind
 ·simp only[if_true,Bool.not_true,Bool.false_eq_true,if_false]
  grind
theorem AO {a b:Fq} (ha:okF a) (hb:okF b):bZ a b=some (tI (qv a+qv b)):=by
 obtain ⟨na,da'⟩:=a
 obtain ⟨nb,db'⟩:=b
 have ha':=ha
 have hb':=hb
 unfold okF at ha' hb'
 simp only at ha' hb'
 obtain ⟨⟨a1,a2⟩,⟨a3,a4⟩,a5⟩:=ha'
 obtain ⟨⟨b1,b2⟩,⟨b3,b4⟩,b5⟩:=hb'
 obtain ⟨da,rfl⟩:∃da:Nat,da'=da:=⟨da'.toNat,by omega⟩
 obtain ⟨db,rfl⟩:∃db:Nat,db'=db:=⟨db'.toNat,by omega⟩
 simp only[bZ,qj]
 rw[fX (by omega) (by omega),af,fX (by omega) (by omega),af,Int.natAbs_natCast,oO (by omega) (by omega),af,fX (by omega) (by omega),af,fX (by omega) (by omega),af,Int.natAbs_natCast,oO (by omega) (by omega),af,af,af,oO (by omega) (by omega),af]
 have x1:na.natAbs*db<=1152921504606846976*1152921504606846976:=Nat.mul_le_mul (by omega) (by omega)
 have y1:nb.natAbs*da<=1152921504606846976*1152921504606846976:=Nat.mul_le_mul (by omega) (by omega)
 have d1:da*db<=1152921504606846976*1152921504606846976:=Nat.mul_le_mul (by omega) (by omega)
 have d0:0<da*db:=Nat.mul_pos (by omega) (by omega)
 have hv:qv (na,(da:Int))+qv (nb,(db:Int))=mkRat (na*db+nb*da) (da*db):=Rat.mkRat_add_mkRat _ _ (by omega) (by omega)
 rw[hv]
 by_cases hs:decide (na<0)=decide (nb<0)
 ·rw[z7 hs,cT,Fo (by omega),af,tP (by omega) d0 (by omega),af,L6 hs]
 ·rw[z8 hs,cF,vY,af]
  by_cases hlt:na.natAbs*db<nb.natAbs*da
  ·have e2:decide (nb<0)=!decide (na<0):=by
    clear ha hb hv
    revert hs
    cases decide (na<0)<;>cases decide (nb<0)<;>simp
   rw[z7 hlt,cT,qw (by omega) (by omega),af,tP (by omega) d0 (by omega),af,e2,HF hs hlt]
  ·rw[z8 hlt,cF,qw (by omega) (by omega),af,tP (by omega) d0 (by omega),af,Kb hs hlt]
theorem Qf {n:Nat} (h:n<18446744073709551616):(decide ((hl n).1=0)&&(decide ((hl n).2=1)&&true))=decide (n=1):=by
 rw[ga h]
 simp only[decide_true,Bool.true_and,Bool.and_true]
 rw[Bool.eq_iff_iff,decide_eq_true_eq,decide_eq_true_eq]
 omega
theorem zJ {a:Fq}:cn a=some (decide (okF a)):=by
 simp only[cn,np,bv,eu,cT]
 by_cases h1:a.2<1
 ·rw[z7 h1]
  simp only[cT]
  rw[z8 (by unfold okF;omega)]
 ·rw[z8 h1]
  by_cases h2:a.2>1152921504606846976
  ·rw[z7 h2]
   simp only[cT,cF]
   rw[z8 (by unfold okF;omega)]
  ·rw[z8 h2]
   by_cases h3:a.1< -1152921504606846976
   ·rw[z7 h3]
    simp only[cT,cF]
    rw[z8 (by unfold okF;omega)]
   ·rw[z8 h3]
    by_cases h4:a.1>1152921504606846976
    ·rw[z7 h4]
     simp only[cT,cF]
     rw[z8 (by unfold okF;omega)]
    ·rw[z8 h4]
     simp only[cF]
     have hg:Nat.gcd a.1.natAbs a.2.natAbs<=a.2.natAbs:=Nat.gcd_le_right _ (by omega)
     rw[fX (by omega) (by omega),af,fX (by omega) (by omega),af,<-ga (show a.1.natAbs<18446744073709551616 by omega),<-ga (show a.2.natAbs<18446744073709551616 by omega),KB (by omega) (by omega) (by omega),af,Qf (by generalize Nat.gcd a.1.natAbs a.2.natAbs=g at *;omega)]
     congr 1
     rw[Bool.eq_iff_iff,decide_eq_true_eq,decide_eq_true_eq]
     unfold okF
     generalize Nat.gcd a.1.natAbs a.2.natAbs=g at *
     omega
theorem AD {l:List Fq} (h:l.length<=1000000):cZ l=some (l.all fun a=>decide (okF a)):=by
 simp only[cZ,qZ]
 refine (gF (α:=Int×PUnit) (σ:=Unit) l.length (by omega) (fun i _=>((i:Int),PUnit.unit)) (fun i _ K=>bif decide (okF (l.getD i (0,0))) then K () else some false) (fun _=>some true) ?_ ?_ ()).trans ?_
 ·intro again i s hi
  simp only
  rw[z7 (show (i:Int)<l.length by omega),cT,td (by omega) (by omega),cT,z9,zJ,af,bm (by omega) (by omega)]
  cases decide (okF (l.getD i (0,0)))<;>rfl
 ·intro again s
  simp only
  rw[z8 (by omega),cF]
 ·rw[jz (p:=fun i=>decide (okF (l.getD i (0,0)))) (r:=some false) l.length (fun i k hi=>rfl) l.length 0 (by omega)]
  have:((List.range' 0 l.length).all fun i=>decide (okF (l.getD i (0,0))))=l.all fun a=>decide (okF a):=by
   rw[Bool.eq_iff_iff,List.all_eq_true,List.all_eq_true]
   constructor
   ·intro hh a ha
    obtain ⟨i,hi,rfl⟩:=List.mem_iff_getElem.1 ha
    have:=hh i (List.mem_range'.2 ⟨i,hi,by omega⟩)
    rwa [cm hi] at this
   ·intro hh i hi
    obtain ⟨k,hk,rfl⟩:=List.mem_range'.1 hi
    refine hh _ ?_
    rw[cm (by omega)]
    exact List.getElem_mem _
  rw[this]
  cases l.all fun a=>decide (okF a)<;>rfl
theorem My {a b:Fq} (ha:okF a) (hb:okF b):gx a b=some (tI (qv a - qv b)):=by
 obtain ⟨h1,h2,h3⟩:=OQ hb
 simp only[gx,qd]
 rw[h1,af,AO ha h2,af,h3,<-Rat.sub_eq_add_neg]
def rX (p q:Rat):Int:=if p<q then -1 else if p=q then 0 else 1
theorem PR {m n:Nat}:(decide ((hl m).1=(hl n).1)&&(decide ((hl m).2=(hl n).2)&&true))=decide (m=n):=by
 rw[Bool.eq_iff_iff]
 simp only[z10,decide_eq_true_eq,and_true]
 unfold hl
 constructor
 ·rintro ⟨h1,h2⟩
  have h1:m / 18446744073709551616=n / 18446744073709551616:=Int.ofNat.inj h1
  have h2:m % 18446744073709551616=n % 18446744073709551616:=Int.ofNat.inj h2
  omega
 ·intro h
  rw[h]
  exact ⟨rfl,rfl⟩
theorem yZ {a b:Fq} (ha:okF a) (hb:okF b) {M N:Nat} (hM:M=a.1.natAbs*b.2.natAbs) (hN:N=b.1.natAbs*a.2.natAbs) :
  rX (qv a) (qv b)=if a.1<0 then (if b.1<0 then (if N<M then -1 else if M=N then 0 else 1) else -1) else (if b.1<0 then 1 else (if M<N then -1 else if M=N then 0 else 1)):=by
 have e1:=QJ ha hb
 have e2:qv a=qv b↔a.1*b.2=b.1*a.2:=by
  have h1:=J8 ha hb
  have h2:=J8 hb ha
  constructor
  ·intro h
   have h3:=h1.1 (by rw[h];exact Rat.le_refl)
   have h4:=h2.1 (by rw[h];exact Rat.le_refl)
   omega
  ·intro h
   exact Rat.le_antisymm (h1.2 (by omega)) (h2.2 (by omega))
 obtain ⟨⟨a1,_⟩,_,_⟩:=ha
 obtain ⟨⟨b1,_⟩,_,_⟩:=hb
 have eM:(M:Int)=(a.1.natAbs:Int)*b.2:=by rw[hM,Int.natCast_mul,show ((b.2.natAbs:Nat):Int)=b.2 by omega]
 have eN:(N:Int)=(b.1.natAbs:Int)*a.2:=by rw[hN,Int.natCast_mul,show ((a.2.natAbs:Nat):Int)=a.2 by omega]
 have sa:a.1*b.2=if a.1<0 then -(M:Int) else M:=by
  split
  ·rw[eM,<-Int.neg_mul];congr 1;omega
  ·rw[eM];congr 1;omega
 have sb:b.1*a.2=if b.1<0 then -(N:Int) else N:=by
  split
  ·rw[eN,<-Int.neg_mul];congr 1;omega
  ·rw[eN];congr 1;omega
 have p1:a.1<0->0<M:=fun h=>by rw[hM];exact Nat.mul_pos (by omega) (by omega)
 have p2:b.1<0->0<N:=fun h=>by rw[hN];exact Nat.mul_pos (by omega) (by omega)
 unfold rX
 simp only[e1,e2,sa,sb]
 clear e1 e2 sa sb eM eN hM hN
 by_cases c1:a.1<0
 ·by_cases c2:b.1<0
  ·simp only[c1,c2,if_true]
   repeat' split
   all_goals first | rfl | omega
  ·have:=p1 c1
   simp only[c1,c2,if_true,if_false]
   repeat' split
   all_goals first | rfl | omega
 ·by_cases c2:b.1<0
  ·have:=p2 c2
   simp only[c1,c2,if_true,if_false]
   repeat' split
   all_goals first | rfl | omega
  ·simp only[c1,c2,if_false]
   repeat' split
   all_goals first | rfl | omega
theorem FSs {a b:Fq} (ha:okF a) (hb:okF b):dE a b=some (rX (qv a) (qv b)):=by
 have hs:=yZ ha hb rfl rfl
 obtain ⟨⟨a1,a2⟩,⟨a3,a4⟩,_⟩:=ha
 obtain ⟨⟨b1,b2⟩,⟨b3,b4⟩,_⟩:=hb
 simp only[dE,qa]
 rw[fX (by omega) (by omega),af,fX (by omega) (by omega),af,oO (by omega) (by omega),af,fX (by omega) (by omega),af,fX (by omega) (by omega),af,oO (by omega) (by omega),af]
 simp only[bv,cT,PR,vY,af]
 rw[hs]
 clear hs
 generalize a.1.natAbs*b.2.natAbs=M
 generalize b.1.natAbs*a.2.natAbs=N
 by_cases c1:a.1<0
 ·by_cases c2:b.1<0
  ·rw[if_pos c1,if_pos c2]
   simp only[z7 c1,z8 (show ¬ b.1>=0 by omega),z8 (show ¬ a.1>=0 by omega),cT,cF]
   by_cases e:M=N
   ·simp only[z7 e,cT];rw[if_neg (by omega),if_pos e]
   ·simp only[z8 e,cF]
    by_cases e2:M<N
    ·rw[z7 e2,if_neg (by omega),if_neg e];rfl
    ·rw[z8 e2,if_pos (by omega)];rfl
  ·rw[if_pos c1,if_neg c2]
   simp only[z7 c1,z7 (show b.1>=0 by omega),cT]
 ·by_cases c2:b.1<0
  ·rw[if_neg c1,if_pos c2]
   simp only[z8 c1,z7 c2,z7 (show a.1>=0 by omega),cT,cF]
  ·rw[if_neg c1,if_neg c2]
   simp only[z8 c1,z8 c2,z7 (show a.1>=0 by omega),cT,cF]
   by_cases e:M=N
   ·simp only[z7 e,cT];rw[if_neg (by omega),if_pos e]
   ·simp only[z8 e,cF]
    by_cases e2:M<N
    ·rw[z7 e2,if_pos e2];rfl
    ·rw[z8 e2,if_neg e2,if_neg e];rfl
theorem QI {a b:Fq} (ha:okF a) (hb:okF b):gR a b=some (rX (qv a) (qv b),0,()):=by
 have hs:=yZ ha hb rfl rfl
 have ha':=ha
 have hb':=hb
 obtain ⟨⟨a1,a2⟩,⟨a3,a4⟩,_⟩:=ha'
 obtain ⟨⟨b1,b2⟩,⟨b3,b4⟩,_⟩:=hb'
 simp only[gR,qV,kL,z7 ha,z7 hb,af,Bool.not_true,Bool.not_false,Bool.or_true,cT,cF,jnT]
 rw[py (by omega) (by omega),af,aU (by omega) (by omega),aU (by omega) (by omega),show b.2=((b.2.natAbs:Nat):Int) by omega,iW (by omega) (by omega),af,py (by omega) (by omega),af,show a.2=((a.2.natAbs:Nat):Int) by omega,iW (by omega) (by omega),af]
 simp only[xR]
 rw[hs]
 clear hs
 generalize a.1.natAbs*b.2.natAbs=M
 generalize b.1.natAbs*a.2.natAbs=N
 by_cases c1:a.1<0
 ·by_cases c2:b.1<0
  ·rw[if_pos c1,if_pos c2]
   simp only[z7 c1,z7 c2,bne_self_eq_false,cT,cF,xP,af]
   by_cases e:N<M
   ·simp only[z7 e,cT];rw[if_pos e]
   ·simp only[z8 e,cF];rw[if_neg e]
    by_cases e2:M<N
    ·simp only[z7 e2,cT];rw[if_neg (by omega)]
    ·simp only[z8 e2,cF];rw[if_pos (by omega)]
  ·rw[if_pos c1,if_neg c2]
   simp only[z7 c1,z8 c2,Bool.true_bne,Bool.not_false,cT]
 ·by_cases c2:b.1<0
  ·rw[if_neg c1,if_pos c2]
   simp only[z8 c1,z7 c2,Bool.false_bne,cT,cF]
  ·rw[if_neg c1,if_neg c2]
   simp only[z8 c1,z8 c2,bne_self_eq_false,cF,xP,af]
   by_cases e:M<N
   ·simp only[z7 e,cT];rw[if_pos e]
   ·simp only[z8 e,cF];rw[if_neg e]
    by_cases e2:N<M
    ·simp only[z7 e2,cT];rw[if_neg (by omega)]
    ·simp only[z8 e2,cF];rw[if_pos (by omega)]
end Go.Proofs.YtegbncajloeepaaGreat

namespace Go.Proofs.YtegbncajloeepaaGreat
namespace Dn
def ze {α σ R:Type} (b:α->σ->(σ->Option R)->Option R) (f:σ->Option R):List α->σ->Option R
 | [],s=>f s
 | a ::l,s=>b a s (ze b f l)
theorem BD {α σ R:Type} (L:List α) (d:α) {b:α->σ->(σ->Option R)->Option R} {c:Nat->σ->(σ->Option R)->Option R} {f:σ->Option R} (h:∀i s k,i<L.length->c i s k=b (L.getD i d) s k) :
  ∀(k i:Nat) (s:σ),i+k=L.length->upF c f k i s=ze b f (L.drop i) s
 | 0,i,s,hi=>by
  rw[List.drop_of_length_le (by omega)]
  rfl
 | k+1,i,s,hi=>by
  rw[List.drop_eq_getElem_cons (show i<L.length by omega)]
  simp only[upF,ze]
  rw[h _ _ _ (by omega),cm (by omega)]
  congr 1
  funext s'
  exact BD L d h k (i+1) s' (by omega)
theorem EZ {α β σ R:Type} (L:List α) (d:α) (hn:L.length<=1180591620717411303423) {F:(β->Option R)->β->Option R} (enc:Nat->σ->β) (b:α->σ->(σ->Option R)->Option R) (f:σ->Option R)
  (hb:∀again (i:Nat) s,i<L.length->F again (enc i s)=b (L.getD i d) s (fun s'=>again (enc (i+1) s'))) (hf:∀again s,F again (enc L.length s)=f s) (s:σ):lpK β R F (enc 0 s)=ze b f L s :=
 (gF L.length hn enc (fun i s k=>b (L.getD i d) s k) f hb hf s).trans ((BD L d (b:=b) (fun _ _ _ _=>rfl) L.length 0 s (by omega)).trans (by rw[List.drop_zero]))
end Dn
end Go.Proofs.YtegbncajloeepaaGreat

namespace Go.Proofs.YtegbncajloeepaaGreat
open Tryz Dn Dn.Sh
abbrev Rw:=List Int×Int×Int
abbrev Pg:=List Int×List Rw
abbrev rw0:Rw:=([],(0:Int),(0:Int))
def inC (n:Int):Bool:=decide (-1048576<=n/\n<=1048576)
def inR (n:Int):Bool:=decide (-1073741824<=n/\n<=1073741824)
def vG (n:Nat) (r:Rw):Bool:=decide (r.1.length=n)&&(decide (1<=r.2.1/\r.2.1<=3)&&(inR r.2.2&&r.1.all inC))
def Kr (p:Pg):Bool:=decide (1<=p.1.length/\p.1.length<=12/\p.2.length<=6)
def uJ (p:Pg):Bool:=Kr p&&(p.1.all inC&&p.2.all (vG p.1.length))
theorem vZ {α:Type} {p:α->Bool} {l:List α}:decide (ji p l 0>=0)=l.any p:=by
 have:=xL (p:=p) (l:=l) (i:=0) (by omega)
 rw[Bool.eq_iff_iff,decide_eq_true_iff,List.any_eq_true]
 constructor
 ·intro h1
  by_cases h2:∃a ∈ l,p a=true
  ·exact h2
  ·have:ji p l 0<0:=this.2 fun a ha=>by
    cases e:p a with
    | false=>rfl
    | true=>exact (h2 ⟨a,ha,e⟩).elim
   omega
 ·rintro ⟨a,ha,h3⟩
  by_cases h2:ji p l 0<0
  ·rw[this.1 h2 a ha] at h3;cases h3
  ·omega
theorem wv {α:Type} {p:α->Bool} {l:List α}:(l.any fun a=>!p a)=!l.all p:=by
 induction l with
 | nil=>rfl
 | cons a l ih=>simp[ih,Bool.not_and]
theorem zE {α:Type} {p:α->Bool} {l:List α} (d:α):(List.range' 0 l.length).all (fun i=>p (l.getD i d))=l.all p:=by
 rw[Bool.eq_iff_iff,List.all_eq_true,List.all_eq_true]
 constructor
 ·intro h a ha
  obtain ⟨i,hi,rfl⟩:=List.getElem_of_mem ha
  have:=h i (List.mem_range'.2 ⟨i,hi,by omega⟩)
  rwa [cm hi] at this
 ·intro h i hi
  obtain ⟨k,hk,rfl⟩:=List.mem_range'.1 hi
  rw[cm (by omega)]
  exact h _ (List.getElem_mem _)
theorem DZ {f:(Int×Unit)->Option Bool} {p:Int->Bool} {l:List Int} (hl:l.length<=1000000) (h:∀a,a ∈ l->f (a,())=some (p a)):aM l f=some (l.any p):=by
 have h1:br l f=some (ji p l 0):=by
  unfold br gE
  exact mI (f:=f) (d:=(0:Int)) hl h
 simp only[aM,fR,h1,af,vZ]
theorem Ge {f:((Int×Int)×Unit)->Option Bool} {p:(Int×Int)->Bool} {l:List (Int×Int)} (hl:l.length<=1000000) (h:∀a,a ∈ l->f (a,())=some (p a)):ai l f=some (l.any p):=by
 have h1:bj l f=some (ji p l 0):=by
  unfold bj fL
  exact mI (f:=f) (d:=((0:Int),(0:Int))) hl h
 simp only[ai,fb,h1,af,vZ]
theorem L1 (n m:Int) (h0:0<=m) (h1:m<=1099511627776):bI n m=some (!decide (-m<=n/\n<=m)):=by
 have hw:IntKind.wrap .i64 (0 - m)= -m:=by rw[bm (by omega) (by omega)];omega
 simp only[bI,iI,hw,bv,eu,Bool.and_self,cT]
 by_cases g1:n< -m
 ·rw[z7 g1,z8 (show ¬ (-m<=n/\n<=m) by omega)];rfl
 ·rw[z8 g1]
  by_cases g2:n>m
  ·rw[z7 g2,z8 (show ¬ (-m<=n/\n<=m) by omega)];rfl
  ·rw[z8 g2,z7 (show (-m<=n/\n<=m) by omega)];rfl
theorem UG (n:Int):bI n 1048576=some (!inC n):=L1 n _ (by omega) (by omega)
theorem Vb (n:Int):bI n 1073741824=some (!inR n):=L1 n _ (by omega) (by omega)
theorem Gh (p:Pg):aW p=some (uJ p):=by
 obtain ⟨c,rs⟩:=p
 simp only[aW,ls,cR,jD,bv,eu,Bool.and_self,cT,uJ,Kr]
 by_cases g1:(c.length:Int)<1
 ·rw[z7 g1,z8 (show ¬ (1<=c.length/\c.length<=12/\rs.length<=6) by omega)]
  rfl
 ·rw[z8 g1]
  by_cases g2:(c.length:Int)>12
  ·rw[z7 g2,z8 (show ¬ (1<=c.length/\c.length<=12/\rs.length<=6) by omega)]
   rfl
  ·rw[z8 g2]
   by_cases g3:(rs.length:Int)>6
   ·rw[z7 g3,z8 (show ¬ (1<=c.length/\c.length<=12/\rs.length<=6) by omega)]
    rfl
   ·rw[z8 g3,z7 (show (1<=c.length/\c.length<=12/\rs.length<=6) by omega)]
    have hc:∀l:List Int,l.length<=1000000->aM l (fun x=>bI x.1 1048576)=some (!l.all inC):=fun l hl=>by
     rw[<-wv]
     exact DZ hl fun a _=>UG a
    simp only[cF,cT,Bool.not_false,af,hc c (by omega),Bool.true_and]
    cases hcc:c.all inC with
    | false=>rfl
    | true =>
     simp only[Bool.not_true,cF,Bool.true_and]
     refine (gF (α:=Int×PUnit) rs.length (by omega) (fun i (_:Unit)=>((i:Int),PUnit.unit)) (fun i s k=>bif vG c.length (rs.getD i rw0) then k s else some false) (fun _=>some true) ?_ ?_ ()).trans ?_
     ·intro again i _ hi
      have hw:IntKind.wrap .i64 ((i:Int)+1)=((i+1:Nat):Int):=by rw[bm (by omega) (by omega)];rfl
      simp only[bV,z7 hi,z7 (show (i:Int)<rs.length by omega),cT,z9,hw]
      obtain ⟨a,k,b,e⟩:∃a k b,List.getD rs i rw0=(a,k,b):=⟨_,_,_,rfl⟩
      simp only[e,vG,Vb,z7 (show (i:Int)>=0 by omega)]
      by_cases q1:a.length=c.length
      ·have hca:=hc a (by omega)
       simp only[z7 (show (a.length:Int)=c.length by omega),z7 q1,Bool.not_true,Bool.not_false,cT,cF,af,hca,Bool.true_and]
       by_cases q2:k<1
       ·simp only[z7 q2,z8 (show ¬ (1<=k/\k<=3) by omega)]
        cases a.all inC<;>simp[af]
       ·by_cases q3:k>3
        ·simp only[z8 q2,z7 q3,z8 (show ¬ (1<=k/\k<=3) by omega)]
         cases a.all inC<;>simp[af]
        ·simp only[z8 q2,z8 q3,z7 (show (1<=k/\k<=3) by omega)]
         cases h1:a.all inC<;>cases h2:inR b<;>simp[af,h2]
      ·simp only[z8 (show ¬ (a.length:Int)=c.length by omega),z8 q1]
       simp[af]
     ·intro again _
      simp
     ·refine (jz (p:=fun i=>vG c.length (rs.getD i rw0)) (r:=some false) rs.length (fun _ _ _=>rfl) rs.length 0 (by omega)).trans ?_
      rw[zE (p:=vG c.length) (l:=rs) rw0]
      cases rs.all (vG c.length)<;>rfl
end Go.Proofs.YtegbncajloeepaaGreat

namespace Go.Proofs.YtegbncajloeepaaGreat
noncomputable section
open Tryz Dn Dn.Sh
abbrev Bk:=ByteArray×Int
abbrev Hd:=ByteArray×Int×Int×Int
abbrev Rp:=ByteArray×List Hd×Bool
abbrev Sy:=List Bk×List Rp
abbrev bk0:Bk:=({ data:={ toList:=[] } },(0:Int))
abbrev hd0:Hd:=({ data:={ toList:=[] } },(0:Int),(0:Int),(0:Int))
abbrev rp0:Rp:=({ data:={ toList:=[] } },[],false)
theorem zT {σ R:Type} {b:Nat->σ->(σ->Option R)->Option R} {f:σ->Option R} {q:Nat->Bool} {g:Nat->σ->σ} {r:Option R} (n:Nat) (hb:∀i s (k:σ->Option R),i<n->b i s k=bif q i then k (g i s) else r) :
  ∀(k i:Nat) (s:σ),i+k<=n->upF b f k i s=bif (List.range' i k).all q then f ((List.range' i k).foldl (fun s i=>g i s) s) else r
 | 0,i,s,_=>rfl
 | k+1,i,s,h=>by
  simp only[upF,hb i s _ (by omega),List.range'_succ,List.all_cons,List.foldl_cons]
  cases hp:q i with
  | true=>exact zT n hb k (i+1) _ (by omega)
  | false=>rfl
theorem rB {α R:Type} {p:α->Bool} {d:α} {l:List α} {yes no:Option R} {F:(Int×PUnit->Option R)->Int×PUnit->Option R} (hl:l.length<=1000000)
  (hb:∀again (i:Nat),i<l.length->F again ((i:Int),PUnit.unit)=bif p (l.getD i d) then again (((i+1:Nat):Int),PUnit.unit) else no) (hf:∀again,F again ((l.length:Int),PUnit.unit)=yes) :
  lpK (Int×PUnit) R F ((0:Int),PUnit.unit)=bif l.all p then yes else no:=by
 refine (gF (α:=Int×PUnit) l.length (by omega) (fun i (_:Unit)=>((i:Int),PUnit.unit)) (fun i s k=>bif p (l.getD i d) then k s else no) (fun _=>yes) ?_ ?_ ()).trans ?_
 ·intro again i _ hi
  exact hb again i hi
 ·intro again _
  exact hf again
 ·rw[jz l.length (fun i k _=>rfl) l.length 0 (by omega),zE]
theorem yQ (x y:ByteArray):∀m:List (ByteArray×Bool),iu str Sh.bool x false (pT str Sh.bool y true m)=(decide (x=y)||iu str Sh.bool x false m)
 | []=>by
  simp only[pT,iu,lx]
  cases decide (x=y)<;>rfl
 | z ::m=>by
  cases h1:decide (y=z.1) with
  | true =>
   have e:=z12 h1
   simp only[pT,lx,h1,cT,iu]
   rw[e]
   cases decide (x=z.1)<;>rfl
  | false =>
   simp only[pT,lx,h1,cF,iu,yQ x y m]
   cases h2:decide (x=z.1) with
   | false=>rfl
   | true =>
    have h3:decide (x=y)=false:=z8 fun e=>of_decide_eq_false h1 (by rw[<-e];exact z12 h2)
    rw[h3]
    rfl
def oi (x:ByteArray) (l:List ByteArray):Bool:=l.any fun y=>decide (x=y)
theorem BJ {x:ByteArray} {l:List ByteArray}:oi x l=true↔x ∈ l:=by
 unfold oi
 rw[List.any_eq_true]
 constructor
 ·rintro ⟨y,h1,h2⟩;rw[z12 h2];exact h1
 ·intro h;exact ⟨x,h,z7 rfl⟩
theorem ut {x:ByteArray} {l:List ByteArray}:oi x l=false↔x ∉ l:=by rw[<-BJ,Bool.not_eq_true]
def xC (l:List ByteArray):List (ByteArray×Bool):=l.foldl (fun m x=>pT str Sh.bool x true m) []
theorem wU (x:ByteArray):∀(l:List ByteArray) (m:List (ByteArray×Bool)),iu str Sh.bool x false (l.foldl (fun m x=>pT str Sh.bool x true m) m)=(oi x l||iu str Sh.bool x false m)
 | [],m=>rfl
 | y ::l,m=>by
  rw[List.foldl_cons,wU x l,yQ,<-Bool.or_assoc]
  congr 1
  unfold oi
  rw[List.any_cons,Bool.or_comm]
theorem yW (x:ByteArray) (l:List ByteArray):iu str Sh.bool x false (xC l)=oi x l:=by
 unfold xC
 rw[wU]
 exact Bool.or_false _
theorem wD (x:ByteArray) (l:List ByteArray):pT str Sh.bool x true (xC l)=xC (l++[x]):=by
 unfold xC
 rw[List.foldl_append]
 rfl
theorem uW {α:Type} {l:List α} {i:Nat} (d:α) (h:i<l.length):l.take i++[l.getD i d]=l.take (i+1):=by
 rw[cm h,List.take_succ_eq_append_getElem h]
theorem rQ {α β:Type} {f:α->β} {l:List α} {d:α} {i:Nat} (h:i<l.length) (e:β):(l.map f).getD i e=f (l.getD i d):=by
 rw[cm (by rw[List.length_map];exact h),cm h,List.getElem_map]
theorem tq {α:Type} {p:α->Bool} (d:α):∀{l:List α} {i:Nat} {k:Int},i<l.length->p (l.getD i d)=true->(ji p l k=k+i↔∀a ∈ l.take i,p a=false)
 | a ::l,0,k,_,hp=>by
  rw[List.getD_cons_zero] at hp
  unfold ji
  rw[hp,cT]
  simp
 | a ::l,i+1,k,h,hp=>by
  rw[List.getD_cons_succ] at hp
  unfold ji
  rw[List.take_succ_cons]
  cases ha:p a with
  | true =>
   rw[cT]
   constructor
   ·intro e;omega
   ·intro e;have:=e a (by simp);rw[ha] at this;cases this
  | false =>
   rw[cF]
   have:=tq d (l:=l) (i:=i) (k:=k+1) (by simpa using h) hp
   rw[show k+((i+1:Nat):Int)=k+1+i by omega,this]
   simp[ha]
def fbI (s:Sy) (n:ByteArray):Int:=ji (fun b:Bk=>decide (b.1=n)) s.1 0
def frI (s:Sy) (n:ByteArray):Int:=ji (fun r:Rp=>decide (r.1=n)) s.2 0
theorem Bv (s:Sy) (n:ByteArray) (hl:s.1.length<=1000000):bH s n=some (fbI s n):=by
 simp only[bH,mr,eH,ke,lK]
 unfold bF gG
 exact congrArg (fun m:Option Int=>ah m fun t=>some t) (mI (f:=fun x:Bk×Unit=>some (decide (x.1.1=n))) (p:=fun b:Bk=>decide (b.1=n)) (d:=bk0) hl (fun a _=>rfl))
theorem yG (s:Sy) (n:ByteArray) (hl:s.1.length<=1000000):bb s n=some (fbI s n):=by
 simp only[bb,jC,lK]
 exact zF (p:=fun b:Bk=>decide (b.1=n)) (d:=bk0) hl
theorem GH (s:Sy) (n:ByteArray) (hl:s.2.length<=1000000):dS s n=some (frI s n):=by
 simp only[dS,ka,lK]
 exact zF (p:=fun r:Rp=>decide (r.1=n)) (d:=rp0) hl
def pS (n a b:Int):Bool:=decide (n>=a)&&decide (n<=b)
theorem xr (n a b:Int):bf n a b=some (pS n a b):=by
 simp only[bf,kg,bv,Bool.and_self,cT,oT,pS]
def pF (f:Int×Int):Bool:=decide (okF f)&&(decide (f.1>=f.2)&&decide (f.1<=100))
theorem IH (f:Int×Int):eC f=some (pF f):=by
 simp only[eC,lk,kL,af,bv,Bool.and_self,cT,oT,pF,Bool.and_assoc]
theorem GF (f:Int×Int):dk f=some (pF f):=by
 simp only[dk,jM,zJ,af,bv,Bool.and_self,cT,oT,pF,Bool.and_assoc]
def pa (s:ByteArray):Bool:=decide (s={ data:=#[] })
def mZ (s:Sy) (h:Hd) (e:Bool):Bool:=(bif e then decide (h.2.2.1=1)&&decide (h.2.2.2=1) else pF h.2.2) &&
 (bif pa h.1 then decide (h.2.1=0) else !decide (fbI s h.1<0)&&(bif e then decide (h.2.1=1)||decide (h.2.1= -1) else decide (h.2.1=2)||(decide (h.2.1=0)||decide (h.2.1= -2))))
theorem LF (s:Sy) (h:Hd) (e:Bool) (hl:s.1.length<=1000000):dV s h e=some (mZ s h e):=by
 obtain ⟨b,p,n,d⟩:=h
 simp only[dV,mJ,IH,Bv s _ hl,lK,mZ,pa,af]
 generalize decide (fbI s b<0)=g1
 generalize decide (b={ data:=#[] })=g2
 generalize pF (n,d)=g3
 generalize decide (p=0)=p0
 generalize decide (p=1)=p1
 generalize decide (p= -1)=p2
 generalize decide (p=2)=p3
 generalize decide (p= -2)=p4
 generalize decide (n=1)=g4
 generalize decide (d=1)=g5
 cases e with
 | false =>
  cases g3;· rfl
  cases g2;case true=>rfl
  cases g1;case true=>rfl
  cases p3<;>cases p0<;>cases p4<;>rfl
 | true =>
  cases g4;· rfl
  cases g5;· rfl
  cases g2;case true=>rfl
  cases g1;case true=>rfl
  cases p1<;>cases p2<;>rfl
theorem Og (n:Int):ap n=some (n,1):=id rfl
theorem GG (s:Sy) (h:Hd) (e:Bool) (hl:s.1.length<=1000000):fp s h e=some (mZ s h e):=by
 obtain ⟨b,p,n,d⟩:=h
 have hL:decide (n=1)=true->decide (d=1)=true->pF (n,d)=true:=fun h1 h2=>by
  have e1:=z12 h1
  have e2:=z12 h2
  subst e1;subst e2
  unfold pF
  rw[z7 (kC (by omega) (by omega))]
  rfl
 simp only[fp,pq,GF,yG s _ hl,lK,mZ,pa,af,Og]
 generalize decide (fbI s b<0)=g1
 generalize decide (b={ data:=#[] })=g2
 generalize pF (n,d)=g3 at hL
 generalize decide (p=0)=p0
 generalize decide (p=1)=p1
 generalize decide (p= -1)=p2
 generalize decide (p=2)=p3
 generalize decide (p= -2)=p4
 cases e with
 | false =>
  cases g3;· rfl
  cases g2;case true=>rfl
  cases g1;case true=>rfl
  cases p3<;>cases p0<;>cases p4<;>rfl
 | true =>
  simp only[cT,af]
  generalize decide (n=1)=g4 at hL
  generalize decide (d=1)=g5 at hL
  cases g4;· rfl
  cases g5;· rfl
  rw[hL rfl rfl]
  cases g2;case true=>rfl
  cases g1;case true=>rfl
  cases p1<;>cases p2<;>rfl
def tz (s:Sy) (r:Rp):Bool:=decide (2<=r.2.1.length/\r.2.1.length<=10)&&((List.range' 0 r.2.1.length).all (fun i=>mZ s (r.2.1.getD i hd0) (decide (i=0)||decide (i=r.2.1.length - 1))) &&
 (!r.2.2||pa (r.2.1.getD (r.2.1.length - 1) hd0).1))
theorem Ih (s:Sy) (r:Rp) (hl:s.1.length<=1000000):fa s r=some (tz s r):=by
 obtain ⟨nm,hs,ha⟩:=r
 have hh:=fun h e=>LF s h e hl
 simp only[fa,me,xr,hh,af,tz,lK]
 by_cases h2:2<=hs.length/\hs.length<=10
 ·have e:pS (hs.length:Int) 2 10=true:=by
   unfold pS
   rw[z7 (show (hs.length:Int)>=2 by omega),z7 (show (hs.length:Int)<=10 by omega)];rfl
  have hw0:IntKind.wrap .i64 ((hs.length:Int) - 1)=((hs.length - 1:Nat):Int):=by rw[bm (by omega) (by omega)];omega
  rw[e,z7 h2]
  simp only[Bool.not_true,cF,Bool.true_and,hw0]
  refine (gF (α:=Int×PUnit) hs.length (by omega) (fun i (_:Unit)=>((i:Int),PUnit.unit)) (fun i t k=>bif mZ s (hs.getD i hd0) (decide (i=0)||decide (i=hs.length - 1)) then k t else some false) (fun _=>some (!ha||pa (hs.getD (hs.length - 1) hd0).1)) ?_ ?_ ()).trans ?_
  ·intro again i _ hi
   have hw:IntKind.wrap .i64 ((i:Int)+1)=((i+1:Nat):Int):=by rw[bm (by omega) (by omega)];rfl
   have e0:decide ((i:Int)=0)=decide (i=0):=decide_eq_decide.2 (by omega)
   have e1:decide ((i:Int)=((hs.length - 1:Nat):Int))=decide (i=hs.length - 1):=decide_eq_decide.2 (by omega)
   simp only[bV,z7 hi,z7 (show (i:Int)<hs.length by omega),cT,z9,hw,e0,e1,bv,eu,Bool.and_self]
   have e3:(bif decide (i=0) then true else decide (i=hs.length - 1))=(decide (i=0)||decide (i=hs.length - 1)):=by cases decide (i=0)<;>rfl
   rw[e3]
   cases mZ s (hs.getD i hd0) (decide (i=0)||decide (i=hs.length - 1))<;>rfl
  ·intro again _
   simp only[z8 (show ¬ (hs.length:Int)<hs.length by omega),cF,bV,z7 (show hs.length - 1<hs.length by omega),z9,pa]
   generalize decide ((List.getD hs (hs.length - 1) hd0).1={ data:=#[] })=g
   cases ha<;>rfl
  ·rw[jz hs.length (fun i k _=>rfl) hs.length 0 (by omega)]
   cases (List.range' 0 hs.length).all fun i=>mZ s (hs.getD i hd0) (decide (i=0)||decide (i=hs.length - 1))<;>rfl
 ·have e:pS (hs.length:Int) 2 10=false:=by
   unfold pS
   by_cases g:(hs.length:Int)>=2
   ·rw[z7 g,z8 (show ¬ (hs.length:Int)<=10 by omega)];rfl
   ·rw[z8 g];rfl
  rw[e,z8 h2]
  rfl
theorem Gt (s:Sy) (r:Rp) (hl:s.1.length<=1000000):gj s r=some (tz s r):=by
 obtain ⟨nm,hs,ha⟩:=r
 have hh:=fun h e=>GG s h e hl
 simp only[gj,oE,hh,af,tz,lK]
 by_cases h2:2<=hs.length/\hs.length<=10
 ·have hw0:IntKind.wrap .i64 ((hs.length:Int) - 1)=((hs.length - 1:Nat):Int):=by rw[bm (by omega) (by omega)];omega
  rw[z7 h2,z8 (show ¬ (hs.length:Int)<2 by omega),z8 (show ¬ (hs.length:Int)>10 by omega)]
  simp only[Bool.not_true,Bool.not_false,Bool.or_true,cT,cF,Bool.true_and,hw0]
  refine (gF (α:=Int×PUnit) hs.length (by omega) (fun i (_:Unit)=>((i:Int),PUnit.unit)) (fun i t k=>bif mZ s (hs.getD i hd0) (decide (i=0)||decide (i=hs.length - 1)) then k t else some false) (fun _=>some (!ha||pa (hs.getD (hs.length - 1) hd0).1)) ?_ ?_ ()).trans ?_
  ·intro again i _ hi
   have hw:IntKind.wrap .i64 ((i:Int)+1)=((i+1:Nat):Int):=by rw[bm (by omega) (by omega)];rfl
   have e0:decide ((i:Int)=0)=decide (i=0):=decide_eq_decide.2 (by omega)
   have e1:decide ((i:Int)=((hs.length - 1:Nat):Int))=decide (i=hs.length - 1):=decide_eq_decide.2 (by omega)
   simp only[bV,z7 hi,z7 (show (i:Int)<hs.length by omega),cT,z9,hw,e0,e1,bv,eu,Bool.and_self]
   have e3:(bif decide (i=0) then true else decide (i=hs.length - 1))=(decide (i=0)||decide (i=hs.length - 1)):=by cases decide (i=0)<;>rfl
   rw[e3]
   cases mZ s (hs.getD i hd0) (decide (i=0)||decide (i=hs.length - 1))<;>rfl
  ·intro again _
   simp only[z8 (show ¬ (hs.length:Int)<hs.length by omega),cF,bV,z7 (show hs.length - 1<hs.length by omega),z9,pa]
   generalize decide ((List.getD hs (hs.length - 1) hd0).1={ data:=#[] })=g
   cases ha<;>rfl
  ·rw[jz hs.length (fun i k _=>rfl) hs.length 0 (by omega)]
   cases (List.range' 0 hs.length).all fun i=>mZ s (hs.getD i hd0) (decide (i=0)||decide (i=hs.length - 1))<;>rfl
 ·rw[z8 h2]
  by_cases g:(hs.length:Int)<2
  ·rw[z7 g];rfl
  ·rw[z8 g,z7 (show (hs.length:Int)>10 by omega)];rfl
def pY (s:Sy) (i:Nat):Bool:=su (s.1.getD i bk0).1&&(!oi (s.1.getD i bk0).1 ((s.1.map (·.fst)).take i)&&pS (s.1.getD i bk0).2 0 16777216)
def iU (s:Sy) (i:Nat):Bool:=su (s.2.getD i rp0).1&&(!oi (s.2.getD i rp0).1 (s.1.map (·.fst)++(s.2.map (·.fst)).take i)&&tz s (s.2.getD i rp0))
def tF (rs:List Rp):Int:=(List.range' 0 rs.length).foldl (fun h i=>bif (rs.getD i rp0).2.2 then IntKind.wrap .i64 (h+1) else h) 0
def gk (s:Sy):Bool:=decide (1<=s.1.length/\s.1.length<=6/\1<=s.2.length/\s.2.length<=6)&&((List.range' 0 s.1.length).all (pY s)&&((List.range' 0 s.2.length).all (iU s)&&decide (tF s.2<=1)))
theorem Bd (s:Sy):aN s=some (gk s):=by
 obtain ⟨bs,rs⟩:=s
 simp only[aN,lm,xr,Gz,af,gk]
 by_cases h1:1<=bs.length/\bs.length<=6
 ·have e1:pS (bs.length:Int) 1 6=true:=by
   unfold pS
   rw[z7 (show (bs.length:Int)>=1 by omega),z7 (show (bs.length:Int)<=6 by omega)];rfl
  by_cases h2:1<=rs.length/\rs.length<=6
  ·have e2:pS (rs.length:Int) 1 6=true:=by
    unfold pS
    rw[z7 (show (rs.length:Int)>=1 by omega),z7 (show (rs.length:Int)<=6 by omega)];rfl
   have hr:=fun r=>Ih (bs,rs) r (show bs.length<=1000000 by omega)
   simp only[e1,e2,hr,af,Bool.not_true,Bool.not_false,Bool.or_true,cT,cF,z7 (show 1<=bs.length/\bs.length<=6/\1<=rs.length/\rs.length<=6 by omega),Bool.true_and]
   refine (gF (α:=Int×List (ByteArray×Bool)×PUnit) bs.length (by omega) (fun i (_:Unit)=>((i:Int),xC ((bs.map (·.fst)).take i),PUnit.unit)) (fun i t k=>bif pY (bs,rs) i then k t else some false)
    (fun _=>some ((List.range' 0 rs.length).all (iU (bs,rs))&&decide (tF rs<=1))) ?_ ?_ ()).trans ?_
   ·intro again i _ hi
    have hw:IntKind.wrap .i64 ((i:Int)+1)=((i+1:Nat):Int):=by rw[bm (by omega) (by omega)];rfl
    have hn:(bs.map (·.fst)).take (i+1)=(bs.map (·.fst)).take i++[(bs.getD i bk0).1]:=by
     rw[<-uW (d:=bk0.1) (by rw[List.length_map];exact hi),rQ (d:=bk0) hi]
    simp only[bV,z7 hi,z7 (show (i:Int)<bs.length by omega),cT,z9,hw,yW,wD,<-hn,pY,bv,Bool.and_self]
    generalize oi (List.getD bs i bk0).1 ((bs.map (·.fst)).take i)=g1
    generalize pS (List.getD bs i bk0).2 0 16777216=g2
    cases su (List.getD bs i bk0).1<;>cases g1<;>cases g2<;>rfl
   ·intro again _
    simp only[z8 (show ¬ (bs.length:Int)<bs.length by omega),cF]
    refine (gF (α:=Int×Int×List (ByteArray×Bool)×PUnit) rs.length (by omega) (fun i (h:Int)=>(h,(i:Int),xC (bs.map (·.fst)++(rs.map (·.fst)).take i),PUnit.unit)) (fun i t k=>bif iU (bs,rs) i then k (bif (rs.getD i rp0).2.2 then IntKind.wrap .i64 (t+1) else t) else some false)
     (fun h=>some (decide (h<=1))) ?_ ?_ 0 |>Eq.trans (by rw[List.take_zero,List.append_nil,List.take_of_length_le (by rw[List.length_map];omega)];rfl)).trans ?_
    ·intro again i t hi
     have hw:IntKind.wrap .i64 ((i:Int)+1)=((i+1:Nat):Int):=by rw[bm (by omega) (by omega)];rfl
     have hn:bs.map (·.fst)++(rs.map (·.fst)).take (i+1)=bs.map (·.fst)++(rs.map (·.fst)).take i++[(rs.getD i rp0).1]:=by
      rw[<-uW (d:=rp0.1) (by rw[List.length_map];exact hi),rQ (d:=rp0) hi,List.append_assoc]
     simp only[bV,z7 hi,z7 (show (i:Int)<rs.length by omega),cT,z9,hw,yW,wD,<-hn,iU,bv,Bool.and_self]
     generalize oi (List.getD rs i rp0).1 (bs.map (·.fst)++(rs.map (·.fst)).take i)=g1
     generalize tz (bs,rs) (List.getD rs i rp0)=g2
     cases su (List.getD rs i rp0).1<;>cases g1<;>cases g2<;>cases (List.getD rs i rp0).2.2<;>rfl
    ·intro again t
     simp only[z8 (show ¬ (rs.length:Int)<rs.length by omega),cF]
    ·rw[zT (q:=iU (bs,rs)) (g:=fun i t=>bif (rs.getD i rp0).2.2 then IntKind.wrap .i64 (t+1) else t) rs.length (fun i s k _=>rfl) rs.length 0 _ (by omega)]
     unfold tF
     cases (List.range' 0 rs.length).all (iU (bs,rs))<;>rfl
   ·rw[jz bs.length (fun i k _=>rfl) bs.length 0 (by omega)]
    cases (List.range' 0 bs.length).all (pY (bs,rs))<;>rfl
  ·have e2:pS (rs.length:Int) 1 6=false:=by
    unfold pS
    by_cases g:(rs.length:Int)>=1
    ·rw[z7 g,z8 (show ¬ (rs.length:Int)<=6 by omega)];rfl
    ·rw[z8 g];rfl
   rw[e1,e2,z8 (show ¬ (1<=bs.length/\bs.length<=6/\1<=rs.length/\rs.length<=6) by omega)]
   rfl
 ·have e1:pS (bs.length:Int) 1 6=false:=by
   unfold pS
   by_cases g:(bs.length:Int)>=1
   ·rw[z7 g,z8 (show ¬ (bs.length:Int)<=6 by omega)];rfl
   ·rw[z8 g];rfl
  rw[e1,z8 (show ¬ (1<=bs.length/\bs.length<=6/\1<=rs.length/\rs.length<=6) by omega)]
  rfl
theorem B9 (s:Sy):aF s=some (gk s):=by
 obtain ⟨bs,rs⟩:=s
 simp only[aF,nl,AE,af,gk]
 by_cases h0:1<=bs.length/\bs.length<=6/\1<=rs.length/\rs.length<=6
 ·have hr:=fun r=>Gt (bs,rs) r (show bs.length<=1000000 by omega)
  have hfb:=fun n=>yG (bs,rs) n (show bs.length<=1000000 by omega)
  have hfr:=fun n=>GH (bs,rs) n (show rs.length<=1000000 by omega)
  rw[z7 h0,z8 (show ¬ (bs.length:Int)<1 by omega),z8 (show ¬ (bs.length:Int)>6 by omega),z8 (show ¬ (rs.length:Int)<1 by omega),z8 (show ¬ (rs.length:Int)>6 by omega)]
  simp only[hr,hfb,hfr,Bool.not_true,Bool.not_false,Bool.or_true,cT,cF,Bool.true_and]
  refine (gF (α:=Int×PUnit) bs.length (by omega) (fun i (_:Unit)=>((i:Int),PUnit.unit)) (fun i t k=>bif pY (bs,rs) i then k t else some false)
   (fun _=>some ((List.range' 0 rs.length).all (iU (bs,rs))&&decide (tF rs<=1))) ?_ ?_ ()).trans ?_
  ·intro again i _ hi
   have hw:IntKind.wrap .i64 ((i:Int)+1)=((i+1:Nat):Int):=by rw[bm (by omega) (by omega)];rfl
   have hi1:decide (fbI (bs,rs) (bs.getD i bk0).1=(i:Int))=!oi (bs.getD i bk0).1 ((bs.map (·.fst)).take i):=by
    have:=tq (p:=fun b:Bk=>decide (b.1=(bs.getD i bk0).1)) bk0 (l:=bs) (i:=i) (k:=0) hi (z7 rfl)
    rw[Bool.eq_iff_iff,Bool.not_eq_true',decide_eq_true_iff,ut,<-List.map_take]
    unfold fbI
    rw[Int.zero_add] at this
    rw[this,List.mem_map]
    constructor
    ·rintro h ⟨a,ha,he⟩
     exact of_decide_eq_false (h a ha) he
    ·intro h a ha
     exact z8 fun he=>h ⟨a,ha,he⟩
   simp only[bV,z7 hi,z7 (show (i:Int)<bs.length by omega),cT,z9,hw,pY,pS]
   generalize hg:oi (List.getD bs i bk0).1 ((bs.map (·.fst)).take i)=g1 at hi1
   have hlt:decide ((List.getD bs i bk0).2<0)=!decide ((List.getD bs i bk0).2>=0):=by
    rw[Bool.eq_iff_iff,Bool.not_eq_true',decide_eq_true_iff,decide_eq_false_iff_not];omega
   have hgt:decide ((List.getD bs i bk0).2>16777216)=!decide ((List.getD bs i bk0).2<=16777216):=by
    rw[Bool.eq_iff_iff,Bool.not_eq_true',decide_eq_true_iff,decide_eq_false_iff_not];omega
   rw[hlt,hgt]
   generalize decide ((List.getD bs i bk0).2>=0)=g2
   generalize decide ((List.getD bs i bk0).2<=16777216)=g3
   cases su (List.getD bs i bk0).1 with
   | false=>rfl
   | true =>
    simp only[Bool.not_true,Bool.not_false,Bool.or_true,Bool.and_self,cT,af,hi1]
    cases g1<;>cases g2<;>cases g3<;>rfl
  ·intro again _
   simp only[z8 (show ¬ (bs.length:Int)<bs.length by omega),cF]
   refine (gF (α:=Int×Int×PUnit) rs.length (by omega) (fun i (h:Int)=>(h,(i:Int),PUnit.unit)) (fun i t k=>bif iU (bs,rs) i then k (bif (rs.getD i rp0).2.2 then IntKind.wrap .i64 (t+1) else t) else some false)
    (fun h=>some (decide (h<=1))) ?_ ?_ 0).trans ?_
   ·intro again i t hi
    have hw:IntKind.wrap .i64 ((i:Int)+1)=((i+1:Nat):Int):=by rw[bm (by omega) (by omega)];rfl
    have hi1:decide (frI (bs,rs) (rs.getD i rp0).1=(i:Int))=!oi (rs.getD i rp0).1 ((rs.map (·.fst)).take i):=by
     have:=tq (p:=fun b:Rp=>decide (b.1=(rs.getD i rp0).1)) rp0 (l:=rs) (i:=i) (k:=0) hi (z7 rfl)
     rw[Bool.eq_iff_iff,Bool.not_eq_true',decide_eq_true_iff,ut,<-List.map_take]
     unfold frI
     rw[Int.zero_add] at this
     rw[this,List.mem_map]
     constructor
     ·rintro h ⟨a,ha,he⟩
      exact of_decide_eq_false (h a ha) he
     ·intro h a ha
      exact z8 fun he=>h ⟨a,ha,he⟩
    have hi2:decide (fbI (bs,rs) (rs.getD i rp0).1>=0)=oi (rs.getD i rp0).1 (bs.map (·.fst)):=by
     unfold fbI
     rw[vZ,Bool.eq_iff_iff,List.any_eq_true,BJ,List.mem_map]
     constructor
     ·rintro ⟨a,ha,he⟩;exact ⟨a,ha,z12 he⟩
     ·rintro ⟨a,ha,he⟩;exact ⟨a,ha,z7 he⟩
    have hm:oi (rs.getD i rp0).1 (bs.map (·.fst)++(rs.map (·.fst)).take i)=(oi (rs.getD i rp0).1 (bs.map (·.fst))||oi (rs.getD i rp0).1 ((rs.map (·.fst)).take i)):=by
     unfold oi
     rw[List.any_append]
    simp only[bV,z7 hi,z7 (show (i:Int)<rs.length by omega),cT,z9,hw,iU,hm]
    generalize oi (List.getD rs i rp0).1 (bs.map (·.fst))=g1 at hi2
    generalize oi (List.getD rs i rp0).1 ((rs.map (·.fst)).take i)=g2 at hi1
    generalize tz (bs,rs) (List.getD rs i rp0)=g3
    generalize su (List.getD rs i rp0).1=g4
    generalize (List.getD rs i rp0).2.2=g5
    cases g4 with
    | false=>rfl
    | true =>
     simp only[Bool.not_true,Bool.not_false,Bool.or_true,Bool.and_self,cT,cF,af,hi1]
     cases g2 with
     | true=>cases g1<;>rfl
     | false =>
      simp only[Bool.not_true,Bool.not_false,Bool.or_true,Bool.or_false,cT,cF,af,hi2]
      cases g1<;>cases g3<;>cases g5<;>rfl
   ·intro again t
    simp only[z8 (show ¬ (rs.length:Int)<rs.length by omega),cF]
   ·rw[zT (q:=iU (bs,rs)) (g:=fun i t=>bif (rs.getD i rp0).2.2 then IntKind.wrap .i64 (t+1) else t) rs.length (fun i s k _=>rfl) rs.length 0 _ (by omega)]
    unfold tF
    cases (List.range' 0 rs.length).all (iU (bs,rs))<;>rfl
  ·rw[jz bs.length (fun i k _=>rfl) bs.length 0 (by omega)]
   cases (List.range' 0 bs.length).all (pY (bs,rs))<;>rfl
 ·rw[z8 h0]
  by_cases g1:(bs.length:Int)<1
  ·rw[z7 g1];rfl
  ·rw[z8 g1]
   by_cases g2:(bs.length:Int)>6
   ·rw[z7 g2];rfl
   ·rw[z8 g2]
    by_cases g3:(rs.length:Int)<1
    ·rw[z7 g3];rfl
    ·rw[z8 g3,z7 (show (rs.length:Int)>6 by omega)];rfl
end
end Go.Proofs.YtegbncajloeepaaGreat

namespace Go.Proofs.YtegbncajloeepaaGreat
namespace Dn
def ab (x:Int):Int:=(x.natAbs:Int)
theorem fo (x:Int):0<=ab x:=by unfold ab;omega
theorem Qi (x y:Int):ab (x+y)<=ab x+ab y:=by unfold ab;omega
theorem Su {x b:Int}:ab x<=b↔ -b<=x/\x<=b:=by unfold ab;omega
theorem uz (x y:Int):ab (x*y)=ab x*ab y:=by
 unfold ab
 rw[Int.natAbs_mul]
 rfl
def sz:Nat->(Nat->Int)->Int
 | 0,_=>0
 | n+1,f=>sz n f+f n
theorem ci:∀{n:Nat} {f g:Nat->Int},(∀i,i<n->f i=g i)->sz n f=sz n g
 | 0,_,_,_=>rfl
 | n+1,f,g,h=>by
  simp only[sz]
  rw[ci (n:=n) fun i hi=>h i (by omega),h n (by omega)]
theorem ta:∀{n:Nat} {f g:Nat->Int},sz n (fun i=>f i+g i)=sz n f+sz n g
 | 0,_,_=>rfl
 | n+1,f,g=>by
  simp only[sz]
  rw[ta]
  omega
theorem gU:∀{n:Nat} {c:Int} {f:Nat->Int},sz n (fun i=>c*f i)=c*sz n f
 | 0,c,_=>by simp[sz]
 | n+1,c,f=>by
  simp only[sz]
  rw[gU,Int.mul_add]
theorem Fw {n:Nat} {c:Int} {f:Nat->Int}:sz n (fun i=>f i*c)=sz n f*c:=by
 rw[Int.mul_comm,<-gU]
 exact ci fun i _=>Int.mul_comm _ _
theorem mO:∀{n:Nat} {f:Nat->Int},(∀i,i<n->f i=0)->sz n f=0
 | 0,_,_=>rfl
 | n+1,f,h=>by
  simp only[sz]
  rw[mO fun i hi=>h i (by omega),h n (by omega)]
  rfl
theorem Q3 {n:Nat} {f:Nat->Int}:sz n (fun i=> - f i)= - sz n f:=by
 have:sz n (fun i=> - f i)=sz n (fun i=>(-1)*f i):=ci fun i _=>by omega
 rw[this,gU]
 omega
theorem Em {n:Nat} {f g:Nat->Int}:sz n (fun i=>f i - g i)=sz n f - sz n g:=by
 have:sz n (fun i=>f i - g i)=sz n (fun i=>f i+ - g i):=ci fun i _=>by omega
 rw[this,ta,Q3]
 omega
theorem iJ:∀{n:Nat} {f:Nat->Int} {k:Nat},k<n->(∀i,i<n->i≠k->f i=0)->sz n f=f k
 | n+1,f,k,hk,h=>by
  simp only[sz]
  by_cases e:k=n
  ·subst e
   rw[mO fun i hi=>h i (by omega) (by omega)]
   omega
  ·rw[iJ (k:=k) (by omega) fun i hi hne=>h i (by omega) hne,h n (by omega) (fun e'=>e e'.symm)]
   omega
theorem Dl {n:Nat} {f:Nat->Int} {k l:Nat} (hk:k<n) (hl:l<n) (hkl:k≠l) (h:∀i,i<n->i≠k->i≠l->f i=0):sz n f=f k+f l:=by
 have e:sz n f=sz n (fun i=>(if i=k then f k else 0)+(if i=l then f l else 0)):=ci fun i hi=>by
  by_cases h1:i=k
  ·subst h1;rw[if_pos rfl,if_neg hkl];omega
  ·by_cases h2:i=l
   ·subst h2;rw[if_neg h1,if_pos rfl];omega
   ·rw[if_neg h1,if_neg h2,h i hi h1 h2];rfl
 rw[e,ta,iJ hk (f:=fun i=>if i=k then f k else 0) (fun i _ hne=>if_neg hne),iJ hl (f:=fun i=>if i=l then f l else 0) (fun i _ hne=>if_neg hne)]
 simp
theorem vW:∀{m n:Nat} {f:Nat->Nat->Int},sz m (fun i=>sz n (fun j=>f i j))=sz n (fun j=>sz m (fun i=>f i j))
 | 0,n,f=>by
  simp only[sz]
  exact (mO fun _ _=>rfl).symm
 | m+1,n,f=>by
  simp only[sz]
  rw[vW,ta]
theorem yy:∀{n:Nat} {f g:Nat->Int},(∀i,i<n->f i<=g i)->sz n f<=sz n g
 | 0,_,_,_=>Int.le_refl _
 | n+1,f,g,h=>by
  simp only[sz]
  have:=yy (n:=n) fun i hi=>h i (by omega)
  have:=h n (by omega)
  omega
theorem lZ {n:Nat} {f:Nat->Int} (h:∀i,i<n->0<=f i):0<=sz n f:=by
 have:=yy (n:=n) (f:=fun _=>0) (g:=f) h
 rwa [mO fun _ _=>rfl] at this
theorem Ii:∀{n:Nat} {f:Nat->Int},ab (sz n f)<=sz n (fun i=>ab (f i))
 | 0,_=>by simp[sz,ab]
 | n+1,f=>by
  simp only[sz]
  have:=Ii (n:=n) (f:=f)
  have:=Qi (sz n f) (f n)
  omega
def skip (k j:Nat):Nat:=if j<k then j else j+1
def sgd (k:Nat):Int:=if k % 2=0 then 1 else -1
theorem Md (k:Nat):sgd (k+1)= - sgd k:=by
 unfold sgd
 split<;>split<;>omega
theorem MG (k:Nat) (x:Int):ab (sgd k*x)=ab x:=by
 unfold sgd ab
 split<;>omega
def kN (A:Nat->Nat->Int) (k:Nat):Nat->Nat->Int:=fun i j=>A (i+1) (skip k j)
def det:Nat->(Nat->Nat->Int)->Int
 | 0,_=>1
 | n+1,A=>sz (n+1) fun k=>sgd k*A 0 k*det n (kN A k)
def bS (A:Nat->Nat->Int) (c:Nat) (v:Nat->Int):Nat->Nat->Int:=fun i j=>if j=c then v i else A i j
theorem iA:∀{n:Nat} {A B:Nat->Nat->Int},(∀i j,i<n->j<n->A i j=B i j)->det n A=det n B
 | 0,_,_,_=>rfl
 | n+1,A,B,h=>by
  simp only[det]
  refine ci fun k hk=>?_
  rw[h 0 k (by omega) hk,iA (A:=kN A k) (B:=kN B k) fun i j hi hj=>h (i+1) (skip k j) (by omega) (by unfold skip;split<;>omega)]
theorem pO {A:Nat->Nat->Int} {k:Nat} {v:Nat->Int}:kN (bS A k v) k=kN A k:=by
 funext i j
 unfold kN bS
 rw[if_neg]
 unfold skip
 split<;>omega
def EH (k c:Nat):Nat:=if c<k then c else c - 1
theorem md {A:Nat->Nat->Int} {k c:Nat} {v:Nat->Int} (h:k≠c):kN (bS A c v) k=bS (kN A k) (EH k c) (fun i=>v (i+1)):=by
 funext i j
 unfold kN bS skip EH
 by_cases h1:j<k<;>by_cases h2:c<k
 ·simp only[h1,h2,if_true]
 ·simp only[h1,h2,if_true,if_false]
  rw[if_neg (by omega),if_neg (by omega)]
 ·simp only[h1,h2,if_true,if_false]
  rw[if_neg (by omega),if_neg (by omega)]
 ·simp only[h1,h2,if_false]
  by_cases h3:j+1=c
  ·rw[if_pos h3,if_pos (by omega)]
  ·rw[if_neg h3,if_neg (by omega)]
theorem mQ:∀{n:Nat} {A:Nat->Nat->Int} {c:Nat} {u v:Nat->Int},c<n->det n (bS A c fun i=>u i+v i)=det n (bS A c u)+det n (bS A c v)
 | n+1,A,c,u,v,hc=>by
  simp only[det]
  rw[<-ta]
  refine ci fun k hk=>?_
  by_cases h:k=c
  ·subst h
   simp only[pO]
   have e:∀v:Nat->Int,bS A k v 0 k=v 0:=fun v=>by simp[bS]
   rw[e,e,e,Int.mul_add,Int.add_mul]
  ·have e:∀v:Nat->Int,bS A c v 0 k=A 0 k:=fun v=>by simp[bS,h]
   rw[md h,md h,md h,e,e,e,mQ (u:=fun i=>u (i+1)) (v:=fun i=>v (i+1)) (by unfold EH;split<;>omega),Int.mul_add]
theorem oq:∀{n:Nat} {A:Nat->Nat->Int} {c:Nat} {x:Int} {u:Nat->Int},c<n->det n (bS A c fun i=>x*u i)=x*det n (bS A c u)
 | n+1,A,c,x,u,hc=>by
  simp only[det]
  rw[<-gU]
  refine ci fun k hk=>?_
  by_cases h:k=c
  ·subst h
   simp only[pO]
   have e:∀v:Nat->Int,bS A k v 0 k=v 0:=fun v=>by simp[bS]
   rw[e,e]
   simp only[Int.mul_assoc,Int.mul_left_comm]
  ·have e:∀v:Nat->Int,bS A c v 0 k=A 0 k:=fun v=>by simp[bS,h]
   rw[md h,md h,e,e,oq (u:=fun i=>u (i+1)) (by unfold EH;split<;>omega)]
   simp only[Int.mul_assoc,Int.mul_left_comm]
theorem Lx {n:Nat} {A:Nat->Nat->Int} {c:Nat} (hc:c<n):det n (bS A c fun _=>0)=0:=by
 have:=oq (n:=n) (A:=A) (x:=0) (u:=fun _=>0) hc
 simpa using this
theorem tO {n:Nat} {A:Nat->Nat->Int} {c:Nat} (hc:c<n):∀{m:Nat} {x:Nat->Int} {u:Nat->Nat->Int},det n (bS A c fun i=>sz m fun l=>x l*u l i)=sz m fun l=>x l*det n (bS A c (u l))
 | 0,x,u=>by simp only[sz];exact Lx hc
 | m+1,x,u=>by
  simp only[sz]
  rw[mQ hc,oq hc,tO hc]
theorem Af:∀{n:Nat} {A:Nat->Nat->Int} {c:Nat},c+1<n->(∀i,i<n->A i c=A i (c+1))->det n A=0
 | n+1,A,c,hc,h=>by
  simp only[det]
  rw[Dl (k:=c) (l:=c+1) (by omega) hc (by omega) fun k hk h1 h2=>?_]
  ·have e:det n (kN A c)=det n (kN A (c+1)):=by
    refine iA fun i j hi hj=>?_
    unfold kN skip
    by_cases h1:j<c
    ·rw[if_pos h1,if_pos (by omega)]
    ·by_cases h2:j=c
     ·subst h2
      rw[if_neg h1,if_pos (by omega)]
      exact (h (i+1) (by omega)).symm
     ·rw[if_neg h1,if_neg (by omega)]
   rw[e,Md,h 0 (by omega)]
   simp only[Int.neg_mul]
   omega
  ·have e:det n (kN A k)=0:=by
    refine Af (c:=EH k c) ?_ fun i hi=>?_
    ·unfold EH;split<;>omega
    ·unfold kN skip EH
     by_cases h3:c<k
     ·simp only[h3,if_true]
      rw[if_pos (by omega)]
      exact h (i+1) (by omega)
     ·simp only[h3,if_false]
      rw[if_neg (by omega),if_neg (by omega),show c - 1+1=c by omega]
      exact h (i+1) (by omega)
   rw[e,Int.mul_zero]
theorem oo (A:Nat->Nat->Int) (c:Nat):bS A c (fun i=>A i c)=A:=by
 funext i j
 unfold bS
 split
 ·rename_i h;rw[h]
 ·rfl
theorem eU {A:Nat->Nat->Int} {c e:Nat} {u v:Nat->Int} (h:c≠e):bS (bS A c u) e v=bS (bS A e v) c u:=by
 funext i j
 unfold bS
 by_cases h1:j=c<;>by_cases h2:j=e
 ·omega
 ·simp[h1,h]
 ·simp[h2,Ne.symm h]
 ·simp[h1,h2]
theorem AP {n:Nat} {A:Nat->Nat->Int} {c:Nat} {u v:Nat->Int} (hc:c+1<n):det n (bS (bS A c u) (c+1) v)= - det n (bS (bS A c v) (c+1) u):=by
 have h0:∀w:Nat->Int,det n (bS (bS A c w) (c+1) w)=0:=fun w=>Af hc fun i _=>by simp[bS]
 have h1:=h0 fun i=>u i+v i
 rw[mQ hc,eU (by omega),eU (u:=fun i=>u i+v i) (by omega),mQ (by omega),mQ (by omega),eU (c:=c+1) (by omega),eU (c:=c+1) (v:=v) (by omega),eU (c:=c+1) (u:=v) (v:=u) (by omega),eU (c:=c+1) (u:=v) (v:=v) (by omega),h0,h0] at h1
 omega
theorem El:∀{k:Nat} {n:Nat} {A:Nat->Nat->Int} {c:Nat},c+k+1<n->(∀i,i<n->A i c=A i (c+k+1))->det n A=0
 | 0,n,A,c,hc,h=>Af hc h
 | k+1,n,A,c,hc,h=>by
  have e:A=bS (bS A (c+k+1) fun i=>A i (c+k+1)) (c+k+1+1) fun i=>A i (c+k+1+1):=by
   rw[oo,oo]
  rw[e,AP (by omega)]
  have:det n (bS (bS A (c+k+1) fun i=>A i (c+k+1+1)) (c+k+1+1) fun i=>A i (c+k+1))=0:=by
   refine El (k:=k) (c:=c) (by omega) fun i hi=>?_
   simp only[bS]
   rw[if_neg (by omega),if_neg (by omega),if_neg (by omega)]
   simp only[if_true]
   exact h i hi
  rw[this]
  rfl
theorem lF {n:Nat} {A:Nat->Nat->Int} {a b:Nat} (ha:a<n) (hb:b<n) (hab:a≠b) (h:∀i,i<n->A i a=A i b):det n A=0:=by
 by_cases hlt:a<b
 ·obtain ⟨k,rfl⟩:∃k,b=a+k+1:=⟨b - a - 1,by omega⟩
  exact El hb h
 ·obtain ⟨k,rfl⟩:∃k,a=b+k+1:=⟨a - b - 1,by omega⟩
  exact El ha fun i hi=>(h i hi).symm
theorem J5 {n:Nat} {A:Nat->Nat->Int} {a b:Nat} {u v:Nat->Int} (ha:a<n) (hb:b<n) (hab:a≠b):det n (bS (bS A a u) b v)= - det n (bS (bS A a v) b u):=by
 have h0:∀w:Nat->Int,det n (bS (bS A a w) b w)=0:=fun w=>lF ha hb hab fun i _=>by simp[bS]
 have h1:=h0 fun i=>u i+v i
 rw[mQ hb,eU hab,eU (u:=fun i=>u i+v i) hab,mQ ha,mQ ha,eU (c:=b) (Ne.symm hab),eU (c:=b) (v:=v) (Ne.symm hab),eU (c:=b) (u:=v) (v:=u) (Ne.symm hab),eU (c:=b) (u:=v) (v:=v) (Ne.symm hab),h0,h0] at h1
 omega
def pz:Nat->(Nat->Int)->Int
 | 0,_=>1
 | n+1,f=>f 0*pz n fun i=>f (i+1)
theorem uV:∀{n:Nat} {f:Nat->Int},(∀i,i<n->0<=f i)->0<=pz n f
 | 0,_,_=>by simp[pz]
 | n+1,f,h=>Int.mul_nonneg (h 0 (by omega)) (uV fun i hi=>h (i+1) (by omega))
theorem Ia:∀{n:Nat} {f g:Nat->Int},(∀i,i<n->0<=f i/\f i<=g i)->pz n f<=pz n g
 | 0,_,_,_=>Int.le_refl _
 | n+1,f,g,h=>by
  simp only[pz]
  have h1:=Ia (n:=n) (f:=fun i=>f (i+1)) (g:=fun i=>g (i+1)) fun i hi=>h (i+1) (by omega)
  have h2:=h 0 (by omega)
  have h3:=uV (n:=n) (f:=fun i=>f (i+1)) fun i hi=>(h (i+1) (by omega)).1
  exact Int.mul_le_mul h2.2 h1 h3 (Int.le_trans h2.1 h2.2)
theorem EP:∀{n k:Nat} {f:Nat->Int},k<=n->sz n (fun j=>f (skip k j))+f k=sz (n+1) f
 | 0,k,f,hk=>by
  have:k=0:=by omega
  subst this
  simp[sz]
 | n+1,k,f,hk=>by
  by_cases h:k=n+1
  ·subst h
   have e:=ci (n:=n+1) (f:=fun j=>f (skip (n+1) j)) (g:=f) fun j hj=>by simp[skip,hj]
   rw[e]
   rfl
  ·have:=EP (n:=n) (k:=k) (f:=f) (by omega)
   simp only[sz] at this ⊢
   have e:f (skip k n)=f (n+1):=by unfold skip;rw[if_neg (by omega)]
   rw[e]
   omega
theorem zx:∀{n:Nat} {A:Nat->Nat->Int},ab (det n A)<=pz n fun i=>sz n fun j=>ab (A i j)
 | 0,A=>by simp[det,pz,ab]
 | n+1,A=>by
  simp only[det,pz]
  refine Int.le_trans Ii ?_
  have hP:0<=pz n fun i=>sz (n+1) fun j=>ab (A (i+1) j):=uV fun i _=>lZ fun j _=>fo _
  refine Int.le_trans (yy (g:=fun k=>ab (A 0 k)*pz n fun i=>sz (n+1) fun j=>ab (A (i+1) j)) fun k hk=>?_) (by rw[Fw];exact Int.le_refl _)
  rw[Int.mul_assoc,MG,uz]
  refine Int.mul_le_mul_of_nonneg_left (Int.le_trans zx (Ia fun i hi=>⟨lZ fun j _=>fo _,?_⟩)) (fo _)
  have:=EP (n:=n) (k:=k) (f:=fun j=>ab (A (i+1) j)) (by omega)
  have h0:=fo (A (i+1) k)
  simp only[kN]
  omega
def upd (β:Nat->Nat) (r c:Nat):Nat->Nat:=fun k=>if k=r then c else β k
def gJ (M:Nat->Nat->Int) (γ:Nat->Nat):Nat->Nat->Int:=fun i k=>M i (γ k)
def dc (m:Nat) (M:Nat->Nat->Int) (γ:Nat->Nat):Int:=det m (gJ M γ)
theorem ma (M:Nat->Nat->Int) (β:Nat->Nat) (r c:Nat):gJ M (upd β r c)=bS (gJ M β) r (fun i=>M i c):=by
 funext i k
 unfold gJ upd bS
 split<;>rfl
theorem OA (β:Nat->Nat) (r c e:Nat):upd (upd β r c) r e=upd β r e:=by
 funext k
 unfold upd
 split<;>rfl
theorem H7 (β:Nat->Nat) (r:Nat):upd β r (β r)=β:=by
 funext k
 unfold upd
 split
 ·rename_i h;rw[h]
 ·rfl
structure Tb (m w:Nat) (M T:Nat->Nat->Int) (d:Int) (β:Nat->Nat):Prop where
 dpos:0<d
 lt:∀i,i<m->β i<w
 co:∀k,k<m->∀j,j<w->d*M k j=sz m fun i=>T i j*M k (β i)
 cr:∃σ:Int,σ*σ=1/\d=σ*dc m M β/\∀i,i<m->∀j,j<w->T i j=σ*dc m M (upd β i j)
section
variable {m w:Nat} {M T:Nat->Nat->Int} {d:Int} {β:Nat->Nat}
theorem Av {i k:Nat} (hi:i<m) (hk:k<m) (h:i≠k):dc m M (upd β i (β k))=0:=by
 refine lF hi hk h fun l _=>?_
 unfold gJ upd
 rw[if_pos rfl,if_neg (Ne.symm h)]
theorem Tb.basis (h:Tb m w M T d β) {i:Nat} (hi:i<m):T i (β i)=d:=by
 obtain ⟨σ,_,h2,h3⟩:=h.cr
 rw[h3 i hi _ (h.lt i hi),H7,<-h2]
theorem Tb.other (h:Tb m w M T d β) {i k:Nat} (hi:i<m) (hk:k<m) (hik:i≠k):T i (β k)=0:=by
 obtain ⟨σ,_,h2,h3⟩:=h.cr
 rw[h3 i hi _ (h.lt k hk),Av hi hk hik,Int.mul_zero]
theorem Tb.inj (h:Tb m w M T d β) {i k:Nat} (hi:i<m) (hk:k<m) (hb:β i=β k):i=k:=by
 by_cases e:i=k
 ·exact e
 ·have h1:=h.other hi hk e
  rw[<-hb,h.basis hi] at h1
  have:=h.dpos
  omega
theorem HH (h:Tb m w M T d β) {r i c j:Nat} (hr:r<m) (hi:i<m) (hri:r≠i) (hc:c<w) (hj:j<w) :
  d*d*dc m M (upd (upd β r c) i j)=(T r c*T i j - T i c*T r j)*dc m M β:=by
 obtain ⟨B,hB⟩:∃B,B=gJ M β:=⟨_,rfl⟩
 have e1:d*d*dc m M (upd (upd β r c) i j)=det m (bS (bS B r fun q=>d*M q c) i fun q=>d*M q j):=by
  have a1:=oq (n:=m) (A:=bS B r fun q=>d*M q c) (c:=i) (x:=d) (u:=fun q=>M q j) hi
  have a2:=oq (n:=m) (A:=bS B i fun q=>M q j) (c:=r) (x:=d) (u:=fun q=>M q c) hr
  unfold dc
  rw[ma,ma,<-hB,a1,eU (u:=fun q=>d*M q c) hri,a2,eU (u:=fun q=>M q c) hri,Int.mul_assoc]
 have e2:det m (bS (bS B r fun q=>d*M q c) i fun q=>d*M q j)=det m (bS (bS B r fun q=>sz m fun k=>T k c*B q k) i fun q=>sz m fun l=>T l j*B q l):=by
  refine iA fun p q hp hq=>?_
  unfold bS
  rw[hB]
  split
  ·exact h.co p hp j hj
  ·split
   ·exact h.co p hp c hc
   ·rfl
 rw[e1,e2,tO hi (x:=fun l=>T l j) (u:=fun l q=>B q l)]
 have e3:∀l,det m (bS (bS B r fun q=>sz m fun k=>T k c*B q k) i fun q=>B q l)=sz m fun k=>T k c*det m (bS (bS B i fun q=>B q l) r fun q=>B q k):=fun l=>by
  rw[eU hri,tO hr (x:=fun k=>T k c) (u:=fun k q=>B q k)]
 have z1:∀k l,k<m->k≠r->k≠i->det m (bS (bS B i fun q=>B q l) r fun q=>B q k)=0:=fun k l hk h1 h2 =>
  lF hr hk h1.symm fun q _=>by simp[bS,h1,h2]
 have z2:∀k l,l<m->l≠r->l≠i->det m (bS (bS B i fun q=>B q l) r fun q=>B q k)=0:=fun k l hl h1 h2 =>
  lF hi hl h2.symm fun q _=>by simp[bS,h1,h2,hri.symm]
 have z3:det m (bS (bS B i fun q=>B q r) r fun q=>B q r)=0:=lF hi hr hri.symm fun q _=>by simp[bS,hri.symm]
 have z4:det m (bS (bS B i fun q=>B q i) r fun q=>B q i)=0:=lF hi hr hri.symm fun q _=>by simp[bS,hri.symm]
 have z5:det m (bS (bS B i fun q=>B q i) r fun q=>B q r)=det m B:=by
  rw[oo,oo]
 have z6:det m (bS (bS B i fun q=>B q r) r fun q=>B q i)= - det m B:=by
  rw[J5 hi hr hri.symm,z5]
 have e4:∀l,l<m->(sz m fun k=>T k c*det m (bS (bS B i fun q=>B q l) r fun q=>B q k))=T r c*det m (bS (bS B i fun q=>B q l) r fun q=>B q r)+T i c*det m (bS (bS B i fun q=>B q l) r fun q=>B q i):=fun l _ =>
  Dl hr hi hri fun k hk h1 h2=>by rw[z1 k l hk h1 h2,Int.mul_zero]
 rw[ci (g:=fun l=>T l j*(T r c*det m (bS (bS B i fun q=>B q l) r fun q=>B q r)+T i c*det m (bS (bS B i fun q=>B q l) r fun q=>B q i))) fun l hl=>by rw[e3 l,e4 l hl]]
 rw[Dl hr hi hri fun l hl h1 h2=>by rw[z2 r l hl h1 h2,z2 i l hl h1 h2];simp]
 rw[z3,z4,z5,z6]
 have:dc m M β=det m B:=by rw[hB];rfl
 rw[this]
 grind
def piv (T:Nat->Nat->Int) (d:Int) (r c i j:Nat):Int:=(T r c*T i j - T i c*T r j) / d
theorem kw (h:Tb m w M T d β) {r i c j:Nat} (hr:r<m) (hi:i<m) (hri:r≠i) (hc:c<w) (hj:j<w):d*piv T d r c i j=T r c*T i j - T i c*T r j:=by
 obtain ⟨σ,h1,h2,_⟩:=h.cr
 have h3:=HH h hr hi hri hc hj
 have hd:=h.dpos
 have h4:dc m M β=σ*d:=by rw[h2,<-Int.mul_assoc,h1,Int.one_mul]
 rw[h4] at h3
 have h5:d*(d*dc m M (upd (upd β r c) i j))=d*((T r c*T i j - T i c*T r j)*σ):=by
  rw[<-Int.mul_assoc,h3]
  grind
 have h6:=Int.eq_of_mul_eq_mul_left (by omega) h5
 have h7:T r c*T i j - T i c*T r j=d*(σ*dc m M (upd (upd β r c) i j)):=by
  have:(T r c*T i j - T i c*T r j)*σ*σ=d*dc m M (upd (upd β r c) i j)*σ:=by rw[h6]
  rw[Int.mul_assoc,h1,Int.mul_one] at this
  rw[this]
  grind
 unfold piv
 rw[h7,Int.mul_ediv_cancel_left _ (by omega)]
theorem QS (h:Tb m w M T d β) {σ:Int} (h1:σ*σ=1) (h2:d=σ*dc m M β) {r i c j:Nat} (hr:r<m) (hi:i<m) (hri:r≠i) (hc:c<w) (hj:j<w):piv T d r c i j=σ*dc m M (upd (upd β r c) i j):=by
 have h3:=HH h hr hi hri hc hj
 have hd:=h.dpos
 have h4:dc m M β=σ*d:=by rw[h2,<-Int.mul_assoc,h1,Int.one_mul]
 have h5:=kw h hr hi hri hc hj
 rw[h4,<-h5] at h3
 have h6:(d*d)*dc m M (upd (upd β r c) i j)=(d*d)*(piv T d r c i j*σ):=by rw[h3];grind
 have h7:=Int.eq_of_mul_eq_mul_left (Int.ne_of_gt (Int.mul_pos hd hd)) h6
 rw[h7]
 grind
def sg (x:Int):Int:=if x<0 then -1 else 1
theorem PV (x:Int):sg x*sg x=1:=by unfold sg;split<;>rfl
theorem HN {x:Int} (h:x≠0):0<sg x*x:=by unfold sg;split<;>omega
def uI (T:Nat->Nat->Int) (d:Int) (r c:Nat):Nat->Nat->Int:=fun i j=>sg (T r c)*(if i=r then T r j else piv T d r c i j)
theorem Tb.step (h:Tb m w M T d β) {r c:Nat} (hr:r<m) (hc:c<w) (he:T r c≠0):Tb m w M (uI T d r c) (sg (T r c)*T r c) (upd β r c):=by
 have hd:=h.dpos
 refine ⟨HN he,fun i hi=>?_,fun k hk j hj=>?_,?_⟩
 ·unfold upd
  split
  ·exact hc
  ·exact h.lt i hi
 ·have h1:∀i,i<m->d*((if i=r then T r j else piv T d r c i j)*M k (upd β r c i))=(T r c*(T i j*M k (β i)) - T r j*(T i c*M k (β i)))+(if i=r then d*(T r j*M k c) else 0):=fun i hi=>by
   unfold upd
   by_cases e:i=r
   ·subst e
    simp only[if_true]
    grind
   ·simp only[e,if_false,Int.add_zero]
    rw[<-Int.mul_assoc,kw h hr hi (Ne.symm e) hc hj]
    grind
  have h2:d*(sz m fun i=>(if i=r then T r j else piv T d r c i j)*M k (upd β r c i))=d*(T r c*M k j):=by
   rw[<-gU,ci h1,ta,Em,gU,gU,<-h.co k hk j hj,<-h.co k hk c hc,iJ hr fun i _ hne=>if_neg hne,if_pos rfl]
   grind
  have h3:=Int.eq_of_mul_eq_mul_left (by omega) h2
  have h4:(sz m fun i=>uI T d r c i j*M k (upd β r c i))=sg (T r c)*sz m fun i=>(if i=r then T r j else piv T d r c i j)*M k (upd β r c i):=by
   rw[<-gU]
   exact ci fun i _=>by unfold uI;rw[Int.mul_assoc]
  rw[h4,h3,Int.mul_assoc]
 ·obtain ⟨σ,h1,h2,h3⟩:=h.cr
  refine ⟨sg (T r c)*σ,?_,?_,fun i hi j hj=>?_⟩
  ·have:=PV (T r c)
   grind
  ·rw[h3 r hr c hc]
   grind
  ·unfold uI
   by_cases e:i=r
   ·subst e
    rw[if_pos rfl,h3 i hi j hj,OA]
    grind
   ·rw[if_neg e,QS h h1 h2 hr hi (Ne.symm e) hc hj]
    grind
theorem Fi:∀n:Nat,det n (fun i k=>if i=k then 1 else 0)=1
 | 0=>rfl
 | n+1=>by
  simp only[det]
  rw[iJ (k:=0) (by omega) fun k _ hk=>by rw[if_neg (Ne.symm hk)];simp]
  have:det n (kN (fun i k=>if i=k then 1 else 0) 0)=det n (fun i k=>if i=k then 1 else 0):=iA fun i j _ _=>by
   unfold kN skip
   simp
  rw[this,Fi n]
  simp[sgd]
theorem Tb.first {a:Nat->Nat} (ha:∀i,i<m->a i<w) (hM:∀k,k<m->∀i,i<m->M k (a i)=if k=i then 1 else 0):Tb m w M M 1 a:=by
 have h1:dc m M a=1:=by
  unfold dc
  rw[<-Fi m]
  exact iA fun i j hi hj=>hM i hi j hj
 refine ⟨by omega,ha,fun k hk j hj=>?_,1,by omega,by rw[h1];rfl,fun i hi j hj=>?_⟩
 ·rw[iJ hk fun i hi hne=>by rw[hM k hk i hi,if_neg (Ne.symm hne),Int.mul_zero],hM k hk k hk,if_pos rfl]
  omega
 ·unfold dc
  rw[ma]
  have e:det m (bS (gJ M a) i fun q=>M q j)=det m (bS (gJ M a) i fun q=>sz m fun k=>M k j*gJ M a q k):=by
   refine iA fun p q hp hq=>?_
   unfold bS
   split
   ·show M p j=sz m fun k=>M k j*gJ M a p k
    rw[iJ hp fun k hk hne=>by unfold gJ;rw[hM p hp k hk,if_neg (Ne.symm hne),Int.mul_zero]]
    unfold gJ
    rw[hM p hp p hp,if_pos rfl]
    omega
   ·rfl
  rw[e,tO hi (x:=fun k=>M k j) (u:=fun k q=>gJ M a q k),iJ hi fun k hk hne=>by
   rw[lF hi hk (Ne.symm hne) fun q _=>by simp[bS,hne],Int.mul_zero],oo]
  have:det m (gJ M a)=1:=h1
  rw[this]
  omega
theorem Tb.rows (h:Tb m w M T d β) {a:Nat->Nat} (ha:∀i,i<m->a i<w) (hM:∀k,k<m->∀i,i<m->M k (a i)=if k=i then 1 else 0) {i j:Nat} (hi:i<m) (hj:j<w):T i j=sz m fun k=>T i (a k)*M k j:=by
 obtain ⟨σ,h1,h2,h3⟩:=h.cr
 rw[h3 i hi j hj]
 have e:dc m M (upd β i j)=sz m fun k=>M k j*dc m M (upd β i (a k)):=by
  unfold dc
  rw[ma]
  have e:det m (bS (gJ M β) i fun q=>M q j)=det m (bS (gJ M β) i fun q=>sz m fun k=>M k j*M q (a k)):=by
   refine iA fun p q hp hq=>?_
   unfold bS
   split
   ·show M p j=sz m fun k=>M k j*M p (a k)
    rw[iJ hp fun k hk hne=>by rw[hM p hp k hk,if_neg (Ne.symm hne),Int.mul_zero],hM p hp p hp,if_pos rfl]
    omega
   ·rfl
  rw[e,tO hi (x:=fun k=>M k j) (u:=fun k q=>M q (a k))]
  exact ci fun k _=>by rw[ma]
 rw[e,<-gU]
 exact ci fun k hk=>by rw[h3 i hi _ (ha k hk)];grind
theorem Tb.bound (h:Tb m w M T d β) {i j:Nat} (hi:i<m) (hj:j<w):ab (T i j)=ab (dc m M (upd β i j)):=by
 obtain ⟨σ,h1,_,h3⟩:=h.cr
 rw[h3 i hi j hj,uz]
 have h4:ab σ*ab σ=1:=by rw[<-uz,h1];rfl
 have h5:ab σ=1:=by
  have h6:=fo σ
  by_cases h7:ab σ<=1
  ·have:ab σ≠0:=fun e=>by rw[e] at h4;simp at h4
   omega
  ·exfalso
   have:2*2<=ab σ*ab σ:=Int.mul_le_mul (by omega) (by omega) (by omega) h6
   omega
 rw[h5,Int.one_mul]
end
structure Sx where
 T:Nat->Nat->Int
 d:Int
 β:Nat->Nat
def zr (m:Nat) (wc:Nat->Int) (S:Sx) (j:Nat):Int:=wc j*S.d - sz m fun i=>wc (S.β i)*S.T i j
structure Leaves (m R:Nat) (S:Sx) (c r:Nat):Prop where
 lt:r<m
 pos:0<S.T r c
 le:∀i,i<m->0<S.T i c->S.T r R*S.T i c<=S.T i R*S.T r c
 tie:∀i,i<m->0<S.T i c->S.T r R*S.T i c=S.T i R*S.T r c->S.β r<=S.β i
structure Enters (m N:Nat) (wc:Nat->Int) (S:Sx) (c:Nat):Prop where
 lt:c<N
 neg:zr m wc S c<0
 least:∀j,j<c->0<=zr m wc S j
structure StepAt (m w:Nat) (S S':Sx) (r c:Nat):Prop where
 T:∀i j,i<m->j<w->S'.T i j=if i=r then S.T r j else piv S.T S.d r c i j
 d:S'.d=S.T r c
 β:∀i,i<m->S'.β i=upd S.β r c i
structure Step (m w N R:Nat) (wc:Nat->Int) (S S':Sx) (r c:Nat):Prop where
 enters:Enters m N wc S c
 leaves:Leaves m R S c r
 at':StepAt m w S S' r c
structure Val (m w N R:Nat) (M:Nat->Nat->Int) (S:Sx):Prop where
 tb:Tb m w M S.T S.d S.β
 feas:∀i,i<m->0<=S.T i R
 ne:∀i,i<m->S.β i≠R
section
variable {m w N R:Nat} {M:Nat->Nat->Int} {wc:Nat->Int}
theorem tQ {β β':Nat->Nat} (h:∀i,i<m->β' i=β i):dc m M β'=dc m M β:=iA fun i j _ hj=>by unfold gJ;rw[h j hj]
theorem Tb.congr {T T':Nat->Nat->Int} {d:Int} {β β':Nat->Nat} (h:Tb m w M T d β) (hT:∀i j,i<m->j<w->T' i j=T i j) (hβ:∀i,i<m->β' i=β i):Tb m w M T' d β':=by
 refine ⟨h.dpos,fun i hi=>by rw[hβ i hi];exact h.lt i hi,fun k hk j hj=>?_,?_⟩
 ·rw[h.co k hk j hj]
  exact ci fun i hi=>by rw[hT i j hi hj,hβ i hi]
 ·obtain ⟨σ,h1,h2,h3⟩:=h.cr
  refine ⟨σ,h1,by rw[tQ hβ];exact h2,fun i hi j hj=>?_⟩
  rw[hT i j hi hj,h3 i hi j hj]
  congr 1
  exact (tQ fun k hk=>by unfold upd;rw[hβ k hk]).symm
theorem Val.stepAt {S S':Sx} (h:Val m w N R M S) (hR:R<w) {r c:Nat} (hc:c<w) (hcR:c≠R) (hl:Leaves m R S c r) (hs:StepAt m w S S' r c):Val m w N R M S':=by
 have hr:=hl.lt
 have e1:sg (S.T r c)=1:=by unfold sg;rw[if_neg (by have:=hl.pos;omega)]
 have h1:=h.tb.step hr hc (by have:=hl.pos;omega)
 have h2:=h1.congr (T':=S'.T) (β':=S'.β) (fun i j hi hj=>by rw[hs.T i j hi hj];unfold uI;rw[e1,Int.one_mul]) hs.β
 rw[e1,Int.one_mul,<-hs.d] at h2
 refine ⟨h2,fun i hi=>?_,fun i hi=>?_⟩
 ·rw[hs.T i R hi hR]
  split
  ·exact h.feas r hr
  ·rename_i hne
   have h3:=kw h.tb hr hi (Ne.symm hne) hc hR
   have h4:=h.tb.dpos
   have h5:=hl.pos
   have h6:0<=S.T r c*S.T i R - S.T i c*S.T r R:=by
    by_cases h7:0<S.T i c
    ·have:=hl.le i hi h7
     have e1:=Int.mul_comm (S.T r R) (S.T i c)
     have e2:=Int.mul_comm (S.T i R) (S.T r c)
     omega
    ·have h8:0<=S.T r c*S.T i R:=Int.mul_nonneg (by omega) (h.feas i hi)
     have h9:0<= -S.T i c*S.T r R:=Int.mul_nonneg (by omega) (h.feas r hr)
     rw[Int.neg_mul] at h9
     omega
   rw[<-h3] at h6
   exact Int.nonneg_of_mul_nonneg_right h6 h4
 ·rw[hs.β i hi]
  unfold upd
  split
  ·exact hcR
  ·exact h.ne i hi
theorem BZ {S:Sx} (h:Tb m w M S.T S.d S.β) {i:Nat} (hi:i<m):zr m wc S (S.β i)=0:=by
 unfold zr
 rw[iJ hi fun k hk hne=>by rw[h.other hk hi hne,Int.mul_zero],h.basis hi]
 omega
theorem Ft {S:Sx} (h:Tb m w M S.T S.d S.β) {a:Nat->Nat} (ha:∀i,i<m->a i<w) (hM:∀k,k<m->∀i,i<m->M k (a i)=if k=i then 1 else 0) {j:Nat} (hj:j<w) :
  zr m wc S j=wc j*S.d - sz m fun k=>(sz m fun i=>wc (S.β i)*S.T i (a k))*M k j:=by
 unfold zr
 congr 1
 rw[ci (g:=fun i=>sz m fun k=>wc (S.β i)*S.T i (a k)*M k j) fun i hi=>by
  rw[h.rows ha hM hi hj,<-gU]
  exact ci fun k _=>by rw[Int.mul_assoc]]
 rw[vW]
 exact ci fun k _=>Fw
theorem M7 {S S':Sx} (h:Tb m w M S.T S.d S.β) {r c j:Nat} (hr:r<m) (hc:c<w) (hj:j<w) (hs:StepAt m w S S' r c):S.d*zr m wc S' j=S.T r c*zr m wc S j - zr m wc S c*S.T r j:=by
 have h1:∀i,i<m->S.d*(wc (S'.β i)*S'.T i j)=(S.T r c*(wc (S.β i)*S.T i j) - S.T r j*(wc (S.β i)*S.T i c))+(if i=r then S.d*(wc c*S.T r j) else 0):=fun i hi=>by
  rw[hs.β i hi,hs.T i j hi hj]
  unfold upd
  by_cases e:i=r
  ·subst e
   simp only[if_true]
   grind
  ·simp only[e,if_false,Int.add_zero]
   have:=kw h hr hi (Ne.symm e) hc hj
   grind
 have h2:S.d*(sz m fun i=>wc (S'.β i)*S'.T i j)=S.T r c*(sz m fun i=>wc (S.β i)*S.T i j) - S.T r j*(sz m fun i=>wc (S.β i)*S.T i c)+S.d*(wc c*S.T r j):=by
  rw[<-gU,ci h1,ta,Em,gU,gU,iJ hr fun i _ hne=>if_neg hne,if_pos rfl]
 unfold zr
 rw[Int.mul_sub,h2,hs.d]
 grind
theorem Qh {S S':Sx} (h:Tb m w M S.T S.d S.β) (h':Tb m w M S'.T S'.d S'.β) {a:Nat->Nat} (ha:∀i,i<m->a i<w) (hM:∀k,k<m->∀i,i<m->M k (a i)=if k=i then 1 else 0) {s:Nat} (hs:s<w) :
  S.d*zr m wc S' s=S'.d*zr m wc S s+sz m fun i=>S.T i s*zr m wc S' (S.β i):=by
 have e1:=Ft (wc:=wc) h' ha hM hs
 have e2:∀i,i<m->S.T i s*zr m wc S' (S.β i)=S'.d*(wc (S.β i)*S.T i s) - sz m fun k=>(sz m fun i=>wc (S'.β i)*S'.T i (a k))*(S.T i s*M k (S.β i)):=fun i hi=>by
  rw[Ft (wc:=wc) h' ha hM (h.lt i hi),Int.mul_sub,<-gU]
  congr 1
  ·grind
  ·exact ci fun k _=>by grind
 rw[ci e2,Em,gU,vW]
 have e3:(sz m fun k=>sz m fun i=>(sz m fun i=>wc (S'.β i)*S'.T i (a k))*(S.T i s*M k (S.β i)))=S.d*sz m fun k=>(sz m fun i=>wc (S'.β i)*S'.T i (a k))*M k s:=by
  rw[<-gU]
  refine ci fun k hk=>?_
  rw[gU,<-h.co k hk s hs]
  grind
 rw[e3,e1]
 unfold zr
 grind
theorem oP {β:Nat->Nat->Nat} {q:Nat}:∀{k i:Nat},(∃p,p<m/\β i p=q)->(¬ ∃p,p<m/\β (i+k) p=q)->∃n,i<=n/\n<i+k/\(∃p,p<m/\β n p=q)/\¬ ∃p,p<m/\β (n+1) p=q
 | 0,i,h1,h2=>(h2 h1).elim
 | k+1,i,h1,h2=>by
  by_cases h:∃p,p<m/\β (i+k) p=q
  ·exact ⟨i+k,by omega,by omega,h,h2⟩
  ·obtain ⟨n,h3,h4,h5,h6⟩:=oP h1 h
   exact ⟨n,h3,by omega,h5,h6⟩
theorem lN {β:Nat->Nat->Nat} {q:Nat}:∀{k i:Nat},(¬ ∃p,p<m/\β i p=q)->(∃p,p<m/\β (i+k) p=q)->∃n,i<=n/\n<i+k/\(¬ ∃p,p<m/\β n p=q)/\∃p,p<m/\β (n+1) p=q
 | 0,i,h1,h2=>(h1 h2).elim
 | k+1,i,h1,h2=>by
  by_cases h:∃p,p<m/\β (i+k) p=q
  ·obtain ⟨n,h3,h4,h5,h6⟩:=lN h1 h
   exact ⟨n,h3,by omega,h5,h6⟩
  ·exact ⟨i+k,by omega,by omega,h,h2⟩
theorem PQ {k:Nat} {f:Nat->Nat}:0<k->∃n,n<k/\∀i,i<k->f i<=f n:=by
 induction k with
 | zero=>intro h;omega
 | succ k ih =>
  intro _
  by_cases hk:k=0
  ·subst hk
   exact ⟨0,by omega,fun i hi=>by rw[show i=0 by omega];exact Nat.le_refl _⟩
  ·obtain ⟨n,h1,h2⟩:=ih (by omega)
   by_cases h3:f k<=f n
   ·refine ⟨n,by omega,fun i hi=>?_⟩
    by_cases h4:i=k
    ·rw[h4];exact h3
    ·exact h2 i (by omega)
   ·refine ⟨k,by omega,fun i hi=>?_⟩
    by_cases h4:i=k
    ·rw[h4];exact Nat.le_refl _
    ·have:=h2 i (by omega);omega
theorem Ht {e x y:Int} (he:0<e) (h:e*x<=e*y):x<=y:=Int.le_of_mul_le_mul_left h he
structure Run (m w N R:Nat) (M:Nat->Nat->Int) (wc:Nat->Int) (k:Nat) (S:Nat->Sx) (r c:Nat->Nat):Prop where
 val:∀n,n<=k->Val m w N R M (S n)
 step:∀n,n<k->Step m w N R wc (S n) (S (n+1)) (r n) (c n)
theorem Run.of {k:Nat} {S:Nat->Sx} {r c:Nat->Nat} (hN:N<=R) (hR:R<w) (h0:Val m w N R M (S 0)) (hs:∀n,n<k->Step m w N R wc (S n) (S (n+1)) (r n) (c n)):Run m w N R M wc k S r c:=by
 refine ⟨fun n=>?_,hs⟩
 induction n with
 | zero=>intro _;exact h0
 | succ n ih =>
  intro hn
  have h1:=hs n (by omega)
  have:=h1.enters.lt
  exact (ih (by omega)).stepAt hR (by omega) (by omega) h1.leaves h1.at'
theorem Run.nocycle {k:Nat} {S:Nat->Sx} {r c:Nat->Nat} {a:Nat->Nat} (ha:∀i,i<m->a i<w) (hM:∀k,k<m->∀i,i<m->M k (a i)=if k=i then 1 else 0) (hN:N<=R) (hR:R<w)
  (h:Run m w N R M wc k S r c) (hk:0<k):¬ ∀i,i<m->(S k).β i=(S 0).β i:=by
 intro hcyc
 have cw:∀n,n<k->c n<w:=fun n hn=>by have:=(h.step n hn).enters.lt;omega
 have dp:∀n,n<=k->0<(S n).d:=fun n hn=>(h.val n hn).tb.dpos
 have vstep:∀n,n<k->zr m wc (S n) R*(S (n+1)).d<=zr m wc (S (n+1)) R*(S n).d/\((S n).T (r n) R≠0->zr m wc (S n) R*(S (n+1)).d<zr m wc (S (n+1)) R*(S n).d):=fun n hn=>by
  have hs:=h.step n hn
  have h1:=M7 (wc:=wc) (h.val n (by omega)).tb hs.leaves.lt (cw n hn) hR hs.at'
  have h2:=hs.enters.neg
  have h3:=(h.val n (by omega)).feas (r n) hs.leaves.lt
  have h4:0<= -zr m wc (S n) (c n)*(S n).T (r n) R:=Int.mul_nonneg (by omega) h3
  rw[Int.neg_mul] at h4
  rw[hs.at'.d,Int.mul_comm (zr m wc (S (n+1)) R),h1,Int.mul_comm (zr m wc (S n) R)]
  refine ⟨by omega,fun hne=>?_⟩
  have h5:0< -zr m wc (S n) (c n)*(S n).T (r n) R:=Int.mul_pos (by omega) (by omega)
  rw[Int.neg_mul] at h5
  omega
 have vle:∀i j,i+j<=k->zr m wc (S i) R*(S (i+j)).d<=zr m wc (S (i+j)) R*(S i).d:=by
  intro i j
  induction j with
  | zero=>intro _;exact Int.le_refl _
  | succ j ih =>
   intro hj
   have h1:=ih (by omega)
   have h2:=(vstep (i+j) (by omega)).1
   have d1:=dp i (by omega)
   have d2:=dp (i+j) (by omega)
   have d3:=dp (i+j+1) (by omega)
   refine Ht d2 ?_
   have h3:=z11 h1 (Int.le_of_lt d3)
   have h4:=z11 h2 (Int.le_of_lt d1)
   rw[show i+(j+1)=i+j+1 by omega]
   calc (S (i+j)).d*(zr m wc (S i) R*(S (i+j+1)).d)=zr m wc (S i) R*(S (i+j)).d*(S (i+j+1)).d:=by grind
    _<=zr m wc (S (i+j)) R*(S i).d*(S (i+j+1)).d:=h3
    _=zr m wc (S (i+j)) R*(S (i+j+1)).d*(S i).d:=by grind
    _<=zr m wc (S (i+j+1)) R*(S (i+j)).d*(S i).d:=h4
    _=(S (i+j)).d*(zr m wc (S (i+j+1)) R*(S i).d):=by grind
 have same:(S k).d=(S 0).d/\∀i j,i<m->j<w->(S k).T i j=(S 0).T i j:=by
  obtain ⟨σ,s1,s2,s3⟩:=(h.val k (Nat.le_refl _)).tb.cr
  obtain ⟨τ,t1,t2,t3⟩:=(h.val 0 (by omega)).tb.cr
  rw[tQ hcyc] at s2
  have p1:=dp k (Nat.le_refl _)
  have p2:=dp 0 (by omega)
  have e:σ=τ:=by
   have h1:σ*(S k).d=dc m M (S 0).β:=by rw[s2,<-Int.mul_assoc,s1,Int.one_mul]
   have h2:τ*(S 0).d=dc m M (S 0).β:=by rw[t2,<-Int.mul_assoc,t1,Int.one_mul]
   have pm:∀x:Int,x*x=1->x=1\/x= -1:=fun x hx=>by
    have h4:x.natAbs*x.natAbs=1:=by
     have:=congrArg Int.natAbs hx
     rwa [Int.natAbs_mul] at this
    have h5:x.natAbs=1:=Nat.eq_one_of_mul_eq_one_left h4
    omega
   rcases pm σ s1 with rfl | rfl<;>rcases pm τ t1 with rfl | rfl<;>omega
  refine ⟨by rw[s2,e];exact t2.symm,fun i j hi hj=>?_⟩
  rw[s3 i hi j hj,t3 i hi j hj,e]
  congr 1
  exact tQ fun l hl=>by unfold upd;rw[hcyc l hl]
 have vend:zr m wc (S k) R=zr m wc (S 0) R:=by
  unfold zr
  rw[same.1]
  congr 1
  exact ci fun i hi=>by rw[hcyc i hi,same.2 i R hi hR]
 have flat:∀n,n<k->(S n).T (r n) R=0:=fun n hn=>by
  by_cases e:(S n).T (r n) R=0
  ·exact e
  ·exfalso
   have h1:=(vstep n hn).2 e
   have h2:=vle 0 n (by omega)
   have h3:=vle (n+1) (k - (n+1)) (by omega)
   rw[Nat.zero_add] at h2
   rw[show n+1+(k - (n+1))=k by omega,vend,same.1] at h3
   have d0:=dp 0 (by omega)
   have d1:=dp n (by omega)
   have d2:=dp (n+1) (by omega)
   have h4:=Int.mul_lt_mul_of_pos_right h1 d0
   have h5:=z11 h2 (Int.le_of_lt d2)
   have h6:=z11 h3 (Int.le_of_lt d1)
   have:zr m wc (S 0) R*(S n).d*(S (n+1)).d<zr m wc (S 0) R*(S n).d*(S (n+1)).d:=by
    calc zr m wc (S 0) R*(S n).d*(S (n+1)).d<=zr m wc (S n) R*(S 0).d*(S (n+1)).d:=h5
     _=zr m wc (S n) R*(S (n+1)).d*(S 0).d:=by grind
     _<zr m wc (S (n+1)) R*(S n).d*(S 0).d:=h4
     _=zr m wc (S (n+1)) R*(S 0).d*(S n).d:=by grind
     _<=zr m wc (S 0) R*(S (n+1)).d*(S n).d:=h6
     _=zr m wc (S 0) R*(S n).d*(S (n+1)).d:=by grind
   omega
 have zeroStep:∀n q,n<k->((∀i,i<m->(S n).β i=q->(S n).T i R=0)↔(∀i,i<m->(S (n+1)).β i=q->(S (n+1)).T i R=0)):=fun n q hn=>by
  have hs:=h.step n hn
  have hf:=flat n hn
  have htb:=(h.val n (by omega)).tb
  have key:∀i,i<m->i≠r n->((S (n+1)).T i R=0↔(S n).T i R=0):=fun i hi hne=>by
   rw[hs.at'.T i R hi hR,if_neg hne]
   have h1:=kw htb hs.leaves.lt hi (Ne.symm hne) (cw n hn) hR
   rw[hf,Int.mul_zero,Int.sub_zero] at h1
   have h2:=hs.leaves.pos
   have h3:=dp n (by omega)
   constructor
   ·intro e
    rw[e,Int.mul_zero] at h1
    rcases Int.mul_eq_zero.1 h1.symm with h4 | h4
    ·omega
    ·exact h4
   ·intro e
    rw[e,Int.mul_zero] at h1
    rcases Int.mul_eq_zero.1 h1 with h4 | h4
    ·omega
    ·exact h4
  constructor
  ·intro hz i hi hb
   by_cases e:i=r n
   ·rw[e,hs.at'.T _ R hs.leaves.lt hR,if_pos rfl];exact hf
   ·rw[hs.at'.β i hi] at hb
    unfold upd at hb
    rw[if_neg e] at hb
    exact (key i hi e).2 (hz i hi hb)
  ·intro hz i hi hb
   by_cases e:i=r n
   ·rw[e];exact hf
   ·refine (key i hi e).1 (hz i hi ?_)
    rw[hs.at'.β i hi]
    unfold upd
    rw[if_neg e]
    exact hb
 have zeroAll:∀q n,n<=k->((∀i,i<m->(S 0).β i=q->(S 0).T i R=0)↔(∀i,i<m->(S n).β i=q->(S n).T i R=0)):=fun q n=>by
  induction n with
  | zero=>intro _;exact Iff.rfl
  | succ n ih=>intro hn;exact (ih (by omega)).trans (zeroStep n q (by omega))
 have comes:∀n q,n<k->(¬ ∃p,p<m/\(S n).β p=q)->(∃p,p<m/\(S (n+1)).β p=q)->q=c n:=fun n q hn h1 ⟨p,hp,hq⟩=>by
  have hs:=h.step n hn
  rw[hs.at'.β p hp] at hq
  unfold upd at hq
  split at hq
  ·exact hq.symm
  ·exact (h1 ⟨p,hp,hq⟩).elim
 have goes:∀n q,n<k->(∃p,p<m/\(S n).β p=q)->(¬ ∃p,p<m/\(S (n+1)).β p=q)->q=(S n).β (r n):=fun n q hn ⟨p,hp,hq⟩ h1=>by
  have hs:=h.step n hn
  by_cases e:p=r n
  ·rw[<-e];exact hq.symm
  ·refine (h1 ⟨p,hp,?_⟩).elim
   rw[hs.at'.β p hp]
   unfold upd
   rw[if_neg e]
   exact hq
 have B2:∀n,n<k->¬ ∃p,p<m/\(S n).β p=c n:=fun n hn ⟨p,hp,hq⟩=>by
  have hs:=h.step n hn
  have h1:=hs.enters.neg
  rw[<-hq,BZ (h.val n (by omega)).tb hp] at h1
  omega
 have isIn:∀n,n<k->∃p,p<m/\(S (n+1)).β p=c n:=fun n hn=>by
  have hs:=h.step n hn
  refine ⟨r n,hs.leaves.lt,?_⟩
  rw[hs.at'.β _ hs.leaves.lt]
  unfold upd
  rw[if_pos rfl]
 have ends:∀q,(∃p,p<m/\(S k).β p=q)↔∃p,p<m/\(S 0).β p=q:=fun q=>by
  constructor
  ·rintro ⟨p,hp,hq⟩;exact ⟨p,hp,by rw[<-hcyc p hp];exact hq⟩
  ·rintro ⟨p,hp,hq⟩;exact ⟨p,hp,by rw[hcyc p hp];exact hq⟩
 obtain ⟨ns,hns,hmax⟩:=PQ (f:=c) hk
 have leaves:∃n,n<k/\(S n).β (r n)=c ns:=by
  by_cases h0:∃p,p<m/\(S 0).β p=c ns
  ·obtain ⟨n,h1,h2,h3,h4⟩:=oP (β:=fun n=>(S n).β) (k:=ns) (i:=0) h0 (by rw[Nat.zero_add];exact B2 ns hns)
   exact ⟨n,by omega,(goes n _ (by omega) h3 h4).symm⟩
  ·have h1:¬ ∃p,p<m/\(S k).β p=c ns:=fun e=>h0 ((ends _).1 e)
   obtain ⟨n,h2,h3,h4,h5⟩:=oP (β:=fun n=>(S n).β) (k:=k - (ns+1)) (i:=ns+1) (isIn ns hns) (by rw[show ns+1+(k - (ns+1))=k by omega];exact h1)
   exact ⟨n,by omega,(goes n _ (by omega) h4 h5).symm⟩
 obtain ⟨n,hn,hleave⟩:=leaves
 have hs:=h.step n hn
 have hst:=h.step ns hns
 have vn:=h.val n (by omega)
 have vs:=h.val ns (by omega)
 have hcn:=hmax n hn
 have hne:c n≠c ns:=fun e=>B2 n hn ⟨r n,hs.leaves.lt,by rw[hleave];exact e.symm⟩
 have id:=Qh (wc:=wc) vn.tb vs.tb ha hM (cw n hn)
 have z1:0<=zr m wc (S ns) (c n):=hst.enters.least (c n) (by omega)
 have z2:=hs.enters.neg
 have d1:=dp n (by omega)
 have d2:=dp ns (by omega)
 have hsum:0<sz m fun i=>(S n).T i (c n)*zr m wc (S ns) ((S n).β i):=by
  have h1:0<=(S n).d*zr m wc (S ns) (c n):=Int.mul_nonneg (by omega) z1
  have h2:0<(S ns).d* -zr m wc (S n) (c n):=Int.mul_pos d2 (by omega)
  rw[Int.mul_neg] at h2
  omega
 have hex:∃i,i<m/\0<(S n).T i (c n)*zr m wc (S ns) ((S n).β i):=by
  by_cases e:∃i,i<m/\0<(S n).T i (c n)*zr m wc (S ns) ((S n).β i)
  ·exact e
  ·exfalso
   have:=yy (n:=m) (f:=fun i=>(S n).T i (c n)*zr m wc (S ns) ((S n).β i)) (g:=fun _=>0) fun i hi=>Int.not_lt.1 fun h'=>e ⟨i,hi,h'⟩
   rw[mO (f:=fun _=>0) fun _ _=>rfl] at this
   omega
 obtain ⟨i,hi,hpos⟩:=hex
 have hq0:zr m wc (S ns) ((S n).β i)≠0:=fun e=>by rw[e,Int.mul_zero] at hpos;omega
 have hq1:¬ ∃p,p<m/\(S ns).β p=(S n).β i:=fun ⟨p,hp,hq⟩=>hq0 (by rw[<-hq];exact BZ vs.tb hp)
 have hq2:∃p,p<m/\(S n).β p=(S n).β i:=⟨i,hi,rfl⟩
 have hq3:∃n',n'<k/\(S n).β i=c n':=by
  by_cases hlt:ns<n
  ·obtain ⟨n',h1,h2,h3,h4⟩:=lN (β:=fun n=>(S n).β) (k:=n - ns) (i:=ns) hq1 (by rw[show ns+(n - ns)=n by omega];exact hq2)
   exact ⟨n',by omega,comes n' _ (by omega) h3 h4⟩
  ·by_cases h0:∃p,p<m/\(S 0).β p=(S n).β i
   ·obtain ⟨n',h1,h2,h3,h4⟩:=lN (β:=fun n=>(S n).β) (k:=k - ns) (i:=ns) hq1 (by rw[show ns+(k - ns)=k by omega];exact (ends _).2 h0)
    exact ⟨n',by omega,comes n' _ (by omega) h3 h4⟩
   ·obtain ⟨n',h1,h2,h3,h4⟩:=lN (β:=fun n=>(S n).β) (k:=n) (i:=0) h0 (by rw[Nat.zero_add];exact hq2)
    exact ⟨n',by omega,comes n' _ (by omega) h3 h4⟩
 obtain ⟨n',hn',hq4⟩:=hq3
 have hq5:(S n).β i<=c ns:=by rw[hq4];exact hmax n' hn'
 by_cases hqt:(S n).β i=c ns
 ·have:i=r n:=vn.tb.inj hi hs.leaves.lt (by rw[hqt,hleave])
  rw[this,hleave] at hpos
  have h1:=hs.leaves.pos
  have h2:=hst.enters.neg
  have h3:0<(S n).T (r n) (c n)* -zr m wc (S ns) (c ns):=Int.mul_pos h1 (by omega)
  rw[Int.mul_neg] at h3
  omega
 ·have z3:0<=zr m wc (S ns) ((S n).β i):=hst.enters.least _ (by omega)
  have hTi:0<(S n).T i (c n):=by
   by_cases e:0<(S n).T i (c n)
   ·exact e
   ·exfalso
    have:0<= -(S n).T i (c n)*zr m wc (S ns) ((S n).β i):=Int.mul_nonneg (by omega) z3
    rw[Int.neg_mul] at this
    omega
  have hiR:(S n).T i R=0:=((zeroAll _ n (by omega)).1 ((zeroAll _ ns (by omega)).2 fun p hp hq=>(hq1 ⟨p,hp,hq⟩).elim)) i hi rfl
  have:=hs.leaves.tie i hi hTi (by rw[flat n hn,hiR,Int.zero_mul,Int.zero_mul])
  rw[hleave] at this
  omega
end
end Dn
end Go.Proofs.YtegbncajloeepaaGreat

namespace Go.Proofs.YtegbncajloeepaaGreat
noncomputable section
namespace Dn
theorem HS:∀(K:Nat) (f:Nat->Nat),(∀i,i<=K->f i<K)->∃i j,i<j/\j<=K/\f i=f j
 | 0,f,h=>by have:=h 0 (by omega);omega
 | K+1,f,h=>by
  by_cases e:∃i,i<=K/\f i=f (K+1)
  ·obtain ⟨i,h1,h2⟩:=e
   exact ⟨i,K+1,by omega,by omega,h2⟩
  ·
   obtain ⟨i,j,h1,h2,h3⟩:=HS K (fun i=>if f i<f (K+1) then f i else f i - 1) fun i hi=>by
    have h4:=h i (by omega)
    have h5:=h (K+1) (by omega)
    have h6:f i≠f (K+1):=fun e'=>e ⟨i,hi,e'⟩
    show (if f i<f (K+1) then f i else f i - 1)<K
    split<;>omega
   refine ⟨i,j,h1,by omega,?_⟩
   have h6:f i≠f (K+1):=fun e'=>e ⟨i,by omega,e'⟩
   have h7:f j≠f (K+1):=fun e'=>e ⟨j,by omega,e'⟩
   have h3:(if f i<f (K+1) then f i else f i - 1)=(if f j<f (K+1) then f j else f j - 1):=h3
   split at h3<;>split at h3<;>omega
def code (w:Nat) (β:Nat->Nat):Nat->Nat
 | 0=>0
 | m+1=>code w β m*w+β m
theorem Fb {w:Nat} {β:Nat->Nat}:∀{m:Nat},(∀i,i<m->β i<w)->code w β m<w ^ m
 | 0,_=>by simp[code]
 | m+1,h=>by
  simp only[code]
  have h1:=Fb (m:=m) fun i hi=>h i (by omega)
  have h2:=h m (by omega)
  have h3:(code w β m+1)*w<=w ^ m*w:=Nat.mul_le_mul_right _ h1
  rw[Nat.pow_succ]
  rw[Nat.add_mul,Nat.one_mul] at h3
  omega
theorem CN {w:Nat} {β γ:Nat->Nat}:∀{m:Nat},(∀i,i<m->β i<w)->(∀i,i<m->γ i<w)->code w β m=code w γ m->∀i,i<m->β i=γ i
 | 0,_,_,_,i,hi=>by omega
 | m+1,hβ,hγ,h,i,hi=>by
  simp only[code] at h
  have h1:=hβ m (by omega)
  have h2:=hγ m (by omega)
  have e1:(code w β m*w+β m) % w=β m:=by rw[Nat.mul_comm,Nat.mul_add_mod,Nat.mod_eq_of_lt h1]
  have e2:(code w γ m*w+γ m) % w=γ m:=by rw[Nat.mul_comm,Nat.mul_add_mod,Nat.mod_eq_of_lt h2]
  have e3:β m=γ m:=by rw[<-e1,<-e2,h]
  have e4:code w β m=code w γ m:=by
   have:code w β m*w=code w γ m*w:=by omega
   exact Nat.eq_of_mul_eq_mul_right (by omega) this
  by_cases e:i=m
  ·rw[e];exact e3
  ·exact CN (fun i hi=>hβ i (by omega)) (fun i hi=>hγ i (by omega)) e4 i (by omega)
open Classical in
def Ct (p:Nat->Prop):Nat->Nat
 | 0=>0
 | k+1=>if p k then k else Ct p k
section
variable {m w N R:Nat} {M:Nat->Nat->Int} {wc:Nat->Int}
theorem Run.short {k:Nat} {S:Nat->Sx} {r c:Nat->Nat} {a:Nat->Nat} (ha:∀i,i<m->a i<w) (hM:∀k,k<m->∀i,i<m->M k (a i)=if k=i then 1 else 0) (hN:N<=R) (hR:R<w)
  (h:Run m w N R M wc k S r c):k<w ^ m:=by
 by_cases hk:k<w ^ m
 ·exact hk
 ·exfalso
  obtain ⟨i,j,h1,h2,h3⟩:=HS (w ^ m) (fun n=>code w (S n).β m) fun n hn=>Fb (h.val n (by omega)).tb.lt
  have h4:=CN (h.val i (by omega)).tb.lt (h.val j (by omega)).tb.lt h3
  have h5:Run m w N R M wc (j - i) (fun n=>S (i+n)) (fun n=>r (i+n)) (fun n=>c (i+n)):=⟨fun n hn=>h.val (i+n) (by omega),fun n hn=>h.step (i+n) (by omega)⟩
  refine h5.nocycle ha hM hN hR (by omega) fun p hp=>?_
  show (S (i+(j - i))).β p=(S (i+0)).β p
  rw[show i+(j - i)=j by omega,Nat.add_zero]
  exact (h4 p hp).symm
def left (m w N R:Nat) (M:Nat->Nat->Int) (wc:Nat->Int) (s:Sx):Nat:=Ct (fun k=>∃S r c,S 0=s/\Run m w N R M wc k S r c) (w ^ m)
end
end Dn
end
end Go.Proofs.YtegbncajloeepaaGreat

namespace Go.Proofs.YtegbncajloeepaaGreat
namespace Dn
def sq:Nat->(Nat->Rat)->Rat
 | 0,_=>0
 | n+1,f=>sq n f+f n
theorem nY:∀{n:Nat} {f g:Nat->Rat},(∀i,i<n->f i=g i)->sq n f=sq n g
 | 0,_,_,_=>rfl
 | n+1,f,g,h=>by
  simp only[sq]
  rw[nY (n:=n) fun i hi=>h i (by omega),h n (by omega)]
theorem Lk:∀{n:Nat} {f g:Nat->Rat},sq n (fun i=>f i+g i)=sq n f+sq n g
 | 0,_,_=>by simp only[sq];grind
 | n+1,f,g=>by
  simp only[sq]
  rw[Lk]
  grind
theorem DU:∀{n:Nat} {c:Rat} {f:Nat->Rat},sq n (fun i=>c*f i)=c*sq n f
 | 0,c,_=>by simp[sq]
 | n+1,c,f=>by
  simp only[sq]
  rw[DU]
  grind
theorem wg:∀{n:Nat} {f:Nat->Rat},(∀i,i<n->f i=0)->sq n f=0
 | 0,_,_=>rfl
 | n+1,f,h=>by
  simp only[sq]
  rw[wg fun i hi=>h i (by omega),h n (by omega)]
  grind
theorem FE:∀{n:Nat} {f g:Nat->Rat},(∀i,i<n->f i<=g i)->sq n f<=sq n g
 | 0,_,_,_=>Rat.le_refl
 | n+1,f,g,h=>by
  simp only[sq]
  have:=FE (n:=n) fun i hi=>h i (by omega)
  have:=h n (by omega)
  grind
theorem Fu:∀{m n:Nat} {f:Nat->Nat->Rat},sq m (fun i=>sq n (fun j=>f i j))=sq n (fun j=>sq m (fun i=>f i j))
 | 0,n,f=>by
  simp only[sq]
  exact (wg fun _ _=>rfl).symm
 | m+1,n,f=>by
  simp only[sq]
  rw[Fu,Lk]
structure Lin where
 n:Nat
 m:Nat
 A:Nat->Nat->Int
 b:Nat->Int
 c:Nat->Int
 kd:Nat->Int
def Lin.row (L:Lin) (x:Nat->Rat) (k:Nat):Rat:=sq L.n fun j=>(L.A k j:Rat)*x j
def Lin.col (L:Lin) (y:Nat->Rat) (j:Nat):Rat:=sq L.m fun k=>(L.A k j:Rat)*y k
def Lin.val (L:Lin) (x:Nat->Rat):Rat:=sq L.n fun j=>(L.c j:Rat)*x j
def Lin.rhs (L:Lin) (y:Nat->Rat):Rat:=sq L.m fun k=>(L.b k:Rat)*y k
structure Lin.Feas (L:Lin) (x:Nat->Rat):Prop where
 pos:∀j,j<L.n->0<=x j
 most:∀k,k<L.m->L.kd k≠2->L.row x k<=L.b k
 least:∀k,k<L.m->L.kd k≠1->(L.b k:Rat)<=L.row x k
structure Lin.Sgn (L:Lin) (y:Nat->Rat):Prop where
 most:∀k,k<L.m->L.kd k=1->y k<=0
 least:∀k,k<L.m->L.kd k=2->0<=y k
structure Lin.Dual (L:Lin) (y:Nat->Rat):Prop extends L.Sgn y where
 col:∀j,j<L.n->L.col y j<=L.c j
structure Lin.Ref (L:Lin) (y:Nat->Rat):Prop extends L.Sgn y where
 col:∀j,j<L.n->L.col y j<=0
 rhs:0<L.rhs y
structure Lin.Ray (L:Lin) (r:Nat->Rat):Prop where
 pos:∀j,j<L.n->0<=r j
 most:∀k,k<L.m->L.kd k≠2->L.row r k<=0
 least:∀k,k<L.m->L.kd k≠1->0<=L.row r k
 val:L.val r<0
section
variable {L:Lin}
theorem Lin.swap (x y:Nat->Rat):sq L.n (fun j=>L.col y j*x j)=sq L.m (fun k=>y k*L.row x k):=by
 have e1:sq L.n (fun j=>L.col y j*x j)=sq L.n (fun j=>sq L.m fun k=>(L.A k j:Rat)*y k*x j):=nY fun j _=>by
  unfold Lin.col
  rw[<-DU (c:=x j) |>fun h=>(by rw[h];grind:(sq L.m fun k=>x j*((L.A k j:Rat)*y k))=sq L.m (fun k=>(L.A k j:Rat)*y k)*x j)]
  exact nY fun k _=>by grind
 rw[e1,Fu]
 refine nY fun k _=>?_
 unfold Lin.row
 rw[<-DU]
 exact nY fun j _=>by grind
theorem Ry {y r b:Rat} (h:(y<=0/\r<=b)\/(0<=y/\b<=r)\/r=b):b*y<=y*r:=by
 rcases h with ⟨h1,h2⟩ | ⟨h1,h2⟩ | h
 ·have:0<=(-y)*(b - r):=Rat.mul_nonneg (by grind) (by grind)
  grind
 ·have:0<=y*(r - b):=Rat.mul_nonneg h1 (by grind)
  grind
 ·subst h;grind
theorem Lin.Sgn.rows {x y:Nat->Rat} (h:L.Sgn y) {b:Nat->Rat} (h1:∀k,k<L.m->L.kd k≠2->L.row x k<=b k) (h2:∀k,k<L.m->L.kd k≠1->b k<=L.row x k):sq L.m (fun k=>b k*y k)<=sq L.m (fun k=>y k*L.row x k):=FE fun k hk=>by
 apply Ry
 by_cases e1:L.kd k=1
 ·exact .inl ⟨h.most k hk e1,h1 k hk (by omega)⟩
 ·by_cases e2:L.kd k=2
  ·exact .inr (.inl ⟨h.least k hk e2,h2 k hk e1⟩)
  ·have a1:=h1 k hk e2
   have a2:=h2 k hk e1
   exact .inr (.inr (Rat.le_antisymm a1 a2))
theorem Lin.Ref.none {x y:Nat->Rat} (hy:L.Ref y) (hx:L.Feas x):False:=by
 have h1:=hy.rows (x:=x) (b:=fun k=>(L.b k:Rat)) hx.most hx.least
 rw[<-L.swap x y] at h1
 have h2:sq L.n (fun j=>L.col y j*x j)<=sq L.n (fun _=>0):=FE fun j hj=>by
  have:0<=(-L.col y j)*x j:=Rat.mul_nonneg (by have:=hy.col j hj;grind) (hx.pos j hj)
  grind
 rw[wg (f:=fun _=>0) fun _ _=>rfl] at h2
 have h3:=hy.rhs
 unfold Lin.rhs at h3
 grind
theorem Lin.Ray.none {r y:Nat->Rat} (hr:L.Ray r) (hy:L.Dual y):False:=by
 have h1:=hy.rows (x:=r) (b:=fun _=>0) hr.most hr.least
 rw[<-L.swap r y,wg (f:=fun k=>0*y k) fun k _=>by grind] at h1
 have h2:sq L.n (fun j=>L.col y j*r j)<=L.val r:=FE fun j hj=>Rat.mul_le_mul_of_nonneg_right (hy.col j hj) (hr.pos j hj)
 have h3:=hr.val
 grind
end
structure Lay where
 N:Nat
 sl:Nat->Nat
 σ:Nat->Int
def Lay.M (Y:Lay) (L:Lin) (k j:Nat):Int :=
 if j<L.n then Y.σ k*L.A k j else if j<Y.N then (if L.kd k≠3/\j=Y.sl k then Y.σ k*(if L.kd k=1 then 1 else -1) else 0) else if j<Y.N+L.m then (if j=Y.N+k then 1 else 0) else Y.σ k*L.b k
structure Lay.ok (Y:Lay) (L:Lin):Prop where
 n:L.n<=Y.N
 kd:∀k,k<L.m->L.kd k=1\/L.kd k=2\/L.kd k=3
 sl:∀k,k<L.m->L.kd k≠3->L.n<=Y.sl k/\Y.sl k<Y.N
 inj:∀k l,k<L.m->l<L.m->L.kd k≠3->L.kd l≠3->Y.sl k=Y.sl l->k=l
 sg:∀k,k<L.m->Y.σ k=1\/Y.σ k= -1
 b:∀k,k<L.m->0<=Y.σ k*L.b k
abbrev Lay.R (Y:Lay) (L:Lin):Nat:=Y.N+L.m
abbrev Lay.w (Y:Lay) (L:Lin):Nat:=Y.N+L.m+1
section
variable {L:Lin} {Y:Lay}
theorem Lay.M_x {k j:Nat} (hj:j<L.n):Y.M L k j=Y.σ k*L.A k j:=by unfold Lay.M;rw[if_pos hj]
theorem Lay.M_sl (h:Y.ok L) {k:Nat} (hk:k<L.m) (h3:L.kd k≠3):Y.M L k (Y.sl k)=Y.σ k*(if L.kd k=1 then 1 else -1):=by
 obtain ⟨h1,h2⟩:=h.sl k hk h3
 unfold Lay.M
 rw[if_neg (by omega),if_pos h2,if_pos ⟨h3,rfl⟩]
theorem Lay.M_slo {k j:Nat} (h1:L.n<=j) (h2:j<Y.N) (h:¬ (L.kd k≠3/\j=Y.sl k)):Y.M L k j=0:=by
 unfold Lay.M
 rw[if_neg (by omega),if_pos h2,if_neg h]
theorem Lay.M_a (h:Y.ok L) {k i:Nat} (hi:i<L.m):Y.M L k (Y.N+i)=if k=i then 1 else 0:=by
 have:=h.n
 unfold Lay.M
 rw[if_neg (by omega),if_neg (by omega),if_pos (by omega)]
 by_cases e:k=i
 ·rw[if_pos e,if_pos (by omega)]
 ·rw[if_neg e,if_neg (by omega)]
theorem Lay.M_R (h:Y.ok L) {k:Nat}:Y.M L k (Y.R L)=Y.σ k*L.b k:=by
 have:=h.n
 unfold Lay.M Lay.R
 rw[if_neg (by omega),if_neg (by omega),if_neg (by omega)]
abbrev Lay.Val (Y:Lay) (L:Lin) (S:Sx):Prop:=Dn.Val L.m (Y.w L) Y.N (Y.R L) (Y.M L) S
theorem Lay.art (h:Y.ok L):(∀i,i<L.m->Y.N+i<Y.w L)/\∀k,k<L.m->∀i,i<L.m->Y.M L k (Y.N+i)=if k=i then 1 else 0 :=
 ⟨fun i hi=>by unfold Lay.w;omega,fun k _ i hi=>Lay.M_a h hi⟩
theorem Lay.first (h:Y.ok L):Y.Val L ⟨Y.M L,1,fun i=>Y.N+i⟩:=by
 refine ⟨Tb.first (Lay.art h).1 (Lay.art h).2,fun i hi=>?_,fun i hi=>?_⟩
 ·show 0<=Y.M L i (Y.R L)
  rw[Lay.M_R h]
  exact h.b i hi
 ·show Y.N+i≠Y.N+L.m
  omega
def Pa (m N:Nat) (S:Sx) (q:Nat):Prop:=∀i,i<m->N<=S.β i->S.T i q=0
def vr (L:Lin) (j:Nat):Int:=if j<L.n then L.c j else 0
def S7 (N:Nat) (j:Nat):Int:=if N<=j then 1 else 0
end
theorem B5 {a b:Nat} {f:Nat->Int}:sz (a+b) f=sz a f+sz b fun i=>f (a+i):=by
 induction b with
 | zero=>simp[sz]
 | succ b ih =>
  rw[show a+(b+1)=a+b+1 by omega,sz,sz,ih]
  omega
theorem IX {m w:Nat} {γ:Nat->Nat} {f:Nat->Int} (hlt:∀p,p<m->γ p<w) (hinj:∀p q,p<m->q<m->γ p=γ q->p=q) (hf:∀j,j<w->0<=f j):(sz m fun p=>f (γ p))<=sz w f:=by
 have e:(sz m fun p=>f (γ p))=sz w fun j=>f j*sz m fun p=>if γ p=j then 1 else 0:=by
  rw[ci (g:=fun p=>sz w fun j=>if γ p=j then f j else 0) fun p hp=>by
   rw[iJ (hlt p hp) fun j _ hne=>if_neg (Ne.symm hne),if_pos rfl],vW]
  refine ci fun j _=>?_
  rw[<-gU]
  refine ci fun p _=>?_
  split<;>omega
 rw[e]
 refine yy fun j hj=>?_
 have hc:(sz m fun p=>if γ p=j then (1:Int) else 0)<=1:=by
  by_cases h:∃p,p<m/\γ p=j
  ·obtain ⟨p,hp,rfl⟩:=h
   rw[iJ hp fun q hq hne=>if_neg fun e'=>hne (hinj q p hq hp e'),if_pos rfl]
   exact Int.le_refl _
  ·rw[mO fun p hp=>if_neg fun e'=>h ⟨p,hp,e'⟩]
   omega
 have:=Int.mul_le_mul_of_nonneg_left hc (hf j hj)
 omega
def Lin.F (L:Lin) (k:Nat):Int:=1+ab (L.b k)+sz L.n fun j=>ab (L.A k j)
def Lin.F0 (L:Lin):Int:=1+sz L.n fun j=>ab (L.c j)
theorem Lin.F_pos (L:Lin) (k:Nat):1<=L.F k:=by
 have h1:=fo (L.b k)
 have h2:0<=sz L.n fun j=>ab (L.A k j):=lZ fun j _=>fo _
 unfold Lin.F
 omega
theorem Lin.F0_pos (L:Lin):1<=L.F0:=by
 have h2:0<=sz L.n fun j=>ab (L.c j):=lZ fun j _=>fo _
 unfold Lin.F0
 omega
def Lin.P (L:Lin):Int:=pz L.m L.F
theorem Kf:∀{n:Nat} {f:Nat->Int},(∀i,i<n->1<=f i)->1<=pz n f
 | 0,_,_=>by simp[pz]
 | n+1,f,h=>by
  simp only[pz]
  have h1:=h 0 (by omega)
  have h2:=Kf (n:=n) (f:=fun i=>f (i+1)) fun i hi=>h (i+1) (by omega)
  have:=Int.mul_le_mul h1 h2 (by omega) (by omega)
  omega
theorem Lin.P_pos (L:Lin):1<=L.P:=Kf fun k _=>L.F_pos k
section
variable {L:Lin} {Y:Lay}
theorem I7 (h:Y.ok L) {k:Nat} (hk:k<L.m) (x:Int):ab (Y.σ k*x)=ab x:=by
 rw[uz]
 rcases h.sg k hk with e | e<;>rw[e]<;>simp[ab]
theorem FJ (h:Y.ok L) {k:Nat} (hk:k<L.m) {f:Nat->Int} (h1:∀j,j<L.n->f j=ab (Y.M L k j)) (hR:f (Y.R L)=ab (Y.M L k (Y.R L)))
  (h2:((∀j,L.n<=j->j<Y.N->f j=0)/\∀i,i<L.m->f (Y.N+i)=if i=k then 1 else 0)\/(L.kd k≠3/\(∀j,L.n<=j->j<Y.N->f j=if j=Y.sl k then 1 else 0)/\∀i,i<L.m->f (Y.N+i)=0)) :
  sz (Y.w L) f=L.F k:=by
 have hn:=h.n
 have e:Y.w L=(L.n+(Y.N - L.n))+L.m+1:=by unfold Lay.w;omega
 rw[e,sz,B5,B5,show L.n+(Y.N - L.n)+L.m=Y.R L by unfold Lay.R;omega,hR,Lay.M_R h,I7 h hk]
 have e1:sz L.n f=sz L.n fun j=>ab (L.A k j):=ci fun j hj=>by rw[h1 j hj,Lay.M_x hj,I7 h hk]
 rw[e1,show L.n+(Y.N - L.n)=Y.N by omega]
 unfold Lin.F
 rcases h2 with ⟨h3,h4⟩ | ⟨h3,h4,h5⟩
 ·rw[mO fun i hi=>h3 (L.n+i) (by omega) (by omega),iJ hk fun i hi hne=>by rw[h4 i hi,if_neg hne],h4 k hk,if_pos rfl]
  omega
 ·obtain ⟨h6,h7⟩:=h.sl k hk h3
  have a1:(sz (Y.N - L.n) fun i=>f (L.n+i))=1:=by
   rw[iJ (k:=Y.sl k - L.n) (by omega) fun i hi hne=>by rw[h4 _ (by omega) (by omega),if_neg (by omega)],h4 _ (by omega) (by omega),if_pos (by omega)]
  have a2:(sz L.m fun i=>f (Y.N+i))=0:=mO fun i hi=>h5 i hi
  rw[a1,a2]
  omega
theorem OG (h:Y.ok L) {γ:Nat->Nat} (hlt:∀p,p<L.m->γ p<Y.w L):dc L.m (Y.M L) γ=0\/∀k,k<L.m->(sz L.m fun p=>ab (Y.M L k (γ p)))<=L.F k:=by
 have zero:dc L.m (Y.M L) γ=0->dc L.m (Y.M L) γ=0\/∀k,k<L.m->(sz L.m fun p=>ab (Y.M L k (γ p)))<=L.F k:=fun e=>.inl e
 by_cases hinj:∀p q,p<L.m->q<L.m->γ p=γ q->p=q
 ·by_cases hboth:∃k p q,k<L.m/\L.kd k≠3/\p<L.m/\q<L.m/\γ p=Y.sl k/\γ q=Y.N+k
  ·obtain ⟨k,p,q,hk,h3,hp,hq,e1,e2⟩:=hboth
   obtain ⟨h4,h5⟩:=h.sl k hk h3
   have hpq:p≠q:=fun e=>by rw[e,e2] at e1;omega
   apply zero
   unfold dc
   have e3:det L.m (gJ (Y.M L) γ)=det L.m (bS (gJ (Y.M L) γ) p fun l=>(Y.σ k*(if L.kd k=1 then 1 else -1))*Y.M L l (Y.N+k)):=by
    refine iA fun l j hl hj=>?_
    unfold bS
    split
    ·rename_i e
     rw[e]
     show Y.M L l (γ p)=(Y.σ k*(if L.kd k=1 then 1 else -1))*Y.M L l (Y.N+k)
     rw[e1,Lay.M_a h hk]
     by_cases el:l=k
     ·subst el
      rw[Lay.M_sl h hl h3,if_pos rfl,Int.mul_one]
     ·rw[if_neg el,Int.mul_zero,Lay.M_slo h4 h5 fun e'=>el (h.inj l k hl hk e'.1 h3 e'.2.symm)]
    ·rfl
   rw[e3,oq hp,lF hp hq hpq fun l _=>by
    unfold bS
    rw[if_pos rfl,if_neg (Ne.symm hpq)]
    show Y.M L l (Y.N+k)=Y.M L l (γ q)
    rw[e2],Int.mul_zero]
  ·refine .inr fun k hk=>?_
   by_cases hs:L.kd k≠3/\∃p,p<L.m/\γ p=Y.sl k
   ·obtain ⟨h3,p,hp,e1⟩:=hs
    obtain ⟨h4,h5⟩:=h.sl k hk h3
    have e:(sz L.m fun p=>ab (Y.M L k (γ p)))=sz L.m fun p=>(fun j=>if Y.N<=j/\j<Y.N+L.m then 0 else ab (Y.M L k j)) (γ p):=ci fun q hq=>by
     show _=if Y.N<=γ q/\γ q<Y.N+L.m then 0 else ab (Y.M L k (γ q))
     split
     ·rename_i hr
      obtain ⟨i,hi⟩:∃i,γ q=Y.N+i:=⟨γ q - Y.N,by omega⟩
      rw[hi,Lay.M_a h (by omega),if_neg fun e'=>hboth ⟨k,p,q,hk,h3,hp,hq,e1,by rw[hi,e']⟩]
      rfl
     ·rfl
    rw[e]
    refine Int.le_trans (IX (f:=fun j=>if Y.N<=j/\j<Y.N+L.m then 0 else ab (Y.M L k j)) hlt hinj fun j _=>?_) (Int.le_of_eq (FJ h hk (fun j hj=>?_) ?_ (.inr ⟨h3,fun j h6 h7=>?_,fun i hi=>?_⟩)))
    ·split
     ·exact Int.le_refl _
     ·exact fo _
    ·have:=h.n
     rw[if_neg (by omega)]
    ·rw[if_neg (by unfold Lay.R;omega)]
    ·rw[if_neg (by omega)]
     by_cases ej:j=Y.sl k
     ·subst ej
      rw[Lay.M_sl h hk h3,I7 h hk,if_pos rfl]
      split<;>rfl
     ·rw[if_neg ej,Lay.M_slo h6 h7 fun e'=>ej e'.2]
      rfl
    ·rw[if_pos (by omega)]
   ·have e:(sz L.m fun p=>ab (Y.M L k (γ p)))=sz L.m fun p=>(fun j=>if L.n<=j/\j<Y.N then 0 else ab (Y.M L k j)) (γ p):=ci fun q hq=>by
     show _=if L.n<=γ q/\γ q<Y.N then 0 else ab (Y.M L k (γ q))
     split
     ·rename_i hr
      rw[Lay.M_slo hr.1 hr.2 fun e'=>hs ⟨e'.1,q,hq,e'.2⟩]
      rfl
     ·rfl
    rw[e]
    refine Int.le_trans (IX (f:=fun j=>if L.n<=j/\j<Y.N then 0 else ab (Y.M L k j)) hlt hinj fun j _=>?_) (Int.le_of_eq (FJ h hk (fun j hj=>?_) ?_ (.inl ⟨fun j h6 h7=>?_,fun i hi=>?_⟩)))
    ·split
     ·exact Int.le_refl _
     ·exact fo _
    ·rw[if_neg (by omega)]
    ·rw[if_neg (by unfold Lay.R;omega)]
    ·rw[if_pos ⟨h6,h7⟩]
    ·rw[if_neg (by omega),Lay.M_a h hi]
     by_cases ei:k=i
     ·rw[if_pos ei,if_pos ei.symm];rfl
     ·rw[if_neg ei,if_neg (Ne.symm ei)];rfl
 ·have:∃p q,p<L.m/\q<L.m/\γ p=γ q/\p≠q:=by
   apply Classical.byContradiction
   intro hno
   refine hinj fun p q hp hq e=>?_
   apply Classical.byContradiction
   intro hne
   exact hno ⟨p,q,hp,hq,e,hne⟩
  obtain ⟨p,q,hp,hq,e,hne⟩:=this
  apply zero
  refine lF hp hq hne fun l _=>?_
  show Y.M L l (γ p)=Y.M L l (γ q)
  rw[e]
theorem BG (h:Y.ok L) {γ:Nat->Nat} (hlt:∀p,p<L.m->γ p<Y.w L):ab (dc L.m (Y.M L) γ)<=L.P:=by
 rcases OG h hlt with e | e
 ·have hP:=L.P_pos
  rw[e]
  simp[ab]
  omega
 ·exact Int.le_trans zx (Ia fun k hk=>⟨lZ fun _ _=>fo _,e k hk⟩)
theorem QW {m w:Nat} {β:Nat->Nat} {r c:Nat} (h:∀p,p<m->β p<w) (hc:c<w):∀p,p<m->upd β r c p<w:=fun p hp=>by
 unfold upd
 split
 ·exact hc
 ·exact h p hp
theorem vC (h:Y.ok L) {T:Nat->Nat->Int} {d:Int} {β:Nat->Nat} (ht:Tb L.m (Y.w L) (Y.M L) T d β):d<=L.P/\∀i j,i<L.m->j<Y.w L->ab (T i j)<=L.P:=by
 refine ⟨?_,fun i j hi hj=>by rw[ht.bound hi hj];exact BG h (QW ht.lt hj)⟩
 obtain ⟨σ,h1,h2,_⟩:=ht.cr
 have h3:=BG h ht.lt
 have h4:ab d=ab (dc L.m (Y.M L) β):=by
  have h5:ab σ=1:=by
   have h6:ab σ*ab σ=1:=by rw[<-uz,h1];rfl
   have h7:=fo σ
   have h8:ab σ<=1:=by
    apply Int.not_lt.1
    intro h9
    have:2*2<=ab σ*ab σ:=Int.mul_le_mul (by omega) (by omega) (by omega) h7
    omega
   have:ab σ≠0:=fun e=>by rw[e] at h6;simp at h6
   omega
  have h6:ab (σ*dc L.m (Y.M L) β)=ab d:=by rw[<-h2]
  rw[uz,h5,Int.one_mul] at h6
  exact h6.symm
 rw[<-h4] at h3
 exact (Su.1 h3).2
end
section
variable {L:Lin} {Y:Lay}
end
section
variable {α R:Type} {F:(α->Option R)->α->Option R}
theorem zt (n:Nat) (st:Nat->α) (r:Option R) (hb:∀again i,i<n->F again (st i)=again (st (i+1))) (hf:∀again,F again (st n)=r):∀(k i m:Nat),i+k=n->k<m->lv F m (st i)=r
 | 0,i,m,h1,h2=>by
  obtain ⟨m,rfl⟩:∃m',m=m'+1:=⟨m - 1,by omega⟩
  rw[jV,show i=n by omega,hf]
 | k+1,i,m,h1,h2=>by
  obtain ⟨m,rfl⟩:∃m',m=m'+1:=⟨m - 1,by omega⟩
  rw[jV,hb _ _ (by omega)]
  exact zt n st r hb hf k (i+1) m (by omega) (by omega)
theorem AH (n:Nat) (hn:n<=1180591620717411303423) (st:Nat->α) (r:Option R) (hb:∀again i,i<n->F again (st i)=again (st (i+1))) (hf:∀again,F again (st n)=r):lpK α R F (st 0)=r :=
 zt n st r hb hf n 0 K0 (by omega) (by unfold K0;omega)
theorem iq {x:α} (n:Nat) (hn:n<=1180591620717411303423) (st:Nat->α) (r:Option R) (hx:x=st 0) (hb:∀again i,i<n->F again (st i)=again (st (i+1))) (hf:∀again,F again (st n)=r):lpK α R F x=r:=by
 rw[hx]
 exact AH n hn st r hb hf
end
theorem HO (n:Nat) (p:Nat->Bool):(∀j,j<n->p j=false)\/∃j,j<n/\p j=true/\∀i,i<j->p i=false:=by
 induction n with
 | zero=>exact .inl fun j hj=>by omega
 | succ n ih =>
  rcases ih with h | ⟨j,h1,h2,h3⟩
  ·cases hp:p n with
   | true=>exact .inr ⟨n,by omega,hp,h⟩
   | false =>
    refine .inl fun j hj=>?_
    by_cases e:j=n
    ·rw[e];exact hp
    ·exact h j (by omega)
  ·exact .inr ⟨j,by omega,h2,h3⟩
def cW {α:Type} (w:Nat) (f:Nat->α):List α:=(List.range w).map f
def yg (m w:Nat) (T:Nat->Nat->Int):List (List Int):=(List.range m).map fun i=>cW w (T i)
def gM (m w:Nat) (T:Nat->Nat->Int):List (Option (List Int)):=(List.range m).map fun i=>some (cW w (T i))
def Aj (m w:Nat) (T:Nat->Nat->Int):List Nat×List (Option (List Int)):=(List.range m,gM m w T)
section
variable {α:Type} {m w:Nat} {T T':Nat->Nat->Int}
theorem dH {f:Nat->α}:(cW w f).length=w:=by unfold cW;rw[List.length_map,List.length_range]
theorem tK {f:Nat->α} {d:α} {j:Nat} (h:j<w):(cW w f).getD j d=f j:=by
 unfold cW
 rw[cm (by rw[List.length_map,List.length_range];exact h),List.getElem_map,List.getElem_range]
theorem Fv {f:Nat->α} {j:Nat} (h:j<(cW w f).length):(cW w f)[j]=f j :=
 (List.getElem_map f (l:=List.range w) (h:=h)).trans (congrArg f (List.getElem_range _))
theorem iY {f g:Nat->α} (h:∀j,j<w->f j=g j):cW w f=cW w g:=by
 unfold cW
 exact List.map_congr_left fun j hj=>h j (List.mem_range.1 hj)
theorem Cb {f:Nat->α} {j:Nat} {x:α} (_:j<w):(cW w f).set j x=cW w fun k=>if k=j then x else f k:=by
 refine List.ext_getElem (by rw[List.length_set,dH,dH]) fun i h1 h2=>?_
 have h3:i<w:=by rw[dH] at h2;exact h2
 rw[List.getElem_set,Fv,Fv]
 by_cases e:j=i
 ·rw[if_pos e,if_pos e.symm]
 ·rw[if_neg e,if_neg (Ne.symm e)]
theorem nQ:(yg m w T).length=m:=by unfold yg;rw[List.length_map,List.length_range]
theorem uk {i:Nat} (h:i<m):(yg m w T).getD i []=cW w (T i):=by
 unfold yg
 rw[cm (by rw[List.length_map,List.length_range];exact h),List.getElem_map,List.getElem_range]
theorem oc:(gM m w T).length=m:=by unfold gM;rw[List.length_map,List.length_range]
theorem LM:(Aj m w T).1.length=m:=by unfold Aj;exact List.length_range
theorem rH {i:Nat} (h:i<m):(gM m w T).getD i none=some (cW w (T i)):=by
 unfold gM
 rw[cm (by rw[List.length_map,List.length_range];exact h),List.getElem_map,List.getElem_range]
theorem CJ {i:Nat} (h:i<(gM m w T).length):(gM m w T)[i]=some (cW w (T i)) :=
 (List.getElem_map (fun i=>some (cW w (T i))) (l:=List.range m) (h:=h)).trans (congrArg (fun i=>some (cW w (T i))) (List.getElem_range _))
theorem IC {i:Nat} (h:i<m):bw (gM m w T) i=cW w (T i):=by unfold bw;rw[rH h];rfl
theorem Hq {i:Nat} (h:i<m):gu (gM m w T) i=true:=by unfold gu;rw[rH h];rfl
theorem kI (h:∀i j,i<m->j<w->T i j=T' i j):gM m w T=gM m w T':=by
 unfold gM
 exact List.map_congr_left fun i hi=>by rw[iY fun j hj=>h i j (List.mem_range.1 hi) hj]
theorem LS {i j:Nat} {x:Int} (_:i<m) (hj:j<w):(gM m w T).set i (some ((cW w (T i)).set j x))=gM m w fun k l=>if k=i/\l=j then x else T k l:=by
 rw[Cb hj]
 refine List.ext_getElem (by rw[List.length_set,oc,oc]) fun k h1 h2=>?_
 have h3:k<m:=by rw[oc] at h2;exact h2
 rw[List.getElem_set,CJ,CJ]
 by_cases e:i=k
 ·subst e
  rw[if_pos rfl]
  congr 1
  refine iY fun l _=>?_
  simp
 ·rw[if_neg e]
  congr 1
  refine iY fun l _=>?_
  rw[if_neg fun h=>e h.1.symm]
theorem NU:((Aj m w T).1.all fun x=>gu (Aj m w T).2 x)=true:=by
 rw[List.all_eq_true]
 intro i hi
 exact Hq (List.mem_range.1 hi)
theorem OO:(Aj m w T).1.map (fun x=>bw (Aj m w T).2 x)=yg m w T:=by
 unfold Aj yg
 exact List.map_congr_left fun i hi=>IC (List.mem_range.1 hi)
end
end Dn
end Go.Proofs.YtegbncajloeepaaGreat
