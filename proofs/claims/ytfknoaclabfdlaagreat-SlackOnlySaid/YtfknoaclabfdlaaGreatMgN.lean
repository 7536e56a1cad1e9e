/- r15: what its functions answer (printed by a program), and that they do; part 3. r15: what its functions answer (printed by a program), and that they do; part 4. Plain lemmas for what functions answer: loops, machine numbers, lists. Names: both programs know the same ones. Fractions: rational numbers, and the pairs of numbers that stand for them. Fractions: what 'Make', 'Valid', 'Mul', 'Floor', 'Ceil' of package ratio answer. Fractions: products of two words, 'Mul', 'Floor', 'Ceil' of package ratio. Fractions of the reference: numbers of two words, their greatest common divisors and quotients. Fractions of the reference: 'Div', 'Made', 'Make', 'Times', 'Floor', 'Ceil'. Numbers of 128 bits: sums, differences, comparisons; the length of a number. The quotient of a number of 128 bits by one of 64. Fractions: 'Add' of package ratio. Loops over lists: searches and tests of all elements. Fractions: 'Add', 'Valid', 'All' of the reference. Fractions: 'Sub' and 'Cmp' of both. Loops over the elements of a list, as recursions over it. Programs: both programs know the same valid ones. Systems: both programs know the same valid ones. Sums of integers, and determinants. Tables of the simplex method: integers with a common denominator, as determinants of columns. Steps of the simplex method by the rule of least indices: they never come back to a basis. Steps of the simplex method come to an end: a measure. Linear programs over the rationals: what points and multipliers prove; and what tables of the simplex method prove. How great the numbers of a program's tables may get: the product of the rows' factors. Tables of programs: how great the numbers of the artificial columns may get. -/
import Derived.Laws.StructEq
import Derived.Test.YtfknoaclabfdlaaGreatMgM

namespace Go.Proofs.YtfknoaclabfdlaaGreat
noncomputable section
open Tryz Dn Dn.Sh
set_option maxRecDepth 100000
def vJ (lp:Lp) (_:Jn) (x0:(List Int)×List ((List Int)×Int×Int)):Option (List Int) :=
 lp (List Int×Int×PUnit) (List Int) (fun (again:List Int×Int×PUnit->Option (List Int)) (x:List Int×Int×PUnit)=>bif decide (x.2.1<(↑x0.2.length:Int)) then bif inB x.2.1 x0.2.length then bif c7 (List.length x.1+1) 8 then again (x.1++[(x0.2.getD x.2.1.toNat ([],0,(0 : Int))).2.2],IntKind.wrap .i64 (x.2.1+1),PUnit.unit) else none else none else some x.1) ([],0,PUnit.unit)
def nP (x0:(List Int)×List ((List Int)×Int×Int)):Option (List Int):=vJ lpK jnK x0
abbrev t55:=((List Int)×List ((List Int)×Int×Int))->Option (List Int)
def zC (_:Lp) (_:Jn) (eQ:t73) (ll:Rb) (x0:Int×Int):Option Int :=
 aa (eQ 0) fun (t:Int×Int)=>aa (ll x0 t) fun (t:Int)=>some t
def iK (x0:Int×Int):Option Int:=zC lpK jnK eQ ll x0
abbrev t56:=(Int×Int)->Option (Int)
def wI (lp:Lp) (_:Jn) (iK:t56) (x0:(List Int)×List ((List Int)×Int×Int)) (x1:List (Int×Int)):Option Bool :=
 lp (Int×PUnit) Bool (fun (again:Int×PUnit->Option Bool) (x:Int×PUnit) =>
 let v6:Bool:=inB x.1 x1.length;
 let v7:Bool:=inB x.1 x0.2.length;
 let v8:Bool:=decide ((x0.2.getD x.1.toNat ([],0,0)).2.1=1);
 let v9:Bool:=decide ((x0.2.getD x.1.toNat ([],0,0)).2.1=2);
 let v10:Bool:=!v8;
 let v11:Bool:=v10||v8;bif decide (x.1<(↑x1.length:Int)) then bif v7 then bif v11&&(v11&&(v10||v6)) then bif v11 then bif v11 then aa (bif v8 then iK (x1.getD x.1.toNat (0,0)) else some 0) fun (t:Int) =>
 let v13:Bool:=bif v8 then decide (t>0) else false;
 let v14:Bool:=!v13;
 let v15:Bool:=!v14;
 let v16:Bool:=v14&&v9;
 let v17:Bool:=!v16;
 let v18:Bool:=v15||v14;
 let v19:Bool:=v17||v16;bif v11 then bif v11 then bif v18 then bif v18&&(v18&&(v15||v7)) then bif v18 then bif v18 then bif v18 then bif v18 then bif v19&&(v19&&(v17 || v6)) then bif v19 then bif v19 then aa (bif v16 then iK (x1.getD x.1.toNat (0,0)) else some 0) fun (t:Int)=>bif v19 then bif (v15 || v18)&&(v15||(!v9||(v15||v16))) then bif v13||v14 then bif bif v13 then true else bif v9 then decide (t<0) else false then some false else again (IntKind.wrap IntKind.i64 (x.1+1),PUnit.unit) else none else none else none else none else none else none else none else none else none else none else none else none else none else none else none else none else none else none else some true) (0,PUnit.unit)
def nh (x0:(List Int)×List ((List Int)×Int×Int)) (x1:List (Int×Int)):Option Bool:=wI lpK jnK iK x0 x1
abbrev t57:=((List Int)×List ((List Int)×Int×Int))->(List (Int×Int))->Option (Bool)
def uq (_:Lp) (_:Jn) (lq:t54) (oD:t53) (nP:t55) (iK:t56) (nh:t57) (x0:(List Int)×List ((List Int)×Int×Int)) (x1:List (Int×Int)):Option (Bool×Int×Unit) :=
 bif decide (0<=(↑x0.1.length:Int))&&c7 (Int.toNat (↑x0.1.length:Int)) 8 then aa (oD x0 x1 (List.replicate (Int.toNat (↑x0.1.length:Int)) 0)) fun (t:Bool×Int×PUnit) =>
 let v5:Bool:=!t.1||t.1;bif !decide (t.2.1=0) then some (false,t.2.1,PUnit.unit) else aa (nP x0) fun (t_1:List Int)=>aa (lq t_1 x1) fun (t_2:(Int×Int)×Int×PUnit)=>bif !decide (t_2.2.1=0) then some (false,t_2.2.1,PUnit.unit) else bif v5 then aa (bif t.1 then iK t_2.1 else some 0) fun (t_3:Int) =>
 let v9:Bool:=bif t.1 then decide (t_3>0) else false;
 let v10:Bool:=!v9||v9;bif v5 then bif v5 then bif v10&&v10 then aa (bif v9 then nh x0 x1 else some false) fun (t:Bool)=>bif v10 then some (bif v9 then t else false,0,PUnit.unit) else none else none else none else none else none else none
def ep (x0:(List Int)×List ((List Int)×Int×Int)) (x1:List (Int×Int)):Option (Bool×Int×Unit):=uq lpK jnK lq oD nP iK nh x0 x1
abbrev t18:=((List Int)×List ((List Int)×Int×Int))->(List (Int×Int))->Option (Bool×Int×Unit)
def k18 (ep:t18):Ctr:=⟨[T32,(.sl T49)],[],[],.tup [.bool,i64],fun x _ _=>ep x.1 x.2.1⟩
def c18:Ctr:=k18 ep
def jA (_:Lp) (_:Jn) (aV:t11) (bD:t12) (aP:t9) (bi:t10) (cd:t13) (iI:t14) (aL:t15) (cz:t16) (jU:t17) (ep:t18) (x0:(List (ByteArray×Int))×List (ByteArray×(List (ByteArray×Int×Int×Int))×Bool)) (x1:List (Int×Int)):Option Bool :=
 aa aP fun (t:Bool)=>bif !t then some false else aa (bi x0 x1) fun (t:Bool)=>bif !t then some true else aa (aV x0) fun (t:(List Int×List (List Int×Int×Int))×Int×PUnit)=>aa (bD x0 x1) fun (t_1:Bool×Int×PUnit) =>
 let v8:Bool:=!t_1.1;
 let v9:Bool:=!v8||v8;
 let v10:Bool:=decide (t_1.2.1=1);aa (cd x0) fun (t_2:Bool)=>bif !t_2 then aa (iI t.1 ([],[])) fun (t_3:Bool) =>
 let v13:Bool:=!t_3||t_3;
 let v14:Bool:=bif t_3 then decide (t.2.1=1) else false;
 let v15:Bool:=bif v14 then v8 else false;
 let v16:Bool:=!v14||v14;
 let v17:Bool:=!v15||v15;bif v13 then bif v13 then bif v16 then bif v16 then bif v17 then bif v17 then some (bif v15 then v10 else false) else none else none else none else none else none else none else aa (cz x0) fun (t_3:List Int)=>aa (aL x0 t_3) fun (t_4:List Int×List (List Int×Int×Int))=>aa (iI t.1 t_4) fun (t_5:Bool) =>
 let v15:Bool:=!t_5;
 let v16:Bool:=!v15;bif !v16||v16 then bif v15||v16 then bif bif v15 then true else !decide (t.2.1=0) then some false else aa (jU x1) fun (t:Bool)=>bif !t then bif v9 then bif v9 then some (bif v8 then v10 else false) else none else none else bif !decide ((↑x1.length:Int)=(↑x0.1.length:Int)) then bif v9 then bif v9 then some (bif v8 then decide (t_1.2.1=3) else false) else none else none else aa (ep t_4 x1) fun (t:Bool×Int×PUnit) =>
 let v19:Bool:=decide (t_1.1=t.1);
 let v20:Bool:=!v19||v19;bif v20&&v20 then bif v20 then some (bif v19 then decide (t_1.2.1=t.2.1) else false) else none else none else none else none
def qg (x0:(List (ByteArray×Int))×List (ByteArray×(List (ByteArray×Int×Int×Int))×Bool)) (x1:List (Int×Int)):Option Bool:=jA lpK jnK aV bD aP bi cd iI aL cz jU ep x0 x1
def c3:Ctr:=⟨[T25,(.sl T49)],[],[],.one .bool,fun x _ _=>qg x.1 x.2.1⟩
theorem e3 (lp:Lp) (jn:Jn) (aV:t11) (bD:t12) (aP:t9) (bi:t10) (cd:t13) (iI:t14) (aL:t15) (cz:t16) (jU:t17) (ep:t18):∀(x:TsS c3.as) (F:TsF c3.fs) (y:TsS c3.cs),jA lp jn aV bD aP bi cd iI aL cz jU ep x.1 x.2.1=cb lp jn (cx [(18,k18 ep),(17,⟨[(.sl T49)],[],[],.one .bool,fun x _ _=>jU x.1⟩),(16,k16 cz),(15,k15 aL),(14,⟨[T32,T32],[],[],.one .bool,fun x _ _=>iI x.1 x.2.1⟩),(13,k13 cd),(10,k10 bi),(9,k9 aP),(12,k12 bD),(11,k11 aV)] [(134,bJ)]) al 4 3 f3 c3 x F y:=fun x F y=>by kernel_rfl
def zy (_:Lp) (_:Jn) (x0:Int):Option Int :=
 some (if IntKind.wrap .i64 (0 - x0)>x0 then IntKind.wrap .i64 (0 - x0) else x0)
def lM (x0:Int):Option Int:=zy lpK jnK x0
abbrev TN:=(Int)->Option (Int)
def uo (lp:Lp) (_:Jn) (lM:TN) (x0:(List Int)×List ((List Int)×Int×Int)):Option (List Int) :=
 lp (Int×Int×PUnit) (List Int) (fun (again:Int×Int×PUnit->Option (List Int)) (x:Int×Int×PUnit)=>bif decide (x.2.1<(↑x0.1.length:Int)) then bif inB x.2.1 x0.1.length then aa (lM (x0.1.getD x.2.1.toNat 0)) fun (t:Int)=>again (IntKind.wrap .i64 (x.1+t),IntKind.wrap IntKind.i64 (x.2.1+1),PUnit.unit) else none else lp (List Int×Int×PUnit) (List Int) (fun (again:List Int×Int×PUnit->Option (List Int)) (x:List Int×Int × PUnit) =>
 let v7:Bool:=inB x.2.1 x0.2.length;
 let v8:List Int×Int×Int:=x0.2.getD x.2.1.toNat ([],0,0);bif decide (x.2.1<(↑x0.2.length:Int)) then bif v7 then aa (lM v8.2.2) fun (t:Int)=>lp (Int×Int×PUnit) (List Int) (fun (again_1:Int×Int×PUnit->Option (List Int)) (x_1:Int×Int×PUnit)=>bif decide (x_1.2.1 < (↑x0.1.length:Int)) then bif v7 then bif inB x_1.2.1 v8.1.length then aa (lM (v8.1.getD x_1.2.1.toNat 0)) fun (t:Int) => again_1 (IntKind.wrap .i64 (x_1.1+t),IntKind.wrap .i64 (x_1.2.1+1),PUnit.unit) else none else none else bif c7 (List.length x.1+1) (8 : Nat) then again (x.1++[x_1.1],IntKind.wrap .i64 (x.2.1+1),PUnit.unit) else none) (IntKind.wrap .i64 (1+t),0,PUnit.unit) else none else some x.1) ([x.1],0,PUnit.unit)) (1,0,PUnit.unit)
def gB (x0:(List Int)×List ((List Int)×Int×Int)):Option (List Int):=uo lpK jnK lM x0
abbrev QS:=((List Int)×List ((List Int)×Int×Int))->Option (List Int)
def ue (lp:Lp) (_:Jn) (x0:List Int) (x1:Int):Option (Int×Bool×Unit) :=
 lp (Int×Int×PUnit) (Int×Bool×PUnit) (fun (again:Int×Int×PUnit->Option (Int×Bool×PUnit)) (x:Int×Int×PUnit) =>
 let v6:Bool:=inB x.2.1 x0.length;bif decide (x.2.1<(↑x0.length:Int)) then bif v6 then bif nzB x.1 then bif decide (x0.getD x.2.1.toNat (0 : Int)>IntKind.wrap .i64 (Int.tdiv x1 x.1)) then some (0,false,PUnit.unit) else bif v6 then again (IntKind.wrap .i64 (x.1*x0.getD x.2.1.toNat 0),IntKind.wrap .i64 (x.2.1+1),PUnit.unit) else none else none else none else some (x.1,true,PUnit.unit)) (1,0,PUnit.unit)
def gA (x0:List Int) (x1:Int):Option (Int×Bool×Unit):=ue lpK jnK x0 x1
abbrev Rz:=(List Int)->(Int)->Option (Int×Bool×Unit)
def Ab (lp:Lp) (_:Jn) (gB:QS) (gA:Rz) (x0:(List Int)×List ((List Int)×Int×Int)):Option Bool :=
 aa (gB x0) fun (t:List Int)=>aa (gA t 17592186044416) fun (t_1:Int×Bool×PUnit) =>
 let v5:Bool:=!t_1.2.1;
 let v6:Int:=IntKind.wrap .i64 (Int.tdiv 144115188075855872 t_1.1);
 let v7:Bool:=v5||t_1.2.1;lp (Int×Int×PUnit) Bool (fun (again:Int×Int×PUnit->Option Bool) (x:Int×Int×PUnit)=>bif decide (x.2.1<(↑t.length:Int)) then bif inB x.2.1 t.length then again (if t.getD x.2.1.toNat 0>x.1 then t.getD x.2.1.toNat 0 else x.1,IntKind.wrap IntKind.i64 (x.2.1+1),PUnit.unit) else none else bif v7&&(v5||nzB t_1.1) then bif v7&&v7 then bif v7 then some (bif t_1.2.1 then decide (x.1<=v6) else false) else none else none else none) (0,0,PUnit.unit)
def jJ (x0:(List Int)×List ((List Int)×Int×Int)):Option Bool:=Ab lpK jnK gB gA x0
abbrev t63:=((List Int)×List ((List Int)×Int×Int))->Option (Bool)
def yG (_:Lp) (_:Jn) (aL:t15) (cz:t16) (jJ:t63) (x0:(List (ByteArray×Int))×List (ByteArray×(List (ByteArray×Int×Int×Int))×Bool)):Option Bool :=
 aa (cz x0) fun (t:List Int)=>aa (aL x0 t) fun (t:List Int×List (List Int×Int×Int))=>aa (jJ t) fun (t:Bool)=>some t
def jH (x0:(List (ByteArray×Int))×List (ByteArray×(List (ByteArray×Int×Int×Int))×Bool)):Option Bool:=yG lpK jnK aL cz jJ x0
abbrev t23:=((List (ByteArray×Int))×List (ByteArray×(List (ByteArray×Int×Int×Int))×Bool))->Option (Bool)
def zA (_:Lp) (_:Jn) (x0:(List (ByteArray×Int))×List (ByteArray×(List (ByteArray×Int×Int×Int))×Bool)) (x1:Int) (x2:Int):Option (List Int) :=
 bif decide (0<=(↑x0.2.length:Int))&&c7 (Int.toNat (↑x0.2.length:Int)) 8 then bif inB x1 (Int.toNat (↑x0.2.length:Int)) then bif Nat.ble (Nat.succ x1.toNat) (Int.toNat (↑x0.2.length:Int)) then some (List.set (List.replicate (Int.toNat (↑x0.2.length:Int)) 0) x1.toNat x2) else none else none else none
def gk (x0:(List (ByteArray×Int))×List (ByteArray×(List (ByteArray×Int×Int×Int))×Bool)) (x1:Int) (x2:Int):Option (List Int):=zA lpK jnK x0 x1 x2
abbrev t64:=((List (ByteArray×Int))×List (ByteArray×(List (ByteArray×Int×Int×Int))×Bool))->(Int)->(Int)->Option (List Int)
def uh (_:Lp) (_:Jn) (aL:t15) (jJ:t63) (gk:t64) (x0:(List (ByteArray×Int))×List (ByteArray×(List (ByteArray×Int×Int×Int))×Bool)):Option Bool :=
 aa (gk x0 0 1) fun (t:List Int)=>aa (aL x0 t) fun (t:List Int×List (List Int×Int×Int))=>aa (jJ t) fun (t:Bool)=>some t
def gz (x0:(List (ByteArray×Int))×List (ByteArray×(List (ByteArray×Int×Int×Int))×Bool)):Option Bool:=uh lpK jnK aL jJ gk x0
abbrev t24:=((List (ByteArray×Int))×List (ByteArray×(List (ByteArray×Int×Int×Int))×Bool))->Option (Bool)
def xb (_:Lp) (_:Jn) (gB:QS) (gA:Rz) (x0:(List Int)×List ((List Int)×Int×Int)):Option Bool :=
 aa (gB x0) fun (t:List Int)=>aa (gA t 536870912) fun (t:Int×Bool×PUnit)=>some t.2.1
def oJ (x0:(List Int)×List ((List Int)×Int×Int)):Option Bool:=xb lpK jnK gB gA x0
abbrev t65:=((List Int)×List ((List Int)×Int×Int))->Option (Bool)
def wV (_:Lp) (_:Jn) (aL:t15) (cz:t16) (oJ:t65) (x0:(List (ByteArray×Int))×List (ByteArray×(List (ByteArray×Int×Int×Int))×Bool)):Option Bool :=
 aa (cz x0) fun (t:List Int)=>aa (aL x0 t) fun (t:List Int×List (List Int×Int×Int))=>aa (oJ t) fun (t:Bool)=>some t
def iX (x0:(List (ByteArray×Int))×List (ByteArray×(List (ByteArray×Int×Int×Int))×Bool)):Option Bool:=wV lpK jnK aL cz oJ x0
abbrev t25:=((List (ByteArray×Int))×List (ByteArray×(List (ByteArray×Int×Int×Int))×Bool))->Option (Bool)
def w8 (lp:Lp) (_:Jn) (x0:List Nat×List (Option (List Int))) (x1:List Int) (x2:Int) (x3:Int) (x4:Int) (x5:Int):Option ((List Nat×List (Option (List Int)))×(List Int)×Int×Int×Unit) :=
 bif inB x4 x0.1.length then bif Nat.ble (Nat.succ x4.toNat) x0.1.length then bif inB x5 (List.length (af x0.2 (x0.1.getD x4.toNat 0))) then bif Nat.ble (Nat.succ x5.toNat) (List.length (af x0.2 (x0.1.getD x4.toNat 0))) then lp (Int×(List Nat×List (Option (List Int)))×PUnit) ((List Nat × List (Option (List Int)))×List Int×Int×Int×PUnit) (fun (again:Int×(List Nat×List (Option (List Int)))×PUnit->Option ((List Nat×List (Option (List Int)))×List Int × Int×Int×PUnit)) (x:Int×(List Nat×List (Option (List Int)))×PUnit) =>
 let v10:Int:=IntKind.wrap .i64 (x.1+1);
 let v11:(List Nat×List (Option (List Int)))×PUnit:=(x.2.1,PUnit.unit);bif decide (x.1<(↑x.2.1.1.length:Int)) then bif inB x.1 x.2.1.1.length then bif Nat.ble (Nat.succ x.1.toNat) x.2.1.1.length then bif inB x5 (List.length (af x.2.1.2 (x.2.1.1.getD x.1.toNat (0 : Nat)))) then bif Nat.ble (Nat.succ x5.toNat) (List.length (af x.2.1.2 (x.2.1.1.getD x.1.toNat 0))) then bif decide (x.1=x4) then again (v10, v11) else lp (Int×(List Nat×List (Option (List Int)))×PUnit) ((List Nat×List (Option (List Int)))×List Int×Int×Int×PUnit) (fun (again_1:Int×(List Nat×List (Option (List Int)))×PUnit->Option ((List Nat×List (Option (List Int)))×List Int×Int×Int×PUnit)) (x_1:Int×(List Nat×List (Option (List Int)))×PUnit) =>
 let v14:Bool:=inB x.1 x_1.2.1.1.length;
 let v15:Bool:=Nat.ble (Nat.succ x.1.toNat) x_1.2.1.1.length;bif v14 then bif v15 then bif dL x_1.2.1.2 (x_1.2.1.1.getD x.1.toNat (0 : Nat)) then bif decide (x_1.1<(↑(List.length (af x_1.2.1.2 (x_1.2.1.1.getD x.1.toNat 0))):Int)) then bif v14 then bif v15 then bif v14 then bif v15 then bif inB x_1.1 (List.length (af x_1.2.1.2 (x_1.2.1.1.getD x.1.toNat 0))) then bif Nat.ble (Nat.succ x_1.1.toNat) (List.length (af x_1.2.1.2 (x_1.2.1.1.getD x.1.toNat 0))) then bif inB x4 x_1.2.1.1.length then bif Nat.ble (Nat.succ x4.toNat) x_1.2.1.1.length then bif inB x_1.1 (List.length (af x_1.2.1.2 (x_1.2.1.1.getD x4.toNat 0))) then bif Nat.ble (Nat.succ x_1.1.toNat) (List.length (af x_1.2.1.2 (x_1.2.1.1.getD x4.toNat 0))) then bif nzB x2 then bif inB x_1.1 (List.length (af x_1.2.1.2 (x_1.2.1.1.getD x.1.toNat 0))) then bif Nat.ble (Nat.succ x_1.1.toNat) (List.length (af x_1.2.1.2 (x_1.2.1.1.getD x.1.toNat (0 : Nat)))) then again_1 (IntKind.wrap .i64 (x_1.1+1),(x_1.2.1.1,x_1.2.1.2.set (x_1.2.1.1.getD x.1.toNat 0) (some (List.set (af x_1.2.1.2 (x_1.2.1.1.getD x.1.toNat 0)) x_1.1.toNat (IntKind.wrap .i64 (Int.tdiv (IntKind.wrap .i64 (IntKind.wrap IntKind.i64 (List.getD (af x_1.2.1.2 (x_1.2.1.1.getD x.1.toNat 0)) x_1.1.toNat 0*List.getD (af x0.2 (x0.1.getD x4.toNat 0)) x5.toNat 0) - IntKind.wrap .i64 (List.getD (af x.2.1.2 (x.2.1.1.getD x.1.toNat 0)) x5.toNat 0 * List.getD (af x_1.2.1.2 (x_1.2.1.1.getD x4.toNat 0)) x_1.1.toNat 0))) x2))))),PUnit.unit) else none else none else none else none else none else none else none else none else none else none else none else none else none else again (v10,x_1.2.1,PUnit.unit) else none else none else none) (0,v11) else none else none else none else none else bif inB x4 x1.length then bif Nat.ble (Nat.succ x4.toNat) x1.length then some (x.2.1,x1.set x4.toNat x5,List.getD (af x0.2 (x0.1.getD x4.toNat 0)) x5.toNat 0,x3,PUnit.unit) else none else none) (0,x0,PUnit.unit) else none else none else none else none
def gW (x0:List Nat×List (Option (List Int))) (x1:List Int) (x2:Int) (x3:Int) (x4:Int) (x5:Int):Option ((List Nat×List (Option (List Int)))×(List Int)×Int×Int×Unit):=w8 lpK jnK x0 x1 x2 x3 x4 x5
abbrev QI:=(List Nat×List (Option (List Int)))->(List Int)->(Int)->(Int)->(Int)->(Int)->Option ((List Nat×List (Option (List Int)))×(List Int)×Int×Int×Unit)
def AX (lp:Lp) (_:Jn) (gW:QI) (x0:List Nat×List (Option (List Int))) (x1:List Int) (x2:Int) (x3:Int):Option ((List Nat×List (Option (List Int)))×(List Int)×Int×Int×Bool×Unit) :=
 
 let v6:Int:=IntKind.wrap .i64 ((↑x0.1.length:Int) - 1);lp ((List Nat×List (Option (List Int)))×List Int×Int×Int×(List Nat×List (Option (List Int)))×List Int×Int×Int×PUnit) ((List Nat×List (Option (List Int)))×List Int×Int×Int×Bool×PUnit) (fun (again:(List Nat×List (Option (List Int)))×List Int×Int × Int×(List Nat×List (Option (List Int)))×List Int×Int×Int×PUnit->Option ((List Nat×List (Option (List Int)))×List Int×Int×Int×Bool×PUnit)) (x:(List Nat × List (Option (List Int)))×List Int×Int×Int×(List Nat×List (Option (List Int)))×List Int×Int×Int×PUnit)=>lp (Int×PUnit) ((List Nat×List (Option (List Int))) × List Int×Int×Int×Bool×PUnit) (fun (again_1:Int×PUnit->Option ((List Nat×List (Option (List Int)))×List Int×Int×Int×Bool×PUnit)) (x_1:Int×PUnit) =>
 let v11:Bool:=decide (x_1.1<x.2.2.2.1);
 let v12:Bool:=!v11;
 let v13:Bool:=v12||v11;bif v13 then bif v13&&(v13&&(v12||inB v6 x.1.1.length)) then bif v13&&(v12||Nat.ble (Nat.succ v6.toNat) x.1.1.length) then bif v13&&(v13&&(v12||inB x_1.1 (List.length (af x.1.2 (x.1.1.getD v6.toNat 0))))) then bif v13&&(v12||Nat.ble (Nat.succ x_1.1.toNat) (List.length (af x.1.2 (x.1.1.getD v6.toNat 0)))) then bif v13 then bif v13 then bif bif v11 then decide (List.getD (af x.1.2 (x.1.1.getD v6.toNat 0)) x_1.1.toNat 0>=0) else false then again_1 (IntKind.wrap .i64 (x_1.1+1),PUnit.unit) else bif decide (x_1.1=x.2.2.2.1) then some (x.1,x.2.1,x.2.2.1,x.2.2.2.1,true,PUnit.unit) else bif inB 0 x.1.1.length then bif Nat.ble 1 x.1.1.length then bif dL x.1.2 (x.1.1.getD 0 0) then lp (Int×Int×PUnit) ((List Nat×List (Option (List Int)))×List Int×Int×Int × Bool×PUnit) (fun (again_2:Int×Int×PUnit->Option ((List Nat×List (Option (List Int)))×List Int×Int×Int×Bool×PUnit)) (x_2:Int×Int×PUnit) =>
 let v16:Int×PUnit:=(IntKind.wrap .i64 (x_2.2.1+1),PUnit.unit);
 let v17:Bool:=decide (x_2.1<0);
 let v18:Bool:=inB x_2.1 x.1.1.length;
 let v19:Bool:=Nat.ble (Nat.succ x_2.1.toNat) x.1.1.length;
 let v20:Bool:=inB x_2.2.1 x.1.1.length;
 let v21:Bool:=Nat.ble (Nat.succ x_2.2.1.toNat) x.1.1.length;bif decide (x_2.2.1<v6) then bif v20 then bif v21 then bif inB x_1.1 (List.length (af x.1.2 (x.1.1.getD x_2.2.1.toNat 0))) then bif Nat.ble (Nat.succ x_1.1.toNat) (List.length (af x.1.2 (x.1.1.getD x_2.2.1.toNat 0))) then bif decide (List.getD (af x.1.2 (x.1.1.getD x_2.2.1.toNat 0)) x_1.1.toNat 0<=0) then again_2 (x_2.1,v16) else bif v17 then again_2 (x_2.2.1,v16) else bif v20 then bif v21 then bif inB (IntKind.wrap .i64 ((↑(List.length (af x.1.2 (x.1.1.getD (0 : Nat) 0))):Int) - 1)) (List.length (af x.1.2 (x.1.1.getD x_2.2.1.toNat 0))) then bif Nat.ble (Nat.succ (Int.toNat (IntKind.wrap IntKind.i64 ((↑(List.length (af x.1.2 (x.1.1.getD 0 0))):Int) - 1)))) (List.length (af x.1.2 (x.1.1.getD x_2.2.1.toNat 0))) then bif v18 then bif v19 then bif inB x_1.1 (List.length (af x.1.2 (x.1.1.getD x_2.1.toNat 0))) then bif Nat.ble (Nat.succ x_1.1.toNat) (List.length (af x.1.2 (x.1.1.getD x_2.1.toNat 0))) then bif v18 then bif v19 then bif inB (IntKind.wrap .i64 ((↑(List.length (af x.1.2 (x.1.1.getD 0 0))):Int) - 1)) (List.length (af x.1.2 (x.1.1.getD x_2.1.toNat 0))) then bif Nat.ble (Nat.succ (Int.toNat (IntKind.wrap .i64 ((↑(List.length (af x.1.2 (x.1.1.getD 0 0))):Int) - 1)))) (List.length (af x.1.2 (x.1.1.getD x_2.1.toNat 0))) then bif v20 then bif v21 then bif inB x_1.1 (List.length (af x.1.2 (x.1.1.getD x_2.2.1.toNat 0))) then bif Nat.ble (Nat.succ x_1.1.toNat) (List.length (af x.1.2 (x.1.1.getD x_2.2.1.toNat 0))) then bif (!!decide (IntKind.wrap .i64 (List.getD (af x.1.2 (x.1.1.getD x_2.2.1.toNat 0)) (Int.toNat (IntKind.wrap .i64 ((↑(List.length (af x.1.2 (x.1.1.getD 0 0))) : Int) - 1))) 0*List.getD (af x.1.2 (x.1.1.getD x_2.1.toNat 0)) x_1.1.toNat 0)<IntKind.wrap .i64 (List.getD (af x.1.2 (x.1.1.getD x_2.1.toNat 0)) (Int.toNat (IntKind.wrap .i64 ((↑(List.length (af x.1.2 (x.1.1.getD 0 0))):Int) - 1))) 0*List.getD (af x.1.2 (x.1.1.getD x_2.2.1.toNat 0)) x_1.1.toNat 0))||!decide (IntKind.wrap .i64 (List.getD (af x.1.2 (x.1.1.getD x_2.2.1.toNat 0)) (Int.toNat (IntKind.wrap .i64 ((↑(List.length (af x.1.2 (x.1.1.getD 0 0))):Int) - 1))) 0*List.getD (af x.1.2 (x.1.1.getD x_2.1.toNat 0)) x_1.1.toNat 0)<IntKind.wrap .i64 (List.getD (af x.1.2 (x.1.1.getD x_2.1.toNat 0)) (Int.toNat (IntKind.wrap .i64 ((↑(List.length (af x.1.2 (x.1.1.getD 0 (0 : Nat)))):Int) - 1))) 0*List.getD (af x.1.2 (x.1.1.getD x_2.2.1.toNat 0)) x_1.1.toNat 0)))&&(!!decide (IntKind.wrap IntKind.i64 (List.getD (af x.1.2 (x.1.1.getD x_2.2.1.toNat 0)) (Int.toNat (IntKind.wrap .i64 ((↑(List.length (af x.1.2 (x.1.1.getD 0 0))):Int) - 1))) 0*List.getD (af x.1.2 (x.1.1.getD x_2.1.toNat 0)) x_1.1.toNat 0)<IntKind.wrap IntKind.i64 (List.getD (af x.1.2 (x.1.1.getD x_2.1.toNat 0)) (Int.toNat (IntKind.wrap .i64 ((↑(List.length (af x.1.2 (x.1.1.getD (0 : Nat) 0))):Int) - 1))) 0*List.getD (af x.1.2 (x.1.1.getD x_2.2.1.toNat 0)) x_1.1.toNat 0))||!decide (IntKind.wrap .i64 (List.getD (af x.1.2 (x.1.1.getD x_2.2.1.toNat 0)) (Int.toNat (IntKind.wrap .i64 ((↑(List.length (af x.1.2 (x.1.1.getD 0 0))):Int) - 1))) 0*List.getD (af x.1.2 (x.1.1.getD x_2.1.toNat 0)) x_1.1.toNat (0 : Int))<IntKind.wrap .i64 (List.getD (af x.1.2 (x.1.1.getD x_2.1.toNat 0)) (Int.toNat (IntKind.wrap .i64 ((↑(List.length (af x.1.2 (x.1.1.getD 0 0))):Int) - 1))) 0*List.getD (af x.1.2 (x.1.1.getD x_2.2.1.toNat 0)) x_1.1.toNat (0 : Int)))) then bif !!decide (IntKind.wrap .i64 (List.getD (af x.1.2 (x.1.1.getD x_2.2.1.toNat 0)) (Int.toNat (IntKind.wrap .i64 ((↑(List.length (af x.1.2 (x.1.1.getD 0 0))):Int) - 1))) 0*List.getD (af x.1.2 (x.1.1.getD x_2.1.toNat (0 : Nat))) x_1.1.toNat 0)<IntKind.wrap .i64 (List.getD (af x.1.2 (x.1.1.getD x_2.1.toNat 0)) (Int.toNat (IntKind.wrap .i64 ((↑(List.length (af x.1.2 (x.1.1.getD 0 0))):Int) - 1))) 0*List.getD (af x.1.2 (x.1.1.getD x_2.2.1.toNat (0 : Nat))) x_1.1.toNat 0))||!decide (IntKind.wrap .i64 (List.getD (af x.1.2 (x.1.1.getD x_2.2.1.toNat 0)) (Int.toNat (IntKind.wrap IntKind.i64 ((↑(List.length (af x.1.2 (x.1.1.getD 0 0))):Int) - 1))) 0*List.getD (af x.1.2 (x.1.1.getD x_2.1.toNat 0)) x_1.1.toNat 0)<IntKind.wrap .i64 (List.getD (af x.1.2 (x.1.1.getD x_2.1.toNat 0)) (Int.toNat (IntKind.wrap IntKind.i64 ((↑(List.length (af x.1.2 (x.1.1.getD 0 0))):Int) - 1))) 0*List.getD (af x.1.2 (x.1.1.getD x_2.2.1.toNat 0)) x_1.1.toNat 0)) then bif !(!decide (IntKind.wrap .i64 (List.getD (af x.1.2 (x.1.1.getD x_2.2.1.toNat 0)) (Int.toNat (IntKind.wrap .i64 ((↑(List.length (af x.1.2 (x.1.1.getD 0 0))):Int) - 1))) 0*List.getD (af x.1.2 (x.1.1.getD x_2.1.toNat 0)) x_1.1.toNat 0)<IntKind.wrap .i64 (List.getD (af x.1.2 (x.1.1.getD x_2.1.toNat 0)) (Int.toNat (IntKind.wrap .i64 ((↑(List.length (af x.1.2 (x.1.1.getD 0 0))):Int) - 1))) 0*List.getD (af x.1.2 (x.1.1.getD x_2.2.1.toNat 0)) x_1.1.toNat 0))&&decide (IntKind.wrap .i64 (List.getD (af x.1.2 (x.1.1.getD x_2.2.1.toNat 0)) (Int.toNat (IntKind.wrap .i64 ((↑(List.length (af x.1.2 (x.1.1.getD 0 0))):Int) - 1))) 0*List.getD (af x.1.2 (x.1.1.getD x_2.1.toNat 0)) x_1.1.toNat 0)=IntKind.wrap .i64 (List.getD (af x.1.2 (x.1.1.getD x_2.1.toNat (0 : Nat))) (Int.toNat (IntKind.wrap .i64 ((↑(List.length (af x.1.2 (x.1.1.getD 0 0))):Int) - 1))) 0*List.getD (af x.1.2 (x.1.1.getD x_2.2.1.toNat 0)) x_1.1.toNat 0)))||!decide (IntKind.wrap .i64 (List.getD (af x.1.2 (x.1.1.getD x_2.2.1.toNat 0)) (Int.toNat (IntKind.wrap .i64 ((↑(List.length (af x.1.2 (x.1.1.getD 0 0))):Int) - 1))) 0*List.getD (af x.1.2 (x.1.1.getD x_2.1.toNat 0)) x_1.1.toNat 0)<IntKind.wrap .i64 (List.getD (af x.1.2 (x.1.1.getD x_2.1.toNat 0)) (Int.toNat (IntKind.wrap .i64 ((↑(List.length (af x.1.2 (x.1.1.getD 0 0))):Int) - 1))) 0*List.getD (af x.1.2 (x.1.1.getD x_2.2.1.toNat 0)) x_1.1.toNat 0))&&decide (IntKind.wrap .i64 (List.getD (af x.1.2 (x.1.1.getD x_2.2.1.toNat 0)) (Int.toNat (IntKind.wrap .i64 ((↑(List.length (af x.1.2 (x.1.1.getD 0 0))):Int) - 1))) 0 * List.getD (af x.1.2 (x.1.1.getD x_2.1.toNat 0)) x_1.1.toNat 0)=IntKind.wrap .i64 (List.getD (af x.1.2 (x.1.1.getD x_2.1.toNat 0)) (Int.toNat (IntKind.wrap .i64 ((↑(List.length (af x.1.2 (x.1.1.getD 0 0))):Int) - 1))) 0 * List.getD (af x.1.2 (x.1.1.getD x_2.2.1.toNat 0)) x_1.1.toNat 0)) then bif (!(!decide (IntKind.wrap .i64 (List.getD (af x.1.2 (x.1.1.getD x_2.2.1.toNat 0)) (Int.toNat (IntKind.wrap .i64 ((↑(List.length (af x.1.2 (x.1.1.getD 0 0))) : Int) - 1))) 0*List.getD (af x.1.2 (x.1.1.getD x_2.1.toNat 0)) x_1.1.toNat 0)<IntKind.wrap .i64 (List.getD (af x.1.2 (x.1.1.getD x_2.1.toNat 0)) (Int.toNat (IntKind.wrap .i64 ((↑(List.length (af x.1.2 (x.1.1.getD 0 0))):Int) - 1))) 0*List.getD (af x.1.2 (x.1.1.getD x_2.2.1.toNat 0)) x_1.1.toNat 0))&&decide (IntKind.wrap .i64 (List.getD (af x.1.2 (x.1.1.getD x_2.2.1.toNat 0)) (Int.toNat (IntKind.wrap .i64 ((↑(List.length (af x.1.2 (x.1.1.getD 0 0))):Int) - 1))) 0*List.getD (af x.1.2 (x.1.1.getD x_2.1.toNat 0)) x_1.1.toNat 0)=IntKind.wrap .i64 (List.getD (af x.1.2 (x.1.1.getD x_2.1.toNat 0)) (Int.toNat (IntKind.wrap .i64 ((↑(List.length (af x.1.2 (x.1.1.getD 0 (0 : Nat)))):Int) - 1))) 0*List.getD (af x.1.2 (x.1.1.getD x_2.2.1.toNat 0)) x_1.1.toNat 0)))||!decide (IntKind.wrap IntKind.i64 (List.getD (af x.1.2 (x.1.1.getD x_2.2.1.toNat 0)) (Int.toNat (IntKind.wrap .i64 ((↑(List.length (af x.1.2 (x.1.1.getD 0 0))):Int) - 1))) 0*List.getD (af x.1.2 (x.1.1.getD x_2.1.toNat 0)) x_1.1.toNat 0)<IntKind.wrap IntKind.i64 (List.getD (af x.1.2 (x.1.1.getD x_2.1.toNat 0)) (Int.toNat (IntKind.wrap .i64 ((↑(List.length (af x.1.2 (x.1.1.getD (0 : Nat) 0))):Int) - 1))) 0*List.getD (af x.1.2 (x.1.1.getD x_2.2.1.toNat 0)) x_1.1.toNat 0))&&decide (IntKind.wrap .i64 (List.getD (af x.1.2 (x.1.1.getD x_2.2.1.toNat 0)) (Int.toNat (IntKind.wrap .i64 ((↑(List.length (af x.1.2 (x.1.1.getD 0 0))):Int) - 1))) 0*List.getD (af x.1.2 (x.1.1.getD x_2.1.toNat 0)) x_1.1.toNat (0 : Int))=IntKind.wrap .i64 (List.getD (af x.1.2 (x.1.1.getD x_2.1.toNat 0)) (Int.toNat (IntKind.wrap .i64 ((↑(List.length (af x.1.2 (x.1.1.getD 0 0))):Int) - 1))) 0*List.getD (af x.1.2 (x.1.1.getD x_2.2.1.toNat 0)) x_1.1.toNat (0 : Int))))&&((!(!decide (IntKind.wrap .i64 (List.getD (af x.1.2 (x.1.1.getD x_2.2.1.toNat 0)) (Int.toNat (IntKind.wrap .i64 ((↑(List.length (af x.1.2 (x.1.1.getD 0 0))):Int) - 1))) 0*List.getD (af x.1.2 (x.1.1.getD x_2.1.toNat 0)) x_1.1.toNat 0)<IntKind.wrap .i64 (List.getD (af x.1.2 (x.1.1.getD x_2.1.toNat 0)) (Int.toNat (IntKind.wrap .i64 ((↑(List.length (af x.1.2 (x.1.1.getD 0 0))):Int) - 1))) 0*List.getD (af x.1.2 (x.1.1.getD x_2.2.1.toNat 0)) x_1.1.toNat 0))&&decide (IntKind.wrap .i64 (List.getD (af x.1.2 (x.1.1.getD x_2.2.1.toNat 0)) (Int.toNat (IntKind.wrap .i64 ((↑(List.length (af x.1.2 (x.1.1.getD 0 0))):Int) - 1))) 0*List.getD (af x.1.2 (x.1.1.getD x_2.1.toNat (0 : Nat))) x_1.1.toNat 0)=IntKind.wrap .i64 (List.getD (af x.1.2 (x.1.1.getD x_2.1.toNat 0)) (Int.toNat (IntKind.wrap .i64 ((↑(List.length (af x.1.2 (x.1.1.getD 0 0))):Int) - 1))) 0*List.getD (af x.1.2 (x.1.1.getD x_2.2.1.toNat (0 : Nat))) x_1.1.toNat 0)))||!decide (IntKind.wrap .i64 (List.getD (af x.1.2 (x.1.1.getD x_2.2.1.toNat 0)) (Int.toNat (IntKind.wrap IntKind.i64 ((↑(List.length (af x.1.2 (x.1.1.getD 0 0))):Int) - 1))) 0*List.getD (af x.1.2 (x.1.1.getD x_2.1.toNat 0)) x_1.1.toNat 0)<IntKind.wrap .i64 (List.getD (af x.1.2 (x.1.1.getD x_2.1.toNat 0)) (Int.toNat (IntKind.wrap IntKind.i64 ((↑(List.length (af x.1.2 (x.1.1.getD 0 0))):Int) - 1))) 0*List.getD (af x.1.2 (x.1.1.getD x_2.2.1.toNat 0)) x_1.1.toNat 0))&&decide (IntKind.wrap .i64 (List.getD (af x.1.2 (x.1.1.getD x_2.2.1.toNat 0)) (Int.toNat (IntKind.wrap .i64 ((↑(List.length (af x.1.2 (x.1.1.getD 0 0))):Int) - 1))) 0*List.getD (af x.1.2 (x.1.1.getD x_2.1.toNat 0)) x_1.1.toNat 0)=IntKind.wrap .i64 (List.getD (af x.1.2 (x.1.1.getD x_2.1.toNat 0)) (Int.toNat (IntKind.wrap .i64 ((↑(List.length (af x.1.2 (x.1.1.getD 0 0))):Int) - 1))) 0*List.getD (af x.1.2 (x.1.1.getD x_2.2.1.toNat 0)) x_1.1.toNat 0)))&&(!(!decide (IntKind.wrap .i64 (List.getD (af x.1.2 (x.1.1.getD x_2.2.1.toNat 0)) (Int.toNat (IntKind.wrap .i64 ((↑(List.length (af x.1.2 (x.1.1.getD 0 0))):Int) - 1))) 0*List.getD (af x.1.2 (x.1.1.getD x_2.1.toNat 0)) x_1.1.toNat 0)<IntKind.wrap .i64 (List.getD (af x.1.2 (x.1.1.getD x_2.1.toNat 0)) (Int.toNat (IntKind.wrap .i64 ((↑(List.length (af x.1.2 (x.1.1.getD 0 0))):Int) - 1))) 0*List.getD (af x.1.2 (x.1.1.getD x_2.2.1.toNat 0)) x_1.1.toNat 0))&&decide (IntKind.wrap .i64 (List.getD (af x.1.2 (x.1.1.getD x_2.2.1.toNat 0)) (Int.toNat (IntKind.wrap .i64 ((↑(List.length (af x.1.2 (x.1.1.getD 0 0))):Int) - 1))) 0 * List.getD (af x.1.2 (x.1.1.getD x_2.1.toNat 0)) x_1.1.toNat 0)=IntKind.wrap .i64 (List.getD (af x.1.2 (x.1.1.getD x_2.1.toNat 0)) (Int.toNat (IntKind.wrap .i64 ((↑(List.length (af x.1.2 (x.1.1.getD 0 0))):Int) - 1))) 0 * List.getD (af x.1.2 (x.1.1.getD x_2.2.1.toNat 0)) x_1.1.toNat 0)))||inB x_2.2.1 x.2.1.length)) then bif (!(!decide (IntKind.wrap .i64 (List.getD (af x.1.2 (x.1.1.getD x_2.2.1.toNat 0)) (Int.toNat (IntKind.wrap .i64 ((↑(List.length (af x.1.2 (x.1.1.getD 0 0))):Int) - 1))) 0*List.getD (af x.1.2 (x.1.1.getD x_2.1.toNat 0)) x_1.1.toNat (0 : Int))<IntKind.wrap .i64 (List.getD (af x.1.2 (x.1.1.getD x_2.1.toNat 0)) (Int.toNat (IntKind.wrap .i64 ((↑(List.length (af x.1.2 (x.1.1.getD 0 0))):Int) - 1))) 0*List.getD (af x.1.2 (x.1.1.getD x_2.2.1.toNat 0)) x_1.1.toNat (0 : Int)))&&decide (IntKind.wrap .i64 (List.getD (af x.1.2 (x.1.1.getD x_2.2.1.toNat 0)) (Int.toNat (IntKind.wrap .i64 ((↑(List.length (af x.1.2 (x.1.1.getD 0 0))):Int) - 1))) 0*List.getD (af x.1.2 (x.1.1.getD x_2.1.toNat 0)) x_1.1.toNat 0)=IntKind.wrap .i64 (List.getD (af x.1.2 (x.1.1.getD x_2.1.toNat 0)) (Int.toNat (IntKind.wrap .i64 ((↑(List.length (af x.1.2 (x.1.1.getD 0 0))):Int) - 1))) 0*List.getD (af x.1.2 (x.1.1.getD x_2.2.1.toNat 0)) x_1.1.toNat 0)))||!decide (IntKind.wrap .i64 (List.getD (af x.1.2 (x.1.1.getD x_2.2.1.toNat 0)) (Int.toNat (IntKind.wrap .i64 ((↑(List.length (af x.1.2 (x.1.1.getD 0 0))):Int) - 1))) 0*List.getD (af x.1.2 (x.1.1.getD x_2.1.toNat (0 : Nat))) x_1.1.toNat 0)<IntKind.wrap .i64 (List.getD (af x.1.2 (x.1.1.getD x_2.1.toNat 0)) (Int.toNat (IntKind.wrap .i64 ((↑(List.length (af x.1.2 (x.1.1.getD 0 0))):Int) - 1))) 0*List.getD (af x.1.2 (x.1.1.getD x_2.2.1.toNat (0 : Nat))) x_1.1.toNat 0))&&decide (IntKind.wrap .i64 (List.getD (af x.1.2 (x.1.1.getD x_2.2.1.toNat 0)) (Int.toNat (IntKind.wrap IntKind.i64 ((↑(List.length (af x.1.2 (x.1.1.getD 0 0))):Int) - 1))) 0*List.getD (af x.1.2 (x.1.1.getD x_2.1.toNat 0)) x_1.1.toNat 0)=IntKind.wrap .i64 (List.getD (af x.1.2 (x.1.1.getD x_2.1.toNat 0)) (Int.toNat (IntKind.wrap IntKind.i64 ((↑(List.length (af x.1.2 (x.1.1.getD 0 0))):Int) - 1))) 0*List.getD (af x.1.2 (x.1.1.getD x_2.2.1.toNat 0)) x_1.1.toNat 0)))&&(!(!decide (IntKind.wrap .i64 (List.getD (af x.1.2 (x.1.1.getD x_2.2.1.toNat 0)) (Int.toNat (IntKind.wrap .i64 ((↑(List.length (af x.1.2 (x.1.1.getD 0 0))):Int) - 1))) 0*List.getD (af x.1.2 (x.1.1.getD x_2.1.toNat 0)) x_1.1.toNat 0)<IntKind.wrap .i64 (List.getD (af x.1.2 (x.1.1.getD x_2.1.toNat 0)) (Int.toNat (IntKind.wrap .i64 ((↑(List.length (af x.1.2 (x.1.1.getD 0 0))):Int) - 1))) 0*List.getD (af x.1.2 (x.1.1.getD x_2.2.1.toNat 0)) x_1.1.toNat 0))&&decide (IntKind.wrap .i64 (List.getD (af x.1.2 (x.1.1.getD x_2.2.1.toNat 0)) (Int.toNat (IntKind.wrap .i64 ((↑(List.length (af x.1.2 (x.1.1.getD 0 0))):Int) - 1))) 0*List.getD (af x.1.2 (x.1.1.getD x_2.1.toNat 0)) x_1.1.toNat 0)=IntKind.wrap .i64 (List.getD (af x.1.2 (x.1.1.getD x_2.1.toNat (0 : Nat))) (Int.toNat (IntKind.wrap .i64 ((↑(List.length (af x.1.2 (x.1.1.getD 0 0))):Int) - 1))) 0*List.getD (af x.1.2 (x.1.1.getD x_2.2.1.toNat 0)) x_1.1.toNat 0)))||Nat.ble (Nat.succ x_2.2.1.toNat) x.2.1.length) then bif !(!decide (IntKind.wrap .i64 (List.getD (af x.1.2 (x.1.1.getD x_2.2.1.toNat 0)) (Int.toNat (IntKind.wrap .i64 ((↑(List.length (af x.1.2 (x.1.1.getD 0 0))):Int) - 1))) 0*List.getD (af x.1.2 (x.1.1.getD x_2.1.toNat 0)) x_1.1.toNat (0 : Int))<IntKind.wrap .i64 (List.getD (af x.1.2 (x.1.1.getD x_2.1.toNat 0)) (Int.toNat (IntKind.wrap .i64 ((↑(List.length (af x.1.2 (x.1.1.getD 0 0))):Int) - 1))) 0*List.getD (af x.1.2 (x.1.1.getD x_2.2.1.toNat 0)) x_1.1.toNat (0 : Int)))&&decide (IntKind.wrap .i64 (List.getD (af x.1.2 (x.1.1.getD x_2.2.1.toNat 0)) (Int.toNat (IntKind.wrap .i64 ((↑(List.length (af x.1.2 (x.1.1.getD 0 0))):Int) - 1))) 0*List.getD (af x.1.2 (x.1.1.getD x_2.1.toNat 0)) x_1.1.toNat 0)=IntKind.wrap .i64 (List.getD (af x.1.2 (x.1.1.getD x_2.1.toNat 0)) (Int.toNat (IntKind.wrap .i64 ((↑(List.length (af x.1.2 (x.1.1.getD 0 0))):Int) - 1))) 0*List.getD (af x.1.2 (x.1.1.getD x_2.2.1.toNat 0)) x_1.1.toNat 0)))||!decide (IntKind.wrap .i64 (List.getD (af x.1.2 (x.1.1.getD x_2.2.1.toNat 0)) (Int.toNat (IntKind.wrap .i64 ((↑(List.length (af x.1.2 (x.1.1.getD 0 0))):Int) - 1))) 0*List.getD (af x.1.2 (x.1.1.getD x_2.1.toNat (0 : Nat))) x_1.1.toNat 0)<IntKind.wrap .i64 (List.getD (af x.1.2 (x.1.1.getD x_2.1.toNat 0)) (Int.toNat (IntKind.wrap .i64 ((↑(List.length (af x.1.2 (x.1.1.getD 0 0))):Int) - 1))) 0*List.getD (af x.1.2 (x.1.1.getD x_2.2.1.toNat (0 : Nat))) x_1.1.toNat 0))&&decide (IntKind.wrap .i64 (List.getD (af x.1.2 (x.1.1.getD x_2.2.1.toNat 0)) (Int.toNat (IntKind.wrap IntKind.i64 ((↑(List.length (af x.1.2 (x.1.1.getD 0 0))):Int) - 1))) 0*List.getD (af x.1.2 (x.1.1.getD x_2.1.toNat 0)) x_1.1.toNat 0)=IntKind.wrap .i64 (List.getD (af x.1.2 (x.1.1.getD x_2.1.toNat 0)) (Int.toNat (IntKind.wrap IntKind.i64 ((↑(List.length (af x.1.2 (x.1.1.getD 0 0))):Int) - 1))) 0*List.getD (af x.1.2 (x.1.1.getD x_2.2.1.toNat 0)) x_1.1.toNat 0)) then bif (!(!decide (IntKind.wrap .i64 (List.getD (af x.1.2 (x.1.1.getD x_2.2.1.toNat (0 : Nat))) (Int.toNat (IntKind.wrap .i64 ((↑(List.length (af x.1.2 (x.1.1.getD 0 0))):Int) - 1))) 0*List.getD (af x.1.2 (x.1.1.getD x_2.1.toNat 0)) x_1.1.toNat 0)<IntKind.wrap .i64 (List.getD (af x.1.2 (x.1.1.getD x_2.1.toNat (0 : Nat))) (Int.toNat (IntKind.wrap .i64 ((↑(List.length (af x.1.2 (x.1.1.getD 0 0))):Int) - 1))) 0*List.getD (af x.1.2 (x.1.1.getD x_2.2.1.toNat 0)) x_1.1.toNat 0))&&decide (IntKind.wrap .i64 (List.getD (af x.1.2 (x.1.1.getD x_2.2.1.toNat 0)) (Int.toNat (IntKind.wrap .i64 ((↑(List.length (af x.1.2 (x.1.1.getD 0 0))):Int) - 1))) 0*List.getD (af x.1.2 (x.1.1.getD x_2.1.toNat 0)) x_1.1.toNat 0)=IntKind.wrap .i64 (List.getD (af x.1.2 (x.1.1.getD x_2.1.toNat 0)) (Int.toNat (IntKind.wrap .i64 ((↑(List.length (af x.1.2 (x.1.1.getD 0 0))):Int) - 1))) 0*List.getD (af x.1.2 (x.1.1.getD x_2.2.1.toNat 0)) x_1.1.toNat 0)))||!decide (IntKind.wrap .i64 (List.getD (af x.1.2 (x.1.1.getD x_2.2.1.toNat 0)) (Int.toNat (IntKind.wrap .i64 ((↑(List.length (af x.1.2 (x.1.1.getD 0 0))):Int) - 1))) 0 * List.getD (af x.1.2 (x.1.1.getD x_2.1.toNat 0)) x_1.1.toNat 0)<IntKind.wrap .i64 (List.getD (af x.1.2 (x.1.1.getD x_2.1.toNat 0)) (Int.toNat (IntKind.wrap .i64 ((↑(List.length (af x.1.2 (x.1.1.getD 0 0))):Int) - 1))) 0 * List.getD (af x.1.2 (x.1.1.getD x_2.2.1.toNat 0)) x_1.1.toNat 0))&&decide (IntKind.wrap .i64 (List.getD (af x.1.2 (x.1.1.getD x_2.2.1.toNat 0)) (Int.toNat (IntKind.wrap .i64 ((↑(List.length (af x.1.2 (x.1.1.getD 0 0))):Int) - (1 : Int)))) 0*List.getD (af x.1.2 (x.1.1.getD x_2.1.toNat 0)) x_1.1.toNat 0)=IntKind.wrap .i64 (List.getD (af x.1.2 (x.1.1.getD x_2.1.toNat 0)) (Int.toNat (IntKind.wrap .i64 ((↑(List.length (af x.1.2 (x.1.1.getD 0 0))):Int) - (1 : Int)))) 0*List.getD (af x.1.2 (x.1.1.getD x_2.2.1.toNat 0)) x_1.1.toNat 0)))&&((!(!decide (IntKind.wrap .i64 (List.getD (af x.1.2 (x.1.1.getD x_2.2.1.toNat 0)) (Int.toNat (IntKind.wrap .i64 ((↑(List.length (af x.1.2 (x.1.1.getD 0 0))):Int) - 1))) 0*List.getD (af x.1.2 (x.1.1.getD x_2.1.toNat 0)) x_1.1.toNat 0)<IntKind.wrap .i64 (List.getD (af x.1.2 (x.1.1.getD x_2.1.toNat 0)) (Int.toNat (IntKind.wrap .i64 ((↑(List.length (af x.1.2 (x.1.1.getD 0 (0 : Nat)))):Int) - 1))) 0*List.getD (af x.1.2 (x.1.1.getD x_2.2.1.toNat 0)) x_1.1.toNat 0))&&decide (IntKind.wrap IntKind.i64 (List.getD (af x.1.2 (x.1.1.getD x_2.2.1.toNat 0)) (Int.toNat (IntKind.wrap .i64 ((↑(List.length (af x.1.2 (x.1.1.getD 0 0))):Int) - 1))) 0*List.getD (af x.1.2 (x.1.1.getD x_2.1.toNat 0)) x_1.1.toNat 0)=IntKind.wrap IntKind.i64 (List.getD (af x.1.2 (x.1.1.getD x_2.1.toNat 0)) (Int.toNat (IntKind.wrap .i64 ((↑(List.length (af x.1.2 (x.1.1.getD (0 : Nat) 0))):Int) - 1))) 0*List.getD (af x.1.2 (x.1.1.getD x_2.2.1.toNat 0)) x_1.1.toNat 0)))||!decide (IntKind.wrap .i64 (List.getD (af x.1.2 (x.1.1.getD x_2.2.1.toNat 0)) (Int.toNat (IntKind.wrap .i64 ((↑(List.length (af x.1.2 (x.1.1.getD 0 0))):Int) - 1))) 0*List.getD (af x.1.2 (x.1.1.getD x_2.1.toNat 0)) x_1.1.toNat (0 : Int))<IntKind.wrap .i64 (List.getD (af x.1.2 (x.1.1.getD x_2.1.toNat 0)) (Int.toNat (IntKind.wrap .i64 ((↑(List.length (af x.1.2 (x.1.1.getD 0 0))):Int) - 1))) 0*List.getD (af x.1.2 (x.1.1.getD x_2.2.1.toNat 0)) x_1.1.toNat (0 : Int)))&&decide (IntKind.wrap .i64 (List.getD (af x.1.2 (x.1.1.getD x_2.2.1.toNat 0)) (Int.toNat (IntKind.wrap .i64 ((↑(List.length (af x.1.2 (x.1.1.getD 0 0))):Int) - 1))) 0*List.getD (af x.1.2 (x.1.1.getD x_2.1.toNat 0)) x_1.1.toNat 0)=IntKind.wrap .i64 (List.getD (af x.1.2 (x.1.1.getD x_2.1.toNat 0)) (Int.toNat (IntKind.wrap .i64 ((↑(List.length (af x.1.2 (x.1.1.getD 0 0))):Int) - 1))) 0*List.getD (af x.1.2 (x.1.1.getD x_2.2.1.toNat 0)) x_1.1.toNat 0)))&&(!(!decide (IntKind.wrap .i64 (List.getD (af x.1.2 (x.1.1.getD x_2.2.1.toNat 0)) (Int.toNat (IntKind.wrap .i64 ((↑(List.length (af x.1.2 (x.1.1.getD 0 0))):Int) - 1))) 0*List.getD (af x.1.2 (x.1.1.getD x_2.1.toNat (0 : Nat))) x_1.1.toNat 0)<IntKind.wrap .i64 (List.getD (af x.1.2 (x.1.1.getD x_2.1.toNat 0)) (Int.toNat (IntKind.wrap .i64 ((↑(List.length (af x.1.2 (x.1.1.getD 0 0))):Int) - 1))) 0*List.getD (af x.1.2 (x.1.1.getD x_2.2.1.toNat (0 : Nat))) x_1.1.toNat 0))&&decide (IntKind.wrap .i64 (List.getD (af x.1.2 (x.1.1.getD x_2.2.1.toNat 0)) (Int.toNat (IntKind.wrap IntKind.i64 ((↑(List.length (af x.1.2 (x.1.1.getD 0 0))):Int) - 1))) 0*List.getD (af x.1.2 (x.1.1.getD x_2.1.toNat 0)) x_1.1.toNat 0)=IntKind.wrap .i64 (List.getD (af x.1.2 (x.1.1.getD x_2.1.toNat 0)) (Int.toNat (IntKind.wrap IntKind.i64 ((↑(List.length (af x.1.2 (x.1.1.getD 0 0))):Int) - 1))) 0*List.getD (af x.1.2 (x.1.1.getD x_2.2.1.toNat 0)) x_1.1.toNat 0)))||inB x_2.1 x.2.1.length)) then bif (!(!decide (IntKind.wrap .i64 (List.getD (af x.1.2 (x.1.1.getD x_2.2.1.toNat 0)) (Int.toNat (IntKind.wrap .i64 ((↑(List.length (af x.1.2 (x.1.1.getD 0 0))):Int) - 1))) (0 : Int)*List.getD (af x.1.2 (x.1.1.getD x_2.1.toNat 0)) x_1.1.toNat 0)<IntKind.wrap .i64 (List.getD (af x.1.2 (x.1.1.getD x_2.1.toNat 0)) (Int.toNat (IntKind.wrap .i64 ((↑(List.length (af x.1.2 (x.1.1.getD 0 0))):Int) - 1))) (0 : Int)*List.getD (af x.1.2 (x.1.1.getD x_2.2.1.toNat 0)) x_1.1.toNat 0))&&decide (IntKind.wrap .i64 (List.getD (af x.1.2 (x.1.1.getD x_2.2.1.toNat 0)) (Int.toNat (IntKind.wrap .i64 ((↑(List.length (af x.1.2 (x.1.1.getD 0 0))):Int) - (1 : Int)))) 0*List.getD (af x.1.2 (x.1.1.getD x_2.1.toNat 0)) x_1.1.toNat 0)=IntKind.wrap .i64 (List.getD (af x.1.2 (x.1.1.getD x_2.1.toNat 0)) (Int.toNat (IntKind.wrap .i64 ((↑(List.length (af x.1.2 (x.1.1.getD 0 0))):Int) - (1 : Int)))) 0*List.getD (af x.1.2 (x.1.1.getD x_2.2.1.toNat 0)) x_1.1.toNat 0)))||!decide (IntKind.wrap .i64 (List.getD (af x.1.2 (x.1.1.getD x_2.2.1.toNat 0)) (Int.toNat (IntKind.wrap .i64 ((↑(List.length (af x.1.2 (x.1.1.getD 0 0))) : Int) - 1))) 0*List.getD (af x.1.2 (x.1.1.getD x_2.1.toNat 0)) x_1.1.toNat 0)<IntKind.wrap .i64 (List.getD (af x.1.2 (x.1.1.getD x_2.1.toNat 0)) (Int.toNat (IntKind.wrap .i64 ((↑(List.length (af x.1.2 (x.1.1.getD 0 0))) : Int) - 1))) 0*List.getD (af x.1.2 (x.1.1.getD x_2.2.1.toNat 0)) x_1.1.toNat 0))&&decide (IntKind.wrap .i64 (List.getD (af x.1.2 (x.1.1.getD x_2.2.1.toNat 0)) (Int.toNat (IntKind.wrap .i64 ((↑(List.length (af x.1.2 (x.1.1.getD 0 0))):Int) - 1))) 0*List.getD (af x.1.2 (x.1.1.getD x_2.1.toNat 0)) x_1.1.toNat 0)=IntKind.wrap .i64 (List.getD (af x.1.2 (x.1.1.getD x_2.1.toNat 0)) (Int.toNat (IntKind.wrap .i64 ((↑(List.length (af x.1.2 (x.1.1.getD 0 (0 : Nat)))):Int) - 1))) 0*List.getD (af x.1.2 (x.1.1.getD x_2.2.1.toNat 0)) x_1.1.toNat 0)))&&(!(!decide (IntKind.wrap IntKind.i64 (List.getD (af x.1.2 (x.1.1.getD x_2.2.1.toNat 0)) (Int.toNat (IntKind.wrap .i64 ((↑(List.length (af x.1.2 (x.1.1.getD 0 0))):Int) - 1))) 0*List.getD (af x.1.2 (x.1.1.getD x_2.1.toNat 0)) x_1.1.toNat 0)<IntKind.wrap IntKind.i64 (List.getD (af x.1.2 (x.1.1.getD x_2.1.toNat 0)) (Int.toNat (IntKind.wrap .i64 ((↑(List.length (af x.1.2 (x.1.1.getD (0 : Nat) 0))):Int) - 1))) 0*List.getD (af x.1.2 (x.1.1.getD x_2.2.1.toNat 0)) x_1.1.toNat 0))&&decide (IntKind.wrap .i64 (List.getD (af x.1.2 (x.1.1.getD x_2.2.1.toNat 0)) (Int.toNat (IntKind.wrap .i64 ((↑(List.length (af x.1.2 (x.1.1.getD 0 0))):Int) - 1))) 0*List.getD (af x.1.2 (x.1.1.getD x_2.1.toNat 0)) x_1.1.toNat (0 : Int))=IntKind.wrap .i64 (List.getD (af x.1.2 (x.1.1.getD x_2.1.toNat 0)) (Int.toNat (IntKind.wrap .i64 ((↑(List.length (af x.1.2 (x.1.1.getD 0 0))):Int) - 1))) 0*List.getD (af x.1.2 (x.1.1.getD x_2.2.1.toNat 0)) x_1.1.toNat (0 : Int))))||Nat.ble (Nat.succ x_2.1.toNat) x.2.1.length) then bif (!(!decide (IntKind.wrap .i64 (List.getD (af x.1.2 (x.1.1.getD x_2.2.1.toNat 0)) (Int.toNat (IntKind.wrap .i64 ((↑(List.length (af x.1.2 (x.1.1.getD 0 0))):Int) - 1))) 0*List.getD (af x.1.2 (x.1.1.getD x_2.1.toNat 0)) x_1.1.toNat 0)<IntKind.wrap .i64 (List.getD (af x.1.2 (x.1.1.getD x_2.1.toNat 0)) (Int.toNat (IntKind.wrap .i64 ((↑(List.length (af x.1.2 (x.1.1.getD 0 0))):Int) - 1))) 0*List.getD (af x.1.2 (x.1.1.getD x_2.2.1.toNat 0)) x_1.1.toNat 0))&&decide (IntKind.wrap .i64 (List.getD (af x.1.2 (x.1.1.getD x_2.2.1.toNat 0)) (Int.toNat (IntKind.wrap .i64 ((↑(List.length (af x.1.2 (x.1.1.getD 0 0))):Int) - 1))) 0 * List.getD (af x.1.2 (x.1.1.getD x_2.1.toNat 0)) x_1.1.toNat 0)=IntKind.wrap .i64 (List.getD (af x.1.2 (x.1.1.getD x_2.1.toNat 0)) (Int.toNat (IntKind.wrap .i64 ((↑(List.length (af x.1.2 (x.1.1.getD 0 0))):Int) - 1))) 0 * List.getD (af x.1.2 (x.1.1.getD x_2.2.1.toNat 0)) x_1.1.toNat 0)))||!decide (IntKind.wrap .i64 (List.getD (af x.1.2 (x.1.1.getD x_2.2.1.toNat 0)) (Int.toNat (IntKind.wrap .i64 ((↑(List.length (af x.1.2 (x.1.1.getD 0 0))):Int) - (1 : Int)))) 0*List.getD (af x.1.2 (x.1.1.getD x_2.1.toNat 0)) x_1.1.toNat 0)<IntKind.wrap .i64 (List.getD (af x.1.2 (x.1.1.getD x_2.1.toNat 0)) (Int.toNat (IntKind.wrap .i64 ((↑(List.length (af x.1.2 (x.1.1.getD 0 0))):Int) - (1 : Int)))) 0*List.getD (af x.1.2 (x.1.1.getD x_2.2.1.toNat 0)) x_1.1.toNat 0))&&decide (IntKind.wrap .i64 (List.getD (af x.1.2 (x.1.1.getD x_2.2.1.toNat 0)) (Int.toNat (IntKind.wrap .i64 ((↑(List.length (af x.1.2 (x.1.1.getD 0 0))) : Int) - 1))) 0*List.getD (af x.1.2 (x.1.1.getD x_2.1.toNat 0)) x_1.1.toNat 0)=IntKind.wrap .i64 (List.getD (af x.1.2 (x.1.1.getD x_2.1.toNat 0)) (Int.toNat (IntKind.wrap .i64 ((↑(List.length (af x.1.2 (x.1.1.getD 0 0))) : Int) - 1))) 0*List.getD (af x.1.2 (x.1.1.getD x_2.2.1.toNat 0)) x_1.1.toNat 0)))&&(!(!decide (IntKind.wrap IntKind.i64 (List.getD (af x.1.2 (x.1.1.getD x_2.2.1.toNat 0)) (Int.toNat (IntKind.wrap .i64 ((↑(List.length (af x.1.2 (x.1.1.getD 0 0))):Int) - 1))) 0*List.getD (af x.1.2 (x.1.1.getD x_2.1.toNat 0)) x_1.1.toNat 0)<IntKind.wrap IntKind.i64 (List.getD (af x.1.2 (x.1.1.getD x_2.1.toNat 0)) (Int.toNat (IntKind.wrap .i64 ((↑(List.length (af x.1.2 (x.1.1.getD (0 : Nat) 0))):Int) - 1))) 0*List.getD (af x.1.2 (x.1.1.getD x_2.2.1.toNat 0)) x_1.1.toNat 0))&&decide (IntKind.wrap .i64 (List.getD (af x.1.2 (x.1.1.getD x_2.2.1.toNat 0)) (Int.toNat (IntKind.wrap .i64 ((↑(List.length (af x.1.2 (x.1.1.getD 0 0))):Int) - 1))) 0*List.getD (af x.1.2 (x.1.1.getD x_2.1.toNat 0)) x_1.1.toNat (0 : Int))=IntKind.wrap .i64 (List.getD (af x.1.2 (x.1.1.getD x_2.1.toNat 0)) (Int.toNat (IntKind.wrap .i64 ((↑(List.length (af x.1.2 (x.1.1.getD 0 0))):Int) - 1))) 0*List.getD (af x.1.2 (x.1.1.getD x_2.2.1.toNat 0)) x_1.1.toNat (0 : Int))))||!decide (IntKind.wrap .i64 (List.getD (af x.1.2 (x.1.1.getD x_2.2.1.toNat 0)) (Int.toNat (IntKind.wrap .i64 ((↑(List.length (af x.1.2 (x.1.1.getD 0 0))):Int) - 1))) 0*List.getD (af x.1.2 (x.1.1.getD x_2.1.toNat 0)) x_1.1.toNat 0)<IntKind.wrap .i64 (List.getD (af x.1.2 (x.1.1.getD x_2.1.toNat 0)) (Int.toNat (IntKind.wrap .i64 ((↑(List.length (af x.1.2 (x.1.1.getD 0 0))):Int) - 1))) 0*List.getD (af x.1.2 (x.1.1.getD x_2.2.1.toNat 0)) x_1.1.toNat 0))&&decide (IntKind.wrap .i64 (List.getD (af x.1.2 (x.1.1.getD x_2.2.1.toNat 0)) (Int.toNat (IntKind.wrap .i64 ((↑(List.length (af x.1.2 (x.1.1.getD 0 0))):Int) - 1))) 0*List.getD (af x.1.2 (x.1.1.getD x_2.1.toNat (0 : Nat))) x_1.1.toNat 0)=IntKind.wrap .i64 (List.getD (af x.1.2 (x.1.1.getD x_2.1.toNat 0)) (Int.toNat (IntKind.wrap .i64 ((↑(List.length (af x.1.2 (x.1.1.getD 0 0))):Int) - 1))) 0*List.getD (af x.1.2 (x.1.1.getD x_2.2.1.toNat (0 : Nat))) x_1.1.toNat 0))) then bif (!!decide (IntKind.wrap .i64 (List.getD (af x.1.2 (x.1.1.getD x_2.2.1.toNat 0)) (Int.toNat (IntKind.wrap .i64 ((↑(List.length (af x.1.2 (x.1.1.getD 0 0))):Int) - 1))) 0*List.getD (af x.1.2 (x.1.1.getD x_2.1.toNat 0)) x_1.1.toNat 0)<IntKind.wrap .i64 (List.getD (af x.1.2 (x.1.1.getD x_2.1.toNat 0)) (Int.toNat (IntKind.wrap .i64 ((↑(List.length (af x.1.2 (x.1.1.getD 0 0))):Int) - 1))) 0*List.getD (af x.1.2 (x.1.1.getD x_2.2.1.toNat 0)) x_1.1.toNat 0))||(!!decide (IntKind.wrap .i64 (List.getD (af x.1.2 (x.1.1.getD x_2.2.1.toNat (0 : Nat))) (Int.toNat (IntKind.wrap .i64 ((↑(List.length (af x.1.2 (x.1.1.getD 0 0))):Int) - 1))) 0*List.getD (af x.1.2 (x.1.1.getD x_2.1.toNat 0)) x_1.1.toNat 0)<IntKind.wrap .i64 (List.getD (af x.1.2 (x.1.1.getD x_2.1.toNat (0 : Nat))) (Int.toNat (IntKind.wrap .i64 ((↑(List.length (af x.1.2 (x.1.1.getD 0 0))):Int) - 1))) 0*List.getD (af x.1.2 (x.1.1.getD x_2.2.1.toNat 0)) x_1.1.toNat 0))||!decide (IntKind.wrap .i64 (List.getD (af x.1.2 (x.1.1.getD x_2.2.1.toNat 0)) (Int.toNat (IntKind.wrap .i64 ((↑(List.length (af x.1.2 (x.1.1.getD 0 0))):Int) - 1))) 0*List.getD (af x.1.2 (x.1.1.getD x_2.1.toNat 0)) x_1.1.toNat 0)<IntKind.wrap .i64 (List.getD (af x.1.2 (x.1.1.getD x_2.1.toNat 0)) (Int.toNat (IntKind.wrap .i64 ((↑(List.length (af x.1.2 (x.1.1.getD 0 0))):Int) - 1))) 0*List.getD (af x.1.2 (x.1.1.getD x_2.2.1.toNat 0)) x_1.1.toNat 0))))&&(!!decide (IntKind.wrap .i64 (List.getD (af x.1.2 (x.1.1.getD x_2.2.1.toNat 0)) (Int.toNat (IntKind.wrap .i64 ((↑(List.length (af x.1.2 (x.1.1.getD 0 0))):Int) - 1))) (0 : Int)*List.getD (af x.1.2 (x.1.1.getD x_2.1.toNat 0)) x_1.1.toNat 0)<IntKind.wrap .i64 (List.getD (af x.1.2 (x.1.1.getD x_2.1.toNat 0)) (Int.toNat (IntKind.wrap .i64 ((↑(List.length (af x.1.2 (x.1.1.getD 0 0))):Int) - 1))) (0 : Int)*List.getD (af x.1.2 (x.1.1.getD x_2.2.1.toNat 0)) x_1.1.toNat 0))||(!decide (IntKind.wrap .i64 (List.getD (af x.1.2 (x.1.1.getD x_2.2.1.toNat 0)) (Int.toNat (IntKind.wrap .i64 ((↑(List.length (af x.1.2 (x.1.1.getD 0 0))) : Int) - 1))) 0*List.getD (af x.1.2 (x.1.1.getD x_2.1.toNat 0)) x_1.1.toNat 0)=IntKind.wrap .i64 (List.getD (af x.1.2 (x.1.1.getD x_2.1.toNat 0)) (Int.toNat (IntKind.wrap .i64 ((↑(List.length (af x.1.2 (x.1.1.getD 0 0))):Int) - 1))) 0*List.getD (af x.1.2 (x.1.1.getD x_2.2.1.toNat 0)) x_1.1.toNat 0))||(!!decide (IntKind.wrap .i64 (List.getD (af x.1.2 (x.1.1.getD x_2.2.1.toNat 0)) (Int.toNat (IntKind.wrap .i64 ((↑(List.length (af x.1.2 (x.1.1.getD 0 0))):Int) - 1))) 0*List.getD (af x.1.2 (x.1.1.getD x_2.1.toNat 0)) x_1.1.toNat 0)<IntKind.wrap .i64 (List.getD (af x.1.2 (x.1.1.getD x_2.1.toNat 0)) (Int.toNat (IntKind.wrap .i64 ((↑(List.length (af x.1.2 (x.1.1.getD 0 (0 : Nat)))):Int) - 1))) 0*List.getD (af x.1.2 (x.1.1.getD x_2.2.1.toNat 0)) x_1.1.toNat 0))||!decide (IntKind.wrap IntKind.i64 (List.getD (af x.1.2 (x.1.1.getD x_2.2.1.toNat 0)) (Int.toNat (IntKind.wrap .i64 ((↑(List.length (af x.1.2 (x.1.1.getD 0 0))):Int) - 1))) 0*List.getD (af x.1.2 (x.1.1.getD x_2.1.toNat 0)) x_1.1.toNat 0)<IntKind.wrap IntKind.i64 (List.getD (af x.1.2 (x.1.1.getD x_2.1.toNat 0)) (Int.toNat (IntKind.wrap .i64 ((↑(List.length (af x.1.2 (x.1.1.getD (0 : Nat) 0))):Int) - 1))) 0*List.getD (af x.1.2 (x.1.1.getD x_2.2.1.toNat 0)) x_1.1.toNat 0))&&decide (IntKind.wrap .i64 (List.getD (af x.1.2 (x.1.1.getD x_2.2.1.toNat 0)) (Int.toNat (IntKind.wrap .i64 ((↑(List.length (af x.1.2 (x.1.1.getD 0 0))):Int) - 1))) 0*List.getD (af x.1.2 (x.1.1.getD x_2.1.toNat 0)) x_1.1.toNat (0 : Int))=IntKind.wrap .i64 (List.getD (af x.1.2 (x.1.1.getD x_2.1.toNat 0)) (Int.toNat (IntKind.wrap .i64 ((↑(List.length (af x.1.2 (x.1.1.getD 0 0))):Int) - 1))) 0*List.getD (af x.1.2 (x.1.1.getD x_2.2.1.toNat 0)) x_1.1.toNat (0 : Int)))))) then bif decide (IntKind.wrap .i64 (List.getD (af x.1.2 (x.1.1.getD x_2.2.1.toNat 0)) (Int.toNat (IntKind.wrap .i64 ((↑(List.length (af x.1.2 (x.1.1.getD 0 0))):Int) - 1))) 0*List.getD (af x.1.2 (x.1.1.getD x_2.1.toNat (0 : Nat))) x_1.1.toNat 0)<IntKind.wrap .i64 (List.getD (af x.1.2 (x.1.1.getD x_2.1.toNat 0)) (Int.toNat (IntKind.wrap .i64 ((↑(List.length (af x.1.2 (x.1.1.getD 0 0))):Int) - 1))) 0*List.getD (af x.1.2 (x.1.1.getD x_2.2.1.toNat (0 : Nat))) x_1.1.toNat 0))||!decide (IntKind.wrap .i64 (List.getD (af x.1.2 (x.1.1.getD x_2.2.1.toNat 0)) (Int.toNat (IntKind.wrap IntKind.i64 ((↑(List.length (af x.1.2 (x.1.1.getD 0 0))):Int) - 1))) 0*List.getD (af x.1.2 (x.1.1.getD x_2.1.toNat 0)) x_1.1.toNat 0)<IntKind.wrap .i64 (List.getD (af x.1.2 (x.1.1.getD x_2.1.toNat 0)) (Int.toNat (IntKind.wrap IntKind.i64 ((↑(List.length (af x.1.2 (x.1.1.getD 0 0))):Int) - 1))) 0*List.getD (af x.1.2 (x.1.1.getD x_2.2.1.toNat 0)) x_1.1.toNat 0)) then bif bif decide (IntKind.wrap .i64 (List.getD (af x.1.2 (x.1.1.getD x_2.2.1.toNat (0 : Nat))) (Int.toNat (IntKind.wrap .i64 ((↑(List.length (af x.1.2 (x.1.1.getD 0 0))):Int) - 1))) 0*List.getD (af x.1.2 (x.1.1.getD x_2.1.toNat 0)) x_1.1.toNat 0)<IntKind.wrap .i64 (List.getD (af x.1.2 (x.1.1.getD x_2.1.toNat (0 : Nat))) (Int.toNat (IntKind.wrap .i64 ((↑(List.length (af x.1.2 (x.1.1.getD 0 0))):Int) - 1))) 0*List.getD (af x.1.2 (x.1.1.getD x_2.2.1.toNat 0)) x_1.1.toNat 0)) then true else bif decide (IntKind.wrap .i64 (List.getD (af x.1.2 (x.1.1.getD x_2.2.1.toNat 0)) (Int.toNat (IntKind.wrap .i64 ((↑(List.length (af x.1.2 (x.1.1.getD 0 0))):Int) - 1))) (0 : Int)*List.getD (af x.1.2 (x.1.1.getD x_2.1.toNat 0)) x_1.1.toNat 0)=IntKind.wrap .i64 (List.getD (af x.1.2 (x.1.1.getD x_2.1.toNat 0)) (Int.toNat (IntKind.wrap .i64 ((↑(List.length (af x.1.2 (x.1.1.getD 0 0))):Int) - 1))) (0 : Int)*List.getD (af x.1.2 (x.1.1.getD x_2.2.1.toNat 0)) x_1.1.toNat 0)) then decide (x.2.1.getD x_2.2.1.toNat (0 : Int)<x.2.1.getD x_2.1.toNat 0) else false then again_2 (x_2.2.1,v16) else again_2 (x_2.1,v16) else none else none else none else none else none else none else none else none else none else none else none else none else none else none else none else none else none else none else none else none else none else none else none else none else none else none else none else none else none else none else none else bif v17 then some (x.1,x.2.1,x.2.2.1,x.2.2.2.1,false,PUnit.unit) else aa (gW x.1 x.2.1 x.2.2.1 x.2.2.2.1 x_2.1 x_1.1) fun (y:(List Nat×List (Option (List Int)))×List Int×Int×Int×PUnit)=>again (y.1,y.2.1, y.2.2.1,y.2.2.2.1,x.2.2.2.2.1,x.2.2.2.2.2.1,x.2.2.2.2.2.2.1,x.2.2.2.2.2.2.2.1,PUnit.unit)) ((-1),(0 : Int),PUnit.unit) else none else none else none else none else none else none else none else none else none else none) (0,PUnit.unit)) (x0,x1,x2,x3,([],[]),[],0, 0,PUnit.unit)
def pD (x0:List Nat×List (Option (List Int))) (x1:List Int) (x2:Int) (x3:Int):Option ((List Nat×List (Option (List Int)))×(List Int)×Int×Int×Bool×Unit):=AX lpK jnK gW x0 x1 x2 x3
abbrev t66:=(List Nat×List (Option (List Int)))->(List Int)->(Int)->(Int)->Option ((List Nat×List (Option (List Int)))×(List Int)×Int×Int×Bool×Unit)
def wW (lp:Lp) (jn:Jn) (x0:(List Int)×List ((List Int)×Int×Int)):Option ((List Nat×List (Option (List Int)))×(List Int)×Int×Int×Unit) :=
 
 let v3:Int:=IntKind.wrap .i64 ((↑x0.1.length:Int)+(↑x0.2.length:Int));
 let v4:Int:=IntKind.wrap .i64 ((↑x0.1.length:Int)+IntKind.wrap .i64 (2*(↑x0.2.length:Int)));
 let v5:List Int×PUnit:=(List.replicate (Int.toNat (IntKind.wrap .i64 (v4+1))) 0,PUnit.unit);
 let v6:Bool:=decide (0<=IntKind.wrap .i64 (v4+1))&&c7 (Int.toNat (IntKind.wrap .i64 (v4+1))) 8;bif v6 then lp (Int×(List Nat × List (Option (List Int)))×List Int×Int×Int×List Int×PUnit) ((List Nat×List (Option (List Int)))×List Int×Int×Int×PUnit) (fun (again:Int×(List Nat×List (Option (List Int)))×List Int×Int×Int×List Int×PUnit->Option ((List Nat×List (Option (List Int)))×List Int×Int×Int×PUnit)) (x:Int×(List Nat×List (Option (List Int)))×List Int×Int×Int×List Int×PUnit) =>
 let v9:Int:=IntKind.wrap .i64 (v3+x.1);
 let v10:Bool:=inB x.1 x0.2.length;
 let v11:Int:=IntKind.wrap .i64 ((↑x0.1.length:Int)+x.1);
 let v12:List Int×Int×Int:=x0.2.getD x.1.toNat ([],0,0);
 let v13:Bool:=c7 (List.length x.2.1.1+1) 24;
 let v14:List Nat:=x.2.1.1++[List.length x.2.1.2+0];bif decide (x.1<(↑x0.2.length:Int)) then bif v6 then bif v10 then lp (Int×List Int × PUnit) ((List Nat×List (Option (List Int)))×List Int×Int×Int×PUnit) (fun (again_1:Int×List Int×PUnit->Option ((List Nat×List (Option (List Int)))×List Int×Int × Int×PUnit)) (x_1:Int×List Int×PUnit)=>bif decide (x_1.1<(↑v12.1.length:Int)) then bif inB x_1.1 v12.1.length then bif inB x_1.1 x_1.2.1.length then bif Nat.ble (Nat.succ x_1.1.toNat) x_1.2.1.length then again_1 (IntKind.wrap .i64 (x_1.1+1),x_1.2.1.set x_1.1.toNat (v12.1.getD x_1.1.toNat 0),PUnit.unit) else none else none else none else bif v10 then jn (List Int×PUnit) ((List Nat×List (Option (List Int))) × List Int×Int×Int×PUnit) (fun (x_2:List Int×PUnit)=>bif v10 then jn (List Int×PUnit) ((List Nat×List (Option (List Int)))×List Int×Int×Int×PUnit) (fun (x_3:List Int×PUnit) =>
 let v19:List Int×PUnit:=(x_3.1.set v4.toNat v12.2.2,PUnit.unit);bif v10 then bif inB v4 x_3.1.length then bif Nat.ble (Nat.succ v4.toNat) x_3.1.length then bif v10 then jn (List Int×PUnit) ((List Nat×List (Option (List Int)))×List Int×Int×Int×PUnit) (fun (x_4:List Int×PUnit)=>lp (Int×List Int × PUnit) ((List Nat×List (Option (List Int)))×List Int×Int×Int×PUnit) (fun (again_2:Int×List Int×PUnit->Option ((List Nat×List (Option (List Int)))×List Int×Int × Int×PUnit)) (x_5:Int×List Int×PUnit) =>
 let v23:Bool:=inB x_5.1 x_5.2.1.length;
 let v24:Bool:=Nat.ble (Nat.succ x_5.1.toNat) x_5.2.1.length;bif decide (x_5.1<(↑x_4.1.length:Int)) then bif v23 then bif v24 then bif inB x_5.1 x_4.1.length then bif Nat.ble (Nat.succ x_5.1.toNat) x_4.1.length then bif v23 then bif v24 then again_2 (IntKind.wrap .i64 (x_5.1+1), x_5.2.1.set x_5.1.toNat (IntKind.wrap .i64 (x_5.2.1.getD x_5.1.toNat 0 - x_4.1.getD x_5.1.toNat 0)),PUnit.unit) else none else none else none else none else none else none else bif inB v9 x_4.1.length then bif Nat.ble (Nat.succ v9.toNat) x_4.1.length then bif v13 then bif c7 (List.length x.2.2.1+1) 8 then again (IntKind.wrap .i64 (x.1+1),(v14,x.2.1.2++[some (x_4.1.set v9.toNat (1 : Int))]),x.2.2.1++[v9],x.2.2.2.1,x.2.2.2.2.1,x_5.2.1,PUnit.unit) else none else none else none else none) (0,x.2.2.2.2.2.1, PUnit.unit)) fun (j:List Int×PUnit->Option ((List Nat×List (Option (List Int)))×List Int×Int×Int×PUnit))=>bif decide (v12.2.2<0) then lp (Int×List Int × PUnit) ((List Nat×List (Option (List Int)))×List Int×Int×Int×PUnit) (fun (again:Int×List Int×PUnit->Option ((List Nat×List (Option (List Int)))×List Int×Int×Int × PUnit)) (x:Int×List Int×PUnit) =>
 let v23:Bool:=inB x.1 x.2.1.length;
 let v24:Bool:=Nat.ble (Nat.succ x.1.toNat) x.2.1.length;bif decide (x.1<(↑x.2.1.length:Int)) then bif v23 then bif v24 then bif v23 then bif v24 then again (IntKind.wrap .i64 (x.1+1),x.2.1.set x.1.toNat (IntKind.wrap .i64 (0 - x.2.1.getD x.1.toNat 0)), PUnit.unit) else none else none else none else none else j (x.2.1,PUnit.unit)) (0,v19) else j v19 else none else none else none else none) fun (j:List Int×PUnit -> Option ((List Nat×List (Option (List Int)))×List Int×Int×Int×PUnit))=>bif decide (v12.2.1=2) then bif inB v11 x_2.1.length then bif Nat.ble (Nat.succ v11.toNat) x_2.1.length then j (x_2.1.set v11.toNat (-1),PUnit.unit) else none else none else j (x_2.1,PUnit.unit) else none) fun (j:List Int × PUnit->Option ((List Nat×List (Option (List Int)))×List Int×Int×Int×PUnit))=>bif decide (v12.2.1=1) then bif inB v11 x_1.2.1.length then bif Nat.ble (Nat.succ v11.toNat) x_1.2.1.length then j (x_1.2.1.set v11.toNat 1,PUnit.unit) else none else none else j (x_1.2.1,PUnit.unit) else none) (0,v5) else none else none else bif v13 then some ((v14,x.2.1.2++[some x.2.2.2.2.2.1]),x.2.2.1,x.2.2.2.1,x.2.2.2.2.1, PUnit.unit) else none) (0,([],[]),[],1,v3,v5) else none
def po (x0:(List Int)×List ((List Int)×Int×Int)):Option ((List Nat×List (Option (List Int)))×(List Int)×Int×Int×Unit):=wW lpK jnK x0
abbrev t67:=((List Int)×List ((List Int)×Int×Int))->Option ((List Nat×List (Option (List Int)))×(List Int)×Int×Int×Unit)
def Cf (lp:Lp) (_:Jn) (gW:QI) (x0:List Nat×List (Option (List Int))) (x1:List Int) (x2:Int) (x3:Int):Option ((List Nat×List (Option (List Int)))×(List Int)×Int×Int×Unit) :=
 lp (Int×(List Nat×List (Option (List Int)))×List Int×Int×Int×PUnit) ((List Nat×List (Option (List Int)))×List Int×Int×Int×PUnit) (fun (again:Int×(List Nat×List (Option (List Int)))×List Int×Int×Int×PUnit->Option ((List Nat×List (Option (List Int)))×List Int×Int×Int×PUnit)) (x:Int×(List Nat×List (Option (List Int))) × List Int×Int×Int×PUnit) =>
 let v8:Int:=IntKind.wrap .i64 (x.1+1);
 let v9:Bool:=inB x.1 x.2.1.1.length;
 let v10:Bool:=Nat.ble (Nat.succ x.1.toNat) x.2.1.1.length;
 let v11:(List Nat×List (Option (List Int)))×List Int×Int×Int×PUnit:=(x.2.1,x.2.2.1,x.2.2.2.1,x.2.2.2.2.1,PUnit.unit);bif decide (x.1 < (↑x.2.2.1.length:Int)) then bif inB x.1 x.2.2.1.length then bif Nat.ble (Nat.succ x.1.toNat) x.2.2.1.length then bif decide (x.2.2.1.getD x.1.toNat 0<x.2.2.2.2.1) then again (v8,v11) else lp (Int×PUnit) ((List Nat×List (Option (List Int)))×List Int×Int×Int×PUnit) (fun (again_1:Int×PUnit->Option ((List Nat×List (Option (List Int)))×List Int×Int×Int×PUnit)) (x_1:Int×PUnit) =>
 let v14:Bool:=decide (x_1.1<x.2.2.2.2.1);
 let v15:Bool:=!v14;
 let v16:Bool:=v15||v14;bif v16 then bif v16&&(v16&&(v15||v9)) then bif v16&&(v15||v10) then bif v16&&(v16&&(v15||inB x_1.1 (List.length (af x.2.1.2 (x.2.1.1.getD x.1.toNat 0))))) then bif v16&&(v15||Nat.ble (Nat.succ x_1.1.toNat) (List.length (af x.2.1.2 (x.2.1.1.getD x.1.toNat 0)))) then bif v16 then bif v16 then bif bif v14 then decide (List.getD (af x.2.1.2 (x.2.1.1.getD x.1.toNat 0)) x_1.1.toNat 0=0) else false then again_1 (IntKind.wrap .i64 (x_1.1+1),PUnit.unit) else bif decide (x_1.1=x.2.2.2.2.1) then again (v8, v11) else bif v9 then bif v10 then bif inB x_1.1 (List.length (af x.2.1.2 (x.2.1.1.getD x.1.toNat 0))) then bif Nat.ble (Nat.succ x_1.1.toNat) (List.length (af x.2.1.2 (x.2.1.1.getD x.1.toNat 0))) then bif decide (List.getD (af x.2.1.2 (x.2.1.1.getD x.1.toNat 0)) x_1.1.toNat 0<0) then lp (Int×(List Nat×List (Option (List Int)))×PUnit) ((List Nat×List (Option (List Int)))×List Int×Int×Int × PUnit) (fun (again_2:Int×(List Nat×List (Option (List Int)))×PUnit->Option ((List Nat×List (Option (List Int)))×List Int×Int×Int×PUnit)) (x_2:Int×(List Nat × List (Option (List Int)))×PUnit) =>
 let v19:Bool:=inB x.1 x_2.2.1.1.length;
 let v20:Bool:=Nat.ble (Nat.succ x.1.toNat) x_2.2.1.1.length;bif v19 then bif v20 then bif dL x_2.2.1.2 (x_2.2.1.1.getD x.1.toNat (0 : Nat)) then bif decide (x_2.1<(↑(List.length (af x_2.2.1.2 (x_2.2.1.1.getD x.1.toNat 0))):Int)) then bif v19 then bif v20 then bif v19 then bif v20 then bif inB x_2.1 (List.length (af x_2.2.1.2 (x_2.2.1.1.getD x.1.toNat 0))) then bif Nat.ble (Nat.succ x_2.1.toNat) (List.length (af x_2.2.1.2 (x_2.2.1.1.getD x.1.toNat 0))) then bif inB x_2.1 (List.length (af x_2.2.1.2 (x_2.2.1.1.getD x.1.toNat (0 : Nat)))) then bif Nat.ble (Nat.succ x_2.1.toNat) (List.length (af x_2.2.1.2 (x_2.2.1.1.getD x.1.toNat 0))) then again_2 (IntKind.wrap IntKind.i64 (x_2.1+1),(x_2.2.1.1,x_2.2.1.2.set (x_2.2.1.1.getD x.1.toNat 0) (some (List.set (af x_2.2.1.2 (x_2.2.1.1.getD x.1.toNat 0)) x_2.1.toNat (IntKind.wrap .i64 (0 - List.getD (af x_2.2.1.2 (x_2.2.1.1.getD x.1.toNat (0 : Nat))) x_2.1.toNat 0))))),PUnit.unit) else none else none else none else none else none else none else none else none else aa (gW x_2.2.1 x.2.2.1 x.2.2.2.1 x.2.2.2.2.1 x.1 x_1.1) fun (y:(List Nat×List (Option (List Int)))×List Int×Int×Int×PUnit)=>again (v8,y.1,y.2.1, y.2.2.1,y.2.2.2.1,PUnit.unit) else none else none else none) (0,x.2.1,PUnit.unit) else aa (gW x.2.1 x.2.2.1 x.2.2.2.1 x.2.2.2.2.1 x.1 x_1.1) fun (y:(List Nat×List (Option (List Int)))×List Int×Int×Int×PUnit)=>again (v8,y.1,y.2.1,y.2.2.1,y.2.2.2.1, PUnit.unit) else none else none else none else none else none else none else none else none else none else none else none) (0,PUnit.unit) else none else none else some v11) ((0 : Int),x0,x1,x2,x3,PUnit.unit)
def tv (x0:List Nat×List (Option (List Int))) (x1:List Int) (x2:Int) (x3:Int):Option ((List Nat×List (Option (List Int)))×(List Int)×Int×Int×Unit):=Cf lpK jnK gW x0 x1 x2 x3
abbrev t68:=(List Nat×List (Option (List Int)))->(List Int)->(Int)->(Int)->Option ((List Nat×List (Option (List Int)))×(List Int)×Int×Int×Unit)
def Ae (_:Lp) (_:Jn) (bB:I3) (fi:OC) (x0:Int) (x1:Int):Option ((Int×Int)×Int×Unit) :=
 aa (bB x0) fun (t:Int)=>aa (bB x1) fun (t_1:Int)=>aa (fi (0,t) (!decide (decide (x0<0)=decide (x1<0))) (0, t_1)) fun (t:(Int×Int)×Int×PUnit)=>some (t.1,t.2.1,PUnit.unit)
def qS (x0:Int) (x1:Int):Option ((Int×Int)×Int×Unit):=Ae lpK jnK bB fi x0 x1
abbrev t70:=(Int)->(Int)->Option ((Int×Int)×Int×Unit)
def xk (lp:Lp) (_:Jn) (qS:t70) (pD:t66) (po:t67) (tv:t68) (x0:(List Int)×List ((List Int)×Int×Int)):Option ((Int×Int)×Int×Unit) :=
 aa (po x0) fun (y:(List Nat×List (Option (List Int)))×List Int×Int×Int×PUnit)=>aa (pD y.1 y.2.1 y.2.2.1 y.2.2.2.1) fun (y:(List Nat × List (Option (List Int)))×List Int×Int×Int×Bool×PUnit) =>
 let v5:Int:=IntKind.wrap .i64 ((↑y.1.1.length:Int) - 1);bif inB 0 y.1.1.length then bif Nat.ble 1 y.1.1.length then bif dL y.1.2 (y.1.1.getD 0 0) then bif inB v5 y.1.1.length then bif Nat.ble (Nat.succ v5.toNat) y.1.1.length then bif inB (IntKind.wrap .i64 ((↑(List.length (af y.1.2 (y.1.1.getD 0 0))):Int) - 1)) (List.length (af y.1.2 (y.1.1.getD v5.toNat 0))) then bif Nat.ble (Nat.succ (Int.toNat (IntKind.wrap .i64 ((↑(List.length (af y.1.2 (y.1.1.getD 0 0))):Int) - 1)))) (List.length (af y.1.2 (y.1.1.getD v5.toNat 0))) then bif decide (List.getD (af y.1.2 (y.1.1.getD v5.toNat 0)) (Int.toNat (IntKind.wrap .i64 ((↑(List.length (af y.1.2 (y.1.1.getD 0 0))):Int) - 1))) 0<0) then some ((0,0),(22 : Int),PUnit.unit) else aa (tv y.1 y.2.1 y.2.2.1 y.2.2.2.1) fun (y_1:(List Nat×List (Option (List Int)))×List Int×Int×Int×PUnit)=>bif decide (0<=IntKind.wrap .i64 (IntKind.wrap .i64 ((↑(List.length (af y.1.2 (y.1.1.getD 0 0))):Int) - 1)+1))&&c7 (Int.toNat (IntKind.wrap .i64 (IntKind.wrap .i64 ((↑(List.length (af y.1.2 (y.1.1.getD 0 0))):Int) - 1)+1))) 8 then lp (Int×List Int×PUnit) ((Int×Int)×Int×PUnit) (fun (again:Int×List Int×PUnit->Option ((Int×Int)×Int×PUnit)) (x:Int×List Int×PUnit)=>bif decide (x.1 < (↑x0.1.length:Int)) then bif inB x.1 x0.1.length then bif inB x.1 x.2.1.length then bif Nat.ble (Nat.succ x.1.toNat) x.2.1.length then again (IntKind.wrap .i64 (x.1+1),x.2.1.set x.1.toNat (x0.1.getD x.1.toNat 0),PUnit.unit) else none else none else none else lp (Int×(List Nat×List (Option (List Int)))×PUnit) ((Int×Int)×Int×PUnit) (fun (again:Int×(List Nat×List (Option (List Int)))×PUnit->Option ((Int×Int)×Int × PUnit)) (x_1:Int×(List Nat×List (Option (List Int)))×PUnit)=>bif decide (x_1.1<=IntKind.wrap .i64 ((↑(List.length (af y.1.2 (y.1.1.getD 0 (0 : Nat)))):Int) - 1)) then bif inB x_1.1 x.2.1.length then bif Nat.ble (Nat.succ x_1.1.toNat) x.2.1.length then lp (Int×Int×PUnit) ((Int × Int)×Int×PUnit) (fun (again_1:Int×Int×PUnit->Option ((Int×Int)×Int×PUnit)) (x_2:Int×Int×PUnit) =>
 let v13:Int:=y_1.2.1.getD x_2.2.1.toNat 0;bif decide (x_2.2.1<v5) then bif inB x_2.2.1 y_1.2.1.length then bif Nat.ble (Nat.succ x_2.2.1.toNat) y_1.2.1.length then bif inB v13 x.2.1.length then bif Nat.ble (Nat.succ v13.toNat) x.2.1.length then bif inB x_2.2.1 x_1.2.1.1.length then bif Nat.ble (Nat.succ x_2.2.1.toNat) x_1.2.1.1.length then bif inB x_1.1 (List.length (af x_1.2.1.2 (x_1.2.1.1.getD x_2.2.1.toNat 0))) then bif Nat.ble (Nat.succ x_1.1.toNat) (List.length (af x_1.2.1.2 (x_1.2.1.1.getD x_2.2.1.toNat 0))) then again_1 (IntKind.wrap .i64 (x_2.1 - IntKind.wrap .i64 (x.2.1.getD v13.toNat 0*List.getD (af x_1.2.1.2 (x_1.2.1.1.getD x_2.2.1.toNat 0)) x_1.1.toNat 0)),IntKind.wrap .i64 (x_2.2.1+1),PUnit.unit) else none else none else none else none else none else none else none else none else bif inB v5 x_1.2.1.1.length then bif Nat.ble (Nat.succ v5.toNat) x_1.2.1.1.length then bif inB x_1.1 (List.length (af x_1.2.1.2 (x_1.2.1.1.getD v5.toNat 0))) then bif Nat.ble (Nat.succ x_1.1.toNat) (List.length (af x_1.2.1.2 (x_1.2.1.1.getD v5.toNat 0))) then again (IntKind.wrap .i64 (x_1.1+1),(x_1.2.1.1,x_1.2.1.2.set (x_1.2.1.1.getD v5.toNat 0) (some (List.set (af x_1.2.1.2 (x_1.2.1.1.getD v5.toNat 0)) x_1.1.toNat x_2.1))),PUnit.unit) else none else none else none else none) (IntKind.wrap .i64 (x.2.1.getD x_1.1.toNat 0*y_1.2.2.1),0,PUnit.unit) else none else none else aa (pD x_1.2.1 y_1.2.1 y_1.2.2.1 y_1.2.2.2.1) fun (y_2:(List Nat×List (Option (List Int)))×List Int×Int×Int×Bool×PUnit)=>bif !y_2.2.2.2.2.1 then some ((0,0),21,PUnit.unit) else bif inB v5 y_2.1.1.length then bif Nat.ble (Nat.succ v5.toNat) y_2.1.1.length then bif inB (IntKind.wrap .i64 ((↑(List.length (af y.1.2 (y.1.1.getD 0 0))):Int) - 1)) (List.length (af y_2.1.2 (y_2.1.1.getD v5.toNat 0))) then bif Nat.ble (Nat.succ (Int.toNat (IntKind.wrap .i64 ((↑(List.length (af y.1.2 (y.1.1.getD 0 0))):Int) - (1 : Int))))) (List.length (af y_2.1.2 (y_2.1.1.getD v5.toNat 0))) then aa (qS (IntKind.wrap .i64 (0 - List.getD (af y_2.1.2 (y_2.1.1.getD v5.toNat 0)) (Int.toNat (IntKind.wrap .i64 ((↑(List.length (af y.1.2 (y.1.1.getD 0 0))):Int) - 1))) 0)) y_2.2.2.1) fun (t:(Int×Int)×Int×PUnit)=>some (t.1,t.2.1,PUnit.unit) else none else none else none else none) (0,y_1.1,PUnit.unit)) ((0 : Int),List.replicate (Int.toNat (IntKind.wrap .i64 (IntKind.wrap .i64 ((↑(List.length (af y.1.2 (y.1.1.getD 0 0))):Int) - 1)+(1 : Int)))) 0,PUnit.unit) else none else none else none else none else none else none else none else none
def dn (x0:(List Int)×List ((List Int)×Int×Int)):Option ((Int×Int)×Int×Unit):=xk lpK jnK qS pD po tv x0
abbrev t26:=((List Int)×List ((List Int)×Int×Int))->Option ((Int×Int)×Int×Unit)
def k26 (dn:t26):Ctr:=⟨[T32],[],[],.tup [T49,i64],fun x _ _=>dn x.1⟩
def w6 (_:Lp) (_:Jn) (au:t72) (x0:Int×Int):Option Bool :=
 aa (au x0) fun (t:Bool)=>some !t
def oy (x0:Int×Int):Option Bool:=w6 lpK jnK au x0
abbrev t71:=(Int×Int)->Option (Bool)
def Ch (lp:Lp) (_:Jn) (ao:t32) (cu:t35) (oy:t71) (x0:List (Int×Int)):Option ((Int×Int)×Int×Unit) :=
 aa (ao x0 fun (x:(Int×Int)×PUnit)=>oy x.1) fun (t:Bool)=>bif t then some ((0,0),1,PUnit.unit) else bif decide ((↑x0.length:Int)>1000) then some ((0,0),4,PUnit.unit) else lp (Int×(Int×Int)×(Int×Int)×PUnit) ((Int×Int)×Int×PUnit) (fun (again:Int×(Int×Int)×(Int×Int)×PUnit->Option ((Int×Int)×Int×PUnit)) (x:Int×(Int×Int)×(Int×Int)×PUnit)=>bif decide (x.1<(↑x0.length:Int)) then bif inB x.1 x0.length then aa (cu x.2.2.1 (x0.getD x.1.toNat (0,0))) fun (t:(Int×Int)×Int×PUnit)=>bif !decide (t.2.1=0) then some ((0,0),t.2.1,PUnit.unit) else again (IntKind.wrap .i64 (x.1+1),x.2.1,t.1,PUnit.unit) else none else some (x.2.2.1,0,PUnit.unit)) (0,(0,0),(0,1),PUnit.unit)
def dW (x0:List (Int×Int)):Option ((Int×Int)×Int×Unit):=Ch lpK jnK ao cu oy x0
abbrev t27:=(List (Int×Int))->Option ((Int×Int)×Int×Unit)
def k27 (dW:t27):Ctr:=⟨[(.sl T49)],[],[],.tup [T49,i64],fun x _ _=>dW x.1⟩
def w4 (lp:Lp) (_:Jn) (eQ:t73) (aL:t15) (gk:t64) (dn:t26) (x0:(List (ByteArray×Int))×List (ByteArray×(List (ByteArray×Int×Int×Int))×Bool)):Option ((List ByteArray)×Int×Unit) :=
 lp (List ByteArray×Int×PUnit) (List ByteArray×Int×PUnit) (fun (again:List ByteArray×Int×PUnit->Option (List ByteArray×Int×PUnit)) (x:List ByteArray×Int×PUnit) =>
 let v5:Int×PUnit:=(IntKind.wrap .i64 (x.2.1+1),PUnit.unit);bif decide (x.2.1<(↑x0.2.length:Int)) then aa (gk x0 x.2.1 (-1 : Int)) fun (t:List Int)=>aa (aL x0 t) fun (t:List Int×List (List Int×Int×Int))=>aa (dn t) fun (t:(Int×Int)×Int×PUnit) =>
 let v9:Bool:=decide (t.2.1=0);
 let v10:Bool:=!v9||v9;bif decide (t.2.1=22) then some ([],t.2.1,PUnit.unit) else aa (bif v9 then eQ 0 else some (0,0)) fun (t_1:Int×Int)=>bif v10&&v10 then bif v10 then bif bif v9 then decide (t.1.1=t_1.1)&&(decide (t.1.2=t_1.2)&&true) else false then bif inB x.2.1 x0.2.length then bif c7 (List.length x.1+1) 16 then again (x.1++[(x0.2.getD x.2.1.toNat ({ data:={ toList:=[] } },[], false)).1],v5) else none else none else again (x.1,v5) else none else none else some (x.1,0,PUnit.unit)) ([],0,PUnit.unit)
def iQ (x0:(List (ByteArray×Int))×List (ByteArray×(List (ByteArray×Int×Int×Int))×Bool)):Option ((List ByteArray)×Int×Unit):=w4 lpK jnK eQ aL gk dn x0
abbrev t28:=((List (ByteArray×Int))×List (ByteArray×(List (ByteArray×Int×Int×Int))×Bool))->Option ((List ByteArray)×Int×Unit)
def jr (lp:Lp) (_:Jn) (x0:List ByteArray) (x1:List ByteArray):Option Bool :=
 bif !decide ((↑x0.length:Int)=(↑x1.length:Int)) then some false else lp (Int×PUnit) Bool (fun (again:Int×PUnit->Option Bool) (x:Int×PUnit)=>bif decide (x.1<(↑x0.length:Int)) then bif inB x.1 x0.length then bif inB x.1 x1.length then bif !List.beq (ByteArray.toList (x0.getD x.1.toNat { data :={ toList:=[] } })) (ByteArray.toList (x1.getD x.1.toNat { data:={ toList:=[] } })) then some false else again (IntKind.wrap .i64 (x.1+1), PUnit.unit) else none else none else some true) (0,PUnit.unit)
def aO (x0:List ByteArray) (x1:List ByteArray):Option Bool:=jr lpK jnK x0 x1
abbrev t29:=(List ByteArray)->(List ByteArray)->Option (Bool)
def k29 (aO:t29):Ctr:=⟨[(.sl .str),(.sl .str)],[],[],.one .bool,fun x _ _=>aO x.1 x.2.1⟩
def c29:Ctr:=k29 aO
theorem e29 (lp:Lp) (jn:Jn):∀(x:TsS c29.as) (F:TsF c29.fs) (y:TsS c29.cs),jr lp jn x.1 x.2.1=cb lp jn (cx [] [(134,bJ)]) al 4 29 f29 c29 x F y:=fun x F y=>by kernel_rfl
theorem Sk:c29.ok prog 29:=Ctr.of_den (ap (b7)) aX (hl:=al) (d:=4) func29 rfl (by decide) (e29 lpK jnK)
def xf (_:Lp) (_:Jn) (aL:t15) (gk:t64) (dn:t26) (x0:(List (ByteArray×Int))×List (ByteArray×(List (ByteArray×Int×Int×Int))×Bool)) (x1:Int):Option ((Int×Int)×Int×Unit) :=
 aa (gk x0 x1 1) fun (t:List Int)=>aa (aL x0 t) fun (t:List Int×List (List Int×Int×Int))=>aa (dn t) fun (t:(Int×Int)×Int × PUnit)=>some (t.1,t.2.1,PUnit.unit)
def iT (x0:(List (ByteArray×Int))×List (ByteArray×(List (ByteArray×Int×Int×Int))×Bool)) (x1:Int):Option ((Int×Int)×Int×Unit):=xf lpK jnK aL gk dn x0 x1
abbrev t30:=((List (ByteArray×Int))×List (ByteArray×(List (ByteArray×Int×Int×Int))×Bool))->(Int)->Option ((Int×Int)×Int×Unit)
def lQ (_:Lp) (jn:Jn) (aN:t19) (bv:t20) (aW:t21) (aP:t9) (bi:t10) (cX:t22) (cd:t13) (aL:t15) (cz:t16) (jH:t23) (gz:t24) (iX:t25) (dn:t26) (dW:t27) (iQ:t28) (aO:t29) (iT:t30) (x0:(List (ByteArray×Int))×List (ByteArray×(List (ByteArray×Int×Int×Int))×Bool)) (x1:ByteArray):Option Bool :=
 aa aP fun (t:Bool)=>bif !t then some false else aa (bi x0 []) fun (t:Bool) =>
 let v6:Bool:=!t;
 let v7:Bool:=!v6;
 let v8:Bool:=!v7||v7;bif v8 then bif v8 then bif v6||v7 then bif bif v6 then true else decide ((↑(ByteArray.size x1):Int)>60) then some true else aa (aN x0) fun (t:List (Int×Int)×Int×PUnit) =>
 let v10:Bool:=decide (t.2.1=0);
 let v11:Bool:=!v10;
 let v12:Bool:=decide ((↑t.1.length:Int)=0);
 let v13:Bool:=!v12;
 let v14:Bool:=bif v12 then decide (t.2.1=1) else false;
 let v15:Bool:=v13||v12;
 let v16:Bool:=!v14||v14;aa (bv x0 x1) fun (t_1:(Int×Int)×Int×PUnit) =>
 let v18:Bool:=decide (t_1.1.1=0)&&(decide (t_1.1.2=0)&&true);
 let v19:Bool:=!v18;
 let v20:Bool:=bif v14 then v18 else false;
 let v21:Bool:=bif v20 then decide (t_1.2.1=1) else false;
 let v22:Bool:=!v20||v20;
 let v23:Bool:=!v21||v21;aa (aW x0) fun (t_2:List ByteArray×Int×PUnit) =>
 let v25:Bool:=decide ((↑t_2.1.length:Int)=0);
 let v26:Bool:=bif v21 then v25 else false;
 let v27:Bool:=bif v25 then decide (t_2.2.1=5) else false;
 let v28:Bool:=!v27;
 let v29:Bool:=!v25||v25;
 let v30:Bool:=!v26||v26;
 let v31:Bool:=v28||v27;aa (cd x0) fun (t_3:Bool)=>bif !t_3 then bif v15 then bif v15 then bif v16&&v16 then bif v16 then bif v22 then bif v22 then bif v23 then bif v23 then bif v23 then bif v30 then bif v30 then some (bif v26 then decide (t_2.2.1=1) else false) else none else none else none else none else none else none else none else none else none else none else none else aa (cX x0 x1) fun (t_4:Int) =>
 let v34:Bool:=decide (t_4<0);
 let v35:Bool:=!v34;
 let v36:Bool:=v34&&!v19;
 let v37:Bool:=v27&&v35;
 let v38:Bool:=!v37;
 let v39:Bool:=v37&&v18;
 let v40:Bool:=v35||v34;
 let v41:Bool:=v38||v37;bif v40&&v40 then bif v40 then bif !v36||v36 then bif (v35||v40)&&(v35||(v19||(v35||v36))) then bif v40 then bif bif v34 then bif v19 then true else !decide (t_1.2.1=9) else false then some false else aa (jH x0) fun (t_5:Bool) =>
 let v43:Bool:=!t_5;
 let v44:Bool:=!v43;
 let v45:Bool:=v43&&!v13;
 let v46:Bool:=v44||v43;bif v46 then bif v46 then bif v46 then bif !v45||v45 then bif (v44||v46)&&(v44||(v13||(v44||v45))) then bif v46 then bif bif v43 then bif v13 then true else !decide (t.2.1=5) else false then some false else aa (gz x0) fun (t_6:Bool)=>bif !t_6 then bif v29 then bif v29 then bif v31 then bif v31 then bif v41&&v41 then bif v41 then bif !v39||v39 then bif (v38||v41)&&(v38||(v19||(v38||v39))) then bif (v28||v31)&&(v28||(v34||(v28||v37))) then bif v31 then some (bif v27 then bif v34 then true else bif v18 then decide (t_1.2.1=5) else false else false) else none else none else none else none else none else none else none else none else none else none else aa (iX x0) fun (t_7:Bool)=>bif !t_7 then some true else aa (cz x0) fun (t_8:List Int)=>aa (aL x0 t_8) fun (t_9 : List Int×List (List Int×Int×Int))=>aa (dn t_9) fun (t_10:(Int×Int)×Int×PUnit) =>
 let v52:Bool:=!decide (t.2.1=t_10.2.1);
 let v53:Bool:=!v52;
 let v54:Bool:=!v53;
 let v55:Bool:=v53&&v11;
 let v56:Bool:=v54||v53;
 let v57:Bool:=!v55||v55;bif v56 then bif v56 then bif v57 then bif v57 then bif (v54||v56)&&(v54||(!v11||(v54||v55))) then bif v52||v53 then bif bif v52 then true else bif v11 then v13 else false then some false else jn PUnit Bool (fun (_:PUnit)=>aa (iQ x0) fun (t:List ByteArray×Int×PUnit)=>aa (aO t_2.1 t.1) fun (t_11:Bool) =>
 let v61:Bool:=!t_11;
 let v62:Bool:=!v61;
 let v63:Bool:=!v62||v62;bif v63&&v63 then bif v61||v62 then bif bif v61 then true else !decide (t_2.2.1=t.2.1) then some false else bif v34 then some true else aa (iT x0 t_4) fun (t:(Int×Int)×Int×PUnit) =>
 let v65:Bool:=decide (t_1.1.1=t.1.1)&&(decide (t_1.1.2=t.1.2)&&true);
 let v66:Bool:=!v65||v65;bif v66&&v66 then bif v66 then some (bif v65 then decide (t_1.2.1=t.2.1) else false) else none else none else none else none) fun (j:PUnit -> Option Bool)=>bif v10 then aa (dW t.1) fun (t_11:(Int×Int)×Int×PUnit) =>
 let v60:Bool:=!decide (t_11.2.1=0);
 let v61:Bool:=!v60;
 let v62:Bool:=!v61||v61;
 let v63:Bool:=bif v60 then true else !(decide (t_11.1.1=t_10.1.1)&&(decide (t_11.1.2=t_10.1.2)&&true));
 let v64:Bool:=!v63;
 let v65:Bool:=!v64||v64;bif v62&&v62 then bif v60||v61 then bif v65 then bif v65 then bif v65 then bif v65&&v65 then bif v63||v64 then bif bif v63 then true else !decide ((↑t.1.length:Int)=(↑x0.2.length:Int)) then some false else j PUnit.unit else none else none else none else none else none else none else none else j PUnit.unit else none else none else none else none else none else none else none else none else none else none else none else none else none else none else none else none else none else none else none else none
def tg (x0:(List (ByteArray×Int))×List (ByteArray×(List (ByteArray×Int×Int×Int))×Bool)) (x1:ByteArray):Option Bool:=lQ lpK jnK aN bv aW aP bi cX cd aL cz jH gz iX dn dW iQ aO iT x0 x1
def c4:Ctr:=⟨[T25,.str],[],[],.one .bool,fun x _ _=>tg x.1 x.2.1⟩
theorem e4 (lp:Lp) (jn:Jn) (aN:t19) (bv:t20) (aW:t21) (aP:t9) (bi:t10) (cX:t22) (cd:t13) (aL:t15) (cz:t16) (jH:t23) (gz:t24) (iX:t25) (dn:t26) (dW:t27) (iQ:t28) (aO:t29) (iT:t30):∀(x:TsS c4.as) (F:TsF c4.fs) (y:TsS c4.cs),lQ lp jn aN bv aW aP bi cX cd aL cz jH gz iX dn dW iQ aO iT x.1 x.2.1=cb lp jn (cx [(30,⟨[T25,i64],[],[],.tup [T49,i64],fun x _ _=>iT x.1 x.2.1⟩),(29,k29 aO),(28,⟨[T25],[],[],.tup [(.sl .str),i64],fun x _ _=>iQ x.1⟩),(27,k27 dW),(26,k26 dn),(25,⟨[T25],[],[],.one .bool,fun x _ _=>iX x.1⟩),(24,⟨[T25],[],[],.one .bool,fun x _ _=>gz x.1⟩),(23,⟨[T25],[],[],.one .bool,fun x _ _=>jH x.1⟩),(16,k16 cz),(15,k15 aL),(13,k13 cd),(22,k22 cX),(10,k10 bi),(9,k9 aP),(21,k21 aW),(20,k20 bv),(19,k19 aN)] [(134,bJ)]) al 4 4 f4 c4 x F y:=fun x F y=>by kernel_rfl
def y9 (lp:Lp) (_:Jn) (x0:(List (ByteArray×Int))×List (ByteArray×(List (ByteArray×Int×Int×Int))×Bool)):Option ((List (ByteArray×Int))×List (ByteArray×(List (ByteArray×Int×Int×Int))×Bool)) :=
 
 let v3:List (ByteArray×List (ByteArray×Int×Int×Int)×Bool):=[];bif c7 (0+List.length x0.1) 24 then lp (Int×List (ByteArray×Int)×List (ByteArray × List (ByteArray×Int×Int×Int)×Bool)×PUnit) (List (ByteArray×Int)×List (ByteArray×List (ByteArray×Int×Int×Int)×Bool)) (fun (again:Int×List (ByteArray×Int) × List (ByteArray×List (ByteArray×Int×Int×Int)×Bool)×PUnit->Option (List (ByteArray×Int)×List (ByteArray×List (ByteArray×Int×Int×Int)×Bool))) (x:Int×List (ByteArray×Int)×List (ByteArray×List (ByteArray×Int×Int×Int)×Bool)×PUnit) =>
 let v6:ByteArray×List (ByteArray×Int×Int×Int)×Bool:=x0.2.getD x.1.toNat ({ data:={ toList:=[] } },[],false);bif decide (x.1<(↑x0.2.length : Int)) then bif inB x.1 x0.2.length then bif c7 (0+List.length v6.2.1) 40 then bif c7 (List.length x.2.2.1+1) 48 then again (IntKind.wrap .i64 (x.1+1),x.2.1,x.2.2.1++v6 ::v3,PUnit.unit) else none else none else none else some (x.2.1,x.2.2.1)) (0,x0.1, v3,PUnit.unit) else none
def iL (x0:(List (ByteArray×Int))×List (ByteArray×(List (ByteArray×Int×Int×Int))×Bool)):Option ((List (ByteArray×Int))×List (ByteArray×(List (ByteArray×Int×Int×Int))×Bool)):=y9 lpK jnK x0
abbrev t31:=((List (ByteArray×Int))×List (ByteArray×(List (ByteArray×Int×Int×Int))×Bool))->Option ((List (ByteArray×Int))×List (ByteArray×(List (ByteArray×Int×Int×Int))×Bool))
set_option maxRecDepth 100000
def oZ (_:Lp) (_:Jn) (bV:t34) (x0:Int×Int):Option Bool :=
 aa (bV 0) fun (t:Int×Int)=>some !(decide (x0.1=t.1)&&(decide (x0.2=t.2)&&true))
def ef (x0:Int×Int):Option Bool:=oZ lpK jnK bV x0
abbrev t33:=(Int×Int)->Option (Bool)
def lW (lp:Lp) (jn:Jn) (ao:t32) (cu:t35) (aN:t19) (aW:t21) (aP:t9) (bi:t10) (cd:t13) (dW:t27) (aO:t29) (iL:t31) (ef:t33) (x0:(List (ByteArray×Int))×List (ByteArray×(List (ByteArray×Int×Int×Int))×Bool)):Option Bool :=
 aa aP fun (t:Bool)=>bif !t then some false else aa (bi x0 []) fun (t:Bool) =>
 let v5:Bool:=!t;
 let v6:Bool:=!v5;
 let v7:Bool:=!v6||v6;bif v7 then aa (bif v6 then cd x0 else some false) fun (t:Bool)=>bif v7 then bif v5||v6 then bif bif v5 then true else !t then some true else aa (iL x0) fun (t:List (ByteArray×Int)×List (ByteArray×List (ByteArray×Int×Int×Int)×Bool))=>aa (iL x0) fun (t_1:List (ByteArray×Int)×List (ByteArray×List (ByteArray×Int×Int×Int)×Bool))=>lp (Int×PUnit) Bool (fun (again:Int×PUnit->Option Bool) (x:Int×PUnit)=>bif decide (x.1<(↑x0.1.length:Int)) then bif inB x.1 t.1.length then none else none else aa (aN t) fun (t:List (Int×Int)×Int×PUnit) =>
 let v14:Bool:=!decide (t.2.1=0);
 let v15:Bool:=!v14;
 let v16:Bool:=!v15||v15;
 let v17:Bool:=bif v14 then true else !decide ((↑t.1.length:Int)=(↑x0.2.length:Int));
 let v18:Bool:=!v17;jn PUnit Bool (fun (_:PUnit)=>aa (aN x0) fun (t:List (Int×Int)×Int×PUnit) =>
 let v21:Bool:=decide (t.2.1=5);
 let v22:Bool:=!v21;
 let v23:Bool:=!decide (t.2.1=0);
 let v24:Bool:=!v23;aa (aN t_1) fun (t_2:List (Int×Int)×Int×PUnit) =>
 let v26:Bool:=bif v21 then true else decide (t_2.2.1=5);
 let v27:Bool:=!v26;
 let v28:Bool:=decide (t.2.1=t_2.2.1);
 let v29:Bool:=!v28||v28;bif !v22||v22 then bif v21||v22 then bif !v27||v27 then bif v26||v27 then bif bif v26 then true else decide (t_2.2.1=1) then some true else bif !v24||v24 then bif v23||v24 then bif bif v23 then true else !decide (t_2.2.1=0) then bif v29 then bif v29 then some (bif v28 then decide (t.2.1=(22 : Int)) else false) else none else none else aa (dW t.1) fun (t:(Int×Int)×Int×PUnit) =>
 let v31:Bool:=!decide (t.2.1=0);
 let v32:Bool:=!v31;aa (dW t_2.1) fun (t_3:(Int×Int)×Int×PUnit) =>
 let v34:Bool:=bif v31 then true else !decide (t_3.2.1=0);
 let v35:Bool:=!v34;aa (cu t.1 t.1) fun (t:(Int×Int)×Int×PUnit) =>
 let v37:Bool:=bif v34 then true else !decide (t.2.1=0);
 let v38:Bool:=!v37;
 let v39:Bool:=!v38||v38;bif !v32||v32 then bif v31||v32 then bif !v35||v35 then bif v34||v35 then bif v39&&v39 then bif v37||v38 then bif bif v37 then true else !(decide (t_3.1.1=t.1.1)&&(decide (t_3.1.2=t.1.2)&&true)) then some false else aa (aW x0) fun (t:List ByteArray×Int×PUnit) =>
 let v41:Bool:=!decide (t.2.1=0);
 let v42:Bool:=!v41;aa (aW t_1) fun (t_4:List ByteArray×Int×PUnit) =>
 let v44:Bool:=bif v41 then true else !decide (t_4.2.1=0);
 let v45:Bool:=!v44;
 let v46:Bool:=!v45||v45;bif !v42||v42 then bif v41||v42 then bif v46&&v46 then aa (bif v45 then aO t.1 t_4.1 else some false) fun (t:Bool)=>bif v44 || v45 then some (bif v44 then true else t) else none else none else none else none else none else none else none else none else none else none else none else none else none else none else none else none) fun (j:PUnit->Option Bool)=>bif !decide (t.2.1=5) then bif v16 then bif v16 then bif v16 then bif v16&&v16 then bif v14||v15 then bif !v18||v18 then aa (bif v18 then ao t.1 fun (x:(Int×Int)×PUnit)=>ef x.1 else some false) fun (t:Bool)=>bif v17||v18 then bif bif v17 then true else t then some false else j PUnit.unit else none else none else none else none else none else none else none else j PUnit.unit) (0,PUnit.unit) else none else none else none
def sJ (x0:(List (ByteArray×Int))×List (ByteArray×(List (ByteArray×Int×Int×Int))×Bool)):Option Bool:=lW lpK jnK ao cu aN aW aP bi cd dW aO iL ef x0
def c5:Ctr:=⟨[T25],[],[],.one .bool,fun x _ _=>sJ x.1⟩
theorem e5 (lp:Lp) (jn:Jn) (ao:t32) (cu:t35) (aN:t19) (aW:t21) (aP:t9) (bi:t10) (cd:t13) (dW:t27) (aO:t29) (iL:t31) (ef:t33):∀(x:TsS c5.as) (F:TsF c5.fs) (y:TsS c5.cs),lW lp jn ao cu aN aW aP bi cd dW aO iL ef x.1=cb lp jn (cx [(33,⟨[T49],[],[],.one .bool,fun x _ _=>ef x.1⟩),(31,⟨[T25],[],[],.one T25,fun x _ _=>iL x.1⟩),(29,k29 aO),(27,k27 dW),(13,k13 cd),(10,k10 bi),(9,k9 aP),(21,k21 aW),(19,k19 aN),(35,k35 cu),(32,k32 ao)] [(134,bJ)]) al 4 5 f5 c5 x F y:=fun x F y=>by kernel_rfl
def ta (lp:Lp) (jn:Jn) (bj:t91) (cI:Mc) (ay:BO) (a9:Mo) (aB:M3) (aZ:MA) (x0:(List Int)×List ((List Int)×Int×Int)):Option ((List (Int×Int))×Int×Unit) :=
 aa (bj x0) fun (t:Bool)=>bif !t then some ([],1,PUnit.unit) else aa (cI x0) fun (t:Bool)=>bif !t then some ([],5,PUnit.unit) else lp (Int×Int×PUnit) (List (Int×Int)×Int×PUnit) (fun (again:Int×Int×PUnit->Option (List (Int×Int)×Int×PUnit)) (x:Int×Int×PUnit) =>
 let v7:Int×PUnit:=(IntKind.wrap .i64 (x.2.1+1),PUnit.unit);
 let v8:Int:=IntKind.wrap .i64 ((↑x0.1.length:Int)+x.1);bif decide (x.2.1<(↑x0.2.length:Int)) then bif inB x.2.1 x0.2.length then bif !decide ((x0.2.getD x.2.1.toNat ([],0,0)).2.1=3) then again (IntKind.wrap .i64 (x.1+1),v7) else again (x.1, v7) else none else aa (ay x0.1) fun (t:List Int)=>lp (Int×Int×(List Nat×List (Option (List Int)))×Int×List Int×List Int×List Int×Int×Int × PUnit) (List (Int×Int)×Int×PUnit) (fun (again:Int×Int×(List Nat×List (Option (List Int)))×Int×List Int×List Int×List Int×Int×Int×PUnit->Option (List (Int × Int)×Int×PUnit)) (x:Int×Int×(List Nat×List (Option (List Int)))×Int×List Int×List Int×List Int×Int×Int×PUnit) =>
 let v12:Int:=IntKind.wrap .i64 (x.1+1);
 let v13:List Int×Int×Int:=x0.2.getD x.2.1.toNat ([],0,0);
 let v14:List Int:=List.replicate (Int.toNat (IntKind.wrap .i64 (x.2.2.2.2.2.2.2.2.1+1))) 0;
 let v15:Bool:=inB x.1 (Int.toNat (IntKind.wrap .i64 (x.2.2.2.2.2.2.2.2.1+1)));
 let v16:Bool:=Nat.ble (Nat.succ x.1.toNat) (Int.toNat (IntKind.wrap .i64 (x.2.2.2.2.2.2.2.2.1+1)));
 let v17:Int:=IntKind.wrap .i64 (x.2.2.2.2.2.2.2.1+x.2.1);
 let v18:List Int:=List.take (Int.toNat (IntKind.wrap .i64 (x.2.2.2.2.2.2.2.2.1+1))) v13.1;
 let v19:List Int:=List.set (List.take 0 v14++v18++List.drop (0+List.length v18) v14) x.2.2.2.2.2.2.2.2.1.toNat v13.2.2;bif decide (x.2.1<(↑x0.2.length:Int)) then bif inB x.2.1 x0.2.length then bif decide (0<=IntKind.wrap .i64 (x.2.2.2.2.2.2.2.2.1+(1 : Int)))&&c7 (Int.toNat (IntKind.wrap .i64 (x.2.2.2.2.2.2.2.2.1+1))) 8 then bif inB x.2.2.2.2.2.2.2.2.1 (Int.toNat (IntKind.wrap .i64 (x.2.2.2.2.2.2.2.2.1+1))) then bif Nat.ble (Nat.succ x.2.2.2.2.2.2.2.2.1.toNat) (Int.toNat (IntKind.wrap IntKind.i64 (x.2.2.2.2.2.2.2.2.1+1))) then jn (Int×List Int×PUnit) (List (Int×Int)×Int×PUnit) (fun (x_1:Int×List Int×PUnit) =>
 let v21:List Int×PUnit:=(x_1.2.1,PUnit.unit);jn (Int×List Int×PUnit) (List (Int×Int)×Int×PUnit) (fun (x_2:Int×List Int×PUnit)=>bif inB v17 x_2.2.1.length then bif Nat.ble (Nat.succ v17.toNat) x_2.2.1.length then bif c7 (List.length x.2.2.1.1+1) 24 then bif c7 (List.length x.2.2.2.2.2.1+1) 8 then bif c7 (List.length x.2.2.2.2.1+1) 8 then again (x_1.1,IntKind.wrap .i64 (x.2.1+(1 : Int)),(x.2.2.1.1++[List.length x.2.2.1.2+0],x.2.2.1.2++[some (x_2.2.1.set v17.toNat 1)]),x.2.2.2.1, x.2.2.2.2.1++[v17],x.2.2.2.2.2.1++[x_2.1],x.2.2.2.2.2.2.1,x.2.2.2.2.2.2.2.1,x.2.2.2.2.2.2.2.2.1, PUnit.unit) else none else none else none else none else none) fun (j:Int×List Int×PUnit->Option (List (Int×Int)×Int×PUnit))=>bif decide (v13.2.2<0) then lp (Int×List Int×PUnit) (List (Int×Int)×Int×PUnit) (fun (again:Int×List Int×PUnit->Option (List (Int×Int)×Int×PUnit)) (x:Int×List Int×PUnit) =>
 let v25:Bool:=inB x.1 x.2.1.length;
 let v26:Bool:=Nat.ble (Nat.succ x.1.toNat) x.2.1.length;bif decide (x.1<(↑x_1.2.1.length:Int)) then bif v25 then bif v26 then bif v25 then bif v26 then again (IntKind.wrap .i64 (x.1+1),x.2.1.set x.1.toNat (IntKind.wrap .i64 (0 - x.2.1.getD x.1.toNat 0)), PUnit.unit) else none else none else none else none else j ((-1),x.2.1,PUnit.unit)) (0,v21) else j (1,v21)) fun (j:Int×List Int×PUnit->Option (List (Int×Int)×Int×PUnit))=>bif decide (v13.2.1=1) then bif v15 then bif v16 then j (v12,v19.set x.1.toNat 1,PUnit.unit) else none else none else jn (Int×List Int×PUnit) (List (Int×Int)×Int×PUnit) (fun (x:Int×List Int×PUnit)=>j (x.1,x.2.1,PUnit.unit)) fun (j:Int×List Int×PUnit->Option (List (Int × Int)×Int×PUnit))=>bif decide (v13.2.1=2) then bif v15 then bif v16 then j (v12,v19.set x.1.toNat (-1),PUnit.unit) else none else none else j (x.1,v19,PUnit.unit) else none else none else none else none else aa (a9 x.2.2.1 x.2.2.2.1 x.2.2.2.2.1 x.2.2.2.2.2.1 x.2.2.2.2.2.2.1 x.2.2.2.2.2.2.2.1 x.2.2.2.2.2.2.2.2.1) fun (y:(List Nat×List (Option (List Int)))×Int×List Int×List Int×List Int×Int×Int×Bool×PUnit)=>bif y.2.2.2.2.2.2.2.1 then some ([],12,PUnit.unit) else lp (List (Int×Int)×Int×PUnit) (List (Int×Int)×Int×PUnit) (fun (again:List (Int×Int)×Int×PUnit->Option (List (Int×Int)×Int×PUnit)) (x:List (Int×Int)×Int×PUnit)=>bif decide (x.2.1<(↑x0.2.length:Int)) then bif inB x.2.1 y.2.2.2.1.length then bif Nat.ble (Nat.succ x.2.1.toNat) y.2.2.2.1.length then aa (bif List.all y.1.1 fun (x:Nat) =>dL y.1.2 x then aB (List.map (fun (x:Nat)=>af y.1.2 x) y.1.1,y.2.1,y.2.2.1,y.2.2.2.1,y.2.2.2.2.1, y.2.2.2.2.2.1,y.2.2.2.2.2.2.1) (IntKind.wrap .i64 (y.2.2.2.2.2.1+x.2.1)) else none) fun (t:Int)=>aa (bif List.all y.1.1 fun (x:Nat)=>dL y.1.2 x then aZ (List.map (fun (x:Nat)=>af y.1.2 x) y.1.1,y.2.1,y.2.2.1,y.2.2.2.1,y.2.2.2.2.1, y.2.2.2.2.2.1,y.2.2.2.2.2.2.1) (IntKind.wrap .i64 (y.2.2.2.1.getD x.2.1.toNat 0*t)) else none) fun (t:Int×Int) => bif c7 (List.length x.1+1) 16 then again (x.1++[t],IntKind.wrap .i64 (x.2.1+1),PUnit.unit) else none else none else none else some (x.1,0,PUnit.unit)) ([],0,PUnit.unit)) ((↑x0.1.length:Int),0,([],[]),1,[],[],t,v8,IntKind.wrap .i64 (v8+(↑x0.2.length:Int)),PUnit.unit)) (0,0,PUnit.unit)
def lL (x0:(List Int)×List ((List Int)×Int×Int)):Option ((List (Int×Int))×Int×Unit):=ta lpK jnK bj cI ay a9 aB aZ x0
abbrev t83:=((List Int)×List ((List Int)×Int×Int))->Option ((List (Int×Int))×Int×Unit)
def ve (_:Lp) (_:Jn) (aV:t11) (lL:t83) (x0:(List (ByteArray×Int))×List (ByteArray×(List (ByteArray×Int×Int×Int))×Bool)):Option ((List (Int×Int))×Int×Unit) :=
 aa (aV x0) fun (t:(List Int×List (List Int×Int×Int))×Int×PUnit)=>bif !decide (t.2.1=0) then some ([],t.2.1,PUnit.unit) else aa (lL t.1) fun (t:List (Int×Int)×Int×PUnit)=>some (t.1,t.2.1,PUnit.unit)
def fz (x0:(List (ByteArray×Int))×List (ByteArray×(List (ByteArray×Int×Int×Int))×Bool)):Option ((List (Int×Int))×Int×Unit):=ve lpK jnK aV lL x0
abbrev t36:=((List (ByteArray×Int))×List (ByteArray×(List (ByteArray×Int×Int×Int))×Bool))->Option ((List (Int×Int))×Int×Unit)
def k36 (fz:t36):Ctr:=⟨[T25],[],[],.tup [(.sl T49),i64],fun x _ _=>fz x.1⟩
def rN (_:Lp) (_:Jn) (au:t72) (x0:Int×Int):Option Bool :=
 aa (au x0) fun (t:Bool)=>some !t
def kx (x0:Int×Int):Option Bool:=rN lpK jnK au x0
abbrev Tv:=(Int×Int)->Option (Bool)
def uj (_:Lp) (_:Jn) (a6:t87) (ao:t32) (kx:Tv) (x0:(List (ByteArray×Int))×List (ByteArray×(List (ByteArray×Int×Int×Int))×Bool)) (x1:List (Int×Int)):Option ((List (List Int))×Int×Unit) :=
 aa (a6 x0) fun (t:List (List Int)×Int×PUnit)=>bif !decide (t.2.1=0) then some ([],t.2.1,PUnit.unit) else aa (ao x1 fun (x : (Int×Int)×PUnit)=>kx x.1) fun (t_1:Bool)=>bif t_1 then some ([],1,PUnit.unit) else bif !decide ((↑x1.length:Int)=(↑x0.2.length : Int)) then some ([],3,PUnit.unit) else some (t.1,0,PUnit.unit)
def ms (x0:(List (ByteArray×Int))×List (ByteArray×(List (ByteArray×Int×Int×Int))×Bool)) (x1:List (Int×Int)):Option ((List (List Int))×Int×Unit):=uj lpK jnK a6 ao kx x0 x1
abbrev Si:=((List (ByteArray×Int))×List (ByteArray×(List (ByteArray×Int×Int×Int))×Bool))->(List (Int×Int))->Option ((List (List Int))×Int×Unit)
def zO (_:Lp) (_:Jn) (x0:Int):Option (Int×Int) :=
 some (x0,1)
def iP (x0:Int):Option (Int×Int):=zO lpK jnK x0
abbrev QQ:=(Int)->Option (Int×Int)
def wy (_:Lp) (_:Jn) (cu:t35) (fb:MC) (iP:QQ) (x0:Int×Int) (x1:Int) (x2:Int×Int):Option ((Int×Int)×Int×Unit) :=
 aa (iP x1) fun (t:Int×Int)=>aa (fb t x2) fun (t:(Int×Int)×Int×PUnit)=>bif !decide (t.2.1=0) then some ((0,0),t.2.1, PUnit.unit) else aa (cu x0 t.1) fun (t:(Int×Int)×Int×PUnit)=>some (t.1,t.2.1,PUnit.unit)
def nX (x0:Int×Int) (x1:Int) (x2:Int×Int):Option ((Int×Int)×Int×Unit):=wy lpK jnK cu fb iP x0 x1 x2
abbrev Ti:=(Int×Int)->(Int)->(Int×Int)->Option ((Int×Int)×Int×Unit)
def BP (_:Lp) (_:Jn) (au:t72) (cu:t35) (x0:Int×Int) (x1:Int×Int):Option ((Int×Int)×Int×Unit) :=
 aa (au x0) fun (t:Bool) =>
 let v5:Bool:=!t;
 let v6:Bool:=!v5;
 let v7:Bool:=!v6||v6;bif v7 then aa (bif v6 then au x1 else some false) fun (t:Bool)=>bif v7 then bif v5||v6 then bif bif v5 then true else !t then some (((0 : Int),0),1,PUnit.unit) else aa (cu x0 (IntKind.wrap .i64 (0 - x1.1),x1.2)) fun (t:(Int×Int)×Int×PUnit)=>some (t.1,t.2.1, PUnit.unit) else none else none else none
def sI (x0:Int×Int) (x1:Int×Int):Option ((Int×Int)×Int×Unit):=BP lpK jnK au cu x0 x1
abbrev Td:=(Int×Int)->(Int×Int)->Option ((Int×Int)×Int×Unit)
def qe (lp:Lp) (_:Jn) (ms:Si) (iP:QQ) (nX:Ti) (sI:Td) (x0:(List (ByteArray×Int))×List (ByteArray×(List (ByteArray×Int×Int×Int))×Bool)) (x1:List (Int×Int)):Option ((List (Int×Int))×Int×Unit) :=
 aa (ms x0 x1) fun (t:List (List Int)×Int×PUnit)=>bif !decide (t.2.1=0) then some ([],t.2.1,PUnit.unit) else lp (List (Int×Int)×Int×Int × PUnit) (List (Int×Int)×Int×PUnit) (fun (again:List (Int×Int)×Int×Int×PUnit->Option (List (Int×Int)×Int×PUnit)) (x:List (Int×Int)×Int×Int×PUnit) =>
 let v7:List Int:=t.1.getD x.2.2.1.toNat [];bif decide (x.2.2.1<(↑t.1.length:Int)) then aa (iP 0) fun (t_1:Int×Int)=>lp (Int×(Int×Int)×PUnit) (List (Int×Int)×Int×PUnit) (fun (again_1:Int×(Int×Int)×PUnit->Option (List (Int×Int)×Int×PUnit)) (x_1:Int×(Int×Int)×PUnit) => bif decide (x_1.1<(↑x1.length:Int)) then bif inB x.2.2.1 t.1.length then bif inB x_1.1 v7.length then bif inB x_1.1 x1.length then aa (nX x_1.2.1 (v7.getD x_1.1.toNat 0) (x1.getD x_1.1.toNat (0,0))) fun (t:(Int×Int)×Int×PUnit) =>
 let v12:Bool:=!decide (t.2.1=0);bif v12 then bif v12 then some ([],t.2.1,PUnit.unit) else some (x.1,0,PUnit.unit) else again_1 (IntKind.wrap IntKind.i64 (x_1.1+1),t.1,PUnit.unit) else none else none else none else bif inB x.2.2.1 x0.1.length then aa (iP (x0.1.getD x.2.2.1.toNat ({ data:={ toList:=[] } },0)).2) fun (t:Int×Int)=>aa (sI t x_1.2.1) fun (t:(Int×Int)×Int×PUnit) =>
 let v13:Bool:=!decide (t.2.1=0);bif v13 then bif v13 then some ([],t.2.1,PUnit.unit) else some (x.1,0,PUnit.unit) else bif c7 (List.length x.1 + 1) 16 then again (x.1++[t.1],t.2.1,IntKind.wrap .i64 (x.2.2.1+1),PUnit.unit) else none else none) (0,t_1,PUnit.unit) else bif !decide (x.2.1=0) then some ([],x.2.1,PUnit.unit) else some (x.1,0,PUnit.unit)) ([],0,0,PUnit.unit)
def jd (x0:(List (ByteArray×Int))×List (ByteArray×(List (ByteArray×Int×Int×Int))×Bool)) (x1:List (Int×Int)):Option ((List (Int×Int))×Int×Unit):=qe lpK jnK ms iP nX sI x0 x1
abbrev t84:=((List (ByteArray×Int))×List (ByteArray×(List (ByteArray×Int×Int×Int))×Bool))->(List (Int×Int))->Option ((List (Int×Int))×Int×Unit)
def rC (_:Lp) (_:Jn) (x0:Int×Int):Option Bool :=
 some !decide (x0.1=0)
def kJ (x0:Int×Int):Option Bool:=rC lpK jnK x0
abbrev t85:=(Int×Int)->Option (Bool)
def uf (_:Lp) (_:Jn) (ao:t32) (jd:t84) (kJ:t85) (x0:(List (ByteArray×Int))×List (ByteArray×(List (ByteArray×Int×Int×Int))×Bool)) (x1:List (Int×Int)):Option (Bool×Int×Unit) :=
 aa (jd x0 x1) fun (t:List (Int×Int)×Int×PUnit)=>bif !decide (t.2.1=0) then some (false,t.2.1,PUnit.unit) else aa (ao t.1 fun (x:(Int×Int)×PUnit)=>kJ x.1) fun (t:Bool)=>some (!t,0,PUnit.unit)
def e7 (x0:(List (ByteArray×Int))×List (ByteArray×(List (ByteArray×Int×Int×Int))×Bool)) (x1:List (Int×Int)):Option (Bool×Int×Unit):=uf lpK jnK ao jd kJ x0 x1
abbrev t37:=((List (ByteArray×Int))×List (ByteArray×(List (ByteArray×Int×Int×Int))×Bool))->(List (Int×Int))->Option (Bool×Int×Unit)
def k37 (e7:t37):Ctr:=⟨[T25,(.sl T49)],[],[],.tup [.bool,i64],fun x _ _=>e7 x.1 x.2.1⟩
def jN (lp:Lp) (_:Jn) (x0:List (Int×Int)):Option Bool :=
 lp (Int×PUnit) Bool (fun (again:Int×PUnit->Option Bool) (x:Int×PUnit)=>bif decide (x.1<(↑x0.length:Int)) then bif inB x.1 x0.length then bif decide ((x0.getD x.1.toNat (0,0)).1<0) then some false else again (IntKind.wrap .i64 (x.1+1),PUnit.unit) else none else some true) (0,PUnit.unit)
def bF (x0:List (Int×Int)):Option Bool:=jN lpK jnK x0
abbrev t38:=(List (Int×Int))->Option (Bool)
def k38 (bF:t38):Ctr:=⟨[(.sl T49)],[],[],.one .bool,fun x _ _=>bF x.1⟩
def c38:Ctr:=k38 bF
theorem e38 (lp:Lp) (jn:Jn):∀(x:TsS c38.as) (F:TsF c38.fs) (y:TsS c38.cs),jN lp jn x.1=cb lp jn (cx [] [(134,bJ)]) al 4 38 f38 c38 x F y:=fun x F y=>by kernel_rfl
theorem S2:c38.ok prog 38:=Ctr.of_den (ap (b7)) aX (hl:=al) (d:=4) func38 rfl (by decide) (e38 lpK jnK)
def l4 (_:Lp) (_:Jn) (bD:t12) (aN:t19) (aP:t9) (bi:t10) (fz:t36) (e7:t37) (bF:t38) (x0:(List (ByteArray×Int))×List (ByteArray×(List (ByteArray×Int×Int×Int))×Bool)):Option Bool :=
 aa aP fun (t:Bool)=>bif !t then some false else aa (bi x0 []) fun (t:Bool)=>bif !t then some true else aa (aN x0) fun (t:List (Int×Int)×Int × PUnit) =>
 let v6:Bool:=decide (t.2.1=1);
 let v7:Bool:=decide ((↑t.1.length:Int)=0);
 let v8:Bool:=!v7||v7;aa (fz x0) fun (t_1:List (Int×Int)×Int×PUnit) =>
 let v10:Bool:=bif v7 then decide (t_1.2.1=0) else false;
 let v11:Bool:=decide ((↑t_1.1.length:Int)=0);
 let v12:Bool:=bif v7 then decide (t_1.2.1=t.2.1) else false;
 let v13:Bool:=!v10||v10;
 let v14:Bool:=bif v12 then v11 else false;
 let v15:Bool:=!v14;
 let v16:Bool:=v14&&!v6;
 let v17:Bool:=!v12||v12;
 let v18:Bool:=v15||v14;bif decide (t.2.1=0) then aa (e7 x0 t.1) fun (t_2:Bool×Int×PUnit)=>aa (bF t.1) fun (t:Bool) =>
 let v21:Bool:=!t||t;
 let v22:Bool:=bif t then decide (t_2.2.1=0) else false;
 let v23:Bool:=bif v22 then t_2.1 else false;
 let v24:Bool:=bif v23 then decide (t_1.2.1=12) else false;
 let v25:Bool:=!v23||v23;
 let v26:Bool:=!v24||v24;bif v21 then bif v21 then bif !v22||v22 then bif v25 then bif v25 then bif v26 then bif v26 then bif v26 then some (bif v24 then v11 else false) else none else none else none else none else none else none else none else none else bif decide (t.2.1=22) then aa (bD x0 t_1.1) fun (t:Bool×Int×PUnit) =>
 let v20:Bool:=bif v10 then decide (t.2.1=0) else false;bif v8 then bif v8 then bif v13 then bif v13 then bif !v20||v20 then some (bif v20 then t.1 else false) else none else none else none else none else none else bif v8&&v8 then bif v8 then bif v17 then bif v17 then bif v17 then bif v18 then bif v18 then bif !v16||v16 then bif (v15||v18) && (v15||(v6||(v15||v16))) then bif v18 then some (bif v14 then bif v6 then true else decide (t.2.1=5) else false) else none else none else none else none else none else none else none else none else none else none
def td (x0:(List (ByteArray×Int))×List (ByteArray×(List (ByteArray×Int×Int×Int))×Bool)):Option Bool:=l4 lpK jnK bD aN aP bi fz e7 bF x0
def c6:Ctr:=⟨[T25],[],[],.one .bool,fun x _ _=>td x.1⟩
theorem e6 (lp:Lp) (jn:Jn) (bD:t12) (aN:t19) (aP:t9) (bi:t10) (fz:t36) (e7:t37) (bF:t38):∀(x:TsS c6.as) (F:TsF c6.fs) (y:TsS c6.cs),l4 lp jn bD aN aP bi fz e7 bF x.1=cb lp jn (cx [(38,k38 bF),(37,k37 e7),(36,k36 fz),(10,k10 bi),(9,k9 aP),(19,k19 aN),(12,k12 bD)] [(134,bJ)]) al 4 6 f6 c6 x F y:=fun x F y=>by kernel_rfl
def ga (lp:Lp) (_:Jn) (x0:List (List Int)) (f0:(((List Int)×Unit)->Option Bool)):Option Int :=
 lp (Int×PUnit) Int (fun (again:Int×PUnit->Option Int) (x:Int×PUnit)=>bif decide (x.1<(↑x0.length:Int)) then bif inB x.1 x0.length then aa (f0 (x0.getD x.1.toNat [],PUnit.unit)) fun (t:Bool)=>bif t then some x.1 else again (IntKind.wrap .i64 (x.1+1),PUnit.unit) else none else some (-1 : Int)) (0,PUnit.unit)
def bA (x0:List (List Int)) (f0:(((List Int)×Unit)->Option Bool)):Option Int:=ga lpK jnK x0 f0
abbrev O2:=(List (List Int))->((((List Int)×Unit)->Option Bool))->Option (Int)
def QC (bA:O2):Ctr:=⟨[(.sl (.sl i64))],[([(.sl i64)],.bool)],[],.one i64,fun x F _=>bA x.1 F.1⟩
def IC:Ctr:=QC bA
theorem TD (lp:Lp) (jn:Jn):∀(x:TsS IC.as) (F:TsF IC.fs) (y:TsS IC.cs),ga lp jn x.1 F.1=cb lp jn (cx [] [(134,bJ)]) al 4 182 f182 IC x F y:=fun x F y=>by kernel_rfl
theorem Qy:IC.ok prog 182:=Ctr.of_den (ap (b7)) aX (hl:=al) (d:=4) func182 rfl (by decide) (TD lpK jnK)
def fw (_:Lp) (_:Jn) (bA:O2) (x0:List (List Int)) (f0:(((List Int)×Unit)->Option Bool)):Option Bool :=
 aa (bA x0 f0) fun (t:Int)=>some (decide (t>=0))
def a8 (x0:List (List Int)) (f0:(((List Int)×Unit)->Option Bool)):Option Bool:=fw lpK jnK bA x0 f0
abbrev OE:=(List (List Int))->((((List Int)×Unit)->Option Bool))->Option (Bool)
def QP (a8:OE):Ctr:=⟨[(.sl (.sl i64))],[([(.sl i64)],.bool)],[],.one .bool,fun x F _=>a8 x.1 F.1⟩
def Ib:Ctr:=QP a8
theorem SD (lp:Lp) (jn:Jn) (bA:O2):∀(x:TsS Ib.as) (F:TsF Ib.fs) (y:TsS Ib.cs),fw lp jn bA x.1 F.1=cb lp jn (cx [(182,QC bA)] [(134,bJ)]) al 4 169 f169 Ib x F y:=fun x F y=>by kernel_rfl
theorem RB:Ib.ok prog 169:=Ctr.of_den (ap (ah (b7) (by kernel_rfl) Qy)) aX (hl:=al) (d:=4) func169 rfl (by decide) (SD lpK jnK bA)
def jh (_:Lp) (_:Jn) (x0:Int) (y0:Int):Option Bool :=
 
 let v4:Bool:=decide (x0<IntKind.wrap .i64 (0 - y0));
 let v5:Bool:=!v4;
 let v6:Bool:=!v5||v5;bif v6&&v6 then bif v4||v5 then some (bif v4 then true else decide (x0>y0)) else none else none
def dx (x0:Int) (y0:Int):Option Bool:=jh lpK jnK x0 y0
abbrev Ri:=(Int)->(Int)->Option (Bool)
def KA:Ctr:=⟨[i64],[],[i64],.one .bool,fun x _ y=>dx x.1 y.1⟩
theorem Tl (lp:Lp) (jn:Jn):∀(x:TsS KA.as) (F:TsF KA.fs) (y:TsS KA.cs),jh lp jn x.1 y.1=cb lp jn (cx [] [(134,bJ)]) al 4 171 f171 KA x F y:=fun x F y=>by kernel_rfl
theorem QF:KA.ok prog 171:=Ctr.of_den (ap (b7)) aX (hl:=al) (d:=4) func171 rfl (by decide) (Tl lpK jnK)
def kD (_:Lp) (_:Jn) (av:HR) (dx:Ri) (x0:List Int) (x1:Int):Option Bool :=
 aa (av x0 fun (x:Int×PUnit)=>dx x.1 x1) fun (t:Bool)=>some !t
def bL (x0:List Int) (x1:Int):Option Bool:=kD lpK jnK av dx x0 x1
abbrev J2:=(List Int)->(Int)->Option (Bool)
def Pw (bL:J2):Ctr:=⟨[(.sl i64),i64],[],[],.one .bool,fun x _ _=>bL x.1 x.2.1⟩
def Jw:Ctr:=Pw bL
theorem SH (lp:Lp) (jn:Jn) (av:HR) (dx:Ri):∀(x:TsS Jw.as) (F:TsF Jw.fs) (y:TsS Jw.cs),kD lp jn av dx x.1 x.2.1=cb lp jn (cx [(171,⟨[i64],[],[i64],.one .bool,fun x _ y=>dx x.1 y.1⟩),(140,OH av)] [(134,bJ)]) al 4 133 f133 Jw x F y:=fun x F y=>by kernel_rfl
theorem NN:Jw.ok prog 133:=Ctr.of_den (ap (ah (ah (b7) (by kernel_rfl) Oh) (by kernel_rfl) QF)) aX (hl:=al) (d:=4) func133 rfl (by decide) (SH lpK jnK av dx)
def jS (_:Lp) (_:Jn) (bL:J2) (x0:List Int) (y0:Int):Option Bool :=
 
 let v4:Bool:=!decide ((↑x0.length:Int)=y0);
 let v5:Bool:=!v4;
 let v6:Bool:=!v5||v5;bif v6 then aa (bif v5 then bL x0 32 else some false) fun (t:Bool)=>bif v6 then bif v4||v5 then some (bif v4 then true else !t) else none else none else none
def cP (x0:List Int) (y0:Int):Option Bool:=jS lpK jnK bL x0 y0
abbrev RZ:=(List Int)->(Int)->Option (Bool)
def Kb:Ctr:=⟨[(.sl i64)],[],[i64],.one .bool,fun x _ y=>cP x.1 y.1⟩
theorem Su (lp:Lp) (jn:Jn) (bL:J2):∀(x:TsS Kb.as) (F:TsF Kb.fs) (y:TsS Kb.cs),jS lp jn bL x.1 y.1=cb lp jn (cx [(133,Pw bL)] [(134,bJ)]) al 4 170 f170 Kb x F y:=fun x F y=>by kernel_rfl
theorem Qq:Kb.ok prog 170:=Ctr.of_den (ap (ah (b7) (by kernel_rfl) NN)) aX (hl:=al) (d:=4) func170 rfl (by decide) (Su lpK jnK bL)
def lY (_:Lp) (_:Jn) (a8:OE) (cP:RZ) (x0:List (List Int)):Option Bool :=
 
 let v3:Bool:=decide ((↑x0.length:Int)<1);
 let v4:Bool:=!v3;
 let v5:Bool:=decide ((↑(List.length (x0.getD 0 [])):Int)>=1);
 let v6:Bool:=!v4||v4;
 let v7:Bool:=!v5||v5;
 let v8:Bool:=bif v5 then decide ((↑(List.length (x0.getD 0 [])):Int)<=12) else false;
 let v9:Bool:=!v8||v8;bif v6 then bif v6 then bif v3||v4 then bif bif v3 then true else decide ((↑x0.length:Int)>6) then some false else bif inB 0 x0.length then bif v7 then bif v7 then bif v9&&v9 then aa (bif v8 then a8 x0 fun (x:List Int×PUnit)=>cP x.1 (↑(List.length (x0.getD 0 [])):Int) else some false) fun (t:Bool)=>bif v9 then bif v9 then some (bif v8 then !t else false) else none else none else none else none else none else none else none else none else none
def eo (x0:List (List Int)):Option Bool:=lY lpK jnK a8 cP x0
abbrev Q7:=(List (List Int))->Option (Bool)
def JZ:Ctr:=⟨[(.sl (.sl i64))],[],[],.one .bool,fun x _ _=>eo x.1⟩
theorem Tf (lp:Lp) (jn:Jn) (a8:OE) (cP:RZ):∀(x:TsS JZ.as) (F:TsF JZ.fs) (y:TsS JZ.cs),lY lp jn a8 cP x.1=cb lp jn (cx [(170,⟨[(.sl i64)],[],[i64],.one .bool,fun x _ y=>cP x.1 y.1⟩),(169,QP a8)] [(134,bJ)]) al 4 132 f132 JZ x F y:=fun x F y=>by kernel_rfl
theorem Qh:JZ.ok prog 132:=Ctr.of_den (ap (ah (ah (b7) (by kernel_rfl) RB) (by kernel_rfl) Qq)) aX (hl:=al) (d:=4) func132 rfl (by decide) (Tf lpK jnK a8 cP)
def kA (_:Lp) (_:Jn) (x0:Int):Option Int :=
 some (IntKind.wrap .u64 (if IntKind.wrap .i64 (0 - x0)>x0 then IntKind.wrap .i64 (0 - x0) else x0))
def cv (x0:Int):Option Int:=kA lpK jnK x0
abbrev PY:=(Int)->Option (Int)
def Ke:Ctr:=⟨[i64],[],[],.one (.int .u64),fun x _ _=>cv x.1⟩
theorem TI (lp:Lp) (jn:Jn):∀(x:TsS Ke.as) (F:TsF Ke.fs) (y:TsS Ke.cs),kA lp jn x.1=cb lp jn (cx [] [(134,bJ)]) al 4 183 f183 Ke x F y:=fun x F y=>by kernel_rfl
theorem QM:Ke.ok prog 183:=Ctr.of_den (ap (b7)) aX (hl:=al) (d:=4) func183 rfl (by decide) (TI lpK jnK)
def mr (_:Lp) (jn:Jn) (a5:zY) (bH:CV) (cv:PY) (x0:Int) (x1:Int) (x2:Int) (x3:Int) (x4:Int):Option Int :=
 
 let v7:Bool:=decide (x4<0);
 let v8:Bool:=decide ((0:Int)<=0)&&decide ((0:Int)<=1);
 let v9:Bool:=!decide (decide (x0<0)=decide (x1<0));
 let v10:Bool×PUnit:=(v9,PUnit.unit);aa (cv x0) fun (t:Int)=>aa (cv x1) fun (t_1:Int)=>aa (a5 t t_1) fun (t:Int×Int×PUnit) => aa (cv x2) fun (t_2:Int)=>aa (cv x3) fun (t_3:Int)=>aa (a5 t_2 t_3) fun (t_4:Int×Int×PUnit) =>
 let v17:Bool:=decide (t.1=t_4.1);
 let v18:Bool:=decide (t.1<t_4.1);
 let v19:Bool:=!v18;
 let v20:Bool:=!v19;
 let v21:Bool:=v19&&v17;
 let v22:Bool:=v20||v19;
 let v23:Bool:=!v21||v21;jn (Int×Int×Bool×PUnit) Int (fun (x:Int×Int×Bool×PUnit)=>aa (cv x4) fun (t:Int)=>aa (bH x.1 x.2.1 t) fun (t:Int×Int×PUnit) =>
 let v27:Int:=IntKind.wrap .i64 t.1;bif !decide (x.2.2.1=v7) then some (IntKind.wrap .i64 (0 - v27)) else some v27) fun (j:Int×Int×Bool×PUnit -> Option Int)=>bif decide (v9=!decide (decide (x2<0)=decide (x3<0))) then bif v22&&v22 then bif v22 then bif v23&&v23 then bif (v20||v22)&&(v20||(!v17 || (v20||v21))) then bif v18||v19 then jn (Int×Int×Int×Int×Bool×PUnit) Int (fun (x:Int×Int×Int×Int×Bool×PUnit)=>bif v8 then bif decide (0<=lB x.2.1 x.2.2.2.1 0)&&decide (lB x.2.1 x.2.2.2.1 0<=1) then j (qO x.1 x.2.2.1 (lB x.2.1 x.2.2.2.1 0), qO x.2.1 x.2.2.2.1 0,x.2.2.2.2.1,PUnit.unit) else none else none) fun (j:Int×Int×Int×Int×Bool×PUnit->Option Int)=>bif bif v18 then true else bif v17 then decide (t.2.1<t_4.2.1) else false then j (t_4.1,t_4.2.1,t.1,t.2.1,!v9,PUnit.unit) else j (t.1,t.2.1,t_4.1,t_4.2.1,v10) else none else none else none else none else none else bif v8 then bif decide (0<=mG t.2.1 t_4.2.1 0)&&decide (mG t.2.1 t_4.2.1 0<=1) then j (ul t.1 t_4.1 (mG t.2.1 t_4.2.1 0),ul t.2.1 t_4.2.1 0,v10) else none else none
def dU (x0:Int) (x1:Int) (x2:Int) (x3:Int) (x4:Int):Option Int:=mr lpK jnK a5 bH cv x0 x1 x2 x3 x4
abbrev PO:=(Int)->(Int)->(Int)->(Int)->(Int)->Option (Int)
def Rm (dU:PO):Ctr:=⟨[i64,i64,i64,i64,i64],[],[],.one i64,fun x _ _=>dU x.1 x.2.1 x.2.2.1 x.2.2.2.1 x.2.2.2.2.1⟩
def Kd:Ctr:=Rm dU
theorem TT (lp:Lp) (jn:Jn) (a5:zY) (bH:CV) (cv:PY):∀(x:TsS Kd.as) (F:TsF Kd.fs) (y:TsS Kd.cs),mr lp jn a5 bH cv x.1 x.2.1 x.2.2.1 x.2.2.2.1 x.2.2.2.2.1=cb lp jn (cx [(183,⟨[i64],[],[],.one (.int .u64),fun x _ _=>cv x.1⟩),(125,Mz bH),(122,Ht a5)] [(134,bJ)]) al 4 172 f172 Kd x F y:=fun x F y=>by kernel_rfl
theorem Qf:Kd.ok prog 172:=Ctr.of_den (ap (ah (ah (ah (b7) (by kernel_rfl) EW) (by kernel_rfl) Ks) (by kernel_rfl) QM)) aX (hl:=al) (d:=4) func172 rfl (by decide) (TT lpK jnK a5 bH cv)
def iJ (lp:Lp) (_:Jn) (dU:PO) (ay:BO) (x0:List (List Int)) (x1:Int):Option ((List (List Int))×Int×(List Int)×(List Int)×Bool) :=
 lp (Int×(List Nat×List (Option (List Int)))×Int×List Int×List Int×Bool×PUnit) (List (List Int)×Int×List Int×List Int×Bool) (fun (again:Int×(List Nat×List (Option (List Int)))×Int×List Int×List Int×Bool×PUnit->Option (List (List Int)×Int×List Int×List Int×Bool)) (x:Int×(List Nat×List (Option (List Int)))×Int×List Int × List Int×Bool×PUnit) =>
 let v6:Bool×PUnit:=(x.2.2.2.2.2.1,PUnit.unit);bif decide (x.1<(↑x0.length:Int)) then bif inB x.1 x0.length then aa (ay (x0.getD x.1.toNat [])) fun (t:List Int)=>bif c7 (List.length x.2.1.1+1) 24 then bif c7 (List.length x.2.2.2.2.1+1) (8 : Nat) then again (IntKind.wrap .i64 (x.1+1),(x.2.1.1++[List.length x.2.1.2+0],x.2.1.2++[some t]),x.2.2.1,x.2.2.2.1, x.2.2.2.2.1++[x.1],v6) else none else none else none else lp (Int×(List Nat×List (Option (List Int)))×Int×List Int×List Int×Bool×PUnit) (List (List Int) × Int×List Int×List Int×Bool) (fun (again:Int×(List Nat×List (Option (List Int)))×Int×List Int×List Int×Bool×PUnit->Option (List (List Int)×Int×List Int×List Int×Bool)) (x:Int×(List Nat×List (Option (List Int)))×Int×List Int×List Int×Bool×PUnit) =>
 let v9:Int:=IntKind.wrap .i64 (x.1+1);
 let v10:(List Nat×List (Option (List Int)))×Int×List Int×List Int×Bool×PUnit:=(x.2.1,x.2.2.1,x.2.2.2.1,x.2.2.2.2.1, x.2.2.2.2.2.1,PUnit.unit);bif decide (x.1<x1) then lp (Int×Int×PUnit) (List (List Int)×Int×List Int×List Int×Bool) (fun (again_1:Int×Int×PUnit -> Option (List (List Int)×Int×List Int×List Int×Bool)) (x_1:Int×Int×PUnit) =>
 let v13:Bool:=decide (x_1.1<0);
 let v14:Int×PUnit:=(IntKind.wrap .i64 (x_1.2.1+1),PUnit.unit);
 let v15:Bool:=decide (x_1.2.1<(↑x.2.1.1.length:Int));
 let v16:Bool:=!v15||v15;bif v16 then bif v16 then bif bif v15 then v13 else false then bif inB x_1.2.1 x.2.1.1.length then bif Nat.ble (Nat.succ x_1.2.1.toNat) x.2.1.1.length then bif inB x.1 (List.length (af x.2.1.2 (x.2.1.1.getD x_1.2.1.toNat 0))) then bif Nat.ble (Nat.succ x.1.toNat) (List.length (af x.2.1.2 (x.2.1.1.getD x_1.2.1.toNat 0))) then bif !decide (List.getD (af x.2.1.2 (x.2.1.1.getD x_1.2.1.toNat 0)) x.1.toNat 0=0) then again_1 (x_1.2.1,v14) else again_1 (x_1.1,v14) else none else none else none else none else bif v13 then again (v9,v10) else lp (Int×(List Nat×List (Option (List Int)))×Int×List Int×List Int×Bool×PUnit) (List (List Int)×Int×List Int×List Int × Bool) (fun (again_2:Int×(List Nat×List (Option (List Int)))×Int×List Int×List Int×Bool×PUnit->Option (List (List Int)×Int×List Int×List Int×Bool)) (x_2:Int × (List Nat×List (Option (List Int)))×Int×List Int×List Int×Bool×PUnit) =>
 let v19:Int:=IntKind.wrap .i64 (x_2.1 - 1);
 let v20:Bool:=inB x_2.1 x_2.2.1.1.length;
 let v21:Bool:=Nat.ble (Nat.succ x_2.1.toNat) x_2.2.1.1.length;
 let v22:Bool:=inB x_2.1 x_2.2.2.2.2.1.length;
 let v23:Bool:=Nat.ble (Nat.succ x_2.1.toNat) x_2.2.2.2.2.1.length;
 let v24:Bool:=inB v19 x_2.2.2.2.2.1.length;
 let v25:Bool:=Nat.ble (Nat.succ v19.toNat) x_2.2.2.2.2.1.length;
 let v26:List Nat:=x_2.2.1.1.set x_2.1.toNat (x_2.2.1.1.getD v19.toNat 0);bif decide (x_2.1>(↑x.2.2.2.1.length:Int)) then bif inB v19 x_2.2.1.1.length then bif Nat.ble (Nat.succ v19.toNat) x_2.2.1.1.length then bif v20 then bif v21 then bif v20 then bif v21 then bif inB v19 v26.length then bif Nat.ble (Nat.succ v19.toNat) v26.length then bif v24 then bif v25 then bif v22 then bif v23 then bif v22 then bif v23 then bif v24 then bif v25 then again_2 (v19,(v26.set v19.toNat (x_2.2.1.1.getD x_2.1.toNat 0),x_2.2.1.2++[]++[]),x_2.2.2.1,x_2.2.2.2.1, List.set (x_2.2.2.2.2.1.set x_2.1.toNat (x_2.2.2.2.2.1.getD v19.toNat 0)) v19.toNat (x_2.2.2.2.2.1.getD x_2.1.toNat 0),!x_2.2.2.2.2.2.1,PUnit.unit) else none else none else none else none else none else none else none else none else none else none else none else none else none else none else none else none else bif inB (↑x.2.2.2.1.length:Int) x_2.2.1.1.length then bif Nat.ble (Nat.succ (Int.toNat (↑x.2.2.2.1.length:Int))) x_2.2.1.1.length then bif inB x.1 (List.length (af x_2.2.1.2 (x_2.2.1.1.getD (Int.toNat (↑x.2.2.2.1.length:Int)) 0))) then bif Nat.ble (Nat.succ x.1.toNat) (List.length (af x_2.2.1.2 (x_2.2.1.1.getD (Int.toNat (↑x.2.2.2.1.length:Int)) 0))) then lp (Int×(List Nat×List (Option (List Int)))×PUnit) (List (List Int)×Int×List Int×List Int×Bool) (fun (again_3:Int×(List Nat×List (Option (List Int)))×PUnit->Option (List (List Int)×Int×List Int×List Int×Bool)) (x_3:Int×(List Nat×List (Option (List Int)))×PUnit) =>
 let v29:Int:=IntKind.wrap .i64 (x_3.1+1);
 let v30:(List Nat×List (Option (List Int)))×PUnit:=(x_3.2.1,PUnit.unit);bif decide (x_3.1<(↑x_2.2.1.1.length:Int)) then bif inB x_3.1 x_3.2.1.1.length then bif Nat.ble (Nat.succ x_3.1.toNat) x_3.2.1.1.length then bif decide (x_3.1=(↑x.2.2.2.1.length:Int)) then again_3 (v29, v30) else bif inB x.1 (List.length (af x_3.2.1.2 (x_3.2.1.1.getD x_3.1.toNat 0))) then bif Nat.ble (Nat.succ x.1.toNat) (List.length (af x_3.2.1.2 (x_3.2.1.1.getD x_3.1.toNat 0))) then bif dL x_3.2.1.2 (x_3.2.1.1.getD x_3.1.toNat 0) then lp (Int×(List Nat×List (Option (List Int)))×PUnit) (List (List Int)×Int×List Int×List Int×Bool) (fun (again:Int×(List Nat×List (Option (List Int)))×PUnit->Option (List (List Int) × Int×List Int×List Int×Bool)) (x_4:Int×(List Nat×List (Option (List Int)))×PUnit)=>bif decide (x_4.1<(↑(List.length (af x_3.2.1.2 (x_3.2.1.1.getD x_3.1.toNat 0))):Int)) then bif inB x_4.1 (List.length (af x_4.2.1.2 (x_3.2.1.1.getD x_3.1.toNat 0))) then bif Nat.ble (Nat.succ x_4.1.toNat) (List.length (af x_4.2.1.2 (x_3.2.1.1.getD x_3.1.toNat 0))) then bif inB (↑x.2.2.2.1.length:Int) x_4.2.1.1.length then bif Nat.ble (Nat.succ (Int.toNat (↑x.2.2.2.1.length:Int))) x_4.2.1.1.length then bif inB x_4.1 (List.length (af x_4.2.1.2 (x_4.2.1.1.getD (Int.toNat (↑x.2.2.2.1.length:Int)) 0))) then bif Nat.ble (Nat.succ x_4.1.toNat) (List.length (af x_4.2.1.2 (x_4.2.1.1.getD (Int.toNat (↑x.2.2.2.1.length:Int)) 0))) then aa (dU (List.getD (af x_4.2.1.2 (x_3.2.1.1.getD x_3.1.toNat 0)) x_4.1.toNat 0) (List.getD (af x_2.2.1.2 (x_2.2.1.1.getD (Int.toNat (↑x.2.2.2.1.length:Int)) (0 : Nat))) x.1.toNat 0) (List.getD (af x_3.2.1.2 (x_3.2.1.1.getD x_3.1.toNat 0)) x.1.toNat 0) (List.getD (af x_4.2.1.2 (x_4.2.1.1.getD (Int.toNat (↑x.2.2.2.1.length:Int)) 0)) x_4.1.toNat 0) x_2.2.2.1) fun (t:Int)=>bif inB x_4.1 (List.length (af x_4.2.1.2 (x_3.2.1.1.getD x_3.1.toNat 0))) then bif Nat.ble (Nat.succ x_4.1.toNat) (List.length (af x_4.2.1.2 (x_3.2.1.1.getD x_3.1.toNat 0))) then again (IntKind.wrap .i64 (x_4.1+1),(x_4.2.1.1,x_4.2.1.2.set (x_3.2.1.1.getD x_3.1.toNat 0) (some (List.set (af x_4.2.1.2 (x_3.2.1.1.getD x_3.1.toNat 0)) x_4.1.toNat t))),PUnit.unit) else none else none else none else none else none else none else none else none else again_3 (v29,x_4.2.1,PUnit.unit)) (0,v30) else none else none else none else none else none else bif c7 (List.length x_2.2.2.2.1+1) 8 then again (v9,x_3.2.1,List.getD (af x_2.2.1.2 (x_2.2.1.1.getD (Int.toNat (↑x.2.2.2.1.length:Int)) 0)) x.1.toNat 0,x_2.2.2.2.1++[x.1],x_2.2.2.2.2.1,x_2.2.2.2.2.2.1,PUnit.unit) else none) (0,x_2.2.1,PUnit.unit) else none else none else none else none) (x_1.1,v10) else none else none) ((-1),(↑x.2.2.2.1.length:Int), PUnit.unit) else bif List.all x.2.1.1 fun (x_1:Nat)=>dL x.2.1.2 x_1 then some (List.map (fun (x_1:Nat)=>af x.2.1.2 x_1) x.2.1.1,x.2.2.1, x.2.2.2.1,x.2.2.2.2.1,x.2.2.2.2.2.1) else none) (0,x.2.1,x.2.2.1,x.2.2.2.1,x.2.2.2.2.1,v6)) (0,([], []),1,[],[],false,PUnit.unit)
def ct (x0:List (List Int)) (x1:Int):Option ((List (List Int))×Int×(List Int)×(List Int)×Bool):=iJ lpK jnK dU ay x0 x1
abbrev O7:=(List (List Int))->(Int)->Option ((List (List Int))×Int×(List Int)×(List Int)×Bool)
def Qm (ct:O7):Ctr:=⟨[(.sl (.sl i64)),i64],[],[],.one TL,fun x _ _=>ct x.1 x.2.1⟩
def Jq:Ctr:=Qm ct
theorem SX (lp:Lp) (jn:Jn) (dU:PO) (ay:BO):∀(x:TsS Jq.as) (F:TsF Jq.fs) (y:TsS Jq.cs),iJ lp jn dU ay x.1 x.2.1=cb lp jn (cx [(172,Rm dU)] [(134,LG ay)]) al 4 135 f135 Jq x F y:=fun x F y=>by kernel_rfl
theorem QA:Jq.ok prog 135:=Ctr.of_den (ap (ah (b7) (by kernel_rfl) Qf)) aX (hl:=al) (d:=4) func135 rfl (by decide) (SX lpK jnK dU ay)
def lP (lp:Lp) (_:Jn) (cG:HP) (bL:J2) (eo:Q7) (ct:O7) (ay:BO) (x0:List (List Int)) (x1:List Int):Option ((List (Int×Int))×Int×Unit) :=
 aa (eo x0) fun (t:Bool)=>bif !t then some ([],1,PUnit.unit) else bif !decide ((↑x1.length:Int)=(↑x0.length:Int)) then some ([],3, PUnit.unit) else aa (bL x1 67108864) fun (t:Bool)=>bif !t then some ([],2,PUnit.unit) else bif inB 0 x0.length then lp ((List Nat × List (Option (List Int)))×Int×PUnit) (List (Int×Int)×Int×PUnit) (fun (again:(List Nat×List (Option (List Int)))×Int×PUnit->Option (List (Int×Int)×Int×PUnit)) (x : (List Nat×List (Option (List Int)))×Int×PUnit)=>bif decide (x.2.1<(↑x0.length:Int)) then bif inB x.2.1 x0.length then aa (ay (x0.getD x.2.1.toNat [])) fun (t:List Int)=>bif inB x.2.1 x1.length then bif c7 (List.length t+1) 8 then bif c7 (List.length x.1.1+1) 24 then again ((x.1.1++[List.length x.1.2+0],x.1.2++[some (t++[x1.getD x.2.1.toNat 0])]),IntKind.wrap IntKind.i64 (x.2.1+1),PUnit.unit) else none else none else none else none else aa (bif List.all x.1.1 fun (x_1:Nat)=>dL x.1.2 x_1 then ct (List.map (fun (x_1:Nat)=>af x.1.2 x_1) x.1.1) (↑(List.length (x0.getD 0 [])):Int) else none) fun (t:List (List Int)×Int×List Int×List Int×Bool) =>
 let v9:List (List Int):=List.drop (Int.toNat (↑t.2.2.1.length:Int)) (List.take (Int.toNat (↑t.1.length:Int)) t.1);bif slB (↑t.2.2.1.length : Int) (↑t.1.length:Int) t.1.length then lp (Int×PUnit) (List (Int×Int)×Int×PUnit) (fun (again:Int×PUnit->Option (List (Int×Int)×Int×PUnit)) (x : Int×PUnit)=>bif decide (x.1<(↑v9.length:Int)) then bif inB x.1 v9.length then bif inB (↑(List.length (x0.getD 0 [])):Int) (List.length (v9.getD x.1.toNat [])) then bif !decide (List.getD (v9.getD x.1.toNat []) (Int.toNat (↑(List.length (x0.getD 0 [])):Int)) 0=(0 : Int)) then some ([],22,PUnit.unit) else again (IntKind.wrap .i64 (x.1+1),PUnit.unit) else none else none else bif decide ((↑t.2.2.1.length : Int)<(↑(List.length (x0.getD 0 [])):Int)) then some ([],21,PUnit.unit) else lp (List (Int×Int)×Int×PUnit) (List (Int×Int)×Int×PUnit) (fun (again : List (Int×Int)×Int×PUnit->Option (List (Int×Int)×Int×PUnit)) (x:List (Int×Int)×Int×PUnit) =>
 let v14:List Int:=t.1.getD x.2.1.toNat [];bif decide (x.2.1<(↑(List.length (x0.getD 0 [])):Int)) then bif inB x.2.1 t.1.length then bif inB (↑(List.length (x0.getD 0 [])):Int) v14.length then aa (cG (v14.getD (Int.toNat (↑(List.length (x0.getD 0 [])):Int)) (0 : Int)) t.2.1) fun (t:(Int×Int)×Int×PUnit)=>bif !decide (t.2.1=0) then some ([],t.2.1,PUnit.unit) else bif c7 (List.length x.1+1) (16 : Nat) then again (x.1++[t.1],IntKind.wrap .i64 (x.2.1+1),PUnit.unit) else none else none else none else some (x.1,0,PUnit.unit)) ([],0, PUnit.unit)) (0,PUnit.unit) else none) (([],[]),0,PUnit.unit) else none
def cS (x0:List (List Int)) (x1:List Int):Option ((List (Int×Int))×Int×Unit):=lP lpK jnK cG bL eo ct ay x0 x1
abbrev t89:=(List (List Int))->(List Int)->Option ((List (Int×Int))×Int×Unit)
def k89 (cS:t89):Ctr:=⟨[(.sl (.sl i64)),(.sl i64)],[],[],.tup [(.sl T49),i64],fun x _ _=>cS x.1 x.2.1⟩
def c89:Ctr:=k89 cS
theorem e89 (lp:Lp) (jn:Jn) (cG:HP) (bL:J2) (eo:Q7) (ct:O7) (ay:BO):∀(x:TsS c89.as) (F:TsF c89.fs) (y:TsS c89.cs),lP lp jn cG bL eo ct ay x.1 x.2.1=cb lp jn (cx [(135,Qm ct),(132,⟨[(.sl (.sl i64))],[],[],.one .bool,fun x _ _=>eo x.1⟩),(133,Pw bL),(136,Ot cG)] [(134,LG ay)]) al 4 89 f89 c89 x F y:=fun x F y=>by kernel_rfl
theorem Sw:c89.ok prog 89:=Ctr.of_den (ap (ah (ah (ah (ah (b7) (by kernel_rfl) NP) (by kernel_rfl) NN) (by kernel_rfl) Qh) (by kernel_rfl) QA)) aX (hl:=al) (d:=4) func89 rfl (by decide) (e89 lpK jnK cG bL eo ct ay)
def gp (_:Lp) (_:Jn) (a6:t87) (bh:t88) (cS:t89) (x0:(List (ByteArray×Int))×List (ByteArray×(List (ByteArray×Int×Int×Int))×Bool)):Option ((List (Int×Int))×Int×Unit) :=
 aa (a6 x0) fun (t:List (List Int)×Int×PUnit)=>bif !decide (t.2.1=0) then some ([],t.2.1,PUnit.unit) else aa (bh x0) fun (t_1 : List Int×Int×PUnit)=>bif !decide (t_1.2.1=0) then some ([],t_1.2.1,PUnit.unit) else aa (cS t.1 t_1.1) fun (t:List (Int×Int)×Int×PUnit) =>some (t.1,t.2.1,PUnit.unit)
def ca (x0:(List (ByteArray×Int))×List (ByteArray×(List (ByteArray×Int×Int×Int))×Bool)):Option ((List (Int×Int))×Int×Unit):=gp lpK jnK a6 bh cS x0
abbrev t41:=((List (ByteArray×Int))×List (ByteArray×(List (ByteArray×Int×Int×Int))×Bool))->Option ((List (Int×Int))×Int×Unit)
def c41:Ctr:=⟨[T25],[],[],.tup [(.sl T49),i64],fun x _ _=>ca x.1⟩
theorem e41 (lp:Lp) (jn:Jn) (a6:t87) (bh:t88) (cS:t89):∀(x:TsS c41.as) (F:TsF c41.fs) (y:TsS c41.cs),gp lp jn a6 bh cS x.1=cb lp jn (cx [(89,k89 cS),(88,k88 bh),(87,k87 a6)] [(134,bJ)]) al 4 41 f41 c41 x F y:=fun x F y=>by kernel_rfl
theorem TO:c41.ok prog 41:=Ctr.of_den (ap (ah (ah (ah (b7) (by kernel_rfl) Qo) (by kernel_rfl) Q8) (by kernel_rfl) Sw)) aX (hl:=al) (d:=4) func41 rfl (by decide) (e41 lpK jnK a6 bh cS)
def jk (lp:Lp) (_:Jn) (x0:List (Int×Int)) (x1:List (Int×Int)):Option Bool :=
 bif !decide ((↑x0.length:Int)=(↑x1.length:Int)) then some false else lp (Int×PUnit) Bool (fun (again:Int×PUnit->Option Bool) (x:Int×PUnit)=>bif decide (x.1<(↑x0.length:Int)) then bif inB x.1 x0.length then bif inB x.1 x1.length then bif !(decide ((x0.getD x.1.toNat (0,(0 : Int))).1=(x1.getD x.1.toNat (0,0)).1)&&(decide ((x0.getD x.1.toNat (0,0)).2=(x1.getD x.1.toNat ((0 : Int),0)).2)&&true)) then some false else again (IntKind.wrap .i64 (x.1+1),PUnit.unit) else none else none else some true) (0,PUnit.unit)
def cB (x0:List (Int×Int)) (x1:List (Int×Int)):Option Bool:=jk lpK jnK x0 x1
abbrev t42:=(List (Int×Int))->(List (Int×Int))->Option (Bool)
def k42 (cB:t42):Ctr:=⟨[(.sl T49),(.sl T49)],[],[],.one .bool,fun x _ _=>cB x.1 x.2.1⟩
def c42:Ctr:=k42 cB
theorem e42 (lp:Lp) (jn:Jn):∀(x:TsS c42.as) (F:TsF c42.fs) (y:TsS c42.cs),jk lp jn x.1 x.2.1=cb lp jn (cx [] [(134,bJ)]) al 4 42 f42 c42 x F y:=fun x F y=>by kernel_rfl
theorem Tg:c42.ok prog 42:=Ctr.of_den (ap (b7)) aX (hl:=al) (d:=4) func42 rfl (by decide) (e42 lpK jnK)
def jl (lp:Lp) (jn:Jn) (aN:t19) (bv:t20) (aW:t21) (aP:t9) (bi:t10) (aO:t29) (bF:t38) (ca:t41) (cB:t42) (x0:(List (ByteArray×Int))×List (ByteArray×(List (ByteArray×Int×Int×Int))×Bool)):Option Bool :=
 aa aP fun (t:Bool)=>bif !t then some false else aa (bi x0 []) fun (t:Bool)=>bif !t then some true else aa (ca x0) fun (t:List (Int×Int) × Int×PUnit)=>bif !decide (t.2.1=0) then some true else aa (aN x0) fun (t_1:List (Int×Int)×Int×PUnit) =>
 let v7:Bool:=decide (t_1.2.1=5);
 let v8:Bool:=decide (t_1.2.1=22);
 let v9:Bool:=decide (t_1.2.1=0);
 let v10:Bool:=!v7;
 let v11:Bool:=!v8||v8;
 let v12:Bool:=!v9||v9;aa (aW x0) fun (t_2:List ByteArray×Int×PUnit) =>
 let v14:Bool:=decide (t_2.2.1=0);
 let v15:Bool:=bif v8 then decide (t_2.2.1=22) else false;
 let v16:Bool:=!v15||v15;bif !v10||v10 then bif v7||v10 then bif bif v7 then true else decide (t_2.2.1=5) then some true else aa (bF t.1) fun (t_3 : Bool)=>bif !t_3 then bif v11 then bif v11 then bif v16 then bif v16 then bif v16 then some (bif v15 then decide ((↑t_1.1.length:Int)=0) else false) else none else none else none else none else none else lp (List ByteArray×Int×PUnit) Bool (fun (again:List ByteArray×Int×PUnit->Option Bool) (x:List ByteArray×Int×PUnit) =>
 let v20:Bool:=inB x.2.1 t.1.length;
 let v21:Int×Int:=t.1.getD x.2.1.toNat (0,0);bif decide (x.2.1<(↑x0.2.length:Int)) then bif inB x.2.1 x0.2.length then bif v20 then jn (List ByteArray×PUnit) Bool (fun (x_1:List ByteArray×PUnit)=>aa (bv x0 (x0.2.getD x.2.1.toNat ({ data:={ toList:=[] } }, [],false)).1) fun (t:(Int×Int)×Int×PUnit) =>
 let v24:Bool:=decide (t.2.1=0);
 let v25:Bool:=!v24;
 let v26:Bool:=!v25||v25;
 let v27:Bool:=bif v25 then !decide (t.2.1=5) else false;
 let v28:Bool:=!v27;
 let v29:Bool:=!v28;
 let v30:Bool:=v28&&v24;
 let v31:Bool:=!v30;
 let v32:Bool:=v29||v28;
 let v33:Bool:=v31||v30;bif v26 then bif v26 then bif v32 then bif v32 then bif v33&&(v33&&(v31||v20)) then bif v33 then bif v33&&v33 then bif (v29||v32)&&(v29||(v25 || (v29||v30))) then bif v27||v28 then bif bif v27 then true else bif v24 then !(decide (t.1.1=v21.1)&&(decide (t.1.2=v21.2)&&true)) else false then some false else again (x_1.1,IntKind.wrap .i64 (x.2.1+1),PUnit.unit) else none else none else none else none else none else none else none else none else none) fun (j : List ByteArray×PUnit->Option Bool)=>bif decide (v21.1=0) then bif c7 (List.length x.1+1) 16 then j (x.1++[(x0.2.getD x.2.1.toNat ({ data:={ toList:=[] } },[],false)).1],PUnit.unit) else none else j (x.1,PUnit.unit) else none else none else bif v12&&v12 then aa (bif v9 then cB t_1.1 t.1 else some false) fun (t:Bool) =>
 let v23:Bool:=bif v9 then t else false;
 let v24:Bool:=bif v23 then v14 else false;
 let v25:Bool:=!v23||v23;
 let v26:Bool:=!v24||v24;bif v12 then bif v25 then bif v25 then bif v26&&v26 then aa (bif v24 then aO t_2.1 x.1 else some false) fun (t:Bool)=>bif v26 then some (bif v24 then t else false) else none else none else none else none else none else none) ([],0,PUnit.unit) else none else none
def kB (x0:(List (ByteArray×Int))×List (ByteArray×(List (ByteArray×Int×Int×Int))×Bool)):Option Bool:=jl lpK jnK aN bv aW aP bi aO bF ca cB x0
def c8:Ctr:=⟨[T25],[],[],.one .bool,fun x _ _=>kB x.1⟩
theorem e8 (lp:Lp) (jn:Jn) (aN:t19) (bv:t20) (aW:t21) (aP:t9) (bi:t10) (aO:t29) (bF:t38) (ca:t41) (cB:t42):∀(x:TsS c8.as) (F:TsF c8.fs) (y:TsS c8.cs),jl lp jn aN bv aW aP bi aO bF ca cB x.1=cb lp jn (cx [(42,k42 cB),(41,⟨[T25],[],[],.tup [(.sl T49),i64],fun x _ _=>ca x.1⟩),(38,k38 bF),(29,k29 aO),(10,k10 bi),(9,k9 aP),(21,k21 aW),(20,k20 bv),(19,k19 aN)] [(134,bJ)]) al 4 8 f8 c8 x F y:=fun x F y=>by kernel_rfl
theorem ok8:c8.ok prog 8:=Ctr.of_den (ap (ah (ah (ah (ah (ah (ah (ah (ah (ah (b7) (by kernel_rfl) Ql) (by kernel_rfl) P5) (by kernel_rfl) Qe) (by kernel_rfl) ok9) (by kernel_rfl) TY) (by kernel_rfl) Sk) (by kernel_rfl) S2) (by kernel_rfl) TO) (by kernel_rfl) Tg)) aX (hl:=al) (d:=4) func8 rfl (by decide) (e8 lpK jnK aN bv aW aP bi aO bF ca cB)
end
end Go.Proofs.YtfknoaclabfdlaaGreat

namespace Go.Proofs.YtfknoaclabfdlaaGreat
namespace Dn
section
variable {T R α σ:Type}
theorem ai {t:T} {k:T->Option R}:aa (some t) k=k t:=rfl
theorem BE {F:(α->Option R)->α->Option R} {g:α->Option R} (I:α->Prop) (μ:α->Nat)
  (h:∀x rec,I x->(∀y,I y->μ y<μ x->rec y=g y)->F rec x=g x):∀{n:Nat} {x:α},I x->μ x<n->iY F n x=g x
 | 0,x,_,hn=>by omega
 | n+1,x,hx,hn=>by
  rw[gb]
  exact h x _ hx fun y hy hlt=>BE I μ h hy (by omega)
theorem rH {F:(α->Option R)->α->Option R} {g:α->Option R} (I:α->Prop) (μ:α->Nat)
  (h:∀x rec,I x->(∀y,I y->μ y<μ x->rec y=g y)->F rec x=g x) {x:α} (hx:I x) (hn:μ x<1180591620717411303424):lpK α R F x=g x:=BE I μ h hx hn
theorem pN {j:α->Option R} {f:(α->Option R)->Option R}:jnK α R j f=f j:=rfl
theorem a7 {x:Int} (h1: -9223372036854775808<=x) (h2:x<9223372036854775808):IntKind.wrap .i64 x=x:=by
 rw[IntKind.wrap_i64];omega
def upF (b:Nat->σ->(σ->Option R)->Option R) (f:σ->Option R):Nat->Nat->σ->Option R
 | 0,_,s=>f s
 | k+1,i,s=>b i s (upF b f k (i+1))
theorem J1 {F:(α->Option R)->α->Option R} (n:Nat) (hn:n<=1180591620717411303423) (enc:Nat->σ->α) (b:Nat->σ->(σ->Option R)->Option R) (f:σ->Option R)
  (hb:∀again (i:Nat) s,i<n->F again (enc i s)=b i s (fun s'=>again (enc (i+1) s'))) (hf:∀again s,F again (enc n s)=f s) (s:σ) :
  iY F K0 (enc 0 s)=upF b f n 0 s:=by
 have key:∀(k:Nat) (i:Nat) (m:Nat) (s:σ),i+k=n->k<m->iY F m (enc i s)=upF b f k i s:=by
  intro k
  induction k with
  | zero =>
   intro i m s h1 h2
   obtain ⟨m,rfl⟩:∃m',m=m'+1:=⟨m - 1,by omega⟩
   have:i=n:=by omega
   subst this
   simp only[gb,hf,upF]
  | succ k ih =>
   intro i m s h1 h2
   obtain ⟨m,rfl⟩:∃m',m=m'+1:=⟨m - 1,by omega⟩
   simp only[gb,upF]
   rw[hb _ _ _ (by omega)]
   congr 1
   funext s'
   exact ih (i+1) m s' (by omega) (by omega)
 exact key n 0 K0 s (by omega) (by unfold K0;omega)
theorem aR {i n:Nat}:inB (i:Int) n=decide (i<n):=by
 rw[Bool.eq_iff_iff,jf,decide_eq_true_iff];omega
theorem tz {i:Int} {n:Nat} (h1:0<=i) (h2:i<n):inB i n=true:=jf.2 ⟨h1,h2⟩
theorem sK {n:Int} (h:n≠0):nzB n=true:=zG.2 h
theorem CC {lo hi:Int} {n:Nat} (h1:0<=lo) (h2:lo<=hi) (h3:hi<=n):slB lo hi n=true:=pS.2 ⟨h1,h2,h3⟩
theorem dV {n k:Nat} (h:n*k<=140737488355328):c7 n k=true:=kp.2 h
theorem cf {n m:Nat} (h:n<=m):Nat.ble n m=true:=by rw[Nat.ble_eq];exact h
theorem cT0 {α:Sort _} {c:Bool} (h:c=true) (a b:α):cond c a b=a:=by subst h;rfl
theorem cT {α:Sort _} (a b:α):cond true a b=a:=cT0 (Eq.trans rfl rfl) a b
theorem cF0 {α:Sort _} {c:Bool} (h:c=false) (a b:α):cond c a b=b:=by subst h;rfl
theorem cF {α:Sort _} (a b:α):cond false a b=b:=cF0 (Eq.trans rfl rfl) a b
theorem iU {b:Bool}:(b||!b)=true:=by cases b<;>rfl
theorem be {b:Bool}:(!b||b)=true:=by cases b<;>rfl
theorem jO {b:Bool} {c:Bool}:(bif b then c else false)=(b&&c):=by cases b<;>rfl
theorem FY {b:Bool} {c:Bool}:(bif b then true else c)=(b||c):=by cases b<;>rfl
theorem Lu {a b:Int}:(if b>a then b else a)=max a b:=by omega
theorem bN {l:List α} {d:α} {i:Nat} (h:i<l.length):l.getD i d=l[i]:=by simp[List.getD,h]
end
end Dn
end Go.Proofs.YtfknoaclabfdlaaGreat

namespace Go.Proofs.YtfknoaclabfdlaaGreat
noncomputable section
open Tryz Dn Dn.Sh
theorem pF (a b:ByteArray):List.beq (ByteArray.toList a) (ByteArray.toList b)=decide (a=b):=by
 show (a.toList ==b.toList)=_
 rw[ByteArray.toList_eq,ByteArray.toList_eq,Bool.eq_iff_iff,decide_eq_true_iff,beq_iff_eq]
 exact ⟨fun h=>ByteArray.ext (Array.toList_inj.mp h),fun h=>by rw[h]⟩
theorem J5 {α R:Type} {F:(α->Option R)->α->Option R} (I:α->Prop) (μ:α->Nat) (h:∀x rec,I x->(∀y,I y->μ y<μ x->(rec y).isSome=true)->(F rec x).isSome=true) {x:α} (hx:I x) (hn:μ x<1180591620717411303424):(lpK α R F x).isSome=true:=by
 have key:∀n x,I x->μ x<n->(iY F n x).isSome=true:=by
  intro n
  induction n with
  | zero=>intro x _ h;omega
  | succ n ih =>
   intro x hx hn
   rw[gb]
   exact h x _ hx fun y hy hlt=>ih y hy (by omega)
 exact key _ x hx hn
theorem ua (c:Int):∃b,bo c=some b:=by
 simp only[bo,jC,be,iU,cond_true]
 cases decide (c>=97)<;>cases decide (c<=122)<;>cases decide (c>=65)<;>exact ⟨_,rfl⟩
theorem DU (c:Int):∃b,dI c=some b:=by
 simp only[dI,ky,be,cond_true]
 exact ⟨_,rfl⟩
theorem FP {s:ByteArray} (h:s.size<=1000000):∃n,dM s=some n:=by
 rw[<-Option.isSome_iff_exists]
 simp only[dM,l7]
 refine J5 (I:=fun (x:Int×PUnit)=>0<=x.1/\x.1<=s.size) (μ:=fun (x:Int×PUnit)=>((s.size:Int) - x.1).toNat) (x:=((0:Int),PUnit.unit)) ?_ ⟨Int.le_refl _,by simp only;omega⟩ (by simp only;omega)
 rintro ⟨i,_⟩ rec ⟨h0,h1⟩ hrec
 simp only at h0 h1 ⊢
 by_cases hi:i<s.size
 ·rw[tz h0 hi,z7 hi]
  obtain ⟨b,hb⟩:=ua (eU s i.toNat)
  obtain ⟨c,hc⟩:=DU (eU s i.toNat)
  have hw:IntKind.wrap .i64 (i+1)=i+1:=a7 (by omega) (by omega)
  have hr:=hrec (i+1,PUnit.unit) ⟨by simp only;omega,by simp only;omega⟩ (by simp only;omega)
  simp only[hb,hc,hw]
  cases b<;>cases c<;>cases decide (eU s i.toNat=95)<;>simp[ai,hr]
 ·rw[z8 hi]
  simp[ai]
def xt (s:ByteArray):Bool:=decide (0<s.size)&&(decide (s.size<=20)&&((bo (eU s 0)).getD false&&decide ((dM s).getD 0=(s.size:Int))))
theorem yc (s:ByteArray):s={ data:=#[] }↔s.size=0:=by
 constructor
 ·intro h;rw[h];rfl
 ·intro h
  apply ByteArray.ext
  exact Array.eq_empty_of_size_eq_zero h
theorem Gu (s:ByteArray):cU s=some (xt s):=by
 simp only[cU,j7,pF,be,Bool.and_self,cond_true]
 unfold xt
 by_cases h0:s.size=0
 ·have e:decide (s={ data:=#[] })=true:=z7 ((yc s).2 h0)
  simp[e,h0,ai]
 ·have e:decide (s={ data:=#[] })=false:=z8 fun h=>h0 ((yc s).1 h)
  by_cases h1:s.size<=20
  ·obtain ⟨b,hb⟩:=ua (eU s 0)
   obtain ⟨n,hn⟩:=FP (s:=s) (by omega)
   have h2:decide ((s.size:Int)<=20)=true:=z7 (by omega)
   rw[tz (show (0:Int)<=0 by omega) (show (0:Int)<s.size by omega)]
   simp only[e,h2,hb,hn]
   cases b<;>simp[ai,h1,show 0<s.size by omega]
  ·have h2:decide ((s.size:Int)<=20)=false:=z8 (by omega)
   simp[e,h2,h1,ai]
end
end Go.Proofs.YtfknoaclabfdlaaGreat

namespace Go.Proofs.YtfknoaclabfdlaaGreat
namespace Dn
abbrev Fq:=Int×Int
def okF (a:Fq):Prop:=(1<=a.2/\a.2<=1152921504606846976)/\(-1152921504606846976<=a.1/\a.1<=1152921504606846976)/\Nat.gcd a.1.natAbs a.2.natAbs=1
instance (a:Fq):Decidable (okF a):=by unfold okF;infer_instance
def qv (a:Fq):Rat:=mkRat a.1 a.2.toNat
def io (q:Rat):Prop:=q.num.natAbs<=1152921504606846976/\q.den<=1152921504606846976
instance (q:Rat):Decidable (io q):=by unfold io;infer_instance
def prQ (q:Rat):Fq:=(q.num,(q.den:Int))
def zo (q:Rat):Fq×Int×Unit:=if io q then (prQ q,0,()) else ((0,0),5,())
theorem yD {a:Fq} (h:okF a):(qv a).num=a.1:=by
 obtain ⟨⟨h1,h2⟩,_,h3⟩:=h
 have h0:a.2.toNat≠0:=by omega
 have h4:Nat.gcd a.2.toNat a.1.natAbs=1:=by rw[Nat.gcd_comm,show a.2.toNat=a.2.natAbs by omega];exact h3
 rw[qv,Rat.num_mkRat,if_neg h0,h4]
 simp
theorem LJ {a:Fq} (h:okF a):((qv a).den:Int)=a.2:=by
 obtain ⟨⟨h1,h2⟩,_,h3⟩:=h
 have h0:a.2.toNat≠0:=by omega
 have h4:Nat.gcd a.2.toNat a.1.natAbs=1:=by rw[Nat.gcd_comm,show a.2.toNat=a.2.natAbs by omega];exact h3
 rw[qv,Rat.den_mkRat,if_neg h0,h4]
 simp;omega
theorem Dv {a:Fq} (h:okF a):prQ (qv a)=a:=by
 unfold prQ
 rw[yD h,LJ h]
theorem CH (q:Rat):qv (prQ q)=q:=by
 unfold qv prQ
 simp only[z9]
 exact Rat.mkRat_self q
theorem EG {q:Rat} (h:io q):okF (prQ q):=by
 obtain ⟨h1,h2⟩:=h
 have:=q.den_pos
 refine ⟨⟨?_,?_⟩,⟨?_,?_⟩,?_⟩
 ·simp only[prQ];omega
 ·simp only[prQ];omega
 ·simp only[prQ];omega
 ·simp only[prQ];omega
 ·simp only[prQ]
  rw[Int.natAbs_natCast]
  exact q.reduced
theorem OG {a b:Fq} (ha:okF a) (hb:okF b) (h:qv a=qv b):a=b:=by
 rw[<-Dv ha,<-Dv hb,h]
theorem wK (q:Rat):(io q/\zo q=(prQ q,0,()))\/(¬ io q/\zo q=((0,0),5,())):=by
 unfold zo
 by_cases h:io q
 ·exact .inl ⟨h,by rw[if_pos h]⟩
 ·exact .inr ⟨h,by rw[if_neg h]⟩
theorem vO {a:Fq} (h:okF a):0<=qv a↔0<=a.1:=by rw[<-Rat.num_nonneg,yD h]
theorem IJ {a:Fq} (h:okF a):qv a=0↔a.1=0:=by rw[<-Rat.num_eq_zero,yD h]
def sgn (s:Bool) (n:Nat):Int:=if s then -(n:Int) else n
theorem Fs {s:Bool} {n d:Nat} (hd:0<d) (hc:Nat.gcd n d=1):(mkRat (sgn s n) d).num=sgn s n/\(mkRat (sgn s n) d).den=d:=by
 have h0:d≠0:=by omega
 have ha:(sgn s n).natAbs=n:=by unfold sgn;split<;>simp
 have hg:Nat.gcd d (sgn s n).natAbs=1:=by rw[ha,Nat.gcd_comm];exact hc
 rw[Rat.num_mkRat,Rat.den_mkRat,if_neg h0,if_neg h0,hg]
 simp
theorem Ew {s:Bool} {n d:Nat} (hd:0<d):mkRat (sgn s n) d=mkRat (sgn s (n / Nat.gcd n d)) (d / Nat.gcd n d)/\0<d / Nat.gcd n d/\Nat.gcd (n / Nat.gcd n d) (d / Nat.gcd n d)=1:=by
 have hg:0<Nat.gcd n d:=Nat.gcd_pos_of_pos_right _ hd
 have h1:n / Nat.gcd n d*Nat.gcd n d=n:=Nat.div_mul_cancel (Nat.gcd_dvd_left n d)
 have h2:d / Nat.gcd n d*Nat.gcd n d=d:=Nat.div_mul_cancel (Nat.gcd_dvd_right n d)
 refine ⟨?_,Nat.div_pos (Nat.le_of_dvd hd (Nat.gcd_dvd_right n d)) hg,Nat.gcd_div_gcd_div_gcd_of_pos_right hd⟩
 have h3:sgn s n=sgn s (n / Nat.gcd n d)*(Nat.gcd n d:Int):=by
  unfold sgn
  split
  ·rw[Int.neg_mul,<-Int.natCast_mul,h1]
  ·rw[<-Int.natCast_mul,h1]
 have h4:mkRat (sgn s n) d=mkRat (sgn s (n / Nat.gcd n d)*(Nat.gcd n d:Int)) (d / Nat.gcd n d*Nat.gcd n d):=by rw[<-h3,h2]
 rw[h4]
 exact Rat.mkRat_mul_right (by omega)
theorem Lz {s:Bool} {n d:Nat} (hd:0<d) (hc:Nat.gcd n d=1):zo (mkRat (sgn s n) d)=if n<=1152921504606846976/\d<=1152921504606846976 then ((sgn s n,(d:Int)),0,()) else ((0,0),5,()):=by
 obtain ⟨h1,h2⟩:=Fs (s:=s) hd hc
 have ha:(sgn s n).natAbs=n:=by unfold sgn;split<;>simp
 unfold zo
 have e:io (mkRat (sgn s n) d)↔n<=1152921504606846976/\d<=1152921504606846976:=by unfold io;rw[h1,h2,ha]
 have e2:prQ (mkRat (sgn s n) d)=(sgn s n,(d:Int)):=by unfold prQ;rw[h1,h2]
 rw[e2]
 by_cases h:n<=1152921504606846976/\d<=1152921504606846976
 ·rw[if_pos h,if_pos (e.2 h)]
 ·rw[if_neg h,if_neg (fun hh=>h (e.1 hh))]
theorem JG (s t:Bool):sgn s 0=sgn t 0:=by unfold sgn;cases s<;>cases t<;>rfl
end Dn
end Go.Proofs.YtfknoaclabfdlaaGreat

namespace Go.Proofs.YtfknoaclabfdlaaGreat
open Tryz Dn Dn.Sh
theorem b6 {x:Int} (h1:0<=x) (h2:x<18446744073709551616):IntKind.wrap .u64 x=x:=by
 rw[IntKind.wrap_u64];omega
theorem uD {x:Int} (h1: -9223372036854775808<=x) (h2:x<9223372036854775808):aH x=some (x.natAbs:Int):=by
 simp only[aH,nU]
 by_cases h:x<0
 ·simp only[h,decide_true,cond_true]
  rw[IntKind.wrap_u64,IntKind.wrap_u64]
  congr 1;omega
 ·simp only[h,decide_false,cond_false]
  rw[b6 (by omega) (by omega)]
  congr 1;omega
theorem Ho (m n:Nat) (hn:n<18446744073709551616):bm (m:Int) (n:Int)=some ((Nat.gcd m n:Nat):Int):=by
 simp only[bm,oA]
 refine rH (g:=fun x=>some ((Nat.gcd x.1.toNat x.2.1.toNat:Nat):Int)) (I:=fun (x:Int×Int×PUnit)=>0<=x.1/\0<=x.2.1) (μ:=fun (x:Int×Int×PUnit)=>x.2.1.toNat) (x:=((m:Int),(n:Int),PUnit.unit)) ?_ ⟨Int.natCast_nonneg _,Int.natCast_nonneg _⟩ (by simp only;omega)
 rintro ⟨a,b,_⟩ rec ⟨h1,h2⟩ hrec
 simp only at h1 h2 ⊢
 by_cases hb:b=0
 ·subst hb
  simp only[decide_true,Bool.not_true,cond_false,Int.toNat_zero,Nat.gcd_zero_right]
  congr 1;omega
 ·rw[z8 hb,sK hb,Int.tmod_eq_emod_of_nonneg h1]
  simp only[Bool.not_false,cT]
  have h3:0<=a % b:=Int.emod_nonneg _ hb
  have h4:a % b<b:=Int.emod_lt_of_pos _ (by omega)
  rw[hrec _ ⟨by simp only;omega,by simp only;omega⟩ (by simp only;omega)]
  simp only
  congr 2
  rw[Int.toNat_emod h1 h2,Nat.gcd_comm a.toNat,Nat.gcd_rec b.toNat a.toNat,Nat.gcd_comm]
theorem FSs (s:Bool) (n d:Nat) (h1:n<18446744073709551616) (h2:d<18446744073709551616) :
  bf s (n:Int) (d:Int)=some (if n<=1152921504606846976/\d<=1152921504606846976 then ((sgn s n,(d:Int)),0,()) else ((0,0),5,())):=by
 simp only[bf,lv,be,iU,cond_true]
 by_cases hn:n<=1152921504606846976
 ·by_cases hd:d<=1152921504606846976
  ·have e1:decide ((n:Int)>1152921504606846976)=false:=z8 (by omega)
   have e2:decide ((d:Int)>1152921504606846976)=false:=z8 (by omega)
   rw[a7 (x:=(n:Int)) (by omega) (by omega),a7 (x:=(d:Int)) (by omega) (by omega),a7 (x:=0 - (n:Int)) (by omega) (by omega)]
   simp only[e1,e2,cond_false,hn,hd,and_self,if_true]
   cases s<;>simp[sgn]
  ·have e2:decide ((d:Int)>1152921504606846976)=true:=z7 (by omega)
   simp only[e2,FY,Bool.or_true,cond_true,hd,and_false,if_false]
 ·have e1:decide ((n:Int)>1152921504606846976)=true:=z7 (by omega)
  simp only[e1,cond_true,hn,false_and,if_false]
def Eh (n d:Int):Rat:=mkRat (sgn (decide (n<0) !=decide (d<0)) n.natAbs) d.natAbs
theorem uF {n d:Int} (hd:d≠0):Eh n d=(n:Rat) / d:=by
 unfold Eh
 rw[<-Rat.divInt_eq_div,show mkRat (sgn (decide (n<0) !=decide (d<0)) n.natAbs) d.natAbs=Rat.divInt (sgn (decide (n<0) !=decide (d<0)) n.natAbs) (d.natAbs:Int) from (Rat.divInt_ofNat _ _).symm]
 rw[Rat.divInt_eq_divInt_iff (by omega) hd]
 unfold sgn
 by_cases h1:n<0<;>by_cases h2:d<0
 ·rw[show ((n.natAbs:Nat):Int)= -n by omega,show ((d.natAbs:Nat):Int)= -d by omega]
  simp[h1,h2,Int.neg_mul,Int.mul_neg]
 ·rw[show ((n.natAbs:Nat):Int)= -n by omega,show ((d.natAbs:Nat):Int)=d by omega]
  simp[h1,h2]
 ·rw[show ((n.natAbs:Nat):Int)=n by omega,show ((d.natAbs:Nat):Int)= -d by omega]
  simp[h1,h2,Int.neg_mul,Int.mul_neg]
 ·rw[show ((n.natAbs:Nat):Int)=n by omega,show ((d.natAbs:Nat):Int)=d by omega]
  simp[h1,h2]
theorem vr (m n:Nat):Int.tdiv (m:Int) (n:Int)=((m / n:Nat):Int):=by
 rw[Int.tdiv_eq_ediv_of_nonneg (by omega)]
 rfl
theorem Er {n d:Int} (h1: -9223372036854775808<=n) (h2:n<9223372036854775808) (h3: -9223372036854775808<=d) (h4:d<9223372036854775808) :
  cG n d=some (if d=0 then ((0,0),16,()) else zo (Eh n d)):=by
 simp only[cG,nt,be,Bool.and_self,cond_true]
 by_cases hd:d=0
 ·simp only[hd,decide_true,cond_true,if_true]
 ·simp only[hd,decide_false,cond_false,if_false]
  rw[uD h1 h2,ai,uD h3 h4,ai,Ho _ _ (by omega),ai]
  have hg:0<Nat.gcd n.natAbs d.natAbs:=Nat.gcd_pos_of_pos_right _ (by omega)
  have a1:n.natAbs / Nat.gcd n.natAbs d.natAbs<=n.natAbs:=Nat.div_le_self _ _
  have a2:d.natAbs / Nat.gcd n.natAbs d.natAbs<=d.natAbs:=Nat.div_le_self _ _
  have hz:nzB ((Nat.gcd n.natAbs d.natAbs:Nat):Int)=true:=sK (by omega)
  obtain ⟨m1,m2,m3⟩:=Ew (s:=decide (n<0) !=decide (d<0)) (n:=n.natAbs) (d:=d.natAbs) (by omega)
  have hs:n=0->n.natAbs / Nat.gcd n.natAbs d.natAbs=0:=fun h=>by subst h;simp
  rw[hz,cond_true,cond_true,vr,vr]
  unfold Eh
  rw[m1]
  generalize n.natAbs / Nat.gcd n.natAbs d.natAbs=p at *
  generalize d.natAbs / Nat.gcd n.natAbs d.natAbs=q at *
  rw[b6 (by omega) (by omega),b6 (by omega) (by omega),FSs _ _ _ (by omega) (by omega),ai,Lz m2 m3]
  have hs:sgn (bif !decide (n=0) then !decide (decide (n<0)=decide (d<0)) else false) p=sgn (decide (n<0) !=decide (d<0)) p:=by
   by_cases h0:n=0
   ·rw[hs h0]
    exact JG _ _
   ·simp only[h0,decide_false,Bool.not_false,cond_true]
    cases decide (n<0)<;>cases decide (d<0)<;>rfl
  rw[hs]
theorem KY {a:Fq}:au a=some (decide (okF a)):=by
 simp only[au,mD,be,Bool.and_self,cond_true,jO]
 unfold okF
 by_cases h1:1<=a.2
 ·by_cases h2:a.2<=1152921504606846976
  ·by_cases h3: -1152921504606846976<=a.1
   ·by_cases h4:a.1<=1152921504606846976
    ·have e:IntKind.wrap .u64 a.2=((a.2.natAbs:Nat):Int):=by rw[b6 (by omega) (by omega)];omega
     simp only[ge_iff_le,h1,h2,h3,h4,decide_true,Bool.and_self,cond_true]
     rw[uD (by omega) (by omega),ai,e,Ho _ _ (by omega),ai]
     congr 1
     rw[Bool.eq_iff_iff]
     simp only[Bool.true_and,decide_eq_true_eq,true_and]
     generalize Nat.gcd a.1.natAbs a.2.natAbs=g
     omega
    ·simp[ai,h4]
   ·simp[ai,h3]
  ·simp[ai,h2]
 ·simp[ai,h1]
theorem yU {x:Int} (h1:0<=x) (h2:x<18446744073709551616):((Nat.land (Int.toNat (x % Int.ofNat 18446744073709551616)) (Int.toNat ((4294967295:Int) % Int.ofNat 18446744073709551616)):Nat):Int)=x % 4294967296:=by
 have e1:x % Int.ofNat 18446744073709551616=x:=Int.emod_eq_of_lt h1 h2
 have e2:Int.toNat ((4294967295:Int) % Int.ofNat 18446744073709551616)=2 ^ 32 - 1:=by decide
 rw[e1,e2]
 have:Nat.land x.toNat (2 ^ 32 - 1)=x.toNat % 2 ^ 32:=Nat.and_two_pow_sub_one_eq_mod x.toNat 32
 rw[this]
 omega
def hl (n:Nat):Int×Int:=(((n / 18446744073709551616:Nat):Int),((n % 18446744073709551616:Nat):Int))
theorem Py {x y:Int} (x0:0<=x) (x1:x<18446744073709551616) (y0:0<=y) (y1:y<18446744073709551616):a5 x y=some (x*y / 18446744073709551616,x*y % 18446744073709551616,()):=by
 have p32:(2:Int) ^ (32:Nat)=4294967296:=by decide
 simp only[a5,nA,p32,show decide ((0:Int)<=32)=true from rfl,cond_true]
 obtain ⟨a,b,ha,hb,hx⟩:∃a b,a=x / 4294967296/\b=x % 4294967296/\x=a*4294967296+b:=⟨_,_,rfl,rfl,by omega⟩
 obtain ⟨c,d,hc,hd,hy⟩:∃c d,c=y / 4294967296/\d=y % 4294967296/\y=c*4294967296+d:=⟨_,_,rfl,rfl,by omega⟩
 have fd:∀n:Int,Int.fdiv n 4294967296=n / 4294967296:=fun n=>Int.fdiv_eq_ediv_of_nonneg n (by omega)
 rw[yU x0 x1,yU y0 y1,<-hb,<-hd]
 simp only[fd,<-ha,<-hc]
 have a0:0<=a/\a<=4294967295:=by omega
 have b0:0<=b/\b<=4294967295:=by omega
 have c0:0<=c/\c<=4294967295:=by omega
 have d0:0<=d/\d<=4294967295:=by omega
 have mb:∀{m n:Int},0<=m/\m<=4294967295->0<=n/\n<=4294967295->0<=m*n/\m*n<=18446744065119617025:=fun {m n} hm hn=>⟨Int.mul_nonneg hm.1 hn.1,Int.le_trans (Int.mul_le_mul hm.2 hn.2 hn.1 (by omega)) (by decide)⟩
 have e1:=mb a0 c0
 have e2:=mb a0 d0
 have e3:=mb b0 c0
 have e4:=mb b0 d0
 have hxy:x*y=a*c*18446744073709551616+(a*d+b*c)*4294967296+b*d:=by rw[hx,hy];grind
 rw[IntKind.wrap_u64 (x*y)]
 rw[hxy]
 rw[b6 (x:=b) (by omega) (by omega),b6 (x:=d) (by omega) (by omega)]
 rw[b6 (x:=b*d) (by omega) (by omega),b6 (x:=a*d) (by omega) (by omega),b6 (x:=b*c) (by omega) (by omega),b6 (x:=a*c) (by omega) (by omega)]
 generalize b*d=bd at *
 generalize a*d=ad at *
 generalize b*c=bc at *
 generalize a*c=ac at *
 rw[b6 (x:=ad+bd / 4294967296) (by omega) (by omega)]
 generalize ht:ad+bd / 4294967296=t
 rw[yU (by omega) (by omega)]
 rw[b6 (x:=t % 4294967296) (by omega) (by omega)]
 rw[b6 (x:=t % 4294967296+bc) (by omega) (by omega),b6 (x:=ac+t / 4294967296) (by omega) (by omega)]
 rw[b6 (x:=ac+t / 4294967296+(t % 4294967296+bc) / 4294967296) (by omega) (by omega)]
 congr 1
 ext
 ·simp only;omega
 ·rfl
theorem pT {n d:Int} (h:0<=d):Int.fdiv n d=n / d:=Int.fdiv_eq_ediv_of_nonneg n h
theorem G4 {t b q r:Nat} (hr:r<b) (h:t=q*b+r):t / b=q/\t % b=r:=by
 subst h
 constructor
 ·rw[Nat.mul_comm,Nat.mul_add_div (by omega),Nat.div_eq_of_lt hr,Nat.add_zero]
 ·rw[Nat.mul_comm,Nat.mul_add_mod,Nat.mod_eq_of_lt hr]
end Go.Proofs.YtfknoaclabfdlaaGreat

namespace Go.Proofs.YtfknoaclabfdlaaGreat
noncomputable section
open Tryz Dn Dn.Sh
theorem rQ {m n:Nat}:mG (hl m).2 (hl n).2 0=(((m % 18446744073709551616+n % 18446744073709551616) / 18446744073709551616:Nat):Int):=by
 simp only[mG,hl,z9,Int.toNat_zero,Nat.add_zero]
 rfl
theorem rT {m n:Nat}:lB (hl m).2 (hl n).2 0=(((if m % 18446744073709551616<n % 18446744073709551616 then 1 else 0:Nat):Nat):Int):=by
 simp only[lB,hl,z9,Int.toNat_zero,Nat.add_zero]
 cases h:Nat.blt (m % 18446744073709551616) (n % 18446744073709551616) with
 | true =>
  have h':m % 18446744073709551616<n % 18446744073709551616:=by simpa [Nat.blt_eq] using h
  rw[if_pos h'];rfl
 | false =>
  have h':¬ m % 18446744073709551616<n % 18446744073709551616:=by
   intro h2
   have:Nat.blt (m % 18446744073709551616) (n % 18446744073709551616)=true:=by simpa [Nat.blt_eq] using h2
   rw[this] at h;cases h
  rw[if_neg h'];rfl
theorem Kk {m n:Nat} (h:m+n<340282366920938463463374607431768211456):fj (hl m) (hl n)=some (hl (m+n)):=by
 simp only[fj,kX,rQ]
 have c1:decide ((0:Int)<=(0:Int))=true:=rfl
 have c2:decide ((0:Int)<=(1:Int))=true:=rfl
 rw[c1,c2,z7 (show (0:Int)<=(((m % 18446744073709551616+n % 18446744073709551616) / 18446744073709551616:Nat):Int) by omega),z7 (show (((m % 18446744073709551616+n % 18446744073709551616) / 18446744073709551616:Nat):Int)<=1 by omega)]
 simp only[Bool.and_self,cT,Option.some.injEq,ul,hl,z9,Int.toNat_zero,Nat.add_zero,Prod.mk.injEq]
 constructor
 ·show ((_:Nat):Int)=((_:Nat):Int)
  omega
 ·show ((_:Nat):Int)=((_:Nat):Int)
  omega
theorem G9 {m n:Nat} (h:n<=m) (hm:m<340282366920938463463374607431768211456):dQ (hl m) (hl n)=some (hl (m - n)):=by
 simp only[dQ,j9,rT]
 have c1:decide ((0:Int)<=(0:Int))=true:=rfl
 have c2:decide ((0:Int)<=(1:Int))=true:=rfl
 have hb:(if m % 18446744073709551616<n % 18446744073709551616 then 1 else 0:Nat)<=1:=by split<;>omega
 have hc:(if m % 18446744073709551616<n % 18446744073709551616 then 1 else 0:Nat)=1/\m % 18446744073709551616<n % 18446744073709551616\/(if m % 18446744073709551616<n % 18446744073709551616 then 1 else 0:Nat)=0/\¬ m % 18446744073709551616<n % 18446744073709551616:=by split<;>simp_all
 generalize (if m % 18446744073709551616<n % 18446744073709551616 then 1 else 0:Nat)=c at *
 rw[c1,c2,z7 (show (0:Int)<=(c:Int) by omega),z7 (show (c:Int)<=1 by omega)]
 simp only[Bool.and_self,cT,Option.some.injEq,qO,hl,z9,Int.toNat_zero,Nat.sub_zero,Prod.mk.injEq]
 constructor
 ·show ((_:Nat):Int)=((_:Nat):Int)
  omega
 ·show ((_:Nat):Int)=((_:Nat):Int)
  omega
def Nl (T:ByteArray) (a b:Int):Option Int :=
 bif decide (a>=(256:Int)) then bif decide ((0:Int)<=(8:Int)) then bif inB (IntKind.wrap .u8 (Int.fdiv a ((2:Int) ^ (8:Nat)))) (256:Nat) then
  some (IntKind.wrap .i64 (IntKind.wrap .i64 (b+(8:Int))+IntKind.wrap .i64 (eU T (Int.toNat (IntKind.wrap .u8 (Int.fdiv a ((2:Int) ^ (8:Nat)))))))) else none else none
 else bif inB (IntKind.wrap .u8 a) (256:Nat) then some (IntKind.wrap .i64 (b+IntKind.wrap .i64 (eU T (Int.toNat (IntKind.wrap .u8 a))))) else none
def L8 (T:ByteArray) (a b:Int):Option Int:=bif decide (a>=(65536:Int)) then bif decide ((0:Int)<=(16:Int)) then Nl T (Int.fdiv a ((2:Int) ^ (16:Nat))) (IntKind.wrap .i64 (b+(16:Int))) else none else Nl T a b
theorem Gg:∃T:ByteArray,(∀i,i<256->0<=eU T i/\eU T i<=8/\(0<i->i<2 ^ (eU T i).toNat/\2 ^ (eU T i).toNat<=2*i)) /\
  ∀x,fH x=bif decide (x>=(4294967296:Int)) then bif decide ((0:Int)<=(32:Int)) then L8 T (Int.fdiv x ((2:Int) ^ (32:Nat))) 32 else none else L8 T x 0 :=
 ⟨_,by decide +kernel,fun _=>rfl⟩
def vR (n L:Nat):Prop:=n<2 ^ L/\2 ^ L<=2*n
theorem ou {n k L:Nat} (h:vR (n / 2 ^ k) L):vR n (L+k):=by
 obtain ⟨h1,h2⟩:=h
 have hk:0<2 ^ k:=Nat.two_pow_pos k
 unfold vR
 rw[Nat.pow_add]
 constructor
 ·exact (Nat.div_lt_iff_lt_mul hk).1 h1
 ·have h3:n / 2 ^ k*2 ^ k<=n:=Nat.div_mul_le_self n _
  have h4:=Nat.mul_le_mul_right (2 ^ k) h2
  rw[Nat.mul_assoc] at h4
  omega
theorem Fh {x:Int} (h1:0<=x) (h2:x<256):IntKind.wrap .u8 x=x:=by
 rw[IntKind.wrap_u8];omega
theorem Hp {n:Nat} (h0:0<n) (h1:n<18446744073709551616):∃L:Nat,fH (n:Int)=some (L:Int)/\vR n L/\L<=64:=by
 obtain ⟨T,hT,hx⟩:=Gg
 have tab:∀i:Nat,0<i->i<256->∃L:Nat,eU T i=L/\L<=8/\vR i L:=fun i h2 h3=>by
  obtain ⟨a1,a2,a3⟩:=hT i h3
  exact ⟨(eU T i).toNat,by omega,by omega,a3 h2⟩
 have p8:(2:Int) ^ (8:Nat)=256:=by decide
 have p16:(2:Int) ^ (16:Nat)=65536:=by decide
 have p32:(2:Int) ^ (32:Nat)=4294967296:=by decide
 have stepT:∀a b:Nat,0<a->a<65536->b<=48->∃L:Nat,Nl T (a:Int) (b:Int)=some ((L+b:Nat):Int)/\vR a L/\L<=16:=fun a b ha hb hb2=>by
  unfold Nl
  by_cases h:a<256
  ·obtain ⟨L,e1,e2,e3⟩:=tab a ha h
   rw[z8 (show ¬ (a:Int)>=256 by omega),cond_false,Fh (by omega) (by omega),tz (by omega) (by omega),cond_true,z9,e1,a7 (x:=(L:Int)) (by omega) (by omega),a7 (by omega) (by omega)]
   exact ⟨L,by congr 1;omega,e3,by omega⟩
  ·obtain ⟨L,e1,e2,e3⟩:=tab (a / 256) (by omega) (by omega)
   rw[z7 (show (a:Int)>=256 by omega),cond_true,show decide ((0:Int)<=8)=true from rfl,cond_true,p8,pT (by omega),Fh (by omega) (by omega),tz (by omega) (by omega),cond_true,show ((a:Int) / 256).toNat=a / 256 by omega,e1,a7 (x:=(L:Int)) (by omega) (by omega),a7 (x:=(b:Int)+8) (by omega) (by omega),a7 (by omega) (by omega)]
   exact ⟨L+8,by congr 1;omega,ou (k:=8) e3,by omega⟩
 have stepU:∀a b:Nat,0<a->a<4294967296->b<=32->∃L:Nat,L8 T (a:Int) (b:Int)=some ((L+b:Nat):Int)/\vR a L/\L<=32:=fun a b ha hb hb2=>by
  unfold L8
  by_cases h:a<65536
  ·obtain ⟨L,e1,e2,e3⟩:=stepT a b ha h (by omega)
   rw[z8 (show ¬ (a:Int)>=65536 by omega),cond_false,e1]
   exact ⟨L,rfl,e2,by omega⟩
  ·obtain ⟨L,e1,e2,e3⟩:=stepT (a / 65536) (b+16) (by omega) (by omega) (by omega)
   rw[z7 (show (a:Int)>=65536 by omega),cond_true,show decide ((0:Int)<=16)=true from rfl,cond_true,p16,pT (by omega),a7 (by omega) (by omega),show (a:Int) / 65536=((a / 65536:Nat):Int) by omega,show (b:Int)+16=((b+16:Nat):Int) by omega,e1]
   exact ⟨L+16,by congr 1;omega,ou (k:=16) e2,by omega⟩
 rw[hx]
 by_cases h:n<4294967296
 ·obtain ⟨L,e1,e2,e3⟩:=stepU n 0 h0 h (by omega)
  rw[z8 (show ¬ (n:Int)>=4294967296 by omega),cond_false]
  exact ⟨L,e1,e2,by omega⟩
 ·obtain ⟨L,e1,e2,e3⟩:=stepU (n / 4294967296) 32 (by omega) (by omega) (by omega)
  rw[z7 (show (n:Int)>=4294967296 by omega),cond_true,show decide ((0:Int)<=32)=true from rfl,cond_true,p32,pT (by omega),show (n:Int) / 4294967296=((n / 4294967296:Nat):Int) by omega]
  exact ⟨L+32,e1,ou (k:=32) e2,by omega⟩
theorem Dt {q r U u y1 y0:Int} (hq:q*y1+r=U) (_:0<=u) (hy:0<y1*4294967296+y0) (hge:(U*4294967296+u) / (y1*4294967296+y0)<=q) (ht:q*y0<=4294967296*r+u):q=(U*4294967296+u) / (y1*4294967296+y0):=by
 refine Int.le_antisymm (Int.le_ediv_of_mul_le hy ?_) hge
 rw[Int.mul_add,<-Int.mul_assoc]
 omega
theorem Eg {q r U u y1 y0:Int} (hq:q*y1+r=U) (hy:0<y1*4294967296+y0) (hU:U*4294967296+u<(y1*4294967296+y0)*4294967296) (ht:q>=4294967296\/q*y0>4294967296*r+u):(U*4294967296+u) / (y1*4294967296+y0)<=q - 1:=by
 have:(U*4294967296+u) / (y1*4294967296+y0)<q:=by
  refine Int.ediv_lt_of_lt_mul hy ?_
  rcases ht with ht | ht
  ·exact Int.lt_of_lt_of_le hU (by rw[Int.mul_comm q];exact Int.mul_le_mul_of_nonneg_left ht (by omega))
  ·rw[Int.mul_add,<-Int.mul_assoc]
   omega
 omega
theorem FO {q r U u y1 y0:Int} (hq:q*y1+r=U) (hu:0<=u) (hy:0<y1*4294967296+y0) (h0:0<=y0/\y0<4294967296) (hge:(U*4294967296+u) / (y1*4294967296+y0)<=q - 1) (hr:r+y1>=4294967296) (hq2:1<=q/\q<=4294967297):q - 1=(U*4294967296+u) / (y1*4294967296+y0):=by
 refine Int.le_antisymm (Int.le_ediv_of_mul_le hy ?_) hge
 have e1:(q - 1)*y0<=4294967296*4294967295:=Int.mul_le_mul (by omega) (by omega) h0.1 (by omega)
 rw[Int.mul_add,<-Int.mul_assoc,Int.sub_mul q 1 y1,Int.one_mul]
 omega
theorem Ni {s:Nat} {a b:Nat} (h:b<2 ^ s):Nat.lor (a*2 ^ s) b=a*2 ^ s+b:=by
 have:=Nat.two_pow_add_eq_or_of_lt h a
 rw[Nat.mul_comm a]
 exact this.symm
theorem wU {α R:Type} {F:(α->Option R)->α->Option R} {J:Int->Option R} {U u y1 y0:Int} (enc:Int->Int->α) (dec:α->Int) (hdec:∀q r,dec (enc q r)=q)
  (hu:0<=u) (h0:0<=y0/\y0<4294967296) (h1:2147483648<=y1/\y1<4294967296) (hU0:0<=U) (hU:U*4294967296+u<(y1*4294967296+y0)*4294967296)
  (hF1:∀again q r,1<=q->q<=4294967297->0<=r->r<4294967296->(q>=4294967296\/q*y0>4294967296*r+u)->F again (enc q r)=bif decide (r+y1>=4294967296) then J (q - 1) else again (enc (q - 1) (r+y1)))
  (hF2:∀again q r,0<=q->q<4294967296->0<=r->r<4294967296->¬ q*y0>4294967296*r+u->F again (enc q r)=J q)
  {q r:Int} (hq:q*y1+r=U) (hq0:0<=q) (hq2:q<=4294967297) (hr0:0<=r) (hr1:r<4294967296) (hge:(U*4294967296+u) / (y1*4294967296+y0)<=q) :
  lpK α R F (enc q r)=J ((U*4294967296+u) / (y1*4294967296+y0)):=by
 have hD:0<=(U*4294967296+u) / (y1*4294967296+y0):=Int.ediv_nonneg (by omega) (by omega)
 refine rH (g:=fun _=>J ((U*4294967296+u) / (y1*4294967296+y0))) (I:=fun x=>∃q r,x=enc q r/\q*y1+r=U/\0<=q/\q<=4294967297/\0<=r/\r<4294967296/\(U*4294967296+u) / (y1*4294967296+y0)<=q) (μ:=fun x=>(dec x).toNat) ?_ ⟨q,r,rfl,hq,hq0,hq2,hr0,hr1,hge⟩ (by rw[hdec];omega)
 rintro _ rec ⟨q,r,rfl,hq,hq0,hq2,hr0,hr1,hge⟩ hrec
 have hy:0<y1*4294967296+y0:=by omega
 by_cases ht:q>=4294967296\/q*y0>4294967296*r+u
 ·have hl:=Eg hq hy hU ht
  rw[hF1 _ _ _ (by omega) hq2 hr0 hr1 ht]
  by_cases hr:r+y1>=4294967296
  ·rw[z7 hr,cond_true,FO hq hu hy h0 hl hr ⟨by omega,hq2⟩]
  ·rw[z8 hr,cond_false]
   refine hrec _ ⟨q - 1,r+y1,rfl,?_,by omega,by omega,by omega,by omega,hl⟩ (by rw[hdec,hdec];omega)
   rw[Int.sub_mul,Int.one_mul];omega
 ·rw[not_or] at ht
  rw[hF2 _ _ _ hq0 (by omega) hr0 hr1 ht.2,<-Dt hq hu hy hge (by omega)]
theorem vZ {U u y1 y0:Int} (hu:0<=u/\u<4294967296) (h0:0<=y0/\y0<4294967296) (h1:2147483648<=y1/\y1<4294967296) (hU0:0<=U) (hU:U<y1*4294967296+y0) :
  (U / y1)*y1+(U - U / y1*y1)=U/\0<=U / y1/\U / y1<=4294967297/\0<=U - U / y1*y1/\U - U / y1*y1<4294967296/\(U*4294967296+u) / (y1*4294967296+y0)<=U / y1:=by
 have e1:=Int.mul_ediv_add_emod U y1
 have e2:=Int.emod_nonneg U (show y1≠0 by omega)
 have e3:=Int.emod_lt_of_pos U (show 0<y1 by omega)
 rw[Int.mul_comm] at e1
 refine ⟨by omega,Int.ediv_nonneg hU0 (by omega),?_,by omega,by omega,?_⟩
 ·have:U / y1<4294967298:=Int.ediv_lt_of_lt_mul (by omega) (by omega)
  omega
 ·have:(U*4294967296+u) / (y1*4294967296+y0)<U / y1+1:=by
   refine Int.ediv_lt_of_lt_mul (by omega) ?_
   have hq:0<=U / y1:=Int.ediv_nonneg hU0 (by omega)
   have e4:0<=(U / y1+1)*y0:=Int.mul_nonneg (by omega) h0.1
   rw[Int.mul_add,<-Int.mul_assoc,Int.add_mul (U / y1) 1 y1,Int.one_mul]
   omega
  omega
def MM (_ _ Y u0 P q1 un:Int) (q:Int):Option (Int×Int×Unit):=some (IntKind.wrap .u64 (IntKind.wrap .u64 (q1*4294967296)+q),Int.fdiv (IntKind.wrap .u64 (IntKind.wrap .u64 (IntKind.wrap .u64 (un*4294967296)+u0) - IntKind.wrap .u64 (q*Y))) P,())
def dv2 (y1 y0 Y u0 P q1 un:Int):Option (Int×Int×Unit):=lpK (Int×Int×PUnit) (Int×Int×PUnit) (fun again x=>bif (bif decide (x.2.1>=4294967296) then true else decide (IntKind.wrap .u64 (x.2.1*y0)>IntKind.wrap .u64 (IntKind.wrap .u64 (4294967296*x.1)+u0))) then
 (bif decide (IntKind.wrap .u64 (x.1+y1)>=4294967296) then MM y1 y0 Y u0 P q1 un (IntKind.wrap .u64 (x.2.1 - 1)) else again (IntKind.wrap .u64 (x.1+y1),IntKind.wrap .u64 (x.2.1 - 1),PUnit.unit)) else MM y1 y0 Y u0 P q1 un x.2.1)
 (IntKind.wrap .u64 (un - IntKind.wrap .u64 (IntKind.wrap .u64 (Int.tdiv un y1)*y1)),IntKind.wrap .u64 (Int.tdiv un y1),PUnit.unit)
theorem OZ {y1 y0 u0 P q1 un:Int} (hu:0<=u0/\u0<4294967296) (h0:0<=y0/\y0<4294967296) (h1:2147483648<=y1/\y1<4294967296) (hU0:0<=un) (hU:un<y1*4294967296+y0) :
  dv2 y1 y0 (y1*4294967296+y0) u0 P q1 un=MM y1 y0 (y1*4294967296+y0) u0 P q1 un ((un*4294967296+u0) / (y1*4294967296+y0)):=by
 obtain ⟨i1,i2,i3,i4,i5,i6⟩:=vZ (U:=un) hu h0 h1 hU0 hU
 unfold dv2
 rw[Int.tdiv_eq_ediv_of_nonneg hU0]
 have hm:un / y1*y1<=un:=by omega
 have hm0:0<=un / y1*y1:=Int.mul_nonneg i2 (by omega)
 rw[b6 (x:=un / y1) i2 (by omega),b6 (x:=un / y1*y1) hm0 (by omega),b6 (x:=un - un / y1*y1) (by omega) (by omega)]
 refine wU (α:=Int×Int×PUnit) (enc:=fun q r=>(r,q,PUnit.unit)) (dec:=fun x=>x.2.1) (fun _ _=>rfl) hu.1 h0 h1 hU0 (by omega) ?_ ?_ i1 i2 i3 i4 i5 i6
 ·intro again q r g1 g2 g3 g4 g5
  have e1:0<=q*y0:=Int.mul_nonneg (by omega) h0.1
  have e2:q*y0<=4294967297*4294967295:=Int.mul_le_mul g2 (by omega) h0.1 (by omega)
  simp only
  rw[b6 (x:=q*y0) e1 (by omega),b6 (x:=4294967296*r) (by omega) (by omega),b6 (x:=4294967296*r+u0) (by omega) (by omega),b6 (x:=r+y1) (by omega) (by omega),b6 (x:=q - 1) (by omega) (by omega)]
  have e:(bif decide (q>=4294967296) then true else decide (q*y0>4294967296*r+u0))=true:=by
   rcases g5 with ht | ht
   ·rw[z7 ht];rfl
   ·rw[z7 ht];cases decide (q>=4294967296)<;>rfl
  rw[e,cT]
 ·intro again q r g1 g2 g3 g4 g5
  have e1:0<=q*y0:=Int.mul_nonneg (by omega) h0.1
  have e2:q*y0<=4294967297*4294967295:=Int.mul_le_mul (by omega) (by omega) h0.1 (by omega)
  simp only
  rw[b6 (x:=q*y0) e1 (by omega),b6 (x:=4294967296*r) (by omega) (by omega),b6 (x:=4294967296*r+u0) (by omega) (by omega)]
  rw[z8 (show ¬ q>=4294967296 by omega),z8 g5,cF,cF]
def NH (y1 y0 Y u1 u0 P U:Int) (q1:Int):Option (Int×Int×Unit):=dv2 y1 y0 Y u0 P q1 (IntKind.wrap .u64 (IntKind.wrap .u64 (IntKind.wrap .u64 (U*4294967296)+u1) - IntKind.wrap .u64 (q1*Y)))
def dv1 (y1 y0 Y u1 u0 P U:Int):Option (Int×Int×Unit):=lpK (Int×Int×PUnit) (Int×Int×PUnit) (fun again x=>bif (bif decide (x.1>=4294967296) then true else decide (IntKind.wrap .u64 (x.1*y0)>IntKind.wrap .u64 (IntKind.wrap .u64 (4294967296*x.2.1)+u1))) then
 (bif decide (IntKind.wrap .u64 (x.2.1+y1)>=4294967296) then NH y1 y0 Y u1 u0 P U (IntKind.wrap .u64 (x.1 - 1)) else again (IntKind.wrap .u64 (x.1 - 1),IntKind.wrap .u64 (x.2.1+y1),PUnit.unit)) else NH y1 y0 Y u1 u0 P U x.1)
 (IntKind.wrap .u64 (Int.tdiv U y1),IntKind.wrap .u64 (U - IntKind.wrap .u64 (IntKind.wrap .u64 (Int.tdiv U y1)*y1)),PUnit.unit)
theorem PD {y1 y0 u1 u0 P U:Int} (hu:0<=u1/\u1<4294967296) (h0:0<=y0/\y0<4294967296) (h1:2147483648<=y1/\y1<4294967296) (hU0:0<=U) (hU:U<y1*4294967296+y0) :
  dv1 y1 y0 (y1*4294967296+y0) u1 u0 P U=NH y1 y0 (y1*4294967296+y0) u1 u0 P U ((U*4294967296+u1) / (y1*4294967296+y0)):=by
 obtain ⟨i1,i2,i3,i4,i5,i6⟩:=vZ (U:=U) hu h0 h1 hU0 hU
 unfold dv1
 rw[Int.tdiv_eq_ediv_of_nonneg hU0]
 have hm:U / y1*y1<=U:=by omega
 have hm0:0<=U / y1*y1:=Int.mul_nonneg i2 (by omega)
 rw[b6 (x:=U / y1) i2 (by omega),b6 (x:=U / y1*y1) hm0 (by omega),b6 (x:=U - U / y1*y1) (by omega) (by omega)]
 refine wU (α:=Int×Int×PUnit) (enc:=fun q r=>(q,r,PUnit.unit)) (dec:=fun x=>x.1) (fun _ _=>rfl) hu.1 h0 h1 hU0 (by omega) ?_ ?_ i1 i2 i3 i4 i5 i6
 ·intro again q r g1 g2 g3 g4 g5
  have e1:0<=q*y0:=Int.mul_nonneg (by omega) h0.1
  have e2:q*y0<=4294967297*4294967295:=Int.mul_le_mul g2 (by omega) h0.1 (by omega)
  simp only
  rw[b6 (x:=q*y0) e1 (by omega),b6 (x:=4294967296*r) (by omega) (by omega),b6 (x:=4294967296*r+u1) (by omega) (by omega),b6 (x:=r+y1) (by omega) (by omega),b6 (x:=q - 1) (by omega) (by omega)]
  have e:(bif decide (q>=4294967296) then true else decide (q*y0>4294967296*r+u1))=true:=by
   rcases g5 with ht | ht
   ·rw[z7 ht];rfl
   ·rw[z7 ht];cases decide (q>=4294967296)<;>rfl
  rw[e,cT]
 ·intro again q r g1 g2 g3 g4 g5
  have e1:0<=q*y0:=Int.mul_nonneg (by omega) h0.1
  have e2:q*y0<=4294967297*4294967295:=Int.mul_le_mul (by omega) (by omega) h0.1 (by omega)
  simp only
  rw[b6 (x:=q*y0) e1 (by omega),b6 (x:=4294967296*r) (by omega) (by omega),b6 (x:=4294967296*r+u1) (by omega) (by omega)]
  rw[z8 (show ¬ q>=4294967296 by omega),z8 g5,cF,cF]
theorem Rx {U W Y P:Nat} (hY:9223372036854775808<=Y) (hY2:Y<18446744073709551616) (hW:W<18446744073709551616) (hU:U<Y) :
  dv1 ((Y:Int) / 4294967296) ((Y:Int) % 4294967296) (Y:Int) ((W:Int) / 4294967296) ((W:Int) % 4294967296) (P:Int) (U:Int)=some ((((U*18446744073709551616+W) / Y:Nat):Int),(((U*18446744073709551616+W) % Y / P:Nat):Int),()):=by
 have eY:(Y:Int) / 4294967296*4294967296+(Y:Int) % 4294967296=Y:=by omega
 have h1:=PD (y1:=(Y:Int) / 4294967296) (y0:=(Y:Int) % 4294967296) (u1:=(W:Int) / 4294967296) (u0:=(W:Int) % 4294967296) (P:=(P:Int)) (U:=(U:Int)) (by omega) (by omega) (by omega) (by omega) (by omega)
 rw[eY] at h1
 rw[h1]
 unfold NH
 obtain ⟨A,hA⟩:∃A:Nat,A=U*4294967296+W / 4294967296:=⟨_,rfl⟩
 have hAi:(U:Int)*4294967296+(W:Int) / 4294967296=(A:Int):=by omega
 rw[hAi]
 have hq1:A / Y<4294967296:=(Nat.div_lt_iff_lt_mul (by omega)).2 (by omega)
 have d1:=Nat.div_add_mod A Y
 have d2:=Nat.mod_lt A (show Y>0 by omega)
 rw[show (A:Int) / (Y:Int)=((A / Y:Nat):Int) from rfl]
 have hun:IntKind.wrap .u64 (IntKind.wrap .u64 (IntKind.wrap .u64 ((U:Int)*4294967296)+(W:Int) / 4294967296) - IntKind.wrap .u64 (((A / Y:Nat):Int)*(Y:Int)))=((A % Y:Nat):Int):=by
  rw[<-Int.natCast_mul,Nat.mul_comm (A / Y)]
  generalize A / Y=q1 at *
  generalize Y*q1=m at *
  rw[IntKind.wrap_u64,IntKind.wrap_u64,IntKind.wrap_u64,IntKind.wrap_u64]
  omega
 rw[hun]
 have h2:=OZ (y1:=(Y:Int) / 4294967296) (y0:=(Y:Int) % 4294967296) (u0:=(W:Int) % 4294967296) (P:=(P:Int)) (q1:=((A / Y:Nat):Int)) (un:=((A % Y:Nat):Int)) (by omega) (by omega) (by omega) (by omega) (by omega)
 rw[eY] at h2
 rw[h2]
 unfold MM
 obtain ⟨B,hB⟩:∃B:Nat,B=A % Y*4294967296+W % 4294967296:=⟨_,rfl⟩
 have hBi:((A % Y:Nat):Int)*4294967296+(W:Int) % 4294967296=(B:Int):=by omega
 rw[hBi,show (B:Int) / (Y:Int)=((B / Y:Nat):Int) from rfl]
 have hq0:B / Y<4294967296:=(Nat.div_lt_iff_lt_mul (by omega)).2 (by omega)
 have d3:=Nat.div_add_mod B Y
 have d4:=Nat.mod_lt B (show Y>0 by omega)
 have hN:U*18446744073709551616+W=(A / Y*4294967296+B / Y)*Y+B % Y:=by
  rw[Nat.add_mul,Nat.mul_right_comm,Nat.mul_comm (A / Y),Nat.mul_comm (B / Y)]
  omega
 obtain ⟨n1,n2⟩:=G4 d4 hN
 rw[n1,n2]
 have hrest:IntKind.wrap .u64 (IntKind.wrap .u64 (IntKind.wrap .u64 (((A % Y:Nat):Int)*4294967296)+(W:Int) % 4294967296) - IntKind.wrap .u64 (((B / Y:Nat):Int)*(Y:Int)))=((B % Y:Nat):Int):=by
  rw[<-Int.natCast_mul,Nat.mul_comm (B / Y)]
  generalize B / Y=q0 at *
  generalize Y*q0=m at *
  generalize A % Y=r1 at *
  rw[IntKind.wrap_u64,IntKind.wrap_u64,IntKind.wrap_u64,IntKind.wrap_u64]
  omega
 rw[hrest,pT (by omega)]
 generalize A / Y=q1 at *
 generalize B / Y=q0 at *
 rw[b6 (x:=(q1:Int)*4294967296) (by omega) (by omega),b6 (by omega) (by omega)]
 rfl
theorem HK (m n:Nat):Int.tmod (m:Int) (n:Int)=((m % n:Nat):Int):=by
 rw[Int.tmod_eq_emod_of_nonneg (by omega)]
 rfl
theorem jnT {α R:Type} (j:α->Option R) (f:(α->Option R)->Option R):jnK α R j f=f j:=Eq.trans rfl rfl
theorem AV {h l y:Nat} (hy:h<y) (hy2:y<18446744073709551616) (hl0:l<18446744073709551616):bH (h:Int) (l:Int) (y:Int)=some ((((h*18446744073709551616+l) / y:Nat):Int),(((h*18446744073709551616+l) % y:Nat):Int),()):=by
 simp only[bH,nq,jnT]
 rw[z8 (show ¬ (y:Int)=0 by omega),cF,z8 (show ¬ (y:Int)<=(h:Int) by omega),cF]
 have hz:nzB (y:Int)=true:=sK (by omega)
 by_cases h0:h=0
 ·subst h0
  rw[z7 (show ((0:Nat):Int)=0 from rfl),cT,hz,cT,cT,vr,HK,Nat.zero_mul,Nat.zero_add]
  have:=Nat.div_le_self l y
  generalize l / y=d at *
  rw[b6 (by omega) (by omega)]
 ·rw[z8 (show ¬ (h:Int)=0 by omega),cF]
  obtain ⟨L,e1,⟨e2,e3⟩,e4⟩:=Hp (n:=y) (by omega) hy2
  simp only[cA,gK,e1,ai]
  rw[a7 (x:=64 - (L:Int)) (by omega) (by omega)]
  obtain ⟨s,hs⟩:∃s:Nat,L+s=64:=⟨64 - L,by omega⟩
  have w1:IntKind.wrap .u64 (64 - (L:Int))=(s:Int):=by rw[b6 (by omega) (by omega)];omega
  have w2:IntKind.wrap .u64 (64 - (s:Int))=(L:Int):=by rw[b6 (by omega) (by omega)];omega
  have p2:∀k:Nat,(2:Int) ^ k=((2 ^ k:Nat):Int):=fun k=>by rw[Int.natCast_pow];rfl
  have p32:(2:Int) ^ (32:Nat)=4294967296:=by decide
  simp only[w1,w2,z9,Nat.min_eq_left (show s<=64 by omega),Nat.min_eq_left (show L<=64 by omega),p32]
  simp only[p2]
  have hPQ:2 ^ s*2 ^ L=18446744073709551616:=by rw[<-Nat.pow_add,show s+L=64 by omega]
  have hP:0<2 ^ s:=Nat.two_pow_pos s
  have hQ:0<2 ^ L:=Nat.two_pow_pos L
  have hYlt:y*2 ^ s<18446744073709551616:=by rw[<-hPQ,Nat.mul_comm (2 ^ s)];exact Nat.mul_lt_mul_of_pos_right e2 hP
  have hYge:9223372036854775808<=y*2 ^ s:=by
   have:=Nat.mul_le_mul_right (2 ^ s) e3
   rw[Nat.mul_comm (2 ^ L),hPQ,Nat.mul_assoc] at this
   omega
  have hhP:h*2 ^ s+2 ^ s<=y*2 ^ s:=by rw[<-Nat.succ_mul];exact Nat.mul_le_mul_right _ hy
  have hlQ:l / 2 ^ L<2 ^ s:=by rw[Nat.div_lt_iff_lt_mul hQ,hPQ];exact hl0
  have hlor:IntKind.wrap .u64 ((Nat.lor (Int.toNat (IntKind.wrap .u64 ((h:Int)*((2 ^ s:Nat):Int)) % Int.ofNat 18446744073709551616)) (Int.toNat (Int.fdiv (l:Int) ((2 ^ L:Nat):Int) % Int.ofNat 18446744073709551616)):Nat):Int)=((h*2 ^ s+l / 2 ^ L:Nat):Int):=by
   have a1:IntKind.wrap .u64 ((h:Int)*((2 ^ s:Nat):Int))=((h*2 ^ s:Nat):Int):=by rw[<-Int.natCast_mul,b6 (by omega) (by omega)]
   have a2:Int.fdiv (l:Int) ((2 ^ L:Nat):Int)=((l / 2 ^ L:Nat):Int):=by rw[pT (by omega)];rfl
   have a3:∀n:Nat,n<18446744073709551616->Int.toNat ((n:Int) % Int.ofNat 18446744073709551616)=n:=fun n hn=>by
    rw[show Int.ofNat 18446744073709551616=(18446744073709551616:Int) from rfl];omega
   rw[a1,a2,a3 (h*2 ^ s) (by omega),a3 (l / 2 ^ L) (by omega),Ni hlQ]
   exact b6 (Int.natCast_nonneg _) (by
    have h5:h*2 ^ s+l / 2 ^ L<18446744073709551616:=by omega
    exact Int.ofNat_lt.2 h5)
  have hlo:IntKind.wrap .u64 ((l:Int)*((2 ^ s:Nat):Int))=((l % 2 ^ L*2 ^ s:Nat):Int):=by
   rw[<-Int.natCast_mul,IntKind.wrap_u64]
   have a1:l*2 ^ s=(l / 2 ^ L)*18446744073709551616+l % 2 ^ L*2 ^ s:=by
    rw[<-hPQ,Nat.mul_comm (2 ^ s),<-Nat.mul_assoc,<-Nat.add_mul,Nat.mul_comm (l / 2 ^ L),Nat.div_add_mod]
   have a2:l % 2 ^ L*2 ^ s<18446744073709551616:=by rw[<-hPQ,Nat.mul_comm (2 ^ s)];exact Nat.mul_lt_mul_of_pos_right (Nat.mod_lt _ hQ) hP
   rw[a1]
   generalize l / 2 ^ L=A at *
   generalize l % 2 ^ L*2 ^ s=B at *
   omega
  have hlolt:l % 2 ^ L*2 ^ s<18446744073709551616:=by rw[<-hPQ,Nat.mul_comm (2 ^ s)];exact Nat.mul_lt_mul_of_pos_right (Nat.mod_lt _ hQ) hP
  have hN:(h*18446744073709551616+l)*2 ^ s=(h*2 ^ s+l / 2 ^ L)*18446744073709551616+l % 2 ^ L*2 ^ s:=by
   have a1:l*2 ^ s=(l / 2 ^ L)*18446744073709551616+l % 2 ^ L*2 ^ s:=by
    rw[<-hPQ,Nat.mul_comm (2 ^ s),<-Nat.mul_assoc,<-Nat.add_mul,Nat.mul_comm (l / 2 ^ L),Nat.div_add_mod]
   rw[Nat.add_mul,a1,Nat.add_mul,Nat.mul_right_comm]
   omega
  have hY:IntKind.wrap .u64 ((y:Int)*((2 ^ s:Nat):Int))=((y*2 ^ s:Nat):Int):=by rw[<-Int.natCast_mul,b6 (by omega) (by omega)]
  have hdiv:(h*18446744073709551616+l) / y=((h*2 ^ s+l / 2 ^ L)*18446744073709551616+l % 2 ^ L*2 ^ s) / (y*2 ^ s):=by rw[<-hN,Nat.mul_div_mul_right _ _ hP]
  have hmod:((h*18446744073709551616+l) % y)*2 ^ s=((h*2 ^ s+l / 2 ^ L)*18446744073709551616+l % 2 ^ L*2 ^ s) % (y*2 ^ s):=by rw[<-hN,Nat.mul_mod_mul_right]
  rw[hlor,hlo,hY]
  have hU:h*2 ^ s+l / 2 ^ L<y*2 ^ s:=by omega
  have hm:(h*18446744073709551616+l) % y=((h*2 ^ s+l / 2 ^ L)*18446744073709551616+l % 2 ^ L*2 ^ s) % (y*2 ^ s) / 2 ^ s:=by rw[<-hmod,Nat.mul_div_cancel _ hP]
  rw[hdiv,hm]
  generalize h*2 ^ s+l / 2 ^ L=U at *
  generalize l % 2 ^ L*2 ^ s=W at *
  generalize y*2 ^ s=Y at *
  generalize 2 ^ s=P at *
  clear e2 e3 e1 hlor hlo hN hdiv hmod hm hlQ hPQ hhP hY
  have hdv:=Rx (P:=P) hYge hYlt hlolt hU
  rw[<-hdv]
  have c1:decide ((0:Int)<=(s:Int))=true:=z7 (by omega)
  have c2:decide ((0:Int)<=(L:Int))=true:=z7 (by omega)
  have c3:decide ((0:Int)<=(32:Int))=true:=rfl
  have c4:nzB ((Y:Int) / 4294967296)=true:=sK (by omega)
  have m1:∀n:Nat,n<18446744073709551616->IntKind.wrap .u64 ((Nat.land (Int.toNat ((n:Int) % Int.ofNat 18446744073709551616)) (Int.toNat ((4294967295:Int) % Int.ofNat 18446744073709551616)):Nat):Int)=(n:Int) % 4294967296:=fun n hn=>by
   rw[yU (by omega) (by omega),b6 (by omega) (by omega)]
  simp only[pT (show (0:Int)<=4294967296 by omega),c1,c2,c3,c4,m1 Y hYlt,m1 W hlolt,iU,Bool.not_not,Bool.and_self,cT]
  rfl
end
end Go.Proofs.YtfknoaclabfdlaaGreat

namespace Go.Proofs.YtfknoaclabfdlaaGreat
open Tryz Dn Dn.Sh
end Go.Proofs.YtfknoaclabfdlaaGreat

namespace Go.Proofs.YtfknoaclabfdlaaGreat
namespace Dn
theorem sP {σ α R:Type} {F:(α->Option R)->α->Option R} (n:Nat) (hn:n<=1180591620717411303423) (enc:Nat->σ->α) (b:Nat->σ->(σ->Option R)->Option R) (f:σ->Option R)
  (hb:∀again (i:Nat) s,i<n->F again (enc i s)=b i s (fun s'=>again (enc (i+1) s'))) (hf:∀again s,F again (enc n s)=f s) (s:σ) :
  lpK α R F (enc 0 s)=upF b f n 0 s:=J1 n hn enc b f hb hf s
def kK {α:Type} (p:α->Bool):List α->Int->Int
 | [],_=> -1
 | a ::l,i=>bif p a then i else kK p l (i+1)
theorem rz {α:Type} {p:α->Bool}:∀{l:List α} {i:Int},0<=i->(kK p l i<0↔∀a ∈ l,p a=false)
 | [],i,h=>by simp[kK]
 | a ::l,i,h=>by
  unfold kK
  cases hp:p a with
  | true=>simp only[cond_true,List.mem_cons,forall_eq_or_imp,hp];simp;omega
  | false=>simp only[cond_false,List.mem_cons,forall_eq_or_imp,hp,true_and];exact rz (by omega)
theorem GE {α:Type} {p:α->Bool} {l:List α} {d:α} {i:Nat} (h:i<l.length):kK p (l.drop i) i=bif p (l.getD i d) then (i:Int) else kK p (l.drop (i+1)) ((i:Int)+1):=by
 rw[List.drop_eq_getElem_cons h,bN h]
 rfl
theorem zj {α:Type} {p:α->Bool} {d:α}:∀{l:List α} {i:Int},0<=i->0<=kK p l i->i<=kK p l i/\kK p l i<i+l.length/\p (l.getD (kK p l i - i).toNat d)=true
 | [],i,_,h=>by simp[kK] at h
 | a ::l,i,hi,h=>by
  unfold kK at h ⊢
  cases hp:p a with
  | true=>simp[hp];omega
  | false =>
   rw[hp,cond_false] at h
   obtain ⟨h1,h2,h3⟩:=zj (d:=d) (show 0<=i+1 by omega) h
   rw[cond_false]
   refine ⟨by omega,by simp only[List.length_cons];omega,?_⟩
   have e:(kK p l (i+1) - i).toNat=(kK p l (i+1) - (i+1)).toNat+1:=by omega
   rw[e,List.getD_cons_succ]
   exact h3
theorem nM {α:Type} {f:(α×Unit)->Option Bool} {d:α} {p:α->Bool} {l:List α} (hl:l.length<=1000000) (h:∀a,a ∈ l->f (a,())=some (p a)) :
  lpK (Int×PUnit) Int (fun (again:Int×PUnit->Option Int) (x:Int×PUnit)=>bif decide (x.1<(↑(List.length l):Int)) then bif inB x.1 (List.length l) then aa (f
   (List.getD l (Int.toNat x.1) d,PUnit.unit)) fun (t:Bool)=>bif t then some x.1 else again
   (IntKind.wrap .i64 (x.1+(1:Int)),PUnit.unit) else none else some (-1:Int)) ((0:Int),PUnit.unit)=some (kK p l 0):=by
 refine rH (g:=fun _=>some (kK p l 0)) (I:=fun (x:Int×PUnit)=>0<=x.1/\x.1<=l.length/\kK p (l.drop x.1.toNat) x.1=kK p l 0) (μ:=fun (x:Int×PUnit)=>((l.length:Int) - x.1).toNat) ?_ ⟨by simp,by simp only;omega,rfl⟩ (by simp only;omega)
 rintro ⟨i,_⟩ rec ⟨h0,h1,h2⟩ hrec
 simp only at h0 h1 h2 ⊢
 by_cases hi:i<l.length
 ·obtain ⟨n,rfl⟩:∃n:Nat,i=n:=⟨i.toNat,by omega⟩
  rw[z7 hi,cond_true,tz h0 hi,cond_true,z9,h _ (by rw[bN (by omega)];exact List.getElem_mem (by omega)),ai,a7 (by omega) (by omega)]
  rw[z9,GE (d:=d) (by omega)] at h2
  cases hp:p (l.getD n d) with
  | true=>rw[hp,cond_true] at h2;rw[cond_true,h2]
  | false=>rw[hp,cond_false] at h2;rw[cond_false];exact hrec _ ⟨by simp only;omega,by simp only;omega,h2⟩ (by simp only;omega)
 ·rw[z8 hi,cond_false]
  have e:i.toNat=l.length:=by omega
  rw[e,List.drop_length] at h2
  rw[<-h2]
  rfl
theorem pG {R σ:Type} {b:Nat->σ->(σ->Option R)->Option R} {f:σ->Option R} {p:Nat->Bool} {r:Option R} {s:σ} (n:Nat) (hb:∀i (k:σ->Option R),i<n->b i s k=bif p i then k s else r) :
  ∀(k i:Nat),i+k<=n->upF b f k i s=bif (List.range' i k).all p then f s else r
 | 0,i,_=>rfl
 | k+1,i,h=>by
  simp only[upF,hb i _ (by omega),List.range'_succ,List.all_cons]
  cases hp:p i with
  | true=>exact pG n hb k (i+1) (by omega)
  | false=>rfl
end Dn
end Go.Proofs.YtfknoaclabfdlaaGreat

namespace Go.Proofs.YtfknoaclabfdlaaGreat
open Tryz Dn Dn.Sh
end Go.Proofs.YtfknoaclabfdlaaGreat

namespace Go.Proofs.YtfknoaclabfdlaaGreat
namespace Dn
end Dn
end Go.Proofs.YtfknoaclabfdlaaGreat

namespace Go.Proofs.YtfknoaclabfdlaaGreat
open Tryz Dn Dn.Sh
abbrev Rw:=List Int×Int×Int
abbrev Pg:=List Int×List Rw
abbrev rw0:Rw:=([],(0:Int),(0:Int))
def inC (n:Int):Bool:=decide (-1048576<=n/\n<=1048576)
def inR (n:Int):Bool:=decide (-1073741824<=n/\n<=1073741824)
def t8 (n:Nat) (r:Rw):Bool:=decide (r.1.length=n)&&(decide (1<=r.2.1/\r.2.1<=3)&&(inR r.2.2&&r.1.all inC))
def JO (p:Pg):Bool:=decide (1<=p.1.length/\p.1.length<=12/\p.2.length<=6)
def ze (p:Pg):Bool:=JO p&&(p.1.all inC&&p.2.all (t8 p.1.length))
theorem Fg {α:Type} {p:α->Bool} {l:List α}:decide (kK p l 0>=0)=l.any p:=by
 have:=rz (p:=p) (l:=l) (i:=0) (by omega)
 rw[Bool.eq_iff_iff,decide_eq_true_iff,List.any_eq_true]
 constructor
 ·intro h1
  by_cases h2:∃a ∈ l,p a=true
  ·exact h2
  ·have:kK p l 0<0:=this.2 fun a ha=>by
    cases e:p a with
    | false=>rfl
    | true=>exact (h2 ⟨a,ha,e⟩).elim
   omega
 ·rintro ⟨a,ha,h3⟩
  by_cases h2:kK p l 0<0
  ·rw[this.1 h2 a ha] at h3;cases h3
  ·omega
theorem Lo {α:Type} {p:α->Bool} {l:List α}:(l.any fun a=>!p a)=!l.all p:=by
 induction l with
 | nil=>rfl
 | cons a l ih=>simp[ih,Bool.not_and]
theorem tc {α:Type} {p:α->Bool} {l:List α} (d:α):(List.range' 0 l.length).all (fun i=>p (l.getD i d))=l.all p:=by
 rw[Bool.eq_iff_iff,List.all_eq_true,List.all_eq_true]
 constructor
 ·intro h a ha
  obtain ⟨i,hi,rfl⟩:=List.getElem_of_mem ha
  have:=h i (List.mem_range'.2 ⟨i,hi,by omega⟩)
  rwa [bN hi] at this
 ·intro h i hi
  obtain ⟨k,hk,rfl⟩:=List.mem_range'.1 hi
  rw[bN (by omega)]
  exact h _ (List.getElem_mem _)
theorem vW {f:(Int×Unit)->Option Bool} {p:Int->Bool} {l:List Int} (hl:l.length<=1000000) (h:∀a,a ∈ l->f (a,())=some (p a)):av l f=some (l.any p):=by
 have h1:bz l f=some (kK p l 0):=by
  unfold bz gt
  exact nM (f:=f) (d:=(0:Int)) hl h
 simp only[av,fq,h1,ai,Fg]
theorem Io (n m:Int) (h0:0<=m) (h1:m<=1099511627776):bR n m=some (!decide (-m<=n/\n<=m)):=by
 have hw:IntKind.wrap .i64 (0 - m)= -m:=by rw[a7 (by omega) (by omega)];omega
 simp only[bR,iq,hw,be,iU,Bool.and_self,cT]
 by_cases g1:n< -m
 ·rw[z7 g1,z8 (show ¬ (-m<=n/\n<=m) by omega)];rfl
 ·rw[z8 g1]
  by_cases g2:n>m
  ·rw[z7 g2,z8 (show ¬ (-m<=n/\n<=m) by omega)];rfl
  ·rw[z8 g2,z7 (show (-m<=n/\n<=m) by omega)];rfl
theorem S5 (n:Int):bR n 1048576=some (!inC n):=Io n _ (by omega) (by omega)
theorem Sg (n:Int):bR n 1073741824=some (!inR n):=Io n _ (by omega) (by omega)
theorem xu (p:Pg):bj p=some (ze p):=by
 obtain ⟨c,rs⟩:=p
 simp only[bj,kF,cM,ji,be,iU,Bool.and_self,cT,ze,JO]
 by_cases g1:(c.length:Int)<1
 ·rw[z7 g1,z8 (show ¬ (1<=c.length/\c.length<=12/\rs.length<=6) by omega)]
  rfl
 ·rw[z8 g1]
  by_cases g2:(c.length:Int)>12
  ·rw[z7 g2,z8 (show ¬ (1<=c.length/\c.length<=12/\rs.length<=6) by omega)]
   rfl
  ·rw[z8 g2]
   by_cases g3:(rs.length:Int)>6
   ·rw[z7 g3,z8 (show ¬ (1<=c.length/\c.length<=12/\rs.length<=6) by omega)]
    rfl
   ·rw[z8 g3,z7 (show (1<=c.length/\c.length<=12/\rs.length<=6) by omega)]
    have hc:∀l:List Int,l.length<=1000000->av l (fun x=>bR x.1 1048576)=some (!l.all inC):=fun l hl=>by
     rw[<-Lo]
     exact vW hl fun a _=>S5 a
    simp only[cF,cT,Bool.not_false,ai,hc c (by omega),Bool.true_and]
    cases hcc:c.all inC with
    | false=>rfl
    | true =>
     simp only[Bool.not_true,cF,Bool.true_and]
     refine (sP (α:=Int×PUnit) rs.length (by omega) (fun i (_:Unit)=>((i:Int),PUnit.unit)) (fun i s k=>bif t8 c.length (rs.getD i rw0) then k s else some false) (fun _=>some true) ?_ ?_ ()).trans ?_
     ·intro again i _ hi
      have hw:IntKind.wrap .i64 ((i:Int)+1)=((i+1:Nat):Int):=by rw[a7 (by omega) (by omega)];rfl
      simp only[aR,z7 hi,z7 (show (i:Int)<rs.length by omega),cT,z9,hw]
      obtain ⟨a,k,b,e⟩:∃a k b,List.getD rs i rw0=(a,k,b):=⟨_,_,_,rfl⟩
      simp only[e,t8,Sg,z7 (show (i:Int)>=0 by omega)]
      by_cases q1:a.length=c.length
      ·have hca:=hc a (by omega)
       simp only[z7 (show (a.length:Int)=c.length by omega),z7 q1,Bool.not_true,Bool.not_false,cT,cF,ai,hca,Bool.true_and]
       by_cases q2:k<1
       ·simp only[z7 q2,z8 (show ¬ (1<=k/\k<=3) by omega)]
        cases a.all inC<;>simp[ai]
       ·by_cases q3:k>3
        ·simp only[z8 q2,z7 q3,z8 (show ¬ (1<=k/\k<=3) by omega)]
         cases a.all inC<;>simp[ai]
        ·simp only[z8 q2,z8 q3,z7 (show (1<=k/\k<=3) by omega)]
         cases h1:a.all inC<;>cases h2:inR b<;>simp[ai,h2]
      ·simp only[z8 (show ¬ (a.length:Int)=c.length by omega),z8 q1]
       simp[ai]
     ·intro again _
      simp
     ·refine (pG (p:=fun i=>t8 c.length (rs.getD i rw0)) (r:=some false) rs.length (fun _ _ _=>rfl) rs.length 0 (by omega)).trans ?_
      rw[tc (p:=t8 c.length) (l:=rs) rw0]
      cases rs.all (t8 c.length)<;>rfl
end Go.Proofs.YtfknoaclabfdlaaGreat

namespace Go.Proofs.YtfknoaclabfdlaaGreat
noncomputable section
open Tryz Dn Dn.Sh
abbrev Bk:=ByteArray×Int
abbrev Hd:=ByteArray×Int×Int×Int
abbrev Rp:=ByteArray×List Hd×Bool
abbrev Sy:=List Bk×List Rp
abbrev bk0:Bk:=({ data:={ toList:=[] } },(0:Int))
abbrev hd0:Hd:=({ data:={ toList:=[] } },(0:Int),(0:Int),(0:Int))
abbrev rp0:Rp:=({ data:={ toList:=[] } },[],false)
theorem Fj {σ R:Type} {b:Nat->σ->(σ->Option R)->Option R} {f:σ->Option R} {q:Nat->Bool} {g:Nat->σ->σ} {r:Option R} (n:Nat) (hb:∀i s (k:σ->Option R),i<n->b i s k=bif q i then k (g i s) else r) :
  ∀(k i:Nat) (s:σ),i+k<=n->upF b f k i s=bif (List.range' i k).all q then f ((List.range' i k).foldl (fun s i=>g i s) s) else r
 | 0,i,s,_=>rfl
 | k+1,i,s,h=>by
  simp only[upF,hb i s _ (by omega),List.range'_succ,List.all_cons,List.foldl_cons]
  cases hp:q i with
  | true=>exact Fj n hb k (i+1) _ (by omega)
  | false=>rfl
theorem pR {α R:Type} {p:α->Bool} {d:α} {l:List α} {yes no:Option R} {F:(Int×PUnit->Option R)->Int×PUnit->Option R} (hl:l.length<=1000000)
  (hb:∀again (i:Nat),i<l.length->F again ((i:Int),PUnit.unit)=bif p (l.getD i d) then again (((i+1:Nat):Int),PUnit.unit) else no) (hf:∀again,F again ((l.length:Int),PUnit.unit)=yes) :
  lpK (Int×PUnit) R F ((0:Int),PUnit.unit)=bif l.all p then yes else no:=by
 refine (sP (α:=Int×PUnit) l.length (by omega) (fun i (_:Unit)=>((i:Int),PUnit.unit)) (fun i s k=>bif p (l.getD i d) then k s else no) (fun _=>yes) ?_ ?_ ()).trans ?_
 ·intro again i _ hi
  exact hb again i hi
 ·intro again _
  exact hf again
 ·rw[pG l.length (fun i k _=>rfl) l.length 0 (by omega),tc]
theorem yd (x y:ByteArray):∀m:List (ByteArray×Bool),ic str Sh.bool x false (oq str Sh.bool y true m)=(decide (x=y)||ic str Sh.bool x false m)
 | []=>by
  simp only[oq,ic,kL]
  cases decide (x=y)<;>rfl
 | z ::m=>by
  cases h1:decide (y=z.1) with
  | true =>
   have e:=z12 h1
   simp only[oq,kL,h1,cT,ic]
   rw[e]
   cases decide (x=z.1)<;>rfl
  | false =>
   simp only[oq,kL,h1,cF,ic,yd x y m]
   cases h2:decide (x=z.1) with
   | false=>rfl
   | true =>
    have h3:decide (x=y)=false:=z8 fun e=>of_decide_eq_false h1 (by rw[<-e];exact z12 h2)
    rw[h3]
    rfl
def wZ (x:ByteArray) (l:List ByteArray):Bool:=l.any fun y=>decide (x=y)
theorem It {x:ByteArray} {l:List ByteArray}:wZ x l=true↔x ∈ l:=by
 unfold wZ
 rw[List.any_eq_true]
 constructor
 ·rintro ⟨y,h1,h2⟩;rw[z12 h2];exact h1
 ·intro h;exact ⟨x,h,z7 rfl⟩
theorem A5 {x:ByteArray} {l:List ByteArray}:wZ x l=false↔x ∉ l:=by rw[<-It,Bool.not_eq_true]
def wd (l:List ByteArray):List (ByteArray×Bool):=l.foldl (fun m x=>oq str Sh.bool x true m) []
theorem vN (x:ByteArray):∀(l:List ByteArray) (m:List (ByteArray×Bool)),ic str Sh.bool x false (l.foldl (fun m x=>oq str Sh.bool x true m) m)=(wZ x l||ic str Sh.bool x false m)
 | [],m=>rfl
 | y ::l,m=>by
  rw[List.foldl_cons,vN x l,yd,<-Bool.or_assoc]
  congr 1
  unfold wZ
  rw[List.any_cons,Bool.or_comm]
theorem xx (x:ByteArray) (l:List ByteArray):ic str Sh.bool x false (wd l)=wZ x l:=by
 unfold wd
 rw[vN]
 exact Bool.or_false _
theorem vA (x:ByteArray) (l:List ByteArray):oq str Sh.bool x true (wd l)=wd (l++[x]):=by
 unfold wd
 rw[List.foldl_append]
 rfl
theorem xz {α:Type} {l:List α} {i:Nat} (d:α) (h:i<l.length):l.take i++[l.getD i d]=l.take (i+1):=by
 rw[bN h,List.take_succ_eq_append_getElem h]
theorem pE {α β:Type} {f:α->β} {l:List α} {d:α} {i:Nat} (h:i<l.length) (e:β):(l.map f).getD i e=f (l.getD i d):=by
 rw[bN (by rw[List.length_map];exact h),bN h,List.getElem_map]
def fbI (s:Sy) (n:ByteArray):Int:=kK (fun b:Bk=>decide (b.1=n)) s.1 0
def frI (s:Sy) (n:ByteArray):Int:=kK (fun r:Rp=>decide (r.1=n)) s.2 0
theorem Cj (s:Sy) (n:ByteArray) (hl:s.1.length<=1000000):bS s n=some (fbI s n):=by
 simp only[bS,lU,dP,j4,pF]
 unfold bO gu
 exact congrArg (fun m:Option Int=>aa m fun t=>some t) (nM (f:=fun x:Bk×Unit=>some (decide (x.1.1=n))) (p:=fun b:Bk=>decide (b.1=n)) (d:=bk0) hl (fun a _=>rfl))
def pj (n a b:Int):Bool:=decide (n>=a)&&decide (n<=b)
theorem wl (n a b:Int):bg n a b=some (pj n a b):=by
 simp only[bg,jI,be,Bool.and_self,cT,jO,pj]
def zh (f:Int×Int):Bool:=decide (okF f)&&(decide (f.1>=f.2)&&decide (f.1<=100))
theorem HA (f:Int×Int):dH f=some (zh f):=by
 simp only[dH,kz,KY,ai,be,Bool.and_self,cT,jO,zh,Bool.and_assoc]
def tn (s:ByteArray):Bool:=decide (s={ data:=#[] })
def sG (s:Sy) (h:Hd) (e:Bool):Bool:=(bif e then decide (h.2.2.1=1)&&decide (h.2.2.2=1) else zh h.2.2) &&
 (bif tn h.1 then decide (h.2.1=0) else !decide (fbI s h.1<0)&&(bif e then decide (h.2.1=1)||decide (h.2.1= -1) else decide (h.2.1=2)||(decide (h.2.1=0)||decide (h.2.1= -2))))
theorem KQ (s:Sy) (h:Hd) (e:Bool) (hl:s.1.length<=1000000):dw s h e=some (sG s h e):=by
 obtain ⟨b,p,n,d⟩:=h
 simp only[dw,lu,HA,Cj s _ hl,pF,sG,tn,ai]
 generalize decide (fbI s b<0)=g1
 generalize decide (b={ data:=#[] })=g2
 generalize zh (n,d)=g3
 generalize decide (p=0)=p0
 generalize decide (p=1)=p1
 generalize decide (p= -1)=p2
 generalize decide (p=2)=p3
 generalize decide (p= -2)=p4
 generalize decide (n=1)=g4
 generalize decide (d=1)=g5
 cases e with
 | false =>
  cases g3;· rfl
  cases g2;case true=>rfl
  cases g1;case true=>rfl
  cases p3<;>cases p0<;>cases p4<;>rfl
 | true =>
  cases g4;· rfl
  cases g5;· rfl
  cases g2;case true=>rfl
  cases g1;case true=>rfl
  cases p1<;>cases p2<;>rfl
def xT (s:Sy) (r:Rp):Bool:=decide (2<=r.2.1.length/\r.2.1.length<=10)&&((List.range' 0 r.2.1.length).all (fun i=>sG s (r.2.1.getD i hd0) (decide (i=0)||decide (i=r.2.1.length - 1))) &&
 (!r.2.2||tn (r.2.1.getD (r.2.1.length - 1) hd0).1))
theorem Ja (s:Sy) (r:Rp) (hl:s.1.length<=1000000):eq s r=some (xT s r):=by
 obtain ⟨nm,hs,ha⟩:=r
 have hh:=fun h e=>KQ s h e hl
 simp only[eq,ly,wl,hh,ai,xT,pF]
 by_cases h2:2<=hs.length/\hs.length<=10
 ·have e:pj (hs.length:Int) 2 10=true:=by
   unfold pj
   rw[z7 (show (hs.length:Int)>=2 by omega),z7 (show (hs.length:Int)<=10 by omega)];rfl
  have hw0:IntKind.wrap .i64 ((hs.length:Int) - 1)=((hs.length - 1:Nat):Int):=by rw[a7 (by omega) (by omega)];omega
  rw[e,z7 h2]
  simp only[Bool.not_true,cF,Bool.true_and,hw0]
  refine (sP (α:=Int×PUnit) hs.length (by omega) (fun i (_:Unit)=>((i:Int),PUnit.unit)) (fun i t k=>bif sG s (hs.getD i hd0) (decide (i=0)||decide (i=hs.length - 1)) then k t else some false) (fun _=>some (!ha||tn (hs.getD (hs.length - 1) hd0).1)) ?_ ?_ ()).trans ?_
  ·intro again i _ hi
   have hw:IntKind.wrap .i64 ((i:Int)+1)=((i+1:Nat):Int):=by rw[a7 (by omega) (by omega)];rfl
   have e0:decide ((i:Int)=0)=decide (i=0):=decide_eq_decide.2 (by omega)
   have e1:decide ((i:Int)=((hs.length - 1:Nat):Int))=decide (i=hs.length - 1):=decide_eq_decide.2 (by omega)
   simp only[aR,z7 hi,z7 (show (i:Int)<hs.length by omega),cT,z9,hw,e0,e1,be,iU,Bool.and_self]
   have e3:(bif decide (i=0) then true else decide (i=hs.length - 1))=(decide (i=0)||decide (i=hs.length - 1)):=by cases decide (i=0)<;>rfl
   rw[e3]
   cases sG s (hs.getD i hd0) (decide (i=0)||decide (i=hs.length - 1))<;>rfl
  ·intro again _
   simp only[z8 (show ¬ (hs.length:Int)<hs.length by omega),cF,aR,z7 (show hs.length - 1<hs.length by omega),z9,tn]
   generalize decide ((List.getD hs (hs.length - 1) hd0).1={ data:=#[] })=g
   cases ha<;>rfl
  ·rw[pG hs.length (fun i k _=>rfl) hs.length 0 (by omega)]
   cases (List.range' 0 hs.length).all fun i=>sG s (hs.getD i hd0) (decide (i=0)||decide (i=hs.length - 1))<;>rfl
 ·have e:pj (hs.length:Int) 2 10=false:=by
   unfold pj
   by_cases g:(hs.length:Int)>=2
   ·rw[z7 g,z8 (show ¬ (hs.length:Int)<=10 by omega)];rfl
   ·rw[z8 g];rfl
  rw[e,z8 h2]
  rfl
def wN (s:Sy) (i:Nat):Bool:=xt (s.1.getD i bk0).1&&(!wZ (s.1.getD i bk0).1 ((s.1.map (·.fst)).take i)&&pj (s.1.getD i bk0).2 0 16777216)
def nL (s:Sy) (i:Nat):Bool:=xt (s.2.getD i rp0).1&&(!wZ (s.2.getD i rp0).1 (s.1.map (·.fst)++(s.2.map (·.fst)).take i)&&xT s (s.2.getD i rp0))
def Ap (rs:List Rp):Int:=(List.range' 0 rs.length).foldl (fun h i=>bif (rs.getD i rp0).2.2 then IntKind.wrap .i64 (h+1) else h) 0
def gY (s:Sy):Bool:=decide (1<=s.1.length/\s.1.length<=6/\1<=s.2.length/\s.2.length<=6)&&((List.range' 0 s.1.length).all (wN s)&&((List.range' 0 s.2.length).all (nL s)&&decide (Ap s.2<=1)))
theorem pP (s:Sy):aF s=some (gY s):=by
 obtain ⟨bs,rs⟩:=s
 simp only[aF,kG,wl,Gu,ai,gY]
 by_cases h1:1<=bs.length/\bs.length<=6
 ·have e1:pj (bs.length:Int) 1 6=true:=by
   unfold pj
   rw[z7 (show (bs.length:Int)>=1 by omega),z7 (show (bs.length:Int)<=6 by omega)];rfl
  by_cases h2:1<=rs.length/\rs.length<=6
  ·have e2:pj (rs.length:Int) 1 6=true:=by
    unfold pj
    rw[z7 (show (rs.length:Int)>=1 by omega),z7 (show (rs.length:Int)<=6 by omega)];rfl
   have hr:=fun r=>Ja (bs,rs) r (show bs.length<=1000000 by omega)
   simp only[e1,e2,hr,ai,Bool.not_true,Bool.not_false,Bool.or_true,cT,cF,z7 (show 1<=bs.length/\bs.length<=6/\1<=rs.length/\rs.length<=6 by omega),Bool.true_and]
   refine (sP (α:=Int×List (ByteArray×Bool)×PUnit) bs.length (by omega) (fun i (_:Unit)=>((i:Int),wd ((bs.map (·.fst)).take i),PUnit.unit)) (fun i t k=>bif wN (bs,rs) i then k t else some false)
    (fun _=>some ((List.range' 0 rs.length).all (nL (bs,rs))&&decide (Ap rs<=1))) ?_ ?_ ()).trans ?_
   ·intro again i _ hi
    have hw:IntKind.wrap .i64 ((i:Int)+1)=((i+1:Nat):Int):=by rw[a7 (by omega) (by omega)];rfl
    have hn:(bs.map (·.fst)).take (i+1)=(bs.map (·.fst)).take i++[(bs.getD i bk0).1]:=by
     rw[<-xz (d:=bk0.1) (by rw[List.length_map];exact hi),pE (d:=bk0) hi]
    simp only[aR,z7 hi,z7 (show (i:Int)<bs.length by omega),cT,z9,hw,xx,vA,<-hn,wN,be,Bool.and_self]
    generalize wZ (List.getD bs i bk0).1 ((bs.map (·.fst)).take i)=g1
    generalize pj (List.getD bs i bk0).2 0 16777216=g2
    cases xt (List.getD bs i bk0).1<;>cases g1<;>cases g2<;>rfl
   ·intro again _
    simp only[z8 (show ¬ (bs.length:Int)<bs.length by omega),cF]
    refine (sP (α:=Int×Int×List (ByteArray×Bool)×PUnit) rs.length (by omega) (fun i (h:Int)=>(h,(i:Int),wd (bs.map (·.fst)++(rs.map (·.fst)).take i),PUnit.unit)) (fun i t k=>bif nL (bs,rs) i then k (bif (rs.getD i rp0).2.2 then IntKind.wrap .i64 (t+1) else t) else some false)
     (fun h=>some (decide (h<=1))) ?_ ?_ 0 |>Eq.trans (by rw[List.take_zero,List.append_nil,List.take_of_length_le (by rw[List.length_map];omega)];rfl)).trans ?_
    ·intro again i t hi
     have hw:IntKind.wrap .i64 ((i:Int)+1)=((i+1:Nat):Int):=by rw[a7 (by omega) (by omega)];rfl
     have hn:bs.map (·.fst)++(rs.map (·.fst)).take (i+1)=bs.map (·.fst)++(rs.map (·.fst)).take i++[(rs.getD i rp0).1]:=by
      rw[<-xz (d:=rp0.1) (by rw[List.length_map];exact hi),pE (d:=rp0) hi,List.append_assoc]
     simp only[aR,z7 hi,z7 (show (i:Int)<rs.length by omega),cT,z9,hw,xx,vA,<-hn,nL,be,Bool.and_self]
     generalize wZ (List.getD rs i rp0).1 (bs.map (·.fst)++(rs.map (·.fst)).take i)=g1
     generalize xT (bs,rs) (List.getD rs i rp0)=g2
     cases xt (List.getD rs i rp0).1<;>cases g1<;>cases g2<;>cases (List.getD rs i rp0).2.2<;>rfl
    ·intro again t
     simp only[z8 (show ¬ (rs.length:Int)<rs.length by omega),cF]
    ·rw[Fj (q:=nL (bs,rs)) (g:=fun i t=>bif (rs.getD i rp0).2.2 then IntKind.wrap .i64 (t+1) else t) rs.length (fun i s k _=>rfl) rs.length 0 _ (by omega)]
     unfold Ap
     cases (List.range' 0 rs.length).all (nL (bs,rs))<;>rfl
   ·rw[pG bs.length (fun i k _=>rfl) bs.length 0 (by omega)]
    cases (List.range' 0 bs.length).all (wN (bs,rs))<;>rfl
  ·have e2:pj (rs.length:Int) 1 6=false:=by
    unfold pj
    by_cases g:(rs.length:Int)>=1
    ·rw[z7 g,z8 (show ¬ (rs.length:Int)<=6 by omega)];rfl
    ·rw[z8 g];rfl
   rw[e1,e2,z8 (show ¬ (1<=bs.length/\bs.length<=6/\1<=rs.length/\rs.length<=6) by omega)]
   rfl
 ·have e1:pj (bs.length:Int) 1 6=false:=by
   unfold pj
   by_cases g:(bs.length:Int)>=1
   ·rw[z7 g,z8 (show ¬ (bs.length:Int)<=6 by omega)];rfl
   ·rw[z8 g];rfl
  rw[e1,z8 (show ¬ (1<=bs.length/\bs.length<=6/\1<=rs.length/\rs.length<=6) by omega)]
  rfl
end
end Go.Proofs.YtfknoaclabfdlaaGreat

namespace Go.Proofs.YtfknoaclabfdlaaGreat
namespace Dn
def ab (x:Int):Int:=(x.natAbs:Int)
theorem cq (x:Int):0<=ab x:=by unfold ab;omega
theorem Pp (x y:Int):ab (x+y)<=ab x+ab y:=by unfold ab;omega
theorem tG {x b:Int}:ab x<=b↔ -b<=x/\x<=b:=by unfold ab;omega
theorem nZ (x y:Int):ab (x*y)=ab x*ab y:=by
 unfold ab
 rw[Int.natAbs_mul]
 rfl
def sz:Nat->(Nat->Int)->Int
 | 0,_=>0
 | n+1,f=>sz n f+f n
theorem bn:∀{n:Nat} {f g:Nat->Int},(∀i,i<n->f i=g i)->sz n f=sz n g
 | 0,_,_,_=>rfl
 | n+1,f,g,h=>by
  simp only[sz]
  rw[bn (n:=n) fun i hi=>h i (by omega),h n (by omega)]
theorem mF:∀{n:Nat} {f g:Nat->Int},sz n (fun i=>f i+g i)=sz n f+sz n g
 | 0,_,_=>rfl
 | n+1,f,g=>by
  simp only[sz]
  rw[mF]
  omega
theorem fK:∀{n:Nat} {c:Int} {f:Nat->Int},sz n (fun i=>c*f i)=c*sz n f
 | 0,c,_=>by simp[sz]
 | n+1,c,f=>by
  simp only[sz]
  rw[fK,Int.mul_add]
theorem zQ {n:Nat} {c:Int} {f:Nat->Int}:sz n (fun i=>f i*c)=sz n f*c:=by
 rw[Int.mul_comm,<-fK]
 exact bn fun i _=>Int.mul_comm _ _
theorem fP:∀{n:Nat} {f:Nat->Int},(∀i,i<n->f i=0)->sz n f=0
 | 0,_,_=>rfl
 | n+1,f,h=>by
  simp only[sz]
  rw[fP fun i hi=>h i (by omega),h n (by omega)]
  rfl
theorem Pf {n:Nat} {f:Nat->Int}:sz n (fun i=> - f i)= - sz n f:=by
 have:sz n (fun i=> - f i)=sz n (fun i=>(-1)*f i):=bn fun i _=>by omega
 rw[this,fK]
 omega
theorem vS {n:Nat} {f g:Nat->Int}:sz n (fun i=>f i - g i)=sz n f - sz n g:=by
 have:sz n (fun i=>f i - g i)=sz n (fun i=>f i+ - g i):=bn fun i _=>by omega
 rw[this,mF,Pf]
 omega
theorem eB:∀{n:Nat} {f:Nat->Int} {k:Nat},k<n->(∀i,i<n->i≠k->f i=0)->sz n f=f k
 | n+1,f,k,hk,h=>by
  simp only[sz]
  by_cases e:k=n
  ·subst e
   rw[fP fun i hi=>h i (by omega) (by omega)]
   omega
  ·rw[eB (k:=k) (by omega) fun i hi hne=>h i (by omega) hne,h n (by omega) (fun e'=>e e'.symm)]
   omega
theorem DF {n:Nat} {f:Nat->Int} {k l:Nat} (hk:k<n) (hl:l<n) (hkl:k≠l) (h:∀i,i<n->i≠k->i≠l->f i=0):sz n f=f k+f l:=by
 have e:sz n f=sz n (fun i=>(if i=k then f k else 0)+(if i=l then f l else 0)):=bn fun i hi=>by
  by_cases h1:i=k
  ·subst h1;rw[if_pos rfl,if_neg hkl];omega
  ·by_cases h2:i=l
   ·subst h2;rw[if_neg h1,if_pos rfl];omega
   ·rw[if_neg h1,if_neg h2,h i hi h1 h2];rfl
 rw[e,mF,eB hk (f:=fun i=>if i=k then f k else 0) (fun i _ hne=>if_neg hne),eB hl (f:=fun i=>if i=l then f l else 0) (fun i _ hne=>if_neg hne)]
 simp
theorem rU:∀{m n:Nat} {f:Nat->Nat->Int},sz m (fun i=>sz n (fun j=>f i j))=sz n (fun j=>sz m (fun i=>f i j))
 | 0,n,f=>by
  simp only[sz]
  exact (fP fun _ _=>rfl).symm
 | m+1,n,f=>by
  simp only[sz]
  rw[rU,mF]
theorem oh:∀{n:Nat} {f g:Nat->Int},(∀i,i<n->f i<=g i)->sz n f<=sz n g
 | 0,_,_,_=>Int.le_refl _
 | n+1,f,g,h=>by
  simp only[sz]
  have:=oh (n:=n) fun i hi=>h i (by omega)
  have:=h n (by omega)
  omega
theorem ii {n:Nat} {f:Nat->Int} (h:∀i,i<n->0<=f i):0<=sz n f:=by
 have:=oh (n:=n) (f:=fun _=>0) (g:=f) h
 rwa [fP fun _ _=>rfl] at this
theorem yF:∀{n:Nat} {f:Nat->Int},ab (sz n f)<=sz n (fun i=>ab (f i))
 | 0,_=>by simp[sz,ab]
 | n+1,f=>by
  simp only[sz]
  have:=yF (n:=n) (f:=f)
  have:=Pp (sz n f) (f n)
  omega
def skip (k j:Nat):Nat:=if j<k then j else j+1
def sgd (k:Nat):Int:=if k % 2=0 then 1 else -1
theorem Iy (k:Nat):sgd (k+1)= - sgd k:=by
 unfold sgd
 split<;>split<;>omega
theorem EC (k:Nat) (x:Int):ab (sgd k*x)=ab x:=by
 unfold sgd ab
 split<;>omega
def iu (A:Nat->Nat->Int) (k:Nat):Nat->Nat->Int:=fun i j=>A (i+1) (skip k j)
def det:Nat->(Nat->Nat->Int)->Int
 | 0,_=>1
 | n+1,A=>sz (n+1) fun k=>sgd k*A 0 k*det n (iu A k)
def bP (A:Nat->Nat->Int) (c:Nat) (v:Nat->Int):Nat->Nat->Int:=fun i j=>if j=c then v i else A i j
theorem ik:∀{n:Nat} {A B:Nat->Nat->Int},(∀i j,i<n->j<n->A i j=B i j)->det n A=det n B
 | 0,_,_,_=>rfl
 | n+1,A,B,h=>by
  simp only[det]
  refine bn fun k hk=>?_
  rw[h 0 k (by omega) hk,ik (A:=iu A k) (B:=iu B k) fun i j hi hj=>h (i+1) (skip k j) (by omega) (by unfold skip;split<;>omega)]
theorem oi {A:Nat->Nat->Int} {k:Nat} {v:Nat->Int}:iu (bP A k v) k=iu A k:=by
 funext i j
 unfold iu bP
 rw[if_neg]
 unfold skip
 split<;>omega
def D4 (k c:Nat):Nat:=if c<k then c else c - 1
theorem lF {A:Nat->Nat->Int} {k c:Nat} {v:Nat->Int} (h:k≠c):iu (bP A c v) k=bP (iu A k) (D4 k c) (fun i=>v (i+1)):=by
 funext i j
 unfold iu bP skip D4
 by_cases h1:j<k<;>by_cases h2:c<k
 ·simp only[h1,h2,if_true]
 ·simp only[h1,h2,if_true,if_false]
  rw[if_neg (by omega),if_neg (by omega)]
 ·simp only[h1,h2,if_true,if_false]
  rw[if_neg (by omega),if_neg (by omega)]
 ·simp only[h1,h2,if_false]
  by_cases h3:j+1=c
  ·rw[if_pos h3,if_pos (by omega)]
  ·rw[if_neg h3,if_neg (by omega)]
theorem me:∀{n:Nat} {A:Nat->Nat->Int} {c:Nat} {u v:Nat->Int},c<n->det n (bP A c fun i=>u i+v i)=det n (bP A c u)+det n (bP A c v)
 | n+1,A,c,u,v,hc=>by
  simp only[det]
  rw[<-mF]
  refine bn fun k hk=>?_
  by_cases h:k=c
  ·subst h
   simp only[oi]
   have e:∀v:Nat->Int,bP A k v 0 k=v 0:=fun v=>by simp[bP]
   rw[e,e,e,Int.mul_add,Int.add_mul]
  ·have e:∀v:Nat->Int,bP A c v 0 k=A 0 k:=fun v=>by simp[bP,h]
   rw[lF h,lF h,lF h,e,e,e,me (u:=fun i=>u (i+1)) (v:=fun i=>v (i+1)) (by unfold D4;split<;>omega),Int.mul_add]
theorem mW:∀{n:Nat} {A:Nat->Nat->Int} {c:Nat} {x:Int} {u:Nat->Int},c<n->det n (bP A c fun i=>x*u i)=x*det n (bP A c u)
 | n+1,A,c,x,u,hc=>by
  simp only[det]
  rw[<-fK]
  refine bn fun k hk=>?_
  by_cases h:k=c
  ·subst h
   simp only[oi]
   have e:∀v:Nat->Int,bP A k v 0 k=v 0:=fun v=>by simp[bP]
   rw[e,e]
   simp only[Int.mul_assoc,Int.mul_left_comm]
  ·have e:∀v:Nat->Int,bP A c v 0 k=A 0 k:=fun v=>by simp[bP,h]
   rw[lF h,lF h,e,e,mW (u:=fun i=>u (i+1)) (by unfold D4;split<;>omega)]
   simp only[Int.mul_assoc,Int.mul_left_comm]
theorem HX {n:Nat} {A:Nat->Nat->Int} {c:Nat} (hc:c<n):det n (bP A c fun _=>0)=0:=by
 have:=mW (n:=n) (A:=A) (x:=0) (u:=fun _=>0) hc
 simpa using this
theorem r9 {n:Nat} {A:Nat->Nat->Int} {c:Nat} (hc:c<n):∀{m:Nat} {x:Nat->Int} {u:Nat->Nat->Int},det n (bP A c fun i=>sz m fun l=>x l*u l i)=sz m fun l=>x l*det n (bP A c (u l))
 | 0,x,u=>by simp only[sz];exact HX hc
 | m+1,x,u=>by
  simp only[sz]
  rw[me hc,mW hc,r9 hc]
theorem yM:∀{n:Nat} {A:Nat->Nat->Int} {c:Nat},c+1<n->(∀i,i<n->A i c=A i (c+1))->det n A=0
 | n+1,A,c,hc,h=>by
  simp only[det]
  rw[DF (k:=c) (l:=c+1) (by omega) hc (by omega) fun k hk h1 h2=>?_]
  ·have e:det n (iu A c)=det n (iu A (c+1)):=by
    refine ik fun i j hi hj=>?_
    unfold iu skip
    by_cases h1:j<c
    ·rw[if_pos h1,if_pos (by omega)]
    ·by_cases h2:j=c
     ·subst h2
      rw[if_neg h1,if_pos (by omega)]
      exact (h (i+1) (by omega)).symm
     ·rw[if_neg h1,if_neg (by omega)]
   rw[e,Iy,h 0 (by omega)]
   simp only[Int.neg_mul]
   omega
  ·have e:det n (iu A k)=0:=by
    refine yM (c:=D4 k c) ?_ fun i hi=>?_
    ·unfold D4;split<;>omega
    ·unfold iu skip D4
     by_cases h3:c<k
     ·simp only[h3,if_true]
      rw[if_pos (by omega)]
      exact h (i+1) (by omega)
     ·simp only[h3,if_false]
      rw[if_neg (by omega),if_neg (by omega),show c - 1+1=c by omega]
      exact h (i+1) (by omega)
   rw[e,Int.mul_zero]
theorem mI (A:Nat->Nat->Int) (c:Nat):bP A c (fun i=>A i c)=A:=by
 funext i j
 unfold bP
 split
 ·rename_i h;rw[h]
 ·rfl
theorem dZ {A:Nat->Nat->Int} {c e:Nat} {u v:Nat->Int} (h:c≠e):bP (bP A c u) e v=bP (bP A e v) c u:=by
 funext i j
 unfold bP
 by_cases h1:j=c<;>by_cases h2:j=e
 ·omega
 ·simp[h1,h]
 ·simp[h2,Ne.symm h]
 ·simp[h1,h2]
theorem zP {n:Nat} {A:Nat->Nat->Int} {c:Nat} {u v:Nat->Int} (hc:c+1<n):det n (bP (bP A c u) (c+1) v)= - det n (bP (bP A c v) (c+1) u):=by
 have h0:∀w:Nat->Int,det n (bP (bP A c w) (c+1) w)=0:=fun w=>yM hc fun i _=>by simp[bP]
 have h1:=h0 fun i=>u i+v i
 rw[me hc,dZ (by omega),dZ (u:=fun i=>u i+v i) (by omega),me (by omega),me (by omega),dZ (c:=c+1) (by omega),dZ (c:=c+1) (v:=v) (by omega),dZ (c:=c+1) (u:=v) (v:=u) (by omega),dZ (c:=c+1) (u:=v) (v:=v) (by omega),h0,h0] at h1
 omega
theorem Du:∀{k:Nat} {n:Nat} {A:Nat->Nat->Int} {c:Nat},c+k+1<n->(∀i,i<n->A i c=A i (c+k+1))->det n A=0
 | 0,n,A,c,hc,h=>yM hc h
 | k+1,n,A,c,hc,h=>by
  have e:A=bP (bP A (c+k+1) fun i=>A i (c+k+1)) (c+k+1+1) fun i=>A i (c+k+1+1):=by
   rw[mI,mI]
  rw[e,zP (by omega)]
  have:det n (bP (bP A (c+k+1) fun i=>A i (c+k+1+1)) (c+k+1+1) fun i=>A i (c+k+1))=0:=by
   refine Du (k:=k) (c:=c) (by omega) fun i hi=>?_
   simp only[bP]
   rw[if_neg (by omega),if_neg (by omega),if_neg (by omega)]
   simp only[if_true]
   exact h i hi
  rw[this]
  rfl
theorem kY {n:Nat} {A:Nat->Nat->Int} {a b:Nat} (ha:a<n) (hb:b<n) (hab:a≠b) (h:∀i,i<n->A i a=A i b):det n A=0:=by
 by_cases hlt:a<b
 ·obtain ⟨k,rfl⟩:∃k,b=a+k+1:=⟨b - a - 1,by omega⟩
  exact Du hb h
 ·obtain ⟨k,rfl⟩:∃k,a=b+k+1:=⟨a - b - 1,by omega⟩
  exact Du ha fun i hi=>(h i hi).symm
theorem A0 {n:Nat} {A:Nat->Nat->Int} {a b:Nat} {u v:Nat->Int} (ha:a<n) (hb:b<n) (hab:a≠b):det n (bP (bP A a u) b v)= - det n (bP (bP A a v) b u):=by
 have h0:∀w:Nat->Int,det n (bP (bP A a w) b w)=0:=fun w=>kY ha hb hab fun i _=>by simp[bP]
 have h1:=h0 fun i=>u i+v i
 rw[me hb,dZ hab,dZ (u:=fun i=>u i+v i) hab,me ha,me ha,dZ (c:=b) (Ne.symm hab),dZ (c:=b) (v:=v) (Ne.symm hab),dZ (c:=b) (u:=v) (v:=u) (Ne.symm hab),dZ (c:=b) (u:=v) (v:=v) (Ne.symm hab),h0,h0] at h1
 omega
def pz:Nat->(Nat->Int)->Int
 | 0,_=>1
 | n+1,f=>f 0*pz n fun i=>f (i+1)
theorem sS:∀{n:Nat} {f:Nat->Int},(∀i,i<n->0<=f i)->0<=pz n f
 | 0,_,_=>by simp[pz]
 | n+1,f,h=>Int.mul_nonneg (h 0 (by omega)) (sS fun i hi=>h (i+1) (by omega))
theorem Hg:∀{n:Nat} {f g:Nat->Int},(∀i,i<n->0<=f i/\f i<=g i)->pz n f<=pz n g
 | 0,_,_,_=>Int.le_refl _
 | n+1,f,g,h=>by
  simp only[pz]
  have h1:=Hg (n:=n) (f:=fun i=>f (i+1)) (g:=fun i=>g (i+1)) fun i hi=>h (i+1) (by omega)
  have h2:=h 0 (by omega)
  have h3:=sS (n:=n) (f:=fun i=>f (i+1)) fun i hi=>(h (i+1) (by omega)).1
  exact Int.mul_le_mul h2.2 h1 h3 (Int.le_trans h2.1 h2.2)
theorem ET:∀{n k:Nat} {f:Nat->Int},k<=n->sz n (fun j=>f (skip k j))+f k=sz (n+1) f
 | 0,k,f,hk=>by
  have:k=0:=by omega
  subst this
  simp[sz]
 | n+1,k,f,hk=>by
  by_cases h:k=n+1
  ·subst h
   have e:=bn (n:=n+1) (f:=fun j=>f (skip (n+1) j)) (g:=f) fun j hj=>by simp[skip,hj]
   rw[e]
   rfl
  ·have:=ET (n:=n) (k:=k) (f:=f) (by omega)
   simp only[sz] at this ⊢
   have e:f (skip k n)=f (n+1):=by unfold skip;rw[if_neg (by omega)]
   rw[e]
   omega
theorem xG:∀{n:Nat} {A:Nat->Nat->Int},ab (det n A)<=pz n fun i=>sz n fun j=>ab (A i j)
 | 0,A=>by simp[det,pz,ab]
 | n+1,A=>by
  simp only[det,pz]
  refine Int.le_trans yF ?_
  have hP:0<=pz n fun i=>sz (n+1) fun j=>ab (A (i+1) j):=sS fun i _=>ii fun j _=>cq _
  refine Int.le_trans (oh (g:=fun k=>ab (A 0 k)*pz n fun i=>sz (n+1) fun j=>ab (A (i+1) j)) fun k hk=>?_) (by rw[zQ];exact Int.le_refl _)
  rw[Int.mul_assoc,EC,nZ]
  refine Int.mul_le_mul_of_nonneg_left (Int.le_trans xG (Hg fun i hi=>⟨ii fun j _=>cq _,?_⟩)) (cq _)
  have:=ET (n:=n) (k:=k) (f:=fun j=>ab (A (i+1) j)) (by omega)
  have h0:=cq (A (i+1) k)
  simp only[iu]
  omega
def upd (β:Nat->Nat) (r c:Nat):Nat->Nat:=fun k=>if k=r then c else β k
def dX (M:Nat->Nat->Int) (γ:Nat->Nat):Nat->Nat->Int:=fun i k=>M i (γ k)
def dc (m:Nat) (M:Nat->Nat->Int) (γ:Nat->Nat):Int:=det m (dX M γ)
theorem l5 (M:Nat->Nat->Int) (β:Nat->Nat) (r c:Nat):dX M (upd β r c)=bP (dX M β) r (fun i=>M i c):=by
 funext i k
 unfold dX upd bP
 split<;>rfl
theorem Nh (β:Nat->Nat) (r c e:Nat):upd (upd β r c) r e=upd β r e:=by
 funext k
 unfold upd
 split<;>rfl
theorem K7 (β:Nat->Nat) (r:Nat):upd β r (β r)=β:=by
 funext k
 unfold upd
 split
 ·rename_i h;rw[h]
 ·rfl
structure Tb (m w:Nat) (M T:Nat->Nat->Int) (d:Int) (β:Nat->Nat):Prop where
 dpos:0<d
 lt:∀i,i<m->β i<w
 co:∀k,k<m->∀j,j<w->d*M k j=sz m fun i=>T i j*M k (β i)
 cr:∃σ:Int,σ*σ=1/\d=σ*dc m M β/\∀i,i<m->∀j,j<w->T i j=σ*dc m M (upd β i j)
section
variable {m w:Nat} {M T:Nat->Nat->Int} {d:Int} {β:Nat->Nat}
theorem zJ {i k:Nat} (hi:i<m) (hk:k<m) (h:i≠k):dc m M (upd β i (β k))=0:=by
 refine kY hi hk h fun l _=>?_
 unfold dX upd
 rw[if_pos rfl,if_neg (Ne.symm h)]
theorem Tb.basis (h:Tb m w M T d β) {i:Nat} (hi:i<m):T i (β i)=d:=by
 obtain ⟨σ,_,h2,h3⟩:=h.cr
 rw[h3 i hi _ (h.lt i hi),K7,<-h2]
theorem Tb.other (h:Tb m w M T d β) {i k:Nat} (hi:i<m) (hk:k<m) (hik:i≠k):T i (β k)=0:=by
 obtain ⟨σ,_,h2,h3⟩:=h.cr
 rw[h3 i hi _ (h.lt k hk),zJ hi hk hik,Int.mul_zero]
theorem Tb.inj (h:Tb m w M T d β) {i k:Nat} (hi:i<m) (hk:k<m) (hb:β i=β k):i=k:=by
 by_cases e:i=k
 ·exact e
 ·have h1:=h.other hi hk e
  rw[<-hb,h.basis hi] at h1
  have:=h.dpos
  omega
theorem IH (h:Tb m w M T d β) {r i c j:Nat} (hr:r<m) (hi:i<m) (hri:r≠i) (hc:c<w) (hj:j<w) :
  d*d*dc m M (upd (upd β r c) i j)=(T r c*T i j - T i c*T r j)*dc m M β:=by
 obtain ⟨B,hB⟩:∃B,B=dX M β:=⟨_,rfl⟩
 have e1:d*d*dc m M (upd (upd β r c) i j)=det m (bP (bP B r fun q=>d*M q c) i fun q=>d*M q j):=by
  have a1:=mW (n:=m) (A:=bP B r fun q=>d*M q c) (c:=i) (x:=d) (u:=fun q=>M q j) hi
  have a2:=mW (n:=m) (A:=bP B i fun q=>M q j) (c:=r) (x:=d) (u:=fun q=>M q c) hr
  unfold dc
  rw[l5,l5,<-hB,a1,dZ (u:=fun q=>d*M q c) hri,a2,dZ (u:=fun q=>M q c) hri,Int.mul_assoc]
 have e2:det m (bP (bP B r fun q=>d*M q c) i fun q=>d*M q j)=det m (bP (bP B r fun q=>sz m fun k=>T k c*B q k) i fun q=>sz m fun l=>T l j*B q l):=by
  refine ik fun p q hp hq=>?_
  unfold bP
  rw[hB]
  split
  ·exact h.co p hp j hj
  ·split
   ·exact h.co p hp c hc
   ·rfl
 rw[e1,e2,r9 hi (x:=fun l=>T l j) (u:=fun l q=>B q l)]
 have e3:∀l,det m (bP (bP B r fun q=>sz m fun k=>T k c*B q k) i fun q=>B q l)=sz m fun k=>T k c*det m (bP (bP B i fun q=>B q l) r fun q=>B q k):=fun l=>by
  rw[dZ hri,r9 hr (x:=fun k=>T k c) (u:=fun k q=>B q k)]
 have z1:∀k l,k<m->k≠r->k≠i->det m (bP (bP B i fun q=>B q l) r fun q=>B q k)=0:=fun k l hk h1 h2 =>
  kY hr hk h1.symm fun q _=>by simp[bP,h1,h2]
 have z2:∀k l,l<m->l≠r->l≠i->det m (bP (bP B i fun q=>B q l) r fun q=>B q k)=0:=fun k l hl h1 h2 =>
  kY hi hl h2.symm fun q _=>by simp[bP,h1,h2,hri.symm]
 have z3:det m (bP (bP B i fun q=>B q r) r fun q=>B q r)=0:=kY hi hr hri.symm fun q _=>by simp[bP,hri.symm]
 have z4:det m (bP (bP B i fun q=>B q i) r fun q=>B q i)=0:=kY hi hr hri.symm fun q _=>by simp[bP,hri.symm]
 have z5:det m (bP (bP B i fun q=>B q i) r fun q=>B q r)=det m B:=by
  rw[mI,mI]
 have z6:det m (bP (bP B i fun q=>B q r) r fun q=>B q i)= - det m B:=by
  rw[A0 hi hr hri.symm,z5]
 have e4:∀l,l<m->(sz m fun k=>T k c*det m (bP (bP B i fun q=>B q l) r fun q=>B q k))=T r c*det m (bP (bP B i fun q=>B q l) r fun q=>B q r)+T i c*det m (bP (bP B i fun q=>B q l) r fun q=>B q i):=fun l _ =>
  DF hr hi hri fun k hk h1 h2=>by rw[z1 k l hk h1 h2,Int.mul_zero]
 rw[bn (g:=fun l=>T l j*(T r c*det m (bP (bP B i fun q=>B q l) r fun q=>B q r)+T i c*det m (bP (bP B i fun q=>B q l) r fun q=>B q i))) fun l hl=>by rw[e3 l,e4 l hl]]
 rw[DF hr hi hri fun l hl h1 h2=>by rw[z2 r l hl h1 h2,z2 i l hl h1 h2];simp]
 rw[z3,z4,z5,z6]
 have:dc m M β=det m B:=by rw[hB];rfl
 rw[this]
 grind
def piv (T:Nat->Nat->Int) (d:Int) (r c i j:Nat):Int:=(T r c*T i j - T i c*T r j) / d
theorem iW (h:Tb m w M T d β) {r i c j:Nat} (hr:r<m) (hi:i<m) (hri:r≠i) (hc:c<w) (hj:j<w):d*piv T d r c i j=T r c*T i j - T i c*T r j:=by
 obtain ⟨σ,h1,h2,_⟩:=h.cr
 have h3:=IH h hr hi hri hc hj
 have hd:=h.dpos
 have h4:dc m M β=σ*d:=by rw[h2,<-Int.mul_assoc,h1,Int.one_mul]
 rw[h4] at h3
 have h5:d*(d*dc m M (upd (upd β r c) i j))=d*((T r c*T i j - T i c*T r j)*σ):=by
  rw[<-Int.mul_assoc,h3]
  grind
 have h6:=Int.eq_of_mul_eq_mul_left (by omega) h5
 have h7:T r c*T i j - T i c*T r j=d*(σ*dc m M (upd (upd β r c) i j)):=by
  have:(T r c*T i j - T i c*T r j)*σ*σ=d*dc m M (upd (upd β r c) i j)*σ:=by rw[h6]
  rw[Int.mul_assoc,h1,Int.mul_one] at this
  rw[this]
  grind
 unfold piv
 rw[h7,Int.mul_ediv_cancel_left _ (by omega)]
theorem PF (h:Tb m w M T d β) {σ:Int} (h1:σ*σ=1) (h2:d=σ*dc m M β) {r i c j:Nat} (hr:r<m) (hi:i<m) (hri:r≠i) (hc:c<w) (hj:j<w):piv T d r c i j=σ*dc m M (upd (upd β r c) i j):=by
 have h3:=IH h hr hi hri hc hj
 have hd:=h.dpos
 have h4:dc m M β=σ*d:=by rw[h2,<-Int.mul_assoc,h1,Int.one_mul]
 have h5:=iW h hr hi hri hc hj
 rw[h4,<-h5] at h3
 have h6:(d*d)*dc m M (upd (upd β r c) i j)=(d*d)*(piv T d r c i j*σ):=by rw[h3];grind
 have h7:=Int.eq_of_mul_eq_mul_left (Int.ne_of_gt (Int.mul_pos hd hd)) h6
 rw[h7]
 grind
def sg (x:Int):Int:=if x<0 then -1 else 1
theorem DR (x:Int):sg x*sg x=1:=by unfold sg;split<;>rfl
theorem JN {x:Int} (h:x≠0):0<sg x*x:=by unfold sg;split<;>omega
def mu (T:Nat->Nat->Int) (d:Int) (r c:Nat):Nat->Nat->Int:=fun i j=>sg (T r c)*(if i=r then T r j else piv T d r c i j)
theorem Tb.step (h:Tb m w M T d β) {r c:Nat} (hr:r<m) (hc:c<w) (he:T r c≠0):Tb m w M (mu T d r c) (sg (T r c)*T r c) (upd β r c):=by
 have hd:=h.dpos
 refine ⟨JN he,fun i hi=>?_,fun k hk j hj=>?_,?_⟩
 ·unfold upd
  split
  ·exact hc
  ·exact h.lt i hi
 ·have h1:∀i,i<m->d*((if i=r then T r j else piv T d r c i j)*M k (upd β r c i))=(T r c*(T i j*M k (β i)) - T r j*(T i c*M k (β i)))+(if i=r then d*(T r j*M k c) else 0):=fun i hi=>by
   unfold upd
   by_cases e:i=r
   ·subst e
    simp only[if_true]
    grind
   ·simp only[e,if_false,Int.add_zero]
    rw[<-Int.mul_assoc,iW h hr hi (Ne.symm e) hc hj]
    grind
  have h2:d*(sz m fun i=>(if i=r then T r j else piv T d r c i j)*M k (upd β r c i))=d*(T r c*M k j):=by
   rw[<-fK,bn h1,mF,vS,fK,fK,<-h.co k hk j hj,<-h.co k hk c hc,eB hr fun i _ hne=>if_neg hne,if_pos rfl]
   grind
  have h3:=Int.eq_of_mul_eq_mul_left (by omega) h2
  have h4:(sz m fun i=>mu T d r c i j*M k (upd β r c i))=sg (T r c)*sz m fun i=>(if i=r then T r j else piv T d r c i j)*M k (upd β r c i):=by
   rw[<-fK]
   exact bn fun i _=>by unfold mu;rw[Int.mul_assoc]
  rw[h4,h3,Int.mul_assoc]
 ·obtain ⟨σ,h1,h2,h3⟩:=h.cr
  refine ⟨sg (T r c)*σ,?_,?_,fun i hi j hj=>?_⟩
  ·have:=DR (T r c)
   grind
  ·rw[h3 r hr c hc]
   grind
  ·unfold mu
   by_cases e:i=r
   ·subst e
    rw[if_pos rfl,h3 i hi j hj,Nh]
    grind
   ·rw[if_neg e,PF h h1 h2 hr hi (Ne.symm e) hc hj]
    grind
theorem Ft:∀n:Nat,det n (fun i k=>if i=k then 1 else 0)=1
 | 0=>rfl
 | n+1=>by
  simp only[det]
  rw[eB (k:=0) (by omega) fun k _ hk=>by rw[if_neg (Ne.symm hk)];simp]
  have:det n (iu (fun i k=>if i=k then 1 else 0) 0)=det n (fun i k=>if i=k then 1 else 0):=ik fun i j _ _=>by
   unfold iu skip
   simp
  rw[this,Ft n]
  simp[sgd]
theorem Tb.first {a:Nat->Nat} (ha:∀i,i<m->a i<w) (hM:∀k,k<m->∀i,i<m->M k (a i)=if k=i then 1 else 0):Tb m w M M 1 a:=by
 have h1:dc m M a=1:=by
  unfold dc
  rw[<-Ft m]
  exact ik fun i j hi hj=>hM i hi j hj
 refine ⟨by omega,ha,fun k hk j hj=>?_,1,by omega,by rw[h1];rfl,fun i hi j hj=>?_⟩
 ·rw[eB hk fun i hi hne=>by rw[hM k hk i hi,if_neg (Ne.symm hne),Int.mul_zero],hM k hk k hk,if_pos rfl]
  omega
 ·unfold dc
  rw[l5]
  have e:det m (bP (dX M a) i fun q=>M q j)=det m (bP (dX M a) i fun q=>sz m fun k=>M k j*dX M a q k):=by
   refine ik fun p q hp hq=>?_
   unfold bP
   split
   ·show M p j=sz m fun k=>M k j*dX M a p k
    rw[eB hp fun k hk hne=>by unfold dX;rw[hM p hp k hk,if_neg (Ne.symm hne),Int.mul_zero]]
    unfold dX
    rw[hM p hp p hp,if_pos rfl]
    omega
   ·rfl
  rw[e,r9 hi (x:=fun k=>M k j) (u:=fun k q=>dX M a q k),eB hi fun k hk hne=>by
   rw[kY hi hk (Ne.symm hne) fun q _=>by simp[bP,hne],Int.mul_zero],mI]
  have:det m (dX M a)=1:=h1
  rw[this]
  omega
theorem Tb.rows (h:Tb m w M T d β) {a:Nat->Nat} (ha:∀i,i<m->a i<w) (hM:∀k,k<m->∀i,i<m->M k (a i)=if k=i then 1 else 0) {i j:Nat} (hi:i<m) (hj:j<w):T i j=sz m fun k=>T i (a k)*M k j:=by
 obtain ⟨σ,h1,h2,h3⟩:=h.cr
 rw[h3 i hi j hj]
 have e:dc m M (upd β i j)=sz m fun k=>M k j*dc m M (upd β i (a k)):=by
  unfold dc
  rw[l5]
  have e:det m (bP (dX M β) i fun q=>M q j)=det m (bP (dX M β) i fun q=>sz m fun k=>M k j*M q (a k)):=by
   refine ik fun p q hp hq=>?_
   unfold bP
   split
   ·show M p j=sz m fun k=>M k j*M p (a k)
    rw[eB hp fun k hk hne=>by rw[hM p hp k hk,if_neg (Ne.symm hne),Int.mul_zero],hM p hp p hp,if_pos rfl]
    omega
   ·rfl
  rw[e,r9 hi (x:=fun k=>M k j) (u:=fun k q=>M q (a k))]
  exact bn fun k _=>by rw[l5]
 rw[e,<-fK]
 exact bn fun k hk=>by rw[h3 i hi _ (ha k hk)];grind
theorem Tb.bound (h:Tb m w M T d β) {i j:Nat} (hi:i<m) (hj:j<w):ab (T i j)=ab (dc m M (upd β i j)):=by
 obtain ⟨σ,h1,_,h3⟩:=h.cr
 rw[h3 i hi j hj,nZ]
 have h4:ab σ*ab σ=1:=by rw[<-nZ,h1];rfl
 have h5:ab σ=1:=by
  have h6:=cq σ
  by_cases h7:ab σ<=1
  ·have:ab σ≠0:=fun e=>by rw[e] at h4;simp at h4
   omega
  ·exfalso
   have:2*2<=ab σ*ab σ:=Int.mul_le_mul (by omega) (by omega) (by omega) h6
   omega
 rw[h5,Int.one_mul]
end
structure Sx where
 T:Nat->Nat->Int
 d:Int
 β:Nat->Nat
def zr (m:Nat) (wc:Nat->Int) (S:Sx) (j:Nat):Int:=wc j*S.d - sz m fun i=>wc (S.β i)*S.T i j
structure Leaves (m R:Nat) (S:Sx) (c r:Nat):Prop where
 lt:r<m
 pos:0<S.T r c
 le:∀i,i<m->0<S.T i c->S.T r R*S.T i c<=S.T i R*S.T r c
 tie:∀i,i<m->0<S.T i c->S.T r R*S.T i c=S.T i R*S.T r c->S.β r<=S.β i
structure Enters (m N:Nat) (wc:Nat->Int) (S:Sx) (c:Nat):Prop where
 lt:c<N
 neg:zr m wc S c<0
 least:∀j,j<c->0<=zr m wc S j
structure StepAt (m w:Nat) (S S':Sx) (r c:Nat):Prop where
 T:∀i j,i<m->j<w->S'.T i j=if i=r then S.T r j else piv S.T S.d r c i j
 d:S'.d=S.T r c
 β:∀i,i<m->S'.β i=upd S.β r c i
structure Step (m w N R:Nat) (wc:Nat->Int) (S S':Sx) (r c:Nat):Prop where
 enters:Enters m N wc S c
 leaves:Leaves m R S c r
 at':StepAt m w S S' r c
structure Val (m w N R:Nat) (M:Nat->Nat->Int) (S:Sx):Prop where
 tb:Tb m w M S.T S.d S.β
 feas:∀i,i<m->0<=S.T i R
 ne:∀i,i<m->S.β i≠R
section
variable {m w N R:Nat} {M:Nat->Nat->Int} {wc:Nat->Int}
theorem r7 {β β':Nat->Nat} (h:∀i,i<m->β' i=β i):dc m M β'=dc m M β:=ik fun i j _ hj=>by unfold dX;rw[h j hj]
theorem Tb.congr {T T':Nat->Nat->Int} {d:Int} {β β':Nat->Nat} (h:Tb m w M T d β) (hT:∀i j,i<m->j<w->T' i j=T i j) (hβ:∀i,i<m->β' i=β i):Tb m w M T' d β':=by
 refine ⟨h.dpos,fun i hi=>by rw[hβ i hi];exact h.lt i hi,fun k hk j hj=>?_,?_⟩
 ·rw[h.co k hk j hj]
  exact bn fun i hi=>by rw[hT i j hi hj,hβ i hi]
 ·obtain ⟨σ,h1,h2,h3⟩:=h.cr
  refine ⟨σ,h1,by rw[r7 hβ];exact h2,fun i hi j hj=>?_⟩
  rw[hT i j hi hj,h3 i hi j hj]
  congr 1
  exact (r7 fun k hk=>by unfold upd;rw[hβ k hk]).symm
theorem Val.stepAt {S S':Sx} (h:Val m w N R M S) (hR:R<w) {r c:Nat} (hc:c<w) (hcR:c≠R) (hl:Leaves m R S c r) (hs:StepAt m w S S' r c):Val m w N R M S':=by
 have hr:=hl.lt
 have e1:sg (S.T r c)=1:=by unfold sg;rw[if_neg (by have:=hl.pos;omega)]
 have h1:=h.tb.step hr hc (by have:=hl.pos;omega)
 have h2:=h1.congr (T':=S'.T) (β':=S'.β) (fun i j hi hj=>by rw[hs.T i j hi hj];unfold mu;rw[e1,Int.one_mul]) hs.β
 rw[e1,Int.one_mul,<-hs.d] at h2
 refine ⟨h2,fun i hi=>?_,fun i hi=>?_⟩
 ·rw[hs.T i R hi hR]
  split
  ·exact h.feas r hr
  ·rename_i hne
   have h3:=iW h.tb hr hi (Ne.symm hne) hc hR
   have h4:=h.tb.dpos
   have h5:=hl.pos
   have h6:0<=S.T r c*S.T i R - S.T i c*S.T r R:=by
    by_cases h7:0<S.T i c
    ·have:=hl.le i hi h7
     have e1:=Int.mul_comm (S.T r R) (S.T i c)
     have e2:=Int.mul_comm (S.T i R) (S.T r c)
     omega
    ·have h8:0<=S.T r c*S.T i R:=Int.mul_nonneg (by omega) (h.feas i hi)
     have h9:0<= -S.T i c*S.T r R:=Int.mul_nonneg (by omega) (h.feas r hr)
     rw[Int.neg_mul] at h9
     omega
   rw[<-h3] at h6
   exact Int.nonneg_of_mul_nonneg_right h6 h4
 ·rw[hs.β i hi]
  unfold upd
  split
  ·exact hcR
  ·exact h.ne i hi
theorem Bq {S:Sx} (h:Tb m w M S.T S.d S.β) {i:Nat} (hi:i<m):zr m wc S (S.β i)=0:=by
 unfold zr
 rw[eB hi fun k hk hne=>by rw[h.other hk hi hne,Int.mul_zero],h.basis hi]
 omega
theorem rI {S:Sx} (h:Tb m w M S.T S.d S.β) {a:Nat->Nat} (ha:∀i,i<m->a i<w) (hM:∀k,k<m->∀i,i<m->M k (a i)=if k=i then 1 else 0) {j:Nat} (hj:j<w) :
  zr m wc S j=wc j*S.d - sz m fun k=>(sz m fun i=>wc (S.β i)*S.T i (a k))*M k j:=by
 unfold zr
 congr 1
 rw[bn (g:=fun i=>sz m fun k=>wc (S.β i)*S.T i (a k)*M k j) fun i hi=>by
  rw[h.rows ha hM hi hj,<-fK]
  exact bn fun k _=>by rw[Int.mul_assoc]]
 rw[rU]
 exact bn fun k _=>zQ
theorem L3 {S S':Sx} (h:Tb m w M S.T S.d S.β) {r c j:Nat} (hr:r<m) (hc:c<w) (hj:j<w) (hs:StepAt m w S S' r c):S.d*zr m wc S' j=S.T r c*zr m wc S j - zr m wc S c*S.T r j:=by
 have h1:∀i,i<m->S.d*(wc (S'.β i)*S'.T i j)=(S.T r c*(wc (S.β i)*S.T i j) - S.T r j*(wc (S.β i)*S.T i c))+(if i=r then S.d*(wc c*S.T r j) else 0):=fun i hi=>by
  rw[hs.β i hi,hs.T i j hi hj]
  unfold upd
  by_cases e:i=r
  ·subst e
   simp only[if_true]
   grind
  ·simp only[e,if_false,Int.add_zero]
   have:=iW h hr hi (Ne.symm e) hc hj
   grind
 have h2:S.d*(sz m fun i=>wc (S'.β i)*S'.T i j)=S.T r c*(sz m fun i=>wc (S.β i)*S.T i j) - S.T r j*(sz m fun i=>wc (S.β i)*S.T i c)+S.d*(wc c*S.T r j):=by
  rw[<-fK,bn h1,mF,vS,fK,fK,eB hr fun i _ hne=>if_neg hne,if_pos rfl]
 unfold zr
 rw[Int.mul_sub,h2,hs.d]
 grind
theorem PW {S S':Sx} (h:Tb m w M S.T S.d S.β) (h':Tb m w M S'.T S'.d S'.β) {a:Nat->Nat} (ha:∀i,i<m->a i<w) (hM:∀k,k<m->∀i,i<m->M k (a i)=if k=i then 1 else 0) {s:Nat} (hs:s<w) :
  S.d*zr m wc S' s=S'.d*zr m wc S s+sz m fun i=>S.T i s*zr m wc S' (S.β i):=by
 have e1:=rI (wc:=wc) h' ha hM hs
 have e2:∀i,i<m->S.T i s*zr m wc S' (S.β i)=S'.d*(wc (S.β i)*S.T i s) - sz m fun k=>(sz m fun i=>wc (S'.β i)*S'.T i (a k))*(S.T i s*M k (S.β i)):=fun i hi=>by
  rw[rI (wc:=wc) h' ha hM (h.lt i hi),Int.mul_sub,<-fK]
  congr 1
  ·grind
  ·exact bn fun k _=>by grind
 rw[bn e2,vS,fK,rU]
 have e3:(sz m fun k=>sz m fun i=>(sz m fun i=>wc (S'.β i)*S'.T i (a k))*(S.T i s*M k (S.β i)))=S.d*sz m fun k=>(sz m fun i=>wc (S'.β i)*S'.T i (a k))*M k s:=by
  rw[<-fK]
  refine bn fun k hk=>?_
  rw[fK,<-h.co k hk s hs]
  grind
 rw[e3,e1]
 unfold zr
 grind
theorem nB {β:Nat->Nat->Nat} {q:Nat}:∀{k i:Nat},(∃p,p<m/\β i p=q)->(¬ ∃p,p<m/\β (i+k) p=q)->∃n,i<=n/\n<i+k/\(∃p,p<m/\β n p=q)/\¬ ∃p,p<m/\β (n+1) p=q
 | 0,i,h1,h2=>(h2 h1).elim
 | k+1,i,h1,h2=>by
  by_cases h:∃p,p<m/\β (i+k) p=q
  ·exact ⟨i+k,by omega,by omega,h,h2⟩
  ·obtain ⟨n,h3,h4,h5,h6⟩:=nB h1 h
   exact ⟨n,h3,by omega,h5,h6⟩
theorem k0 {β:Nat->Nat->Nat} {q:Nat}:∀{k i:Nat},(¬ ∃p,p<m/\β i p=q)->(∃p,p<m/\β (i+k) p=q)->∃n,i<=n/\n<i+k/\(¬ ∃p,p<m/\β n p=q)/\∃p,p<m/\β (n+1) p=q
 | 0,i,h1,h2=>(h1 h2).elim
 | k+1,i,h1,h2=>by
  by_cases h:∃p,p<m/\β (i+k) p=q
  ·obtain ⟨n,h3,h4,h5,h6⟩:=k0 h1 h
   exact ⟨n,h3,by omega,h5,h6⟩
  ·exact ⟨i+k,by omega,by omega,h,h2⟩
theorem Pz {k:Nat} {f:Nat->Nat}:0<k->∃n,n<k/\∀i,i<k->f i<=f n:=by
 induction k with
 | zero=>intro h;omega
 | succ k ih =>
  intro _
  by_cases hk:k=0
  ·subst hk
   exact ⟨0,by omega,fun i hi=>by rw[show i=0 by omega];exact Nat.le_refl _⟩
  ·obtain ⟨n,h1,h2⟩:=ih (by omega)
   by_cases h3:f k<=f n
   ·refine ⟨n,by omega,fun i hi=>?_⟩
    by_cases h4:i=k
    ·rw[h4];exact h3
    ·exact h2 i (by omega)
   ·refine ⟨k,by omega,fun i hi=>?_⟩
    by_cases h4:i=k
    ·rw[h4];exact Nat.le_refl _
    ·have:=h2 i (by omega);omega
theorem xn {e x y:Int} (he:0<e) (h:e*x<=e*y):x<=y:=Int.le_of_mul_le_mul_left h he
structure Run (m w N R:Nat) (M:Nat->Nat->Int) (wc:Nat->Int) (k:Nat) (S:Nat->Sx) (r c:Nat->Nat):Prop where
 val:∀n,n<=k->Val m w N R M (S n)
 step:∀n,n<k->Step m w N R wc (S n) (S (n+1)) (r n) (c n)
theorem Run.of {k:Nat} {S:Nat->Sx} {r c:Nat->Nat} (hN:N<=R) (hR:R<w) (h0:Val m w N R M (S 0)) (hs:∀n,n<k->Step m w N R wc (S n) (S (n+1)) (r n) (c n)):Run m w N R M wc k S r c:=by
 refine ⟨fun n=>?_,hs⟩
 induction n with
 | zero=>intro _;exact h0
 | succ n ih =>
  intro hn
  have h1:=hs n (by omega)
  have:=h1.enters.lt
  exact (ih (by omega)).stepAt hR (by omega) (by omega) h1.leaves h1.at'
theorem Run.nocycle {k:Nat} {S:Nat->Sx} {r c:Nat->Nat} {a:Nat->Nat} (ha:∀i,i<m->a i<w) (hM:∀k,k<m->∀i,i<m->M k (a i)=if k=i then 1 else 0) (hN:N<=R) (hR:R<w)
  (h:Run m w N R M wc k S r c) (hk:0<k):¬ ∀i,i<m->(S k).β i=(S 0).β i:=by
 intro hcyc
 have cw:∀n,n<k->c n<w:=fun n hn=>by have:=(h.step n hn).enters.lt;omega
 have dp:∀n,n<=k->0<(S n).d:=fun n hn=>(h.val n hn).tb.dpos
 have vstep:∀n,n<k->zr m wc (S n) R*(S (n+1)).d<=zr m wc (S (n+1)) R*(S n).d/\((S n).T (r n) R≠0->zr m wc (S n) R*(S (n+1)).d<zr m wc (S (n+1)) R*(S n).d):=fun n hn=>by
  have hs:=h.step n hn
  have h1:=L3 (wc:=wc) (h.val n (by omega)).tb hs.leaves.lt (cw n hn) hR hs.at'
  have h2:=hs.enters.neg
  have h3:=(h.val n (by omega)).feas (r n) hs.leaves.lt
  have h4:0<= -zr m wc (S n) (c n)*(S n).T (r n) R:=Int.mul_nonneg (by omega) h3
  rw[Int.neg_mul] at h4
  rw[hs.at'.d,Int.mul_comm (zr m wc (S (n+1)) R),h1,Int.mul_comm (zr m wc (S n) R)]
  refine ⟨by omega,fun hne=>?_⟩
  have h5:0< -zr m wc (S n) (c n)*(S n).T (r n) R:=Int.mul_pos (by omega) (by omega)
  rw[Int.neg_mul] at h5
  omega
 have vle:∀i j,i+j<=k->zr m wc (S i) R*(S (i+j)).d<=zr m wc (S (i+j)) R*(S i).d:=by
  intro i j
  induction j with
  | zero=>intro _;exact Int.le_refl _
  | succ j ih =>
   intro hj
   have h1:=ih (by omega)
   have h2:=(vstep (i+j) (by omega)).1
   have d1:=dp i (by omega)
   have d2:=dp (i+j) (by omega)
   have d3:=dp (i+j+1) (by omega)
   refine xn d2 ?_
   have h3:=z11 h1 (Int.le_of_lt d3)
   have h4:=z11 h2 (Int.le_of_lt d1)
   rw[show i+(j+1)=i+j+1 by omega]
   calc (S (i+j)).d*(zr m wc (S i) R*(S (i+j+1)).d)=zr m wc (S i) R*(S (i+j)).d*(S (i+j+1)).d:=by grind
    _<=zr m wc (S (i+j)) R*(S i).d*(S (i+j+1)).d:=h3
    _=zr m wc (S (i+j)) R*(S (i+j+1)).d*(S i).d:=by grind
    _<=zr m wc (S (i+j+1)) R*(S (i+j)).d*(S i).d:=h4
    _=(S (i+j)).d*(zr m wc (S (i+j+1)) R*(S i).d):=by grind
 have same:(S k).d=(S 0).d/\∀i j,i<m->j<w->(S k).T i j=(S 0).T i j:=by
  obtain ⟨σ,s1,s2,s3⟩:=(h.val k (Nat.le_refl _)).tb.cr
  obtain ⟨τ,t1,t2,t3⟩:=(h.val 0 (by omega)).tb.cr
  rw[r7 hcyc] at s2
  have p1:=dp k (Nat.le_refl _)
  have p2:=dp 0 (by omega)
  have e:σ=τ:=by
   have h1:σ*(S k).d=dc m M (S 0).β:=by rw[s2,<-Int.mul_assoc,s1,Int.one_mul]
   have h2:τ*(S 0).d=dc m M (S 0).β:=by rw[t2,<-Int.mul_assoc,t1,Int.one_mul]
   have pm:∀x:Int,x*x=1->x=1\/x= -1:=fun x hx=>by
    have h4:x.natAbs*x.natAbs=1:=by
     have:=congrArg Int.natAbs hx
     rwa [Int.natAbs_mul] at this
    have h5:x.natAbs=1:=Nat.eq_one_of_mul_eq_one_left h4
    omega
   rcases pm σ s1 with rfl | rfl<;>rcases pm τ t1 with rfl | rfl<;>omega
  refine ⟨by rw[s2,e];exact t2.symm,fun i j hi hj=>?_⟩
  rw[s3 i hi j hj,t3 i hi j hj,e]
  congr 1
  exact r7 fun l hl=>by unfold upd;rw[hcyc l hl]
 have vend:zr m wc (S k) R=zr m wc (S 0) R:=by
  unfold zr
  rw[same.1]
  congr 1
  exact bn fun i hi=>by rw[hcyc i hi,same.2 i R hi hR]
 have flat:∀n,n<k->(S n).T (r n) R=0:=fun n hn=>by
  by_cases e:(S n).T (r n) R=0
  ·exact e
  ·exfalso
   have h1:=(vstep n hn).2 e
   have h2:=vle 0 n (by omega)
   have h3:=vle (n+1) (k - (n+1)) (by omega)
   rw[Nat.zero_add] at h2
   rw[show n+1+(k - (n+1))=k by omega,vend,same.1] at h3
   have d0:=dp 0 (by omega)
   have d1:=dp n (by omega)
   have d2:=dp (n+1) (by omega)
   have h4:=Int.mul_lt_mul_of_pos_right h1 d0
   have h5:=z11 h2 (Int.le_of_lt d2)
   have h6:=z11 h3 (Int.le_of_lt d1)
   have:zr m wc (S 0) R*(S n).d*(S (n+1)).d<zr m wc (S 0) R*(S n).d*(S (n+1)).d:=by
    calc zr m wc (S 0) R*(S n).d*(S (n+1)).d<=zr m wc (S n) R*(S 0).d*(S (n+1)).d:=h5
     _=zr m wc (S n) R*(S (n+1)).d*(S 0).d:=by grind
     _<zr m wc (S (n+1)) R*(S n).d*(S 0).d:=h4
     _=zr m wc (S (n+1)) R*(S 0).d*(S n).d:=by grind
     _<=zr m wc (S 0) R*(S (n+1)).d*(S n).d:=h6
     _=zr m wc (S 0) R*(S n).d*(S (n+1)).d:=by grind
   omega
 have zeroStep:∀n q,n<k->((∀i,i<m->(S n).β i=q->(S n).T i R=0)↔(∀i,i<m->(S (n+1)).β i=q->(S (n+1)).T i R=0)):=fun n q hn=>by
  have hs:=h.step n hn
  have hf:=flat n hn
  have htb:=(h.val n (by omega)).tb
  have key:∀i,i<m->i≠r n->((S (n+1)).T i R=0↔(S n).T i R=0):=fun i hi hne=>by
   rw[hs.at'.T i R hi hR,if_neg hne]
   have h1:=iW htb hs.leaves.lt hi (Ne.symm hne) (cw n hn) hR
   rw[hf,Int.mul_zero,Int.sub_zero] at h1
   have h2:=hs.leaves.pos
   have h3:=dp n (by omega)
   constructor
   ·intro e
    rw[e,Int.mul_zero] at h1
    rcases Int.mul_eq_zero.1 h1.symm with h4 | h4
    ·omega
    ·exact h4
   ·intro e
    rw[e,Int.mul_zero] at h1
    rcases Int.mul_eq_zero.1 h1 with h4 | h4
    ·omega
    ·exact h4
  constructor
  ·intro hz i hi hb
   by_cases e:i=r n
   ·rw[e,hs.at'.T _ R hs.leaves.lt hR,if_pos rfl];exact hf
   ·rw[hs.at'.β i hi] at hb
    unfold upd at hb
    rw[if_neg e] at hb
    exact (key i hi e).2 (hz i hi hb)
  ·intro hz i hi hb
   by_cases e:i=r n
   ·rw[e];exact hf
   ·refine (key i hi e).1 (hz i hi ?_)
    rw[hs.at'.β i hi]
    unfold upd
    rw[if_neg e]
    exact hb
 have zeroAll:∀q n,n<=k->((∀i,i<m->(S 0).β i=q->(S 0).T i R=0)↔(∀i,i<m->(S n).β i=q->(S n).T i R=0)):=fun q n=>by
  induction n with
  | zero=>intro _;exact Iff.rfl
  | succ n ih=>intro hn;exact (ih (by omega)).trans (zeroStep n q (by omega))
 have comes:∀n q,n<k->(¬ ∃p,p<m/\(S n).β p=q)->(∃p,p<m/\(S (n+1)).β p=q)->q=c n:=fun n q hn h1 ⟨p,hp,hq⟩=>by
  have hs:=h.step n hn
  rw[hs.at'.β p hp] at hq
  unfold upd at hq
  split at hq
  ·exact hq.symm
  ·exact (h1 ⟨p,hp,hq⟩).elim
 have goes:∀n q,n<k->(∃p,p<m/\(S n).β p=q)->(¬ ∃p,p<m/\(S (n+1)).β p=q)->q=(S n).β (r n):=fun n q hn ⟨p,hp,hq⟩ h1=>by
  have hs:=h.step n hn
  by_cases e:p=r n
  ·rw[<-e];exact hq.symm
  ·refine (h1 ⟨p,hp,?_⟩).elim
   rw[hs.at'.β p hp]
   unfold upd
   rw[if_neg e]
   exact hq
 have Cw:∀n,n<k->¬ ∃p,p<m/\(S n).β p=c n:=fun n hn ⟨p,hp,hq⟩=>by
  have hs:=h.step n hn
  have h1:=hs.enters.neg
  rw[<-hq,Bq (h.val n (by omega)).tb hp] at h1
  omega
 have isIn:∀n,n<k->∃p,p<m/\(S (n+1)).β p=c n:=fun n hn=>by
  have hs:=h.step n hn
  refine ⟨r n,hs.leaves.lt,?_⟩
  rw[hs.at'.β _ hs.leaves.lt]
  unfold upd
  rw[if_pos rfl]
 have ends:∀q,(∃p,p<m/\(S k).β p=q)↔∃p,p<m/\(S 0).β p=q:=fun q=>by
  constructor
  ·rintro ⟨p,hp,hq⟩;exact ⟨p,hp,by rw[<-hcyc p hp];exact hq⟩
  ·rintro ⟨p,hp,hq⟩;exact ⟨p,hp,by rw[hcyc p hp];exact hq⟩
 obtain ⟨ns,hns,hmax⟩:=Pz (f:=c) hk
 have leaves:∃n,n<k/\(S n).β (r n)=c ns:=by
  by_cases h0:∃p,p<m/\(S 0).β p=c ns
  ·obtain ⟨n,h1,h2,h3,h4⟩:=nB (β:=fun n=>(S n).β) (k:=ns) (i:=0) h0 (by rw[Nat.zero_add];exact Cw ns hns)
   exact ⟨n,by omega,(goes n _ (by omega) h3 h4).symm⟩
  ·have h1:¬ ∃p,p<m/\(S k).β p=c ns:=fun e=>h0 ((ends _).1 e)
   obtain ⟨n,h2,h3,h4,h5⟩:=nB (β:=fun n=>(S n).β) (k:=k - (ns+1)) (i:=ns+1) (isIn ns hns) (by rw[show ns+1+(k - (ns+1))=k by omega];exact h1)
   exact ⟨n,by omega,(goes n _ (by omega) h4 h5).symm⟩
 obtain ⟨n,hn,hleave⟩:=leaves
 have hs:=h.step n hn
 have hst:=h.step ns hns
 have vn:=h.val n (by omega)
 have vs:=h.val ns (by omega)
 have hcn:=hmax n hn
 have hne:c n≠c ns:=fun e=>Cw n hn ⟨r n,hs.leaves.lt,by rw[hleave];exact e.symm⟩
 have id:=PW (wc:=wc) vn.tb vs.tb ha hM (cw n hn)
 have z1:0<=zr m wc (S ns) (c n):=hst.enters.least (c n) (by omega)
 have z2:=hs.enters.neg
 have d1:=dp n (by omega)
 have d2:=dp ns (by omega)
 have hsum:0<sz m fun i=>(S n).T i (c n)*zr m wc (S ns) ((S n).β i):=by
  have h1:0<=(S n).d*zr m wc (S ns) (c n):=Int.mul_nonneg (by omega) z1
  have h2:0<(S ns).d* -zr m wc (S n) (c n):=Int.mul_pos d2 (by omega)
  rw[Int.mul_neg] at h2
  omega
 have hex:∃i,i<m/\0<(S n).T i (c n)*zr m wc (S ns) ((S n).β i):=by
  by_cases e:∃i,i<m/\0<(S n).T i (c n)*zr m wc (S ns) ((S n).β i)
  ·exact e
  ·exfalso
   have:=oh (n:=m) (f:=fun i=>(S n).T i (c n)*zr m wc (S ns) ((S n).β i)) (g:=fun _=>0) fun i hi=>Int.not_lt.1 fun h'=>e ⟨i,hi,h'⟩
   rw[fP (f:=fun _=>0) fun _ _=>rfl] at this
   omega
 obtain ⟨i,hi,hpos⟩:=hex
 have hq0:zr m wc (S ns) ((S n).β i)≠0:=fun e=>by rw[e,Int.mul_zero] at hpos;omega
 have hq1:¬ ∃p,p<m/\(S ns).β p=(S n).β i:=fun ⟨p,hp,hq⟩=>hq0 (by rw[<-hq];exact Bq vs.tb hp)
 have hq2:∃p,p<m/\(S n).β p=(S n).β i:=⟨i,hi,rfl⟩
 have hq3:∃n',n'<k/\(S n).β i=c n':=by
  by_cases hlt:ns<n
  ·obtain ⟨n',h1,h2,h3,h4⟩:=k0 (β:=fun n=>(S n).β) (k:=n - ns) (i:=ns) hq1 (by rw[show ns+(n - ns)=n by omega];exact hq2)
   exact ⟨n',by omega,comes n' _ (by omega) h3 h4⟩
  ·by_cases h0:∃p,p<m/\(S 0).β p=(S n).β i
   ·obtain ⟨n',h1,h2,h3,h4⟩:=k0 (β:=fun n=>(S n).β) (k:=k - ns) (i:=ns) hq1 (by rw[show ns+(k - ns)=k by omega];exact (ends _).2 h0)
    exact ⟨n',by omega,comes n' _ (by omega) h3 h4⟩
   ·obtain ⟨n',h1,h2,h3,h4⟩:=k0 (β:=fun n=>(S n).β) (k:=n) (i:=0) h0 (by rw[Nat.zero_add];exact hq2)
    exact ⟨n',by omega,comes n' _ (by omega) h3 h4⟩
 obtain ⟨n',hn',hq4⟩:=hq3
 have hq5:(S n).β i<=c ns:=by rw[hq4];exact hmax n' hn'
 by_cases hqt:(S n).β i=c ns
 ·have:i=r n:=vn.tb.inj hi hs.leaves.lt (by rw[hqt,hleave])
  rw[this,hleave] at hpos
  have h1:=hs.leaves.pos
  have h2:=hst.enters.neg
  have h3:0<(S n).T (r n) (c n)* -zr m wc (S ns) (c ns):=Int.mul_pos h1 (by omega)
  rw[Int.mul_neg] at h3
  omega
 ·have z3:0<=zr m wc (S ns) ((S n).β i):=hst.enters.least _ (by omega)
  have hTi:0<(S n).T i (c n):=by
   by_cases e:0<(S n).T i (c n)
   ·exact e
   ·exfalso
    have:0<= -(S n).T i (c n)*zr m wc (S ns) ((S n).β i):=Int.mul_nonneg (by omega) z3
    rw[Int.neg_mul] at this
    omega
  have hiR:(S n).T i R=0:=((zeroAll _ n (by omega)).1 ((zeroAll _ ns (by omega)).2 fun p hp hq=>(hq1 ⟨p,hp,hq⟩).elim)) i hi rfl
  have:=hs.leaves.tie i hi hTi (by rw[flat n hn,hiR,Int.zero_mul,Int.zero_mul])
  rw[hleave] at this
  omega
end
end Dn
end Go.Proofs.YtfknoaclabfdlaaGreat

namespace Go.Proofs.YtfknoaclabfdlaaGreat
noncomputable section
namespace Dn
theorem HH:∀(K:Nat) (f:Nat->Nat),(∀i,i<=K->f i<K)->∃i j,i<j/\j<=K/\f i=f j
 | 0,f,h=>by have:=h 0 (by omega);omega
 | K+1,f,h=>by
  by_cases e:∃i,i<=K/\f i=f (K+1)
  ·obtain ⟨i,h1,h2⟩:=e
   exact ⟨i,K+1,by omega,by omega,h2⟩
  ·
   obtain ⟨i,j,h1,h2,h3⟩:=HH K (fun i=>if f i<f (K+1) then f i else f i - 1) fun i hi=>by
    have h4:=h i (by omega)
    have h5:=h (K+1) (by omega)
    have h6:f i≠f (K+1):=fun e'=>e ⟨i,hi,e'⟩
    show (if f i<f (K+1) then f i else f i - 1)<K
    split<;>omega
   refine ⟨i,j,h1,by omega,?_⟩
   have h6:f i≠f (K+1):=fun e'=>e ⟨i,by omega,e'⟩
   have h7:f j≠f (K+1):=fun e'=>e ⟨j,by omega,e'⟩
   have h3:(if f i<f (K+1) then f i else f i - 1)=(if f j<f (K+1) then f j else f j - 1):=h3
   split at h3<;>split at h3<;>omega
def code (w:Nat) (β:Nat->Nat):Nat->Nat
 | 0=>0
 | m+1=>code w β m*w+β m
theorem Ei {w:Nat} {β:Nat->Nat}:∀{m:Nat},(∀i,i<m->β i<w)->code w β m<w ^ m
 | 0,_=>by simp[code]
 | m+1,h=>by
  simp only[code]
  have h1:=Ei (m:=m) fun i hi=>h i (by omega)
  have h2:=h m (by omega)
  have h3:(code w β m+1)*w<=w ^ m*w:=Nat.mul_le_mul_right _ h1
  rw[Nat.pow_succ]
  rw[Nat.add_mul,Nat.one_mul] at h3
  omega
theorem AR {w:Nat} {β γ:Nat->Nat}:∀{m:Nat},(∀i,i<m->β i<w)->(∀i,i<m->γ i<w)->code w β m=code w γ m->∀i,i<m->β i=γ i
 | 0,_,_,_,i,hi=>by omega
 | m+1,hβ,hγ,h,i,hi=>by
  simp only[code] at h
  have h1:=hβ m (by omega)
  have h2:=hγ m (by omega)
  have e1:(code w β m*w+β m) % w=β m:=by rw[Nat.mul_comm,Nat.mul_add_mod,Nat.mod_eq_of_lt h1]
  have e2:(code w γ m*w+γ m) % w=γ m:=by rw[Nat.mul_comm,Nat.mul_add_mod,Nat.mod_eq_of_lt h2]
  have e3:β m=γ m:=by rw[<-e1,<-e2,h]
  have e4:code w β m=code w γ m:=by
   have:code w β m*w=code w γ m*w:=by omega
   exact Nat.eq_of_mul_eq_mul_right (by omega) this
  by_cases e:i=m
  ·rw[e];exact e3
  ·exact AR (fun i hi=>hβ i (by omega)) (fun i hi=>hγ i (by omega)) e4 i (by omega)
open Classical in
def jx (p:Nat->Prop):Nat->Nat
 | 0=>0
 | k+1=>if p k then k else jx p k
theorem tC {p:Nat->Prop}:∀{K k:Nat},k<K->p k->k<=jx p K
 | K+1,k,hk,h=>by
  unfold jx
  by_cases e:k=K
  ·subst e;rw[if_pos h];exact Nat.le_refl _
  ·split
   ·omega
   ·exact tC (by omega) h
theorem qz {p:Nat->Prop} (h0:p 0):∀{K:Nat},p (jx p K)
 | 0=>h0
 | K+1=>by
  unfold jx
  split
  ·assumption
  ·exact qz h0
theorem tS {p:Nat->Prop}:∀{K:Nat},0<K->jx p K<K
 | K+1,_=>by
  unfold jx
  split
  ·omega
  ·by_cases h:K=0
   ·subst h;simp[jx]
   ·have:=tS (p:=p) (K:=K) (by omega);omega
section
variable {m w N R:Nat} {M:Nat->Nat->Int} {wc:Nat->Int}
theorem Run.short {k:Nat} {S:Nat->Sx} {r c:Nat->Nat} {a:Nat->Nat} (ha:∀i,i<m->a i<w) (hM:∀k,k<m->∀i,i<m->M k (a i)=if k=i then 1 else 0) (hN:N<=R) (hR:R<w)
  (h:Run m w N R M wc k S r c):k<w ^ m:=by
 by_cases hk:k<w ^ m
 ·exact hk
 ·exfalso
  obtain ⟨i,j,h1,h2,h3⟩:=HH (w ^ m) (fun n=>code w (S n).β m) fun n hn=>Ei (h.val n (by omega)).tb.lt
  have h4:=AR (h.val i (by omega)).tb.lt (h.val j (by omega)).tb.lt h3
  have h5:Run m w N R M wc (j - i) (fun n=>S (i+n)) (fun n=>r (i+n)) (fun n=>c (i+n)):=⟨fun n hn=>h.val (i+n) (by omega),fun n hn=>h.step (i+n) (by omega)⟩
  refine h5.nocycle ha hM hN hR (by omega) fun p hp=>?_
  show (S (i+(j - i))).β p=(S (i+0)).β p
  rw[show i+(j - i)=j by omega,Nat.add_zero]
  exact (h4 p hp).symm
def left (m w N R:Nat) (M:Nat->Nat->Int) (wc:Nat->Int) (s:Sx):Nat:=jx (fun k=>∃S r c,S 0=s/\Run m w N R M wc k S r c) (w ^ m)
theorem Eu (hw:0<w) (s:Sx):left m w N R M wc s<w ^ m:=tS (Nat.pow_pos hw)
theorem yp {a:Nat->Nat} (ha:∀i,i<m->a i<w) (hM:∀k,k<m->∀i,i<m->M k (a i)=if k=i then 1 else 0) (hN:N<=R) (hR:R<w)
  {s s':Sx} {r c:Nat} (hv:Val m w N R M s) (hs:Step m w N R wc s s' r c):left m w N R M wc s'<left m w N R M wc s:=by
 have hv':Val m w N R M s':=by
  have:=hs.enters.lt
  exact hv.stepAt hR (by omega) (by omega) hs.leaves hs.at'
 obtain ⟨S,rr,cc,h0,h1⟩:=qz (p:=fun k=>∃S r c,S 0=s'/\Run m w N R M wc k S r c) ⟨fun _=>s',fun _=>0,fun _=>0,rfl,⟨fun n _=>hv',fun n hn=>by omega⟩⟩ (K:=w ^ m)
 have h2:Run m w N R M wc (left m w N R M wc s'+1) (fun n=>match n with | 0=>s | n+1=>S n) (fun n=>match n with | 0=>r | n+1=>rr n) (fun n=>match n with | 0=>c | n+1=>cc n):=by
  refine ⟨fun n hn=>?_,fun n hn=>?_⟩
  ·cases n with
   | zero=>exact hv
   | succ n=>exact h1.val n (by have:n+1<=left m w N R M wc s'+1:=hn;unfold left at this;omega)
  ·cases n with
   | zero =>
    show Step m w N R wc s (S 0) r c
    rw[h0];exact hs
   | succ n=>exact h1.step n (by have:n+1<left m w N R M wc s'+1:=hn;unfold left at this;omega)
 have h3:=h2.short ha hM hN hR
 exact tC h3 ⟨_,_,_,rfl,h2⟩
end
end Dn
end
end Go.Proofs.YtfknoaclabfdlaaGreat

namespace Go.Proofs.YtfknoaclabfdlaaGreat
namespace Dn
def sq:Nat->(Nat->Rat)->Rat
 | 0,_=>0
 | n+1,f=>sq n f+f n
theorem dC:∀{n:Nat} {f g:Nat->Rat},(∀i,i<n->f i=g i)->sq n f=sq n g
 | 0,_,_,_=>rfl
 | n+1,f,g,h=>by
  simp only[sq]
  rw[dC (n:=n) fun i hi=>h i (by omega),h n (by omega)]
theorem Dl:∀{n:Nat} {f g:Nat->Rat},sq n (fun i=>f i+g i)=sq n f+sq n g
 | 0,_,_=>by simp only[sq];grind
 | n+1,f,g=>by
  simp only[sq]
  rw[Dl]
  grind
theorem q6:∀{n:Nat} {c:Rat} {f:Nat->Rat},sq n (fun i=>c*f i)=c*sq n f
 | 0,c,_=>by simp[sq]
 | n+1,c,f=>by
  simp only[sq]
  rw[q6]
  grind
theorem kS:∀{n:Nat} {f:Nat->Rat},(∀i,i<n->f i=0)->sq n f=0
 | 0,_,_=>rfl
 | n+1,f,h=>by
  simp only[sq]
  rw[kS fun i hi=>h i (by omega),h n (by omega)]
  grind
theorem yA:∀{n:Nat} {f g:Nat->Rat},(∀i,i<n->f i<=g i)->sq n f<=sq n g
 | 0,_,_,_=>Rat.le_refl
 | n+1,f,g,h=>by
  simp only[sq]
  have:=yA (n:=n) fun i hi=>h i (by omega)
  have:=h n (by omega)
  grind
theorem FL {n:Nat} {f:Nat->Rat} (h:∀i,i<n->0<=f i):0<=sq n f:=by
 have:=yA (n:=n) (f:=fun _=>0) (g:=f) h
 rwa [kS fun _ _=>rfl] at this
theorem yO:∀{m n:Nat} {f:Nat->Nat->Rat},sq m (fun i=>sq n (fun j=>f i j))=sq n (fun j=>sq m (fun i=>f i j))
 | 0,n,f=>by
  simp only[sq]
  exact (kS fun _ _=>rfl).symm
 | m+1,n,f=>by
  simp only[sq]
  rw[yO,Dl]
theorem pA:∀{n:Nat} {f:Nat->Int},sq n (fun i=>(f i:Rat))=((sz n f:Int):Rat)
 | 0,_=>rfl
 | n+1,f=>by
  simp only[sq,sz]
  rw[pA,Rat.intCast_add]
structure Lin where
 n:Nat
 m:Nat
 A:Nat->Nat->Int
 b:Nat->Int
 c:Nat->Int
 kd:Nat->Int
def Lin.row (L:Lin) (x:Nat->Rat) (k:Nat):Rat:=sq L.n fun j=>(L.A k j:Rat)*x j
def Lin.col (L:Lin) (y:Nat->Rat) (j:Nat):Rat:=sq L.m fun k=>(L.A k j:Rat)*y k
def Lin.val (L:Lin) (x:Nat->Rat):Rat:=sq L.n fun j=>(L.c j:Rat)*x j
def Lin.rhs (L:Lin) (y:Nat->Rat):Rat:=sq L.m fun k=>(L.b k:Rat)*y k
structure Lin.Feas (L:Lin) (x:Nat->Rat):Prop where
 pos:∀j,j<L.n->0<=x j
 most:∀k,k<L.m->L.kd k≠2->L.row x k<=L.b k
 least:∀k,k<L.m->L.kd k≠1->(L.b k:Rat)<=L.row x k
structure Lin.Sgn (L:Lin) (y:Nat->Rat):Prop where
 most:∀k,k<L.m->L.kd k=1->y k<=0
 least:∀k,k<L.m->L.kd k=2->0<=y k
structure Lin.Dual (L:Lin) (y:Nat->Rat):Prop extends L.Sgn y where
 col:∀j,j<L.n->L.col y j<=L.c j
structure Lin.Ref (L:Lin) (y:Nat->Rat):Prop extends L.Sgn y where
 col:∀j,j<L.n->L.col y j<=0
 rhs:0<L.rhs y
structure Lin.Ray (L:Lin) (r:Nat->Rat):Prop where
 pos:∀j,j<L.n->0<=r j
 most:∀k,k<L.m->L.kd k≠2->L.row r k<=0
 least:∀k,k<L.m->L.kd k≠1->0<=L.row r k
 val:L.val r<0
section
variable {L:Lin}
theorem Lin.swap (x y:Nat->Rat):sq L.n (fun j=>L.col y j*x j)=sq L.m (fun k=>y k*L.row x k):=by
 have e1:sq L.n (fun j=>L.col y j*x j)=sq L.n (fun j=>sq L.m fun k=>(L.A k j:Rat)*y k*x j):=dC fun j _=>by
  unfold Lin.col
  rw[<-q6 (c:=x j) |>fun h=>(by rw[h];grind:(sq L.m fun k=>x j*((L.A k j:Rat)*y k))=sq L.m (fun k=>(L.A k j:Rat)*y k)*x j)]
  exact dC fun k _=>by grind
 rw[e1,yO]
 refine dC fun k _=>?_
 unfold Lin.row
 rw[<-q6]
 exact dC fun j _=>by grind
theorem RJ {y r b:Rat} (h:(y<=0/\r<=b)\/(0<=y/\b<=r)\/r=b):b*y<=y*r:=by
 rcases h with ⟨h1,h2⟩ | ⟨h1,h2⟩ | h
 ·have:0<=(-y)*(b - r):=Rat.mul_nonneg (by grind) (by grind)
  grind
 ·have:0<=y*(r - b):=Rat.mul_nonneg h1 (by grind)
  grind
 ·subst h;grind
theorem Lin.Sgn.rows {x y:Nat->Rat} (h:L.Sgn y) {b:Nat->Rat} (h1:∀k,k<L.m->L.kd k≠2->L.row x k<=b k) (h2:∀k,k<L.m->L.kd k≠1->b k<=L.row x k):sq L.m (fun k=>b k*y k)<=sq L.m (fun k=>y k*L.row x k):=yA fun k hk=>by
 apply RJ
 by_cases e1:L.kd k=1
 ·exact .inl ⟨h.most k hk e1,h1 k hk (by omega)⟩
 ·by_cases e2:L.kd k=2
  ·exact .inr (.inl ⟨h.least k hk e2,h2 k hk e1⟩)
  ·have a1:=h1 k hk e2
   have a2:=h2 k hk e1
   exact .inr (.inr (Rat.le_antisymm a1 a2))
theorem Lin.weak {x y:Nat->Rat} (hx:L.Feas x) (hy:L.Dual y):L.rhs y<=L.val x:=by
 have h1:=hy.rows (x:=x) (b:=fun k=>(L.b k:Rat)) hx.most hx.least
 rw[<-L.swap x y] at h1
 refine Rat.le_trans h1 (yA fun j hj=>?_)
 exact Rat.mul_le_mul_of_nonneg_right (hy.col j hj) (hx.pos j hj)
theorem Lin.Ref.none {x y:Nat->Rat} (hy:L.Ref y) (hx:L.Feas x):False:=by
 have h1:=hy.rows (x:=x) (b:=fun k=>(L.b k:Rat)) hx.most hx.least
 rw[<-L.swap x y] at h1
 have h2:sq L.n (fun j=>L.col y j*x j)<=sq L.n (fun _=>0):=yA fun j hj=>by
  have:0<=(-L.col y j)*x j:=Rat.mul_nonneg (by have:=hy.col j hj;grind) (hx.pos j hj)
  grind
 rw[kS (f:=fun _=>0) fun _ _=>rfl] at h2
 have h3:=hy.rhs
 unfold Lin.rhs at h3
 grind
theorem Lin.Ray.none {r y:Nat->Rat} (hr:L.Ray r) (hy:L.Dual y):False:=by
 have h1:=hy.rows (x:=r) (b:=fun _=>0) hr.most hr.least
 rw[<-L.swap r y,kS (f:=fun k=>0*y k) fun k _=>by grind] at h1
 have h2:sq L.n (fun j=>L.col y j*r j)<=L.val r:=yA fun j hj=>Rat.mul_le_mul_of_nonneg_right (hy.col j hj) (hr.pos j hj)
 have h3:=hr.val
 grind
end
structure Lay where
 N:Nat
 sl:Nat->Nat
 σ:Nat->Int
def Lay.M (Y:Lay) (L:Lin) (k j:Nat):Int :=
 if j<L.n then Y.σ k*L.A k j else if j<Y.N then (if L.kd k≠3/\j=Y.sl k then Y.σ k*(if L.kd k=1 then 1 else -1) else 0) else if j<Y.N+L.m then (if j=Y.N+k then 1 else 0) else Y.σ k*L.b k
structure Lay.ok (Y:Lay) (L:Lin):Prop where
 n:L.n<=Y.N
 kd:∀k,k<L.m->L.kd k=1\/L.kd k=2\/L.kd k=3
 sl:∀k,k<L.m->L.kd k≠3->L.n<=Y.sl k/\Y.sl k<Y.N
 inj:∀k l,k<L.m->l<L.m->L.kd k≠3->L.kd l≠3->Y.sl k=Y.sl l->k=l
 sg:∀k,k<L.m->Y.σ k=1\/Y.σ k= -1
 b:∀k,k<L.m->0<=Y.σ k*L.b k
abbrev Lay.R (Y:Lay) (L:Lin):Nat:=Y.N+L.m
abbrev Lay.w (Y:Lay) (L:Lin):Nat:=Y.N+L.m+1
section
variable {L:Lin} {Y:Lay}
theorem Lay.M_x {k j:Nat} (hj:j<L.n):Y.M L k j=Y.σ k*L.A k j:=by unfold Lay.M;rw[if_pos hj]
theorem Lay.M_sl (h:Y.ok L) {k:Nat} (hk:k<L.m) (h3:L.kd k≠3):Y.M L k (Y.sl k)=Y.σ k*(if L.kd k=1 then 1 else -1):=by
 obtain ⟨h1,h2⟩:=h.sl k hk h3
 unfold Lay.M
 rw[if_neg (by omega),if_pos h2,if_pos ⟨h3,rfl⟩]
theorem Lay.M_slo {k j:Nat} (h1:L.n<=j) (h2:j<Y.N) (h:¬ (L.kd k≠3/\j=Y.sl k)):Y.M L k j=0:=by
 unfold Lay.M
 rw[if_neg (by omega),if_pos h2,if_neg h]
theorem Lay.M_a (h:Y.ok L) {k i:Nat} (hi:i<L.m):Y.M L k (Y.N+i)=if k=i then 1 else 0:=by
 have:=h.n
 unfold Lay.M
 rw[if_neg (by omega),if_neg (by omega),if_pos (by omega)]
 by_cases e:k=i
 ·rw[if_pos e,if_pos (by omega)]
 ·rw[if_neg e,if_neg (by omega)]
theorem Lay.M_R (h:Y.ok L) {k:Nat}:Y.M L k (Y.R L)=Y.σ k*L.b k:=by
 have:=h.n
 unfold Lay.M Lay.R
 rw[if_neg (by omega),if_neg (by omega),if_neg (by omega)]
theorem Lay.ss (h:Y.ok L) {k:Nat} (hk:k<L.m):Y.σ k*Y.σ k=1:=by
 rcases h.sg k hk with e | e<;>rw[e]<;>rfl
theorem Lay.ss' (h:Y.ok L) {k:Nat} (hk:k<L.m) (x:Int):Y.σ k*(Y.σ k*x)=x:=by rw[<-Int.mul_assoc,Lay.ss h hk,Int.one_mul]
abbrev Lay.Val (Y:Lay) (L:Lin) (S:Sx):Prop:=Dn.Val L.m (Y.w L) Y.N (Y.R L) (Y.M L) S
theorem Lay.art (h:Y.ok L):(∀i,i<L.m->Y.N+i<Y.w L)/\∀k,k<L.m->∀i,i<L.m->Y.M L k (Y.N+i)=if k=i then 1 else 0 :=
 ⟨fun i hi=>by unfold Lay.w;omega,fun k _ i hi=>Lay.M_a h hi⟩
theorem Lay.first (h:Y.ok L):Y.Val L ⟨Y.M L,1,fun i=>Y.N+i⟩:=by
 refine ⟨Tb.first (Lay.art h).1 (Lay.art h).2,fun i hi=>?_,fun i hi=>?_⟩
 ·show 0<=Y.M L i (Y.R L)
  rw[Lay.M_R h]
  exact h.b i hi
 ·show Y.N+i≠Y.N+L.m
  omega
def tf (m R:Nat) (S:Sx) (j:Nat):Int:=sz m fun i=>if S.β i=j then S.T i R else 0
theorem mg {S:Sx} (hv:Y.Val L S) (j:Nat):0<=tf L.m (Y.R L) S j:=ii fun i hi=>by
 split
 ·exact hv.feas i hi
 ·exact Int.le_refl _
theorem tl {m n:Nat} {β:Nat->Nat} {t f:Nat->Int}:(sz m fun i=>if β i<n then t i*f (β i) else 0)=sz n fun j=>f j*sz m fun i=>if β i=j then t i else 0:=by
 have e:∀i,i<m->(if β i<n then t i*f (β i) else 0)=sz n fun j=>if β i=j then t i*f j else 0:=fun i _=>by
  by_cases h:β i<n
  ·rw[if_pos h,eB h fun j _ hne=>if_neg (Ne.symm hne),if_pos rfl]
  ·rw[if_neg h,fP fun j hj=>if_neg (by omega)]
 rw[bn e,rU]
 refine bn fun j _=>?_
 rw[<-fK]
 refine bn fun i _=>?_
 split
 ·rw[Int.mul_comm]
 ·rw[Int.mul_zero]
def Bz (m N:Nat) (S:Sx) (q:Nat):Prop:=∀i,i<m->N<=S.β i->S.T i q=0
theorem H8 (h:Y.ok L) {S:Sx} (hv:Y.Val L S) {q k:Nat} (hq:q<Y.w L) (hk:k<L.m) (ha:Bz L.m Y.N S q) :
  S.d*(Y.σ k*Y.M L k q)=(sz L.n fun j=>L.A k j*sz L.m fun i=>if S.β i=j then S.T i q else 0)+(if L.kd k≠3 then (if L.kd k=1 then 1 else -1)*sz L.m (fun i=>if S.β i=Y.sl k then S.T i q else 0) else 0):=by
 have h1:=hv.tb.co k hk q hq
 have e1:∀i,i<L.m->S.T i q*Y.M L k (S.β i)=(if S.β i<L.n then S.T i q*(Y.σ k*L.A k (S.β i)) else 0)+(if L.kd k≠3 then (Y.σ k*(if L.kd k=1 then 1 else -1))*(if S.β i=Y.sl k then S.T i q else 0) else 0):=fun i hi=>by
  by_cases c1:S.β i<L.n
  ·rw[if_pos c1,Lay.M_x c1]
   by_cases c2:L.kd k≠3
   ·rw[if_pos c2,if_neg (show ¬ S.β i=Y.sl k by have:=(h.sl k hk c2).1;omega)];omega
   ·rw[if_neg c2];omega
  ·rw[if_neg c1]
   by_cases c3:S.β i<Y.N
   ·by_cases c4:L.kd k≠3/\S.β i=Y.sl k
    ·rw[c4.2,Lay.M_sl h hk c4.1,if_pos c4.1,if_pos rfl,Int.mul_comm];omega
    ·rw[Lay.M_slo (by omega) c3 c4]
     by_cases c2:L.kd k≠3
     ·rw[if_pos c2,if_neg (show ¬ S.β i=Y.sl k from fun e=>c4 ⟨c2,e⟩)];omega
     ·rw[if_neg c2];omega
   ·rw[ha i hi (by omega)]
    by_cases c2:L.kd k≠3
    ·rw[if_pos c2,if_neg (show ¬ S.β i=Y.sl k by have:=(h.sl k hk c2).2;omega)];omega
    ·rw[if_neg c2];omega
 rw[bn e1,mF,tl (f:=fun j=>Y.σ k*L.A k j)] at h1
 have e2:(sz L.m fun i=>if L.kd k≠3 then (Y.σ k*(if L.kd k=1 then 1 else -1))*(if S.β i=Y.sl k then S.T i q else 0) else 0)=Y.σ k*(if L.kd k≠3 then (if L.kd k=1 then 1 else -1)*sz L.m (fun i=>if S.β i=Y.sl k then S.T i q else 0) else 0):=by
  by_cases c2:L.kd k≠3
  ·simp only[c2,not_false_eq_true,if_true,ne_eq]
   rw[fK,Int.mul_assoc]
  ·have c2:L.kd k=3:=by omega
   simp only[c2,ne_eq,not_true_eq_false,if_false]
   rw[fP fun _ _=>rfl,Int.mul_zero]
 have e3:(sz L.n fun j=>Y.σ k*L.A k j*sz L.m fun i=>if S.β i=j then S.T i q else 0)=Y.σ k*sz L.n fun j=>L.A k j*sz L.m fun i=>if S.β i=j then S.T i q else 0:=by
  rw[<-fK]
  exact bn fun j _=>by rw[Int.mul_assoc]
 rw[e2,e3,<-Int.mul_add] at h1
 have h2:=Lay.ss h hk
 have:S.d*(Y.σ k*Y.M L k q)=Y.σ k*(S.d*Y.M L k q):=by grind
 rw[this,h1,<-Int.mul_assoc,h2,Int.one_mul]
theorem yC {x y d:Int} (hd:0<d) (h:x<=y*d):(x:Rat) / (d:Rat)<=(y:Rat):=by
 have hd':(0:Rat)<(d:Rat):=by have:=Rat.intCast_lt_intCast.2 hd;simpa using this
 have h':(x:Rat)<=(y:Rat)*(d:Rat):=by rw[<-Rat.intCast_mul];exact Rat.intCast_le_intCast.2 h
 refine Rat.le_of_mul_le_mul_right ?_ hd'
 have:(x:Rat) / (d:Rat)*(d:Rat)=(x:Rat):=by grind
 rw[this]
 exact h'
theorem CS {x y d:Int} (hd:0<d) (h:y*d<=x):(y:Rat)<=(x:Rat) / (d:Rat):=by
 have hd':(0:Rat)<(d:Rat):=by have:=Rat.intCast_lt_intCast.2 hd;simpa using this
 have h':(y:Rat)*(d:Rat)<=(x:Rat):=by rw[<-Rat.intCast_mul];exact Rat.intCast_le_intCast.2 h
 refine Rat.le_of_mul_le_mul_right ?_ hd'
 have:(x:Rat) / (d:Rat)*(d:Rat)=(x:Rat):=by grind
 rw[this]
 exact h'
theorem Lq {x d:Rat} (hx:0<x) (hd:0<d):0<x / d:=by
 have e:x / d*d=x:=by grind
 refine Rat.not_le.1 fun h=>?_
 have h1:=Rat.mul_le_mul_of_nonneg_right h (Rat.le_of_lt hd)
 rw[e,Rat.zero_mul] at h1
 exact Rat.not_le.2 hx h1
theorem pC {n:Nat} {a X:Nat->Int} {d:Int} (hd:0<d):sq n (fun j=>(a j:Rat)*((X j:Rat) / (d:Rat)))=((sz n fun j=>a j*X j:Int):Rat) / (d:Rat):=by
 have hd':(0:Rat)<(d:Rat):=by have:=Rat.intCast_lt_intCast.2 hd;simpa using this
 have e:sq n (fun j=>(a j:Rat)*((X j:Rat) / (d:Rat)))=sq n (fun j=>(1 / (d:Rat))*((a j*X j:Int):Rat)):=dC fun j _=>by
  rw[Rat.intCast_mul]
  grind
 rw[e,q6,pA]
 grind
def yK (m R:Nat) (S:Sx) (j:Nat):Rat:=(tf m R S j:Rat) / (S.d:Rat)
theorem wm (h:Y.ok L) {S:Sx} (hv:Y.Val L S) (ha:Bz L.m Y.N S (Y.R L)):L.Feas (yK L.m (Y.R L) S):=by
 have hd:=hv.tb.dpos
 have row:∀k,k<L.m->S.d*L.b k=(sz L.n fun j=>L.A k j*tf L.m (Y.R L) S j)+(if L.kd k≠3 then (if L.kd k=1 then 1 else -1)*tf L.m (Y.R L) S (Y.sl k) else 0):=fun k hk=>by
  have h1:=H8 h hv (q:=Y.R L) (by unfold Lay.R Lay.w;omega) hk ha
  rw[Lay.M_R h,Lay.ss' h hk] at h1
  exact h1
 have rowq:∀k,L.row (yK L.m (Y.R L) S) k=((sz L.n fun j=>L.A k j*tf L.m (Y.R L) S j:Int):Rat) / (S.d:Rat):=fun k=>pC hd
 refine ⟨fun j _=>?_,fun k hk h2=>?_,fun k hk h1=>?_⟩
 ·have:=CS (x:=tf L.m (Y.R L) S j) (y:=0) hd (by rw[Int.zero_mul];exact mg hv j)
  simpa [yK] using this
 ·rw[rowq]
  have h3:=row k hk
  have h4:=mg hv (Y.sl k)
  refine yC hd ?_
  rw[Int.mul_comm,h3]
  rcases h.kd k hk with e | e | e
  ·simp[e];omega
  ·exact (h2 e).elim
  ·simp[e]
 ·rw[rowq]
  have h3:=row k hk
  have h4:=mg hv (Y.sl k)
  refine CS hd ?_
  rw[Int.mul_comm,h3]
  rcases h.kd k hk with e | e | e
  ·exact (h1 e).elim
  ·simp[e];omega
  ·simp[e]
def qh (m N:Nat) (wc:Nat->Int) (S:Sx) (σ:Nat->Int) (k:Nat):Int:=σ k*sz m fun i=>wc (S.β i)*S.T i (N+k)
def qX (m N:Nat) (wc:Nat->Int) (S:Sx) (σ:Nat->Int) (k:Nat):Rat:=(qh m N wc S σ k:Rat) / (S.d:Rat)
theorem NQ (h:Y.ok L) {S:Sx} (hv:Y.Val L S) {wc:Nat->Int} {j:Nat} (hj:j<L.n):zr L.m wc S j=wc j*S.d - sz L.m fun k=>L.A k j*qh L.m Y.N wc S Y.σ k:=by
 have hw:j<Y.w L:=by have:=h.n;unfold Lay.w;omega
 rw[rI hv.tb (Lay.art h).1 (Lay.art h).2 hw]
 congr 1
 refine bn fun k hk=>?_
 rw[Lay.M_x hj]
 unfold qh
 grind
theorem EA (h:Y.ok L) {S:Sx} (hv:Y.Val L S) {wc:Nat->Int} {k:Nat} (hk:k<L.m) (h3:L.kd k≠3):zr L.m wc S (Y.sl k)=wc (Y.sl k)*S.d - (if L.kd k=1 then 1 else -1)*qh L.m Y.N wc S Y.σ k:=by
 obtain ⟨h1,h2⟩:=h.sl k hk h3
 rw[rI hv.tb (Lay.art h).1 (Lay.art h).2 (by unfold Lay.w;omega)]
 congr 1
 rw[eB hk fun l hl hne=>by rw[Lay.M_slo h1 h2 fun e=>hne (h.inj l k hl hk e.1 h3 e.2.symm),Int.mul_zero],Lay.M_sl h hk h3]
 unfold qh
 grind
theorem Ek (h:Y.ok L) {S:Sx} (hv:Y.Val L S) {wc:Nat->Int}:zr L.m wc S (Y.R L)=wc (Y.R L)*S.d - sz L.m fun k=>L.b k*qh L.m Y.N wc S Y.σ k:=by
 rw[rI hv.tb (Lay.art h).1 (Lay.art h).2 (by unfold Lay.R Lay.w;omega)]
 congr 1
 refine bn fun k hk=>?_
 rw[Lay.M_R h]
 unfold qh
 grind
theorem yu (h:Y.ok L) {S:Sx} (hv:Y.Val L S) {wc:Nat->Int} (hw:∀j,L.n<=j->j<Y.N->wc j=0) (hz:∀j,j<Y.N->0<=zr L.m wc S j):L.Sgn (qX L.m Y.N wc S Y.σ):=by
 have hd:=hv.tb.dpos
 refine ⟨fun k hk e=>?_,fun k hk e=>?_⟩
 ·obtain ⟨h1,h2⟩:=h.sl k hk (by omega)
  have h3:=EA h hv (wc:=wc) hk (by omega)
  have h4:=hz _ h2
  rw[h3,hw _ h1 h2,if_pos e] at h4
  have:=yC (x:=qh L.m Y.N wc S Y.σ k) (y:=0) hd (by omega)
  simpa [qX] using this
 ·obtain ⟨h1,h2⟩:=h.sl k hk (by omega)
  have h3:=EA h hv (wc:=wc) hk (by omega)
  have h4:=hz _ h2
  rw[h3,hw _ h1 h2,if_neg (by omega)] at h4
  have:=CS (x:=qh L.m Y.N wc S Y.σ k) (y:=0) hd (by omega)
  simpa [qX] using this
def bU (L:Lin) (j:Nat):Int:=if j<L.n then L.c j else 0
theorem CU (h:Y.ok L) {S:Sx} (hv:Y.Val L S) (hz:∀j,j<Y.N->0<=zr L.m (bU L) S j):L.Dual (qX L.m Y.N (bU L) S Y.σ):=by
 have hd:=hv.tb.dpos
 refine ⟨yu h hv (fun j h1 _=>if_neg (by omega)) hz,fun j hj=>?_⟩
 have h1:=hz j (by have:=h.n;omega)
 rw[NQ h hv hj] at h1
 have e:L.col (qX L.m Y.N (bU L) S Y.σ) j=((sz L.m fun k=>L.A k j*qh L.m Y.N (bU L) S Y.σ k:Int):Rat) / (S.d:Rat):=pC hd
 rw[e]
 have e2:bU L j=L.c j:=if_pos hj
 rw[e2] at h1
 exact yC hd (by omega)
theorem BL (h:Y.ok L) {S:Sx} (hv:Y.Val L S):L.val (yK L.m (Y.R L) S)=((sz L.m fun i=>bU L (S.β i)*S.T i (Y.R L):Int):Rat) / (S.d:Rat)/\L.rhs (qX L.m Y.N (bU L) S Y.σ)=((sz L.m fun i=>bU L (S.β i)*S.T i (Y.R L):Int):Rat) / (S.d:Rat):=by
 have hd:=hv.tb.dpos
 constructor
 ·have e:L.val (yK L.m (Y.R L) S)=((sz L.n fun j=>L.c j*tf L.m (Y.R L) S j:Int):Rat) / (S.d:Rat):=pC hd
  rw[e]
  congr 2
  rw[show (sz L.n fun j=>L.c j*tf L.m (Y.R L) S j)=sz L.n fun j=>L.c j*sz L.m fun i=>if S.β i=j then S.T i (Y.R L) else 0 from rfl,<-tl (f:=L.c)]
  refine bn fun i _=>?_
  unfold bU
  split
  ·rw[Int.mul_comm]
  ·rw[Int.zero_mul]
 ·have e:L.rhs (qX L.m Y.N (bU L) S Y.σ)=((sz L.m fun k=>L.b k*qh L.m Y.N (bU L) S Y.σ k:Int):Rat) / (S.d:Rat):=pC hd
  rw[e]
  congr 2
  have h1:=Ek h hv (wc:=bU L)
  have e0:bU L (Y.R L)=0:=if_neg (by have:=h.n;unfold Lay.R;omega)
  unfold zr at h1
  rw[e0] at h1
  omega
def fp (N:Nat) (j:Nat):Int:=if N<=j then 1 else 0
theorem GY (h:Y.ok L) {S:Sx} (hv:Y.Val L S) (hz:∀j,j<Y.N->0<=zr L.m (fp Y.N) S j) (hp:0<sz L.m fun i=>fp Y.N (S.β i)*S.T i (Y.R L)):L.Ref (qX L.m Y.N (fp Y.N) S Y.σ):=by
 have hd:=hv.tb.dpos
 refine ⟨yu h hv (fun j _ h2=>if_neg (by omega)) hz,fun j hj=>?_,?_⟩
 ·have h1:=hz j (by have:=h.n;omega)
  rw[NQ h hv hj] at h1
  have e:L.col (qX L.m Y.N (fp Y.N) S Y.σ) j=((sz L.m fun k=>L.A k j*qh L.m Y.N (fp Y.N) S Y.σ k:Int):Rat) / (S.d:Rat):=pC hd
  have e2:fp Y.N j=0:=if_neg (by have:=h.n;omega)
  rw[e2] at h1
  have:=yC (x:=sz L.m fun k=>L.A k j*qh L.m Y.N (fp Y.N) S Y.σ k) (y:=0) hd (by omega)
  rw[e]
  simpa using this
 ·have e:L.rhs (qX L.m Y.N (fp Y.N) S Y.σ)=((sz L.m fun k=>L.b k*qh L.m Y.N (fp Y.N) S Y.σ k:Int):Rat) / (S.d:Rat):=pC hd
  have h1:=Ek h hv (wc:=fp Y.N)
  unfold zr at h1
  have h2:0<sz L.m fun k=>L.b k*qh L.m Y.N (fp Y.N) S Y.σ k:=by omega
  rw[e]
  have hd':(0:Rat)<(S.d:Rat):=by have:=Rat.intCast_lt_intCast.2 hd;simpa using this
  have h2':(0:Rat)<((sz L.m fun k=>L.b k*qh L.m Y.N (fp Y.N) S Y.σ k:Int):Rat):=by have:=Rat.intCast_lt_intCast.2 h2;simpa using this
  exact Lq h2' hd'
def mB (m:Nat) (S:Sx) (q j:Nat):Int:=(if j=q then S.d else 0) - sz m fun i=>if S.β i=j then S.T i q else 0
theorem FM (h:Y.ok L) {S:Sx} (hv:Y.Val L S) {q:Nat} (hq:q<Y.N) (ha:Bz L.m Y.N S q) (hz:zr L.m (bU L) S q<0) (hno:∀i,i<L.m->S.T i q<=0):L.Ray (fun j=>(mB L.m S q j:Rat)):=by
 have hd:=hv.tb.dpos
 have hqw:q<Y.w L:=by unfold Lay.w;omega
 have pos:∀j,0<=mB L.m S q j:=fun j=>by
  unfold mB
  have h1:(sz L.m fun i=>if S.β i=j then S.T i q else 0)<=sz L.m fun _=>0:=oh fun i hi=>by
   split
   ·exact hno i hi
   ·exact Int.le_refl _
  rw[fP (f:=fun _=>0) fun _ _=>rfl] at h1
  split<;>omega
 have row:∀k,k<L.m->(sz L.n fun j=>L.A k j*mB L.m S q j)=(if L.kd k≠3 then -(if L.kd k=1 then 1 else -1)*mB L.m S q (Y.sl k) else 0):=fun k hk=>by
  have h1:=H8 h hv hqw hk ha
  have e1:(sz L.n fun j=>L.A k j*mB L.m S q j)=(if q<L.n then L.A k q*S.d else 0) - sz L.n fun j=>L.A k j*sz L.m fun i=>if S.β i=j then S.T i q else 0:=by
   have e0:(if q<L.n then L.A k q*S.d else 0)=sz L.n fun j=>if j=q then L.A k q*S.d else 0:=by
    by_cases e:q<L.n
    ·rw[if_pos e,eB e fun j _ hne=>if_neg hne,if_pos rfl]
    ·rw[if_neg e,fP fun j hj=>if_neg (by omega)]
   rw[e0,<-vS]
   refine bn fun j _=>?_
   unfold mB
   by_cases e:j=q
   ·subst e;rw[if_pos rfl,if_pos rfl];grind
   ·rw[if_neg e,if_neg e];grind
  rw[e1]
  by_cases c1:q<L.n
  ·rw[if_pos c1]
   rw[Lay.M_x c1,Lay.ss' h hk] at h1
   by_cases c2:L.kd k≠3
   ·rw[if_pos c2] at h1 ⊢
    unfold mB
    rw[if_neg (show ¬ Y.sl k=q by have:=(h.sl k hk c2).1;omega)]
    grind
   ·rw[if_neg c2] at h1 ⊢
    grind
  ·rw[if_neg c1]
   by_cases c2:L.kd k≠3
   ·rw[if_pos c2] at h1 ⊢
    unfold mB
    by_cases c3:Y.sl k=q
    ·rw[if_pos c3]
     rw[<-c3] at h1 ⊢
     rw[Lay.M_sl h hk c2,Lay.ss' h hk] at h1
     rcases h.kd k hk with e | e | e
     ·simp[e] at h1 ⊢;omega
     ·simp[e] at h1 ⊢;omega
     ·exact (c2 e).elim
    ·rw[if_neg c3]
     rw[Lay.M_slo (by omega) hq fun e=>c3 e.2.symm] at h1
     rcases h.kd k hk with e | e | e
     ·simp[e] at h1 ⊢;omega
     ·simp[e] at h1 ⊢;omega
     ·exact (c2 e).elim
   ·rw[if_neg c2] at h1 ⊢
    rw[Lay.M_slo (by omega) hq fun e=>c2 e.1] at h1
    omega
 have cast:∀a:Nat->Int,sq L.n (fun j=>(a j:Rat)*(mB L.m S q j:Rat))=((sz L.n fun j=>a j*mB L.m S q j:Int):Rat):=fun a=>by
  rw[<-pA]
  exact dC fun j _=>by rw[Rat.intCast_mul]
 refine ⟨fun j _=>by have:=Rat.intCast_le_intCast.2 (pos j);simpa using this,fun k hk h2=>?_,fun k hk h1=>?_,?_⟩
 ·have e:L.row (fun j=>(mB L.m S q j:Rat)) k=((sz L.n fun j=>L.A k j*mB L.m S q j:Int):Rat):=cast _
  rw[e,row k hk]
  have h4:=pos (Y.sl k)
  have h5:(if L.kd k≠3 then -(if L.kd k=1 then 1 else -1)*mB L.m S q (Y.sl k) else 0)<=0:=by
   rcases h.kd k hk with e | e | e
   ·simp[e];omega
   ·exact (h2 e).elim
   ·simp[e]
  have:=Rat.intCast_le_intCast.2 h5
  simpa using this
 ·have e:L.row (fun j=>(mB L.m S q j:Rat)) k=((sz L.n fun j=>L.A k j*mB L.m S q j:Int):Rat):=cast _
  rw[e,row k hk]
  have h4:=pos (Y.sl k)
  have h5:0<=(if L.kd k≠3 then -(if L.kd k=1 then 1 else -1)*mB L.m S q (Y.sl k) else 0):=by
   rcases h.kd k hk with e | e | e
   ·exact (h1 e).elim
   ·simp[e];omega
   ·simp[e]
  have:=Rat.intCast_le_intCast.2 h5
  simpa using this
 ·have e:L.val (fun j=>(mB L.m S q j:Rat))=((sz L.n fun j=>L.c j*mB L.m S q j:Int):Rat):=cast _
  rw[e]
  have e2:(sz L.n fun j=>L.c j*mB L.m S q j)=zr L.m (bU L) S q:=by
   unfold zr
   have e3:(sz L.m fun i=>bU L (S.β i)*S.T i q)=sz L.n fun j=>L.c j*sz L.m fun i=>if S.β i=j then S.T i q else 0:=by
    rw[<-tl (f:=L.c)]
    refine bn fun i _=>?_
    unfold bU
    split
    ·rw[Int.mul_comm]
    ·rw[Int.zero_mul]
   rw[e3]
   have e4:bU L q*S.d=sz L.n fun j=>if j=q then L.c j*S.d else 0:=by
    unfold bU
    by_cases c:q<L.n
    ·rw[if_pos c,eB c fun j _ hne=>if_neg hne,if_pos rfl]
    ·rw[if_neg c,fP fun j hj=>if_neg (by omega),Int.zero_mul]
   rw[e4,<-vS]
   refine bn fun j _=>?_
   unfold mB
   by_cases c:j=q
   ·rw[if_pos c,if_pos c];grind
   ·rw[if_neg c,if_neg c];grind
  rw[e2]
  have:=Rat.intCast_lt_intCast.2 hz
  simpa using this
end
theorem vl {a b:Nat} {f:Nat->Int}:sz (a+b) f=sz a f+sz b fun i=>f (a+i):=by
 induction b with
 | zero=>simp[sz]
 | succ b ih =>
  rw[show a+(b+1)=a+b+1 by omega,sz,sz,ih]
  omega
theorem JH {m w:Nat} {γ:Nat->Nat} {f:Nat->Int} (hlt:∀p,p<m->γ p<w) (hinj:∀p q,p<m->q<m->γ p=γ q->p=q) (hf:∀j,j<w->0<=f j):(sz m fun p=>f (γ p))<=sz w f:=by
 have e:(sz m fun p=>f (γ p))=sz w fun j=>f j*sz m fun p=>if γ p=j then 1 else 0:=by
  rw[bn (g:=fun p=>sz w fun j=>if γ p=j then f j else 0) fun p hp=>by
   rw[eB (hlt p hp) fun j _ hne=>if_neg (Ne.symm hne),if_pos rfl],rU]
  refine bn fun j _=>?_
  rw[<-fK]
  refine bn fun p _=>?_
  split<;>omega
 rw[e]
 refine oh fun j hj=>?_
 have hc:(sz m fun p=>if γ p=j then (1:Int) else 0)<=1:=by
  by_cases h:∃p,p<m/\γ p=j
  ·obtain ⟨p,hp,rfl⟩:=h
   rw[eB hp fun q hq hne=>if_neg fun e'=>hne (hinj q p hq hp e'),if_pos rfl]
   exact Int.le_refl _
  ·rw[fP fun p hp=>if_neg fun e'=>h ⟨p,hp,e'⟩]
   omega
 have:=Int.mul_le_mul_of_nonneg_left hc (hf j hj)
 omega
def Lin.F (L:Lin) (k:Nat):Int:=1+ab (L.b k)+sz L.n fun j=>ab (L.A k j)
def Lin.F0 (L:Lin):Int:=1+sz L.n fun j=>ab (L.c j)
theorem Lin.F_pos (L:Lin) (k:Nat):1<=L.F k:=by
 have h1:=cq (L.b k)
 have h2:0<=sz L.n fun j=>ab (L.A k j):=ii fun j _=>cq _
 unfold Lin.F
 omega
theorem Lin.F0_pos (L:Lin):1<=L.F0:=by
 have h2:0<=sz L.n fun j=>ab (L.c j):=ii fun j _=>cq _
 unfold Lin.F0
 omega
def Lin.P (L:Lin):Int:=pz L.m L.F
theorem H6:∀{n:Nat} {f:Nat->Int},(∀i,i<n->1<=f i)->1<=pz n f
 | 0,_,_=>by simp[pz]
 | n+1,f,h=>by
  simp only[pz]
  have h1:=h 0 (by omega)
  have h2:=H6 (n:=n) (f:=fun i=>f (i+1)) fun i hi=>h (i+1) (by omega)
  have:=Int.mul_le_mul h1 h2 (by omega) (by omega)
  omega
theorem Lin.P_pos (L:Lin):1<=L.P:=H6 fun k _=>L.F_pos k
section
variable {L:Lin} {Y:Lay}
theorem H3 (h:Y.ok L) {k:Nat} (hk:k<L.m) (x:Int):ab (Y.σ k*x)=ab x:=by
 rw[nZ]
 rcases h.sg k hk with e | e<;>rw[e]<;>simp[ab]
theorem Fl (h:Y.ok L) {k:Nat} (hk:k<L.m) {f:Nat->Int} (h1:∀j,j<L.n->f j=ab (Y.M L k j)) (hR:f (Y.R L)=ab (Y.M L k (Y.R L)))
  (h2:((∀j,L.n<=j->j<Y.N->f j=0)/\∀i,i<L.m->f (Y.N+i)=if i=k then 1 else 0)\/(L.kd k≠3/\(∀j,L.n<=j->j<Y.N->f j=if j=Y.sl k then 1 else 0)/\∀i,i<L.m->f (Y.N+i)=0)) :
  sz (Y.w L) f=L.F k:=by
 have hn:=h.n
 have e:Y.w L=(L.n+(Y.N - L.n))+L.m+1:=by unfold Lay.w;omega
 rw[e,sz,vl,vl,show L.n+(Y.N - L.n)+L.m=Y.R L by unfold Lay.R;omega,hR,Lay.M_R h,H3 h hk]
 have e1:sz L.n f=sz L.n fun j=>ab (L.A k j):=bn fun j hj=>by rw[h1 j hj,Lay.M_x hj,H3 h hk]
 rw[e1,show L.n+(Y.N - L.n)=Y.N by omega]
 unfold Lin.F
 rcases h2 with ⟨h3,h4⟩ | ⟨h3,h4,h5⟩
 ·rw[fP fun i hi=>h3 (L.n+i) (by omega) (by omega),eB hk fun i hi hne=>by rw[h4 i hi,if_neg hne],h4 k hk,if_pos rfl]
  omega
 ·obtain ⟨h6,h7⟩:=h.sl k hk h3
  have a1:(sz (Y.N - L.n) fun i=>f (L.n+i))=1:=by
   rw[eB (k:=Y.sl k - L.n) (by omega) fun i hi hne=>by rw[h4 _ (by omega) (by omega),if_neg (by omega)],h4 _ (by omega) (by omega),if_pos (by omega)]
  have a2:(sz L.m fun i=>f (Y.N+i))=0:=fP fun i hi=>h5 i hi
  rw[a1,a2]
  omega
theorem Mn (h:Y.ok L) {γ:Nat->Nat} (hlt:∀p,p<L.m->γ p<Y.w L):dc L.m (Y.M L) γ=0\/∀k,k<L.m->(sz L.m fun p=>ab (Y.M L k (γ p)))<=L.F k:=by
 have zero:dc L.m (Y.M L) γ=0->dc L.m (Y.M L) γ=0\/∀k,k<L.m->(sz L.m fun p=>ab (Y.M L k (γ p)))<=L.F k:=fun e=>.inl e
 by_cases hinj:∀p q,p<L.m->q<L.m->γ p=γ q->p=q
 ·by_cases hboth:∃k p q,k<L.m/\L.kd k≠3/\p<L.m/\q<L.m/\γ p=Y.sl k/\γ q=Y.N+k
  ·obtain ⟨k,p,q,hk,h3,hp,hq,e1,e2⟩:=hboth
   obtain ⟨h4,h5⟩:=h.sl k hk h3
   have hpq:p≠q:=fun e=>by rw[e,e2] at e1;omega
   apply zero
   unfold dc
   have e3:det L.m (dX (Y.M L) γ)=det L.m (bP (dX (Y.M L) γ) p fun l=>(Y.σ k*(if L.kd k=1 then 1 else -1))*Y.M L l (Y.N+k)):=by
    refine ik fun l j hl hj=>?_
    unfold bP
    split
    ·rename_i e
     rw[e]
     show Y.M L l (γ p)=(Y.σ k*(if L.kd k=1 then 1 else -1))*Y.M L l (Y.N+k)
     rw[e1,Lay.M_a h hk]
     by_cases el:l=k
     ·subst el
      rw[Lay.M_sl h hl h3,if_pos rfl,Int.mul_one]
     ·rw[if_neg el,Int.mul_zero,Lay.M_slo h4 h5 fun e'=>el (h.inj l k hl hk e'.1 h3 e'.2.symm)]
    ·rfl
   rw[e3,mW hp,kY hp hq hpq fun l _=>by
    unfold bP
    rw[if_pos rfl,if_neg (Ne.symm hpq)]
    show Y.M L l (Y.N+k)=Y.M L l (γ q)
    rw[e2],Int.mul_zero]
  ·refine .inr fun k hk=>?_
   by_cases hs:L.kd k≠3/\∃p,p<L.m/\γ p=Y.sl k
   ·obtain ⟨h3,p,hp,e1⟩:=hs
    obtain ⟨h4,h5⟩:=h.sl k hk h3
    have e:(sz L.m fun p=>ab (Y.M L k (γ p)))=sz L.m fun p=>(fun j=>if Y.N<=j/\j<Y.N+L.m then 0 else ab (Y.M L k j)) (γ p):=bn fun q hq=>by
     show _=if Y.N<=γ q/\γ q<Y.N+L.m then 0 else ab (Y.M L k (γ q))
     split
     ·rename_i hr
      obtain ⟨i,hi⟩:∃i,γ q=Y.N+i:=⟨γ q - Y.N,by omega⟩
      rw[hi,Lay.M_a h (by omega),if_neg fun e'=>hboth ⟨k,p,q,hk,h3,hp,hq,e1,by rw[hi,e']⟩]
      rfl
     ·rfl
    rw[e]
    refine Int.le_trans (JH (f:=fun j=>if Y.N<=j/\j<Y.N+L.m then 0 else ab (Y.M L k j)) hlt hinj fun j _=>?_) (Int.le_of_eq (Fl h hk (fun j hj=>?_) ?_ (.inr ⟨h3,fun j h6 h7=>?_,fun i hi=>?_⟩)))
    ·split
     ·exact Int.le_refl _
     ·exact cq _
    ·have:=h.n
     rw[if_neg (by omega)]
    ·rw[if_neg (by unfold Lay.R;omega)]
    ·rw[if_neg (by omega)]
     by_cases ej:j=Y.sl k
     ·subst ej
      rw[Lay.M_sl h hk h3,H3 h hk,if_pos rfl]
      split<;>rfl
     ·rw[if_neg ej,Lay.M_slo h6 h7 fun e'=>ej e'.2]
      rfl
    ·rw[if_pos (by omega)]
   ·have e:(sz L.m fun p=>ab (Y.M L k (γ p)))=sz L.m fun p=>(fun j=>if L.n<=j/\j<Y.N then 0 else ab (Y.M L k j)) (γ p):=bn fun q hq=>by
     show _=if L.n<=γ q/\γ q<Y.N then 0 else ab (Y.M L k (γ q))
     split
     ·rename_i hr
      rw[Lay.M_slo hr.1 hr.2 fun e'=>hs ⟨e'.1,q,hq,e'.2⟩]
      rfl
     ·rfl
    rw[e]
    refine Int.le_trans (JH (f:=fun j=>if L.n<=j/\j<Y.N then 0 else ab (Y.M L k j)) hlt hinj fun j _=>?_) (Int.le_of_eq (Fl h hk (fun j hj=>?_) ?_ (.inl ⟨fun j h6 h7=>?_,fun i hi=>?_⟩)))
    ·split
     ·exact Int.le_refl _
     ·exact cq _
    ·rw[if_neg (by omega)]
    ·rw[if_neg (by unfold Lay.R;omega)]
    ·rw[if_pos ⟨h6,h7⟩]
    ·rw[if_neg (by omega),Lay.M_a h hi]
     by_cases ei:k=i
     ·rw[if_pos ei,if_pos ei.symm];rfl
     ·rw[if_neg ei,if_neg (Ne.symm ei)];rfl
 ·have:∃p q,p<L.m/\q<L.m/\γ p=γ q/\p≠q:=by
   apply Classical.byContradiction
   intro hno
   refine hinj fun p q hp hq e=>?_
   apply Classical.byContradiction
   intro hne
   exact hno ⟨p,q,hp,hq,e,hne⟩
  obtain ⟨p,q,hp,hq,e,hne⟩:=this
  apply zero
  refine kY hp hq hne fun l _=>?_
  show Y.M L l (γ p)=Y.M L l (γ q)
  rw[e]
theorem A3 (h:Y.ok L) {γ:Nat->Nat} (hlt:∀p,p<L.m->γ p<Y.w L):ab (dc L.m (Y.M L) γ)<=L.P:=by
 rcases Mn h hlt with e | e
 ·have hP:=L.P_pos
  rw[e]
  simp[ab]
  omega
 ·exact Int.le_trans xG (Hg fun k hk=>⟨ii fun _ _=>cq _,e k hk⟩)
theorem Pt {m w:Nat} {β:Nat->Nat} {r c:Nat} (h:∀p,p<m->β p<w) (hc:c<w):∀p,p<m->upd β r c p<w:=fun p hp=>by
 unfold upd
 split
 ·exact hc
 ·exact h p hp
theorem o5 (h:Y.ok L) {T:Nat->Nat->Int} {d:Int} {β:Nat->Nat} (ht:Tb L.m (Y.w L) (Y.M L) T d β):d<=L.P/\∀i j,i<L.m->j<Y.w L->ab (T i j)<=L.P:=by
 refine ⟨?_,fun i j hi hj=>by rw[ht.bound hi hj];exact A3 h (Pt ht.lt hj)⟩
 obtain ⟨σ,h1,h2,_⟩:=ht.cr
 have h3:=A3 h ht.lt
 have h4:ab d=ab (dc L.m (Y.M L) β):=by
  have h5:ab σ=1:=by
   have h6:ab σ*ab σ=1:=by rw[<-nZ,h1];rfl
   have h7:=cq σ
   have h8:ab σ<=1:=by
    apply Int.not_lt.1
    intro h9
    have:2*2<=ab σ*ab σ:=Int.mul_le_mul (by omega) (by omega) (by omega) h7
    omega
   have:ab σ≠0:=fun e=>by rw[e] at h6;simp at h6
   omega
  have h6:ab (σ*dc L.m (Y.M L) β)=ab d:=by rw[<-h2]
  rw[nZ,h5,Int.one_mul] at h6
  exact h6.symm
 rw[<-h4] at h3
 exact (tG.1 h3).2
end
theorem yT:∀{n k:Nat} {f:Nat->Int},k<n->f k*pz n (fun r=>if r=k then 1 else f r)=pz n f
 | 0,k,_,h=>by omega
 | n+1,k,f,h=>by
  simp only[pz]
  cases k with
  | zero =>
   rw[if_pos rfl,Int.one_mul]
   congr 1
  | succ k =>
   rw[if_neg (by omega)]
   have h1:=yT (n:=n) (k:=k) (f:=fun i=>f (i+1)) (by omega)
   rw[<-h1]
   have e:(fun i=>if i+1=k+1 then (1:Int) else f (i+1))=fun r=>if r=k then 1 else f (r+1):=by
    funext r
    by_cases c:r=k
    ·rw[if_pos c,if_pos (by omega)]
    ·rw[if_neg c,if_neg (by omega)]
   rw[e]
   grind
section
variable {L:Lin} {Y:Lay}
end
end Dn
end Go.Proofs.YtfknoaclabfdlaaGreat
