/- r15: what its functions answer (printed by a program), and that they do; part 3. r15: what its functions answer (printed by a program), and that they do; part 4. Plain lemmas for what functions answer: loops, machine numbers, lists. Names: both programs know the same ones. Fractions: rational numbers, and the pairs of numbers that stand for them. Fractions: what 'Make', 'Valid', 'Mul', 'Floor', 'Ceil' of package ratio answer. Fractions: products of two words, 'Mul', 'Floor', 'Ceil' of package ratio. Fractions of the reference: numbers of two words, their greatest common divisors and quotients. Fractions of the reference: 'Div', 'Made', 'Make', 'Times', 'Floor', 'Ceil'. Numbers of 128 bits: sums, differences, comparisons; the length of a number. The quotient of a number of 128 bits by one of 64. Fractions: 'Add' of package ratio. Loops over lists: searches and tests of all elements. Fractions: 'Add', 'Valid', 'All' of the reference. Fractions: 'Sub' and 'Cmp' of both. Loops over the elements of a list, as recursions over it. Programs: both programs know the same valid ones. Systems: both programs know the same valid ones. Sums of integers, and determinants. Tables of the simplex method: integers with a common denominator, as determinants of columns. Steps of the simplex method by the rule of least indices: they never come back to a basis. Steps of the simplex method come to an end: a measure. -/
import Derived.Laws.StructEq
import Derived.Test.YtfknoaclabfdlaaGreatMgM

namespace Go.Proofs.YtfknoaclabfdlaaGreat
noncomputable section
open Tryz Dn Dn.Sh
set_option maxRecDepth 100000
def vQ (lp:Lp) (_:Jn) (x0:(List Int)×List ((List Int)×Int×Int)):Option (List Int) :=
 lp (List Int×Int×PUnit) (List Int) (fun (again:List Int×Int×PUnit->Option (List Int)) (x:List Int×Int×PUnit)=>bif decide (x.2.1<(↑x0.2.length:Int)) then bif inB x.2.1 x0.2.length then bif dR (List.length x.1+1) 8 then again (x.1++[(x0.2.getD x.2.1.toNat ([],0,(0 : Int))).2.2],IntKind.wrap .i64 (x.2.1+1),PUnit.unit) else none else none else some x.1) ([],0,PUnit.unit)
def oo (x0:(List Int)×List ((List Int)×Int×Int)):Option (List Int):=vQ lpK jnK x0
abbrev t55:=((List Int)×List ((List Int)×Int×Int))->Option (List Int)
def y6 (_:Lp) (_:Jn) (cZ:t73) (lv:RP) (x0:Int×Int):Option Int :=
 aa (cZ 0) fun (t:Int×Int)=>aa (lv x0 t) fun (t:Int)=>some t
def i7 (x0:Int×Int):Option Int:=y6 lpK jnK cZ lv x0
abbrev t56:=(Int×Int)->Option (Int)
def w7 (lp:Lp) (_:Jn) (i7:t56) (x0:(List Int)×List ((List Int)×Int×Int)) (x1:List (Int×Int)):Option Bool :=
 lp (Int×PUnit) Bool (fun (again:Int×PUnit->Option Bool) (x:Int×PUnit) =>
 let v6:Bool:=inB x.1 x1.length;
 let v7:Bool:=inB x.1 x0.2.length;
 let v8:Bool:=decide ((x0.2.getD x.1.toNat ([],0,0)).2.1=1);
 let v9:Bool:=decide ((x0.2.getD x.1.toNat ([],0,0)).2.1=2);
 let v10:Bool:=!v8;
 let v11:Bool:=v10||v8;bif decide (x.1<(↑x1.length:Int)) then bif v7 then bif v11&&(v11&&(v10||v6)) then bif v11 then bif v11 then aa (bif v8 then i7 (x1.getD x.1.toNat (0,0)) else some 0) fun (t:Int) =>
 let v13:Bool:=bif v8 then decide (t>0) else false;
 let v14:Bool:=!v13;
 let v15:Bool:=!v14;
 let v16:Bool:=v14&&v9;
 let v17:Bool:=!v16;
 let v18:Bool:=v15||v14;
 let v19:Bool:=v17||v16;bif v11 then bif v11 then bif v18 then bif v18&&(v18&&(v15||v7)) then bif v18 then bif v18 then bif v18 then bif v18 then bif v19&&(v19&&(v17 || v6)) then bif v19 then bif v19 then aa (bif v16 then i7 (x1.getD x.1.toNat (0,0)) else some 0) fun (t:Int)=>bif v19 then bif (v15 || v18)&&(v15||(!v9||(v15||v16))) then bif v13||v14 then bif bif v13 then true else bif v9 then decide (t<0) else false then some false else again (IntKind.wrap IntKind.i64 (x.1+1),PUnit.unit) else none else none else none else none else none else none else none else none else none else none else none else none else none else none else none else none else none else none else some true) (0,PUnit.unit)
def oc (x0:(List Int)×List ((List Int)×Int×Int)) (x1:List (Int×Int)):Option Bool:=w7 lpK jnK i7 x0 x1
abbrev t57:=((List Int)×List ((List Int)×Int×Int))->(List (Int×Int))->Option (Bool)
def uQ (_:Lp) (_:Jn) (lj:t54) (pf:t53) (oo:t55) (i7:t56) (oc:t57) (x0:(List Int)×List ((List Int)×Int×Int)) (x1:List (Int×Int)):Option (Bool×Int×Unit) :=
 bif decide (0<=(↑x0.1.length:Int))&&dR (Int.toNat (↑x0.1.length:Int)) 8 then aa (pf x0 x1 (List.replicate (Int.toNat (↑x0.1.length:Int)) 0)) fun (t:Bool×Int×PUnit) =>
 let v5:Bool:=!t.1||t.1;bif !decide (t.2.1=0) then some (false,t.2.1,PUnit.unit) else aa (oo x0) fun (t_1:List Int)=>aa (lj t_1 x1) fun (t_2:(Int×Int)×Int×PUnit)=>bif !decide (t_2.2.1=0) then some (false,t_2.2.1,PUnit.unit) else bif v5 then aa (bif t.1 then i7 t_2.1 else some 0) fun (t_3:Int) =>
 let v9:Bool:=bif t.1 then decide (t_3>0) else false;
 let v10:Bool:=!v9||v9;bif v5 then bif v5 then bif v10&&v10 then aa (bif v9 then oc x0 x1 else some false) fun (t:Bool)=>bif v10 then some (bif v9 then t else false,0,PUnit.unit) else none else none else none else none else none else none
def fg (x0:(List Int)×List ((List Int)×Int×Int)) (x1:List (Int×Int)):Option (Bool×Int×Unit):=uQ lpK jnK lj pf oo i7 oc x0 x1
abbrev t18:=((List Int)×List ((List Int)×Int×Int))->(List (Int×Int))->Option (Bool×Int×Unit)
def k18 (fg:t18):Ctr:=⟨[T32,(.sl T49)],[],[],.tup [.bool,i64],fun x _ _=>fg x.1 x.2.1⟩
def jL (_:Lp) (_:Jn) (aU:t11) (a8:t12) (aK:t9) (a7:t10) (bh:t13) (iT:t14) (aV:t15) (cE:t16) (lk:t17) (fg:t18) (x0:(List (ByteArray×Int))×List (ByteArray×(List (ByteArray×Int×Int×Int))×Bool)) (x1:List (Int×Int)):Option Bool :=
 aa aK fun (t:Bool)=>bif !t then some false else aa (a7 x0 x1) fun (t:Bool)=>bif !t then some true else aa (aU x0) fun (t:(List Int×List (List Int×Int×Int))×Int×PUnit)=>aa (a8 x0 x1) fun (t_1:Bool×Int×PUnit) =>
 let v8:Bool:=!t_1.1;
 let v9:Bool:=!v8||v8;
 let v10:Bool:=decide (t_1.2.1=1);aa (bh x0) fun (t_2:Bool)=>bif !t_2 then aa (iT t.1 ([],[])) fun (t_3:Bool) =>
 let v13:Bool:=!t_3||t_3;
 let v14:Bool:=bif t_3 then decide (t.2.1=1) else false;
 let v15:Bool:=bif v14 then v8 else false;
 let v16:Bool:=!v14||v14;
 let v17:Bool:=!v15||v15;bif v13 then bif v13 then bif v16 then bif v16 then bif v17 then bif v17 then some (bif v15 then v10 else false) else none else none else none else none else none else none else aa (cE x0) fun (t_3:List Int)=>aa (aV x0 t_3) fun (t_4:List Int×List (List Int×Int×Int))=>aa (iT t.1 t_4) fun (t_5:Bool) =>
 let v15:Bool:=!t_5;
 let v16:Bool:=!v15;bif !v16||v16 then bif v15||v16 then bif bif v15 then true else !decide (t.2.1=0) then some false else aa (lk x1) fun (t:Bool)=>bif !t then bif v9 then bif v9 then some (bif v8 then v10 else false) else none else none else bif !decide ((↑x1.length:Int)=(↑x0.1.length:Int)) then bif v9 then bif v9 then some (bif v8 then decide (t_1.2.1=3) else false) else none else none else aa (fg t_4 x1) fun (t:Bool×Int×PUnit) =>
 let v19:Bool:=decide (t_1.1=t.1);
 let v20:Bool:=!v19||v19;bif v20&&v20 then bif v20 then some (bif v19 then decide (t_1.2.1=t.2.1) else false) else none else none else none else none
def qz (x0:(List (ByteArray×Int))×List (ByteArray×(List (ByteArray×Int×Int×Int))×Bool)) (x1:List (Int×Int)):Option Bool:=jL lpK jnK aU a8 aK a7 bh iT aV cE lk fg x0 x1
def c3:Ctr:=⟨[T25,(.sl T49)],[],[],.one .bool,fun x _ _=>qz x.1 x.2.1⟩
theorem e3 (lp:Lp) (jn:Jn) (aU:t11) (a8:t12) (aK:t9) (a7:t10) (bh:t13) (iT:t14) (aV:t15) (cE:t16) (lk:t17) (fg:t18):∀(x:TsS c3.as) (F:TsF c3.fs) (y:TsS c3.cs),jL lp jn aU a8 aK a7 bh iT aV cE lk fg x.1 x.2.1=cb lp jn (cx [(18,k18 fg),(17,⟨[(.sl T49)],[],[],.one .bool,fun x _ _=>lk x.1⟩),(16,k16 cE),(15,k15 aV),(14,⟨[T32,T32],[],[],.one .bool,fun x _ _=>iT x.1 x.2.1⟩),(13,k13 bh),(10,k10 a7),(9,k9 aK),(12,k12 a8),(11,k11 aU)] [(134,bF)]) ao 4 3 f3 c3 x F y:=fun x F y=>by kernel_rfl
def Ah (_:Lp) (_:Jn) (x0:Int):Option Int :=
 some (if IntKind.wrap .i64 (0 - x0)>x0 then IntKind.wrap .i64 (0 - x0) else x0)
def lK (x0:Int):Option Int:=Ah lpK jnK x0
abbrev S1:=(Int)->Option (Int)
def uF (lp:Lp) (_:Jn) (lK:S1) (x0:(List Int)×List ((List Int)×Int×Int)):Option (List Int) :=
 lp (Int×Int×PUnit) (List Int) (fun (again:Int×Int×PUnit->Option (List Int)) (x:Int×Int×PUnit)=>bif decide (x.2.1<(↑x0.1.length:Int)) then bif inB x.2.1 x0.1.length then aa (lK (x0.1.getD x.2.1.toNat 0)) fun (t:Int)=>again (IntKind.wrap .i64 (x.1+t),IntKind.wrap IntKind.i64 (x.2.1+1),PUnit.unit) else none else lp (List Int×Int×PUnit) (List Int) (fun (again:List Int×Int×PUnit->Option (List Int)) (x:List Int×Int × PUnit) =>
 let v7:Bool:=inB x.2.1 x0.2.length;
 let v8:List Int×Int×Int:=x0.2.getD x.2.1.toNat ([],0,0);bif decide (x.2.1<(↑x0.2.length:Int)) then bif v7 then aa (lK v8.2.2) fun (t:Int)=>lp (Int×Int×PUnit) (List Int) (fun (again_1:Int×Int×PUnit->Option (List Int)) (x_1:Int×Int×PUnit)=>bif decide (x_1.2.1 < (↑x0.1.length:Int)) then bif v7 then bif inB x_1.2.1 v8.1.length then aa (lK (v8.1.getD x_1.2.1.toNat 0)) fun (t:Int) => again_1 (IntKind.wrap .i64 (x_1.1+t),IntKind.wrap .i64 (x_1.2.1+1),PUnit.unit) else none else none else bif dR (List.length x.1+1) (8 : Nat) then again (x.1++[x_1.1],IntKind.wrap .i64 (x.2.1+1),PUnit.unit) else none) (IntKind.wrap .i64 (1+t),0,PUnit.unit) else none else some x.1) ([x.1],0,PUnit.unit)) (1,0,PUnit.unit)
def gM (x0:(List Int)×List ((List Int)×Int×Int)):Option (List Int):=uF lpK jnK lK x0
abbrev Si:=((List Int)×List ((List Int)×Int×Int))->Option (List Int)
def uN (lp:Lp) (_:Jn) (x0:List Int) (x1:Int):Option (Int×Bool×Unit) :=
 lp (Int×Int×PUnit) (Int×Bool×PUnit) (fun (again:Int×Int×PUnit->Option (Int×Bool×PUnit)) (x:Int×Int×PUnit) =>
 let v6:Bool:=inB x.2.1 x0.length;bif decide (x.2.1<(↑x0.length:Int)) then bif v6 then bif nzB x.1 then bif decide (x0.getD x.2.1.toNat (0 : Int)>IntKind.wrap .i64 (Int.tdiv x1 x.1)) then some (0,false,PUnit.unit) else bif v6 then again (IntKind.wrap .i64 (x.1*x0.getD x.2.1.toNat 0),IntKind.wrap .i64 (x.2.1+1),PUnit.unit) else none else none else none else some (x.1,true,PUnit.unit)) (1,0,PUnit.unit)
def gL (x0:List Int) (x1:Int):Option (Int×Bool×Unit):=uN lpK jnK x0 x1
abbrev Qs:=(List Int)->(Int)->Option (Int×Bool×Unit)
def Am (lp:Lp) (_:Jn) (gM:Si) (gL:Qs) (x0:(List Int)×List ((List Int)×Int×Int)):Option Bool :=
 aa (gM x0) fun (t:List Int)=>aa (gL t 17592186044416) fun (t_1:Int×Bool×PUnit) =>
 let v5:Bool:=!t_1.2.1;
 let v6:Int:=IntKind.wrap .i64 (Int.tdiv 144115188075855872 t_1.1);
 let v7:Bool:=v5||t_1.2.1;lp (Int×Int×PUnit) Bool (fun (again:Int×Int×PUnit->Option Bool) (x:Int×Int×PUnit)=>bif decide (x.2.1<(↑t.length:Int)) then bif inB x.2.1 t.length then again (if t.getD x.2.1.toNat 0>x.1 then t.getD x.2.1.toNat 0 else x.1,IntKind.wrap IntKind.i64 (x.2.1+1),PUnit.unit) else none else bif v7&&(v5||nzB t_1.1) then bif v7&&v7 then bif v7 then some (bif t_1.2.1 then decide (x.1<=v6) else false) else none else none else none) (0,0,PUnit.unit)
def jZ (x0:(List Int)×List ((List Int)×Int×Int)):Option Bool:=Am lpK jnK gM gL x0
abbrev t63:=((List Int)×List ((List Int)×Int×Int))->Option (Bool)
def zT (_:Lp) (_:Jn) (aV:t15) (cE:t16) (jZ:t63) (x0:(List (ByteArray×Int))×List (ByteArray×(List (ByteArray×Int×Int×Int))×Bool)):Option Bool :=
 aa (cE x0) fun (t:List Int)=>aa (aV x0 t) fun (t:List Int×List (List Int×Int×Int))=>aa (jZ t) fun (t:Bool)=>some t
def jO (x0:(List (ByteArray×Int))×List (ByteArray×(List (ByteArray×Int×Int×Int))×Bool)):Option Bool:=zT lpK jnK aV cE jZ x0
abbrev t23:=((List (ByteArray×Int))×List (ByteArray×(List (ByteArray×Int×Int×Int))×Bool))->Option (Bool)
def zZ (_:Lp) (_:Jn) (x0:(List (ByteArray×Int))×List (ByteArray×(List (ByteArray×Int×Int×Int))×Bool)) (x1:Int) (x2:Int):Option (List Int) :=
 bif decide (0<=(↑x0.2.length:Int))&&dR (Int.toNat (↑x0.2.length:Int)) 8 then bif inB x1 (Int.toNat (↑x0.2.length:Int)) then bif Nat.ble (Nat.succ x1.toNat) (Int.toNat (↑x0.2.length:Int)) then some (List.set (List.replicate (Int.toNat (↑x0.2.length:Int)) 0) x1.toNat x2) else none else none else none
def gA (x0:(List (ByteArray×Int))×List (ByteArray×(List (ByteArray×Int×Int×Int))×Bool)) (x1:Int) (x2:Int):Option (List Int):=zZ lpK jnK x0 x1 x2
abbrev t64:=((List (ByteArray×Int))×List (ByteArray×(List (ByteArray×Int×Int×Int))×Bool))->(Int)->(Int)->Option (List Int)
def uO (_:Lp) (_:Jn) (aV:t15) (jZ:t63) (gA:t64) (x0:(List (ByteArray×Int))×List (ByteArray×(List (ByteArray×Int×Int×Int))×Bool)):Option Bool :=
 aa (gA x0 0 1) fun (t:List Int)=>aa (aV x0 t) fun (t:List Int×List (List Int×Int×Int))=>aa (jZ t) fun (t:Bool)=>some t
def gK (x0:(List (ByteArray×Int))×List (ByteArray×(List (ByteArray×Int×Int×Int))×Bool)):Option Bool:=uO lpK jnK aV jZ gA x0
abbrev t24:=((List (ByteArray×Int))×List (ByteArray×(List (ByteArray×Int×Int×Int))×Bool))->Option (Bool)
def xo (_:Lp) (_:Jn) (gM:Si) (gL:Qs) (x0:(List Int)×List ((List Int)×Int×Int)):Option Bool :=
 aa (gM x0) fun (t:List Int)=>aa (gL t 536870912) fun (t:Int×Bool×PUnit)=>some t.2.1
def o7 (x0:(List Int)×List ((List Int)×Int×Int)):Option Bool:=xo lpK jnK gM gL x0
abbrev t65:=((List Int)×List ((List Int)×Int×Int))->Option (Bool)
def xe (_:Lp) (_:Jn) (aV:t15) (cE:t16) (o7:t65) (x0:(List (ByteArray×Int))×List (ByteArray×(List (ByteArray×Int×Int×Int))×Bool)):Option Bool :=
 aa (cE x0) fun (t:List Int)=>aa (aV x0 t) fun (t:List Int×List (List Int×Int×Int))=>aa (o7 t) fun (t:Bool)=>some t
def jf (x0:(List (ByteArray×Int))×List (ByteArray×(List (ByteArray×Int×Int×Int))×Bool)):Option Bool:=xe lpK jnK aV cE o7 x0
abbrev t25:=((List (ByteArray×Int))×List (ByteArray×(List (ByteArray×Int×Int×Int))×Bool))->Option (Bool)
def xm (lp:Lp) (_:Jn) (x0:List Nat×List (Option (List Int))) (x1:List Int) (x2:Int) (x3:Int) (x4:Int) (x5:Int):Option ((List Nat×List (Option (List Int)))×(List Int)×Int×Int×Unit) :=
 bif inB x4 x0.1.length then bif Nat.ble (Nat.succ x4.toNat) x0.1.length then bif inB x5 (List.length (ah x0.2 (x0.1.getD x4.toNat 0))) then bif Nat.ble (Nat.succ x5.toNat) (List.length (ah x0.2 (x0.1.getD x4.toNat 0))) then lp (Int×(List Nat×List (Option (List Int)))×PUnit) ((List Nat × List (Option (List Int)))×List Int×Int×Int×PUnit) (fun (again:Int×(List Nat×List (Option (List Int)))×PUnit->Option ((List Nat×List (Option (List Int)))×List Int × Int×Int×PUnit)) (x:Int×(List Nat×List (Option (List Int)))×PUnit) =>
 let v10:Int:=IntKind.wrap .i64 (x.1+1);
 let v11:(List Nat×List (Option (List Int)))×PUnit:=(x.2.1,PUnit.unit);bif decide (x.1<(↑x.2.1.1.length:Int)) then bif inB x.1 x.2.1.1.length then bif Nat.ble (Nat.succ x.1.toNat) x.2.1.1.length then bif inB x5 (List.length (ah x.2.1.2 (x.2.1.1.getD x.1.toNat (0 : Nat)))) then bif Nat.ble (Nat.succ x5.toNat) (List.length (ah x.2.1.2 (x.2.1.1.getD x.1.toNat 0))) then bif decide (x.1=x4) then again (v10, v11) else lp (Int×(List Nat×List (Option (List Int)))×PUnit) ((List Nat×List (Option (List Int)))×List Int×Int×Int×PUnit) (fun (again_1:Int×(List Nat×List (Option (List Int)))×PUnit->Option ((List Nat×List (Option (List Int)))×List Int×Int×Int×PUnit)) (x_1:Int×(List Nat×List (Option (List Int)))×PUnit) =>
 let v14:Bool:=inB x.1 x_1.2.1.1.length;
 let v15:Bool:=Nat.ble (Nat.succ x.1.toNat) x_1.2.1.1.length;bif v14 then bif v15 then bif eD x_1.2.1.2 (x_1.2.1.1.getD x.1.toNat (0 : Nat)) then bif decide (x_1.1<(↑(List.length (ah x_1.2.1.2 (x_1.2.1.1.getD x.1.toNat 0))):Int)) then bif v14 then bif v15 then bif v14 then bif v15 then bif inB x_1.1 (List.length (ah x_1.2.1.2 (x_1.2.1.1.getD x.1.toNat 0))) then bif Nat.ble (Nat.succ x_1.1.toNat) (List.length (ah x_1.2.1.2 (x_1.2.1.1.getD x.1.toNat 0))) then bif inB x4 x_1.2.1.1.length then bif Nat.ble (Nat.succ x4.toNat) x_1.2.1.1.length then bif inB x_1.1 (List.length (ah x_1.2.1.2 (x_1.2.1.1.getD x4.toNat 0))) then bif Nat.ble (Nat.succ x_1.1.toNat) (List.length (ah x_1.2.1.2 (x_1.2.1.1.getD x4.toNat 0))) then bif nzB x2 then bif inB x_1.1 (List.length (ah x_1.2.1.2 (x_1.2.1.1.getD x.1.toNat 0))) then bif Nat.ble (Nat.succ x_1.1.toNat) (List.length (ah x_1.2.1.2 (x_1.2.1.1.getD x.1.toNat (0 : Nat)))) then again_1 (IntKind.wrap .i64 (x_1.1+1),(x_1.2.1.1,x_1.2.1.2.set (x_1.2.1.1.getD x.1.toNat 0) (some (List.set (ah x_1.2.1.2 (x_1.2.1.1.getD x.1.toNat 0)) x_1.1.toNat (IntKind.wrap .i64 (Int.tdiv (IntKind.wrap .i64 (IntKind.wrap IntKind.i64 (List.getD (ah x_1.2.1.2 (x_1.2.1.1.getD x.1.toNat 0)) x_1.1.toNat 0*List.getD (ah x0.2 (x0.1.getD x4.toNat 0)) x5.toNat 0) - IntKind.wrap .i64 (List.getD (ah x.2.1.2 (x.2.1.1.getD x.1.toNat 0)) x5.toNat 0 * List.getD (ah x_1.2.1.2 (x_1.2.1.1.getD x4.toNat 0)) x_1.1.toNat 0))) x2))))),PUnit.unit) else none else none else none else none else none else none else none else none else none else none else none else none else none else again (v10,x_1.2.1,PUnit.unit) else none else none else none) (0,v11) else none else none else none else none else bif inB x4 x1.length then bif Nat.ble (Nat.succ x4.toNat) x1.length then some (x.2.1,x1.set x4.toNat x5,List.getD (ah x0.2 (x0.1.getD x4.toNat 0)) x5.toNat 0,x3,PUnit.unit) else none else none) (0,x0,PUnit.unit) else none else none else none else none
def ij (x0:List Nat×List (Option (List Int))) (x1:List Int) (x2:Int) (x3:Int) (x4:Int) (x5:Int):Option ((List Nat×List (Option (List Int)))×(List Int)×Int×Int×Unit):=xm lpK jnK x0 x1 x2 x3 x4 x5
abbrev Rx:=(List Nat×List (Option (List Int)))->(List Int)->(Int)->(Int)->(Int)->(Int)->Option ((List Nat×List (Option (List Int)))×(List Int)×Int×Int×Unit)
def BZ (lp:Lp) (_:Jn) (ij:Rx) (x0:List Nat×List (Option (List Int))) (x1:List Int) (x2:Int) (x3:Int):Option ((List Nat×List (Option (List Int)))×(List Int)×Int×Int×Bool×Unit) :=
 
 let v6:Int:=IntKind.wrap .i64 ((↑x0.1.length:Int) - 1);lp ((List Nat×List (Option (List Int)))×List Int×Int×Int×(List Nat×List (Option (List Int)))×List Int×Int×Int×PUnit) ((List Nat×List (Option (List Int)))×List Int×Int×Int×Bool×PUnit) (fun (again:(List Nat×List (Option (List Int)))×List Int×Int × Int×(List Nat×List (Option (List Int)))×List Int×Int×Int×PUnit->Option ((List Nat×List (Option (List Int)))×List Int×Int×Int×Bool×PUnit)) (x:(List Nat × List (Option (List Int)))×List Int×Int×Int×(List Nat×List (Option (List Int)))×List Int×Int×Int×PUnit)=>lp (Int×PUnit) ((List Nat×List (Option (List Int))) × List Int×Int×Int×Bool×PUnit) (fun (again_1:Int×PUnit->Option ((List Nat×List (Option (List Int)))×List Int×Int×Int×Bool×PUnit)) (x_1:Int×PUnit) =>
 let v11:Bool:=decide (x_1.1<x.2.2.2.1);
 let v12:Bool:=!v11;
 let v13:Bool:=v12||v11;bif v13 then bif v13&&(v13&&(v12||inB v6 x.1.1.length)) then bif v13&&(v12||Nat.ble (Nat.succ v6.toNat) x.1.1.length) then bif v13&&(v13&&(v12||inB x_1.1 (List.length (ah x.1.2 (x.1.1.getD v6.toNat 0))))) then bif v13&&(v12||Nat.ble (Nat.succ x_1.1.toNat) (List.length (ah x.1.2 (x.1.1.getD v6.toNat 0)))) then bif v13 then bif v13 then bif bif v11 then decide (List.getD (ah x.1.2 (x.1.1.getD v6.toNat 0)) x_1.1.toNat 0>=0) else false then again_1 (IntKind.wrap .i64 (x_1.1+1),PUnit.unit) else bif decide (x_1.1=x.2.2.2.1) then some (x.1,x.2.1,x.2.2.1,x.2.2.2.1,true,PUnit.unit) else bif inB 0 x.1.1.length then bif Nat.ble 1 x.1.1.length then bif eD x.1.2 (x.1.1.getD 0 0) then lp (Int×Int×PUnit) ((List Nat×List (Option (List Int)))×List Int×Int×Int × Bool×PUnit) (fun (again_2:Int×Int×PUnit->Option ((List Nat×List (Option (List Int)))×List Int×Int×Int×Bool×PUnit)) (x_2:Int×Int×PUnit) =>
 let v16:Int×PUnit:=(IntKind.wrap .i64 (x_2.2.1+1),PUnit.unit);
 let v17:Bool:=decide (x_2.1<0);
 let v18:Bool:=inB x_2.1 x.1.1.length;
 let v19:Bool:=Nat.ble (Nat.succ x_2.1.toNat) x.1.1.length;
 let v20:Bool:=inB x_2.2.1 x.1.1.length;
 let v21:Bool:=Nat.ble (Nat.succ x_2.2.1.toNat) x.1.1.length;bif decide (x_2.2.1<v6) then bif v20 then bif v21 then bif inB x_1.1 (List.length (ah x.1.2 (x.1.1.getD x_2.2.1.toNat 0))) then bif Nat.ble (Nat.succ x_1.1.toNat) (List.length (ah x.1.2 (x.1.1.getD x_2.2.1.toNat 0))) then bif decide (List.getD (ah x.1.2 (x.1.1.getD x_2.2.1.toNat 0)) x_1.1.toNat 0<=0) then again_2 (x_2.1,v16) else bif v17 then again_2 (x_2.2.1,v16) else bif v20 then bif v21 then bif inB (IntKind.wrap .i64 ((↑(List.length (ah x.1.2 (x.1.1.getD (0 : Nat) 0))):Int) - 1)) (List.length (ah x.1.2 (x.1.1.getD x_2.2.1.toNat 0))) then bif Nat.ble (Nat.succ (Int.toNat (IntKind.wrap IntKind.i64 ((↑(List.length (ah x.1.2 (x.1.1.getD 0 0))):Int) - 1)))) (List.length (ah x.1.2 (x.1.1.getD x_2.2.1.toNat 0))) then bif v18 then bif v19 then bif inB x_1.1 (List.length (ah x.1.2 (x.1.1.getD x_2.1.toNat 0))) then bif Nat.ble (Nat.succ x_1.1.toNat) (List.length (ah x.1.2 (x.1.1.getD x_2.1.toNat 0))) then bif v18 then bif v19 then bif inB (IntKind.wrap .i64 ((↑(List.length (ah x.1.2 (x.1.1.getD 0 0))):Int) - 1)) (List.length (ah x.1.2 (x.1.1.getD x_2.1.toNat 0))) then bif Nat.ble (Nat.succ (Int.toNat (IntKind.wrap .i64 ((↑(List.length (ah x.1.2 (x.1.1.getD 0 0))):Int) - 1)))) (List.length (ah x.1.2 (x.1.1.getD x_2.1.toNat 0))) then bif v20 then bif v21 then bif inB x_1.1 (List.length (ah x.1.2 (x.1.1.getD x_2.2.1.toNat 0))) then bif Nat.ble (Nat.succ x_1.1.toNat) (List.length (ah x.1.2 (x.1.1.getD x_2.2.1.toNat 0))) then bif (!!decide (IntKind.wrap .i64 (List.getD (ah x.1.2 (x.1.1.getD x_2.2.1.toNat 0)) (Int.toNat (IntKind.wrap .i64 ((↑(List.length (ah x.1.2 (x.1.1.getD 0 0))) : Int) - 1))) 0*List.getD (ah x.1.2 (x.1.1.getD x_2.1.toNat 0)) x_1.1.toNat 0)<IntKind.wrap .i64 (List.getD (ah x.1.2 (x.1.1.getD x_2.1.toNat 0)) (Int.toNat (IntKind.wrap .i64 ((↑(List.length (ah x.1.2 (x.1.1.getD 0 0))):Int) - 1))) 0*List.getD (ah x.1.2 (x.1.1.getD x_2.2.1.toNat 0)) x_1.1.toNat 0))||!decide (IntKind.wrap .i64 (List.getD (ah x.1.2 (x.1.1.getD x_2.2.1.toNat 0)) (Int.toNat (IntKind.wrap .i64 ((↑(List.length (ah x.1.2 (x.1.1.getD 0 0))):Int) - 1))) 0*List.getD (ah x.1.2 (x.1.1.getD x_2.1.toNat 0)) x_1.1.toNat 0)<IntKind.wrap .i64 (List.getD (ah x.1.2 (x.1.1.getD x_2.1.toNat 0)) (Int.toNat (IntKind.wrap .i64 ((↑(List.length (ah x.1.2 (x.1.1.getD 0 (0 : Nat)))):Int) - 1))) 0*List.getD (ah x.1.2 (x.1.1.getD x_2.2.1.toNat 0)) x_1.1.toNat 0)))&&(!!decide (IntKind.wrap IntKind.i64 (List.getD (ah x.1.2 (x.1.1.getD x_2.2.1.toNat 0)) (Int.toNat (IntKind.wrap .i64 ((↑(List.length (ah x.1.2 (x.1.1.getD 0 0))):Int) - 1))) 0*List.getD (ah x.1.2 (x.1.1.getD x_2.1.toNat 0)) x_1.1.toNat 0)<IntKind.wrap IntKind.i64 (List.getD (ah x.1.2 (x.1.1.getD x_2.1.toNat 0)) (Int.toNat (IntKind.wrap .i64 ((↑(List.length (ah x.1.2 (x.1.1.getD (0 : Nat) 0))):Int) - 1))) 0*List.getD (ah x.1.2 (x.1.1.getD x_2.2.1.toNat 0)) x_1.1.toNat 0))||!decide (IntKind.wrap .i64 (List.getD (ah x.1.2 (x.1.1.getD x_2.2.1.toNat 0)) (Int.toNat (IntKind.wrap .i64 ((↑(List.length (ah x.1.2 (x.1.1.getD 0 0))):Int) - 1))) 0*List.getD (ah x.1.2 (x.1.1.getD x_2.1.toNat 0)) x_1.1.toNat (0 : Int))<IntKind.wrap .i64 (List.getD (ah x.1.2 (x.1.1.getD x_2.1.toNat 0)) (Int.toNat (IntKind.wrap .i64 ((↑(List.length (ah x.1.2 (x.1.1.getD 0 0))):Int) - 1))) 0*List.getD (ah x.1.2 (x.1.1.getD x_2.2.1.toNat 0)) x_1.1.toNat (0 : Int)))) then bif !!decide (IntKind.wrap .i64 (List.getD (ah x.1.2 (x.1.1.getD x_2.2.1.toNat 0)) (Int.toNat (IntKind.wrap .i64 ((↑(List.length (ah x.1.2 (x.1.1.getD 0 0))):Int) - 1))) 0*List.getD (ah x.1.2 (x.1.1.getD x_2.1.toNat (0 : Nat))) x_1.1.toNat 0)<IntKind.wrap .i64 (List.getD (ah x.1.2 (x.1.1.getD x_2.1.toNat 0)) (Int.toNat (IntKind.wrap .i64 ((↑(List.length (ah x.1.2 (x.1.1.getD 0 0))):Int) - 1))) 0*List.getD (ah x.1.2 (x.1.1.getD x_2.2.1.toNat (0 : Nat))) x_1.1.toNat 0))||!decide (IntKind.wrap .i64 (List.getD (ah x.1.2 (x.1.1.getD x_2.2.1.toNat 0)) (Int.toNat (IntKind.wrap IntKind.i64 ((↑(List.length (ah x.1.2 (x.1.1.getD 0 0))):Int) - 1))) 0*List.getD (ah x.1.2 (x.1.1.getD x_2.1.toNat 0)) x_1.1.toNat 0)<IntKind.wrap .i64 (List.getD (ah x.1.2 (x.1.1.getD x_2.1.toNat 0)) (Int.toNat (IntKind.wrap IntKind.i64 ((↑(List.length (ah x.1.2 (x.1.1.getD 0 0))):Int) - 1))) 0*List.getD (ah x.1.2 (x.1.1.getD x_2.2.1.toNat 0)) x_1.1.toNat 0)) then bif !(!decide (IntKind.wrap .i64 (List.getD (ah x.1.2 (x.1.1.getD x_2.2.1.toNat 0)) (Int.toNat (IntKind.wrap .i64 ((↑(List.length (ah x.1.2 (x.1.1.getD 0 0))):Int) - 1))) 0*List.getD (ah x.1.2 (x.1.1.getD x_2.1.toNat 0)) x_1.1.toNat 0)<IntKind.wrap .i64 (List.getD (ah x.1.2 (x.1.1.getD x_2.1.toNat 0)) (Int.toNat (IntKind.wrap .i64 ((↑(List.length (ah x.1.2 (x.1.1.getD 0 0))):Int) - 1))) 0*List.getD (ah x.1.2 (x.1.1.getD x_2.2.1.toNat 0)) x_1.1.toNat 0))&&decide (IntKind.wrap .i64 (List.getD (ah x.1.2 (x.1.1.getD x_2.2.1.toNat 0)) (Int.toNat (IntKind.wrap .i64 ((↑(List.length (ah x.1.2 (x.1.1.getD 0 0))):Int) - 1))) 0*List.getD (ah x.1.2 (x.1.1.getD x_2.1.toNat 0)) x_1.1.toNat 0)=IntKind.wrap .i64 (List.getD (ah x.1.2 (x.1.1.getD x_2.1.toNat (0 : Nat))) (Int.toNat (IntKind.wrap .i64 ((↑(List.length (ah x.1.2 (x.1.1.getD 0 0))):Int) - 1))) 0*List.getD (ah x.1.2 (x.1.1.getD x_2.2.1.toNat 0)) x_1.1.toNat 0)))||!decide (IntKind.wrap .i64 (List.getD (ah x.1.2 (x.1.1.getD x_2.2.1.toNat 0)) (Int.toNat (IntKind.wrap .i64 ((↑(List.length (ah x.1.2 (x.1.1.getD 0 0))):Int) - 1))) 0*List.getD (ah x.1.2 (x.1.1.getD x_2.1.toNat 0)) x_1.1.toNat 0)<IntKind.wrap .i64 (List.getD (ah x.1.2 (x.1.1.getD x_2.1.toNat 0)) (Int.toNat (IntKind.wrap .i64 ((↑(List.length (ah x.1.2 (x.1.1.getD 0 0))):Int) - 1))) 0*List.getD (ah x.1.2 (x.1.1.getD x_2.2.1.toNat 0)) x_1.1.toNat 0))&&decide (IntKind.wrap .i64 (List.getD (ah x.1.2 (x.1.1.getD x_2.2.1.toNat 0)) (Int.toNat (IntKind.wrap .i64 ((↑(List.length (ah x.1.2 (x.1.1.getD 0 0))):Int) - 1))) 0 * List.getD (ah x.1.2 (x.1.1.getD x_2.1.toNat 0)) x_1.1.toNat 0)=IntKind.wrap .i64 (List.getD (ah x.1.2 (x.1.1.getD x_2.1.toNat 0)) (Int.toNat (IntKind.wrap .i64 ((↑(List.length (ah x.1.2 (x.1.1.getD 0 0))):Int) - 1))) 0 * List.getD (ah x.1.2 (x.1.1.getD x_2.2.1.toNat 0)) x_1.1.toNat 0)) then bif (!(!decide (IntKind.wrap .i64 (List.getD (ah x.1.2 (x.1.1.getD x_2.2.1.toNat 0)) (Int.toNat (IntKind.wrap .i64 ((↑(List.length (ah x.1.2 (x.1.1.getD 0 0))) : Int) - 1))) 0*List.getD (ah x.1.2 (x.1.1.getD x_2.1.toNat 0)) x_1.1.toNat 0)<IntKind.wrap .i64 (List.getD (ah x.1.2 (x.1.1.getD x_2.1.toNat 0)) (Int.toNat (IntKind.wrap .i64 ((↑(List.length (ah x.1.2 (x.1.1.getD 0 0))):Int) - 1))) 0*List.getD (ah x.1.2 (x.1.1.getD x_2.2.1.toNat 0)) x_1.1.toNat 0))&&decide (IntKind.wrap .i64 (List.getD (ah x.1.2 (x.1.1.getD x_2.2.1.toNat 0)) (Int.toNat (IntKind.wrap .i64 ((↑(List.length (ah x.1.2 (x.1.1.getD 0 0))):Int) - 1))) 0*List.getD (ah x.1.2 (x.1.1.getD x_2.1.toNat 0)) x_1.1.toNat 0)=IntKind.wrap .i64 (List.getD (ah x.1.2 (x.1.1.getD x_2.1.toNat 0)) (Int.toNat (IntKind.wrap .i64 ((↑(List.length (ah x.1.2 (x.1.1.getD 0 (0 : Nat)))):Int) - 1))) 0*List.getD (ah x.1.2 (x.1.1.getD x_2.2.1.toNat 0)) x_1.1.toNat 0)))||!decide (IntKind.wrap IntKind.i64 (List.getD (ah x.1.2 (x.1.1.getD x_2.2.1.toNat 0)) (Int.toNat (IntKind.wrap .i64 ((↑(List.length (ah x.1.2 (x.1.1.getD 0 0))):Int) - 1))) 0*List.getD (ah x.1.2 (x.1.1.getD x_2.1.toNat 0)) x_1.1.toNat 0)<IntKind.wrap IntKind.i64 (List.getD (ah x.1.2 (x.1.1.getD x_2.1.toNat 0)) (Int.toNat (IntKind.wrap .i64 ((↑(List.length (ah x.1.2 (x.1.1.getD (0 : Nat) 0))):Int) - 1))) 0*List.getD (ah x.1.2 (x.1.1.getD x_2.2.1.toNat 0)) x_1.1.toNat 0))&&decide (IntKind.wrap .i64 (List.getD (ah x.1.2 (x.1.1.getD x_2.2.1.toNat 0)) (Int.toNat (IntKind.wrap .i64 ((↑(List.length (ah x.1.2 (x.1.1.getD 0 0))):Int) - 1))) 0*List.getD (ah x.1.2 (x.1.1.getD x_2.1.toNat 0)) x_1.1.toNat (0 : Int))=IntKind.wrap .i64 (List.getD (ah x.1.2 (x.1.1.getD x_2.1.toNat 0)) (Int.toNat (IntKind.wrap .i64 ((↑(List.length (ah x.1.2 (x.1.1.getD 0 0))):Int) - 1))) 0*List.getD (ah x.1.2 (x.1.1.getD x_2.2.1.toNat 0)) x_1.1.toNat (0 : Int))))&&((!(!decide (IntKind.wrap .i64 (List.getD (ah x.1.2 (x.1.1.getD x_2.2.1.toNat 0)) (Int.toNat (IntKind.wrap .i64 ((↑(List.length (ah x.1.2 (x.1.1.getD 0 0))):Int) - 1))) 0*List.getD (ah x.1.2 (x.1.1.getD x_2.1.toNat 0)) x_1.1.toNat 0)<IntKind.wrap .i64 (List.getD (ah x.1.2 (x.1.1.getD x_2.1.toNat 0)) (Int.toNat (IntKind.wrap .i64 ((↑(List.length (ah x.1.2 (x.1.1.getD 0 0))):Int) - 1))) 0*List.getD (ah x.1.2 (x.1.1.getD x_2.2.1.toNat 0)) x_1.1.toNat 0))&&decide (IntKind.wrap .i64 (List.getD (ah x.1.2 (x.1.1.getD x_2.2.1.toNat 0)) (Int.toNat (IntKind.wrap .i64 ((↑(List.length (ah x.1.2 (x.1.1.getD 0 0))):Int) - 1))) 0*List.getD (ah x.1.2 (x.1.1.getD x_2.1.toNat (0 : Nat))) x_1.1.toNat 0)=IntKind.wrap .i64 (List.getD (ah x.1.2 (x.1.1.getD x_2.1.toNat 0)) (Int.toNat (IntKind.wrap .i64 ((↑(List.length (ah x.1.2 (x.1.1.getD 0 0))):Int) - 1))) 0*List.getD (ah x.1.2 (x.1.1.getD x_2.2.1.toNat (0 : Nat))) x_1.1.toNat 0)))||!decide (IntKind.wrap .i64 (List.getD (ah x.1.2 (x.1.1.getD x_2.2.1.toNat 0)) (Int.toNat (IntKind.wrap IntKind.i64 ((↑(List.length (ah x.1.2 (x.1.1.getD 0 0))):Int) - 1))) 0*List.getD (ah x.1.2 (x.1.1.getD x_2.1.toNat 0)) x_1.1.toNat 0)<IntKind.wrap .i64 (List.getD (ah x.1.2 (x.1.1.getD x_2.1.toNat 0)) (Int.toNat (IntKind.wrap IntKind.i64 ((↑(List.length (ah x.1.2 (x.1.1.getD 0 0))):Int) - 1))) 0*List.getD (ah x.1.2 (x.1.1.getD x_2.2.1.toNat 0)) x_1.1.toNat 0))&&decide (IntKind.wrap .i64 (List.getD (ah x.1.2 (x.1.1.getD x_2.2.1.toNat 0)) (Int.toNat (IntKind.wrap .i64 ((↑(List.length (ah x.1.2 (x.1.1.getD 0 0))):Int) - 1))) 0*List.getD (ah x.1.2 (x.1.1.getD x_2.1.toNat 0)) x_1.1.toNat 0)=IntKind.wrap .i64 (List.getD (ah x.1.2 (x.1.1.getD x_2.1.toNat 0)) (Int.toNat (IntKind.wrap .i64 ((↑(List.length (ah x.1.2 (x.1.1.getD 0 0))):Int) - 1))) 0*List.getD (ah x.1.2 (x.1.1.getD x_2.2.1.toNat 0)) x_1.1.toNat 0)))&&(!(!decide (IntKind.wrap .i64 (List.getD (ah x.1.2 (x.1.1.getD x_2.2.1.toNat 0)) (Int.toNat (IntKind.wrap .i64 ((↑(List.length (ah x.1.2 (x.1.1.getD 0 0))):Int) - 1))) 0*List.getD (ah x.1.2 (x.1.1.getD x_2.1.toNat 0)) x_1.1.toNat 0)<IntKind.wrap .i64 (List.getD (ah x.1.2 (x.1.1.getD x_2.1.toNat 0)) (Int.toNat (IntKind.wrap .i64 ((↑(List.length (ah x.1.2 (x.1.1.getD 0 0))):Int) - 1))) 0*List.getD (ah x.1.2 (x.1.1.getD x_2.2.1.toNat 0)) x_1.1.toNat 0))&&decide (IntKind.wrap .i64 (List.getD (ah x.1.2 (x.1.1.getD x_2.2.1.toNat 0)) (Int.toNat (IntKind.wrap .i64 ((↑(List.length (ah x.1.2 (x.1.1.getD 0 0))):Int) - 1))) 0 * List.getD (ah x.1.2 (x.1.1.getD x_2.1.toNat 0)) x_1.1.toNat 0)=IntKind.wrap .i64 (List.getD (ah x.1.2 (x.1.1.getD x_2.1.toNat 0)) (Int.toNat (IntKind.wrap .i64 ((↑(List.length (ah x.1.2 (x.1.1.getD 0 0))):Int) - 1))) 0 * List.getD (ah x.1.2 (x.1.1.getD x_2.2.1.toNat 0)) x_1.1.toNat 0)))||inB x_2.2.1 x.2.1.length)) then bif (!(!decide (IntKind.wrap .i64 (List.getD (ah x.1.2 (x.1.1.getD x_2.2.1.toNat 0)) (Int.toNat (IntKind.wrap .i64 ((↑(List.length (ah x.1.2 (x.1.1.getD 0 0))):Int) - 1))) 0*List.getD (ah x.1.2 (x.1.1.getD x_2.1.toNat 0)) x_1.1.toNat (0 : Int))<IntKind.wrap .i64 (List.getD (ah x.1.2 (x.1.1.getD x_2.1.toNat 0)) (Int.toNat (IntKind.wrap .i64 ((↑(List.length (ah x.1.2 (x.1.1.getD 0 0))):Int) - 1))) 0*List.getD (ah x.1.2 (x.1.1.getD x_2.2.1.toNat 0)) x_1.1.toNat (0 : Int)))&&decide (IntKind.wrap .i64 (List.getD (ah x.1.2 (x.1.1.getD x_2.2.1.toNat 0)) (Int.toNat (IntKind.wrap .i64 ((↑(List.length (ah x.1.2 (x.1.1.getD 0 0))):Int) - 1))) 0*List.getD (ah x.1.2 (x.1.1.getD x_2.1.toNat 0)) x_1.1.toNat 0)=IntKind.wrap .i64 (List.getD (ah x.1.2 (x.1.1.getD x_2.1.toNat 0)) (Int.toNat (IntKind.wrap .i64 ((↑(List.length (ah x.1.2 (x.1.1.getD 0 0))):Int) - 1))) 0*List.getD (ah x.1.2 (x.1.1.getD x_2.2.1.toNat 0)) x_1.1.toNat 0)))||!decide (IntKind.wrap .i64 (List.getD (ah x.1.2 (x.1.1.getD x_2.2.1.toNat 0)) (Int.toNat (IntKind.wrap .i64 ((↑(List.length (ah x.1.2 (x.1.1.getD 0 0))):Int) - 1))) 0*List.getD (ah x.1.2 (x.1.1.getD x_2.1.toNat (0 : Nat))) x_1.1.toNat 0)<IntKind.wrap .i64 (List.getD (ah x.1.2 (x.1.1.getD x_2.1.toNat 0)) (Int.toNat (IntKind.wrap .i64 ((↑(List.length (ah x.1.2 (x.1.1.getD 0 0))):Int) - 1))) 0*List.getD (ah x.1.2 (x.1.1.getD x_2.2.1.toNat (0 : Nat))) x_1.1.toNat 0))&&decide (IntKind.wrap .i64 (List.getD (ah x.1.2 (x.1.1.getD x_2.2.1.toNat 0)) (Int.toNat (IntKind.wrap IntKind.i64 ((↑(List.length (ah x.1.2 (x.1.1.getD 0 0))):Int) - 1))) 0*List.getD (ah x.1.2 (x.1.1.getD x_2.1.toNat 0)) x_1.1.toNat 0)=IntKind.wrap .i64 (List.getD (ah x.1.2 (x.1.1.getD x_2.1.toNat 0)) (Int.toNat (IntKind.wrap IntKind.i64 ((↑(List.length (ah x.1.2 (x.1.1.getD 0 0))):Int) - 1))) 0*List.getD (ah x.1.2 (x.1.1.getD x_2.2.1.toNat 0)) x_1.1.toNat 0)))&&(!(!decide (IntKind.wrap .i64 (List.getD (ah x.1.2 (x.1.1.getD x_2.2.1.toNat 0)) (Int.toNat (IntKind.wrap .i64 ((↑(List.length (ah x.1.2 (x.1.1.getD 0 0))):Int) - 1))) 0*List.getD (ah x.1.2 (x.1.1.getD x_2.1.toNat 0)) x_1.1.toNat 0)<IntKind.wrap .i64 (List.getD (ah x.1.2 (x.1.1.getD x_2.1.toNat 0)) (Int.toNat (IntKind.wrap .i64 ((↑(List.length (ah x.1.2 (x.1.1.getD 0 0))):Int) - 1))) 0*List.getD (ah x.1.2 (x.1.1.getD x_2.2.1.toNat 0)) x_1.1.toNat 0))&&decide (IntKind.wrap .i64 (List.getD (ah x.1.2 (x.1.1.getD x_2.2.1.toNat 0)) (Int.toNat (IntKind.wrap .i64 ((↑(List.length (ah x.1.2 (x.1.1.getD 0 0))):Int) - 1))) 0*List.getD (ah x.1.2 (x.1.1.getD x_2.1.toNat 0)) x_1.1.toNat 0)=IntKind.wrap .i64 (List.getD (ah x.1.2 (x.1.1.getD x_2.1.toNat (0 : Nat))) (Int.toNat (IntKind.wrap .i64 ((↑(List.length (ah x.1.2 (x.1.1.getD 0 0))):Int) - 1))) 0*List.getD (ah x.1.2 (x.1.1.getD x_2.2.1.toNat 0)) x_1.1.toNat 0)))||Nat.ble (Nat.succ x_2.2.1.toNat) x.2.1.length) then bif !(!decide (IntKind.wrap .i64 (List.getD (ah x.1.2 (x.1.1.getD x_2.2.1.toNat 0)) (Int.toNat (IntKind.wrap .i64 ((↑(List.length (ah x.1.2 (x.1.1.getD 0 0))):Int) - 1))) 0*List.getD (ah x.1.2 (x.1.1.getD x_2.1.toNat 0)) x_1.1.toNat (0 : Int))<IntKind.wrap .i64 (List.getD (ah x.1.2 (x.1.1.getD x_2.1.toNat 0)) (Int.toNat (IntKind.wrap .i64 ((↑(List.length (ah x.1.2 (x.1.1.getD 0 0))):Int) - 1))) 0*List.getD (ah x.1.2 (x.1.1.getD x_2.2.1.toNat 0)) x_1.1.toNat (0 : Int)))&&decide (IntKind.wrap .i64 (List.getD (ah x.1.2 (x.1.1.getD x_2.2.1.toNat 0)) (Int.toNat (IntKind.wrap .i64 ((↑(List.length (ah x.1.2 (x.1.1.getD 0 0))):Int) - 1))) 0*List.getD (ah x.1.2 (x.1.1.getD x_2.1.toNat 0)) x_1.1.toNat 0)=IntKind.wrap .i64 (List.getD (ah x.1.2 (x.1.1.getD x_2.1.toNat 0)) (Int.toNat (IntKind.wrap .i64 ((↑(List.length (ah x.1.2 (x.1.1.getD 0 0))):Int) - 1))) 0*List.getD (ah x.1.2 (x.1.1.getD x_2.2.1.toNat 0)) x_1.1.toNat 0)))||!decide (IntKind.wrap .i64 (List.getD (ah x.1.2 (x.1.1.getD x_2.2.1.toNat 0)) (Int.toNat (IntKind.wrap .i64 ((↑(List.length (ah x.1.2 (x.1.1.getD 0 0))):Int) - 1))) 0*List.getD (ah x.1.2 (x.1.1.getD x_2.1.toNat (0 : Nat))) x_1.1.toNat 0)<IntKind.wrap .i64 (List.getD (ah x.1.2 (x.1.1.getD x_2.1.toNat 0)) (Int.toNat (IntKind.wrap .i64 ((↑(List.length (ah x.1.2 (x.1.1.getD 0 0))):Int) - 1))) 0*List.getD (ah x.1.2 (x.1.1.getD x_2.2.1.toNat (0 : Nat))) x_1.1.toNat 0))&&decide (IntKind.wrap .i64 (List.getD (ah x.1.2 (x.1.1.getD x_2.2.1.toNat 0)) (Int.toNat (IntKind.wrap IntKind.i64 ((↑(List.length (ah x.1.2 (x.1.1.getD 0 0))):Int) - 1))) 0*List.getD (ah x.1.2 (x.1.1.getD x_2.1.toNat 0)) x_1.1.toNat 0)=IntKind.wrap .i64 (List.getD (ah x.1.2 (x.1.1.getD x_2.1.toNat 0)) (Int.toNat (IntKind.wrap IntKind.i64 ((↑(List.length (ah x.1.2 (x.1.1.getD 0 0))):Int) - 1))) 0*List.getD (ah x.1.2 (x.1.1.getD x_2.2.1.toNat 0)) x_1.1.toNat 0)) then bif (!(!decide (IntKind.wrap .i64 (List.getD (ah x.1.2 (x.1.1.getD x_2.2.1.toNat (0 : Nat))) (Int.toNat (IntKind.wrap .i64 ((↑(List.length (ah x.1.2 (x.1.1.getD 0 0))):Int) - 1))) 0*List.getD (ah x.1.2 (x.1.1.getD x_2.1.toNat 0)) x_1.1.toNat 0)<IntKind.wrap .i64 (List.getD (ah x.1.2 (x.1.1.getD x_2.1.toNat (0 : Nat))) (Int.toNat (IntKind.wrap .i64 ((↑(List.length (ah x.1.2 (x.1.1.getD 0 0))):Int) - 1))) 0*List.getD (ah x.1.2 (x.1.1.getD x_2.2.1.toNat 0)) x_1.1.toNat 0))&&decide (IntKind.wrap .i64 (List.getD (ah x.1.2 (x.1.1.getD x_2.2.1.toNat 0)) (Int.toNat (IntKind.wrap .i64 ((↑(List.length (ah x.1.2 (x.1.1.getD 0 0))):Int) - 1))) 0*List.getD (ah x.1.2 (x.1.1.getD x_2.1.toNat 0)) x_1.1.toNat 0)=IntKind.wrap .i64 (List.getD (ah x.1.2 (x.1.1.getD x_2.1.toNat 0)) (Int.toNat (IntKind.wrap .i64 ((↑(List.length (ah x.1.2 (x.1.1.getD 0 0))):Int) - 1))) 0*List.getD (ah x.1.2 (x.1.1.getD x_2.2.1.toNat 0)) x_1.1.toNat 0)))||!decide (IntKind.wrap .i64 (List.getD (ah x.1.2 (x.1.1.getD x_2.2.1.toNat 0)) (Int.toNat (IntKind.wrap .i64 ((↑(List.length (ah x.1.2 (x.1.1.getD 0 0))):Int) - 1))) 0 * List.getD (ah x.1.2 (x.1.1.getD x_2.1.toNat 0)) x_1.1.toNat 0)<IntKind.wrap .i64 (List.getD (ah x.1.2 (x.1.1.getD x_2.1.toNat 0)) (Int.toNat (IntKind.wrap .i64 ((↑(List.length (ah x.1.2 (x.1.1.getD 0 0))):Int) - 1))) 0 * List.getD (ah x.1.2 (x.1.1.getD x_2.2.1.toNat 0)) x_1.1.toNat 0))&&decide (IntKind.wrap .i64 (List.getD (ah x.1.2 (x.1.1.getD x_2.2.1.toNat 0)) (Int.toNat (IntKind.wrap .i64 ((↑(List.length (ah x.1.2 (x.1.1.getD 0 0))):Int) - (1 : Int)))) 0*List.getD (ah x.1.2 (x.1.1.getD x_2.1.toNat 0)) x_1.1.toNat 0)=IntKind.wrap .i64 (List.getD (ah x.1.2 (x.1.1.getD x_2.1.toNat 0)) (Int.toNat (IntKind.wrap .i64 ((↑(List.length (ah x.1.2 (x.1.1.getD 0 0))):Int) - (1 : Int)))) 0*List.getD (ah x.1.2 (x.1.1.getD x_2.2.1.toNat 0)) x_1.1.toNat 0)))&&((!(!decide (IntKind.wrap .i64 (List.getD (ah x.1.2 (x.1.1.getD x_2.2.1.toNat 0)) (Int.toNat (IntKind.wrap .i64 ((↑(List.length (ah x.1.2 (x.1.1.getD 0 0))):Int) - 1))) 0*List.getD (ah x.1.2 (x.1.1.getD x_2.1.toNat 0)) x_1.1.toNat 0)<IntKind.wrap .i64 (List.getD (ah x.1.2 (x.1.1.getD x_2.1.toNat 0)) (Int.toNat (IntKind.wrap .i64 ((↑(List.length (ah x.1.2 (x.1.1.getD 0 (0 : Nat)))):Int) - 1))) 0*List.getD (ah x.1.2 (x.1.1.getD x_2.2.1.toNat 0)) x_1.1.toNat 0))&&decide (IntKind.wrap IntKind.i64 (List.getD (ah x.1.2 (x.1.1.getD x_2.2.1.toNat 0)) (Int.toNat (IntKind.wrap .i64 ((↑(List.length (ah x.1.2 (x.1.1.getD 0 0))):Int) - 1))) 0*List.getD (ah x.1.2 (x.1.1.getD x_2.1.toNat 0)) x_1.1.toNat 0)=IntKind.wrap IntKind.i64 (List.getD (ah x.1.2 (x.1.1.getD x_2.1.toNat 0)) (Int.toNat (IntKind.wrap .i64 ((↑(List.length (ah x.1.2 (x.1.1.getD (0 : Nat) 0))):Int) - 1))) 0*List.getD (ah x.1.2 (x.1.1.getD x_2.2.1.toNat 0)) x_1.1.toNat 0)))||!decide (IntKind.wrap .i64 (List.getD (ah x.1.2 (x.1.1.getD x_2.2.1.toNat 0)) (Int.toNat (IntKind.wrap .i64 ((↑(List.length (ah x.1.2 (x.1.1.getD 0 0))):Int) - 1))) 0*List.getD (ah x.1.2 (x.1.1.getD x_2.1.toNat 0)) x_1.1.toNat (0 : Int))<IntKind.wrap .i64 (List.getD (ah x.1.2 (x.1.1.getD x_2.1.toNat 0)) (Int.toNat (IntKind.wrap .i64 ((↑(List.length (ah x.1.2 (x.1.1.getD 0 0))):Int) - 1))) 0*List.getD (ah x.1.2 (x.1.1.getD x_2.2.1.toNat 0)) x_1.1.toNat (0 : Int)))&&decide (IntKind.wrap .i64 (List.getD (ah x.1.2 (x.1.1.getD x_2.2.1.toNat 0)) (Int.toNat (IntKind.wrap .i64 ((↑(List.length (ah x.1.2 (x.1.1.getD 0 0))):Int) - 1))) 0*List.getD (ah x.1.2 (x.1.1.getD x_2.1.toNat 0)) x_1.1.toNat 0)=IntKind.wrap .i64 (List.getD (ah x.1.2 (x.1.1.getD x_2.1.toNat 0)) (Int.toNat (IntKind.wrap .i64 ((↑(List.length (ah x.1.2 (x.1.1.getD 0 0))):Int) - 1))) 0*List.getD (ah x.1.2 (x.1.1.getD x_2.2.1.toNat 0)) x_1.1.toNat 0)))&&(!(!decide (IntKind.wrap .i64 (List.getD (ah x.1.2 (x.1.1.getD x_2.2.1.toNat 0)) (Int.toNat (IntKind.wrap .i64 ((↑(List.length (ah x.1.2 (x.1.1.getD 0 0))):Int) - 1))) 0*List.getD (ah x.1.2 (x.1.1.getD x_2.1.toNat (0 : Nat))) x_1.1.toNat 0)<IntKind.wrap .i64 (List.getD (ah x.1.2 (x.1.1.getD x_2.1.toNat 0)) (Int.toNat (IntKind.wrap .i64 ((↑(List.length (ah x.1.2 (x.1.1.getD 0 0))):Int) - 1))) 0*List.getD (ah x.1.2 (x.1.1.getD x_2.2.1.toNat (0 : Nat))) x_1.1.toNat 0))&&decide (IntKind.wrap .i64 (List.getD (ah x.1.2 (x.1.1.getD x_2.2.1.toNat 0)) (Int.toNat (IntKind.wrap IntKind.i64 ((↑(List.length (ah x.1.2 (x.1.1.getD 0 0))):Int) - 1))) 0*List.getD (ah x.1.2 (x.1.1.getD x_2.1.toNat 0)) x_1.1.toNat 0)=IntKind.wrap .i64 (List.getD (ah x.1.2 (x.1.1.getD x_2.1.toNat 0)) (Int.toNat (IntKind.wrap IntKind.i64 ((↑(List.length (ah x.1.2 (x.1.1.getD 0 0))):Int) - 1))) 0*List.getD (ah x.1.2 (x.1.1.getD x_2.2.1.toNat 0)) x_1.1.toNat 0)))||inB x_2.1 x.2.1.length)) then bif (!(!decide (IntKind.wrap .i64 (List.getD (ah x.1.2 (x.1.1.getD x_2.2.1.toNat 0)) (Int.toNat (IntKind.wrap .i64 ((↑(List.length (ah x.1.2 (x.1.1.getD 0 0))):Int) - 1))) (0 : Int)*List.getD (ah x.1.2 (x.1.1.getD x_2.1.toNat 0)) x_1.1.toNat 0)<IntKind.wrap .i64 (List.getD (ah x.1.2 (x.1.1.getD x_2.1.toNat 0)) (Int.toNat (IntKind.wrap .i64 ((↑(List.length (ah x.1.2 (x.1.1.getD 0 0))):Int) - 1))) (0 : Int)*List.getD (ah x.1.2 (x.1.1.getD x_2.2.1.toNat 0)) x_1.1.toNat 0))&&decide (IntKind.wrap .i64 (List.getD (ah x.1.2 (x.1.1.getD x_2.2.1.toNat 0)) (Int.toNat (IntKind.wrap .i64 ((↑(List.length (ah x.1.2 (x.1.1.getD 0 0))):Int) - (1 : Int)))) 0*List.getD (ah x.1.2 (x.1.1.getD x_2.1.toNat 0)) x_1.1.toNat 0)=IntKind.wrap .i64 (List.getD (ah x.1.2 (x.1.1.getD x_2.1.toNat 0)) (Int.toNat (IntKind.wrap .i64 ((↑(List.length (ah x.1.2 (x.1.1.getD 0 0))):Int) - (1 : Int)))) 0*List.getD (ah x.1.2 (x.1.1.getD x_2.2.1.toNat 0)) x_1.1.toNat 0)))||!decide (IntKind.wrap .i64 (List.getD (ah x.1.2 (x.1.1.getD x_2.2.1.toNat 0)) (Int.toNat (IntKind.wrap .i64 ((↑(List.length (ah x.1.2 (x.1.1.getD 0 0))) : Int) - 1))) 0*List.getD (ah x.1.2 (x.1.1.getD x_2.1.toNat 0)) x_1.1.toNat 0)<IntKind.wrap .i64 (List.getD (ah x.1.2 (x.1.1.getD x_2.1.toNat 0)) (Int.toNat (IntKind.wrap .i64 ((↑(List.length (ah x.1.2 (x.1.1.getD 0 0))) : Int) - 1))) 0*List.getD (ah x.1.2 (x.1.1.getD x_2.2.1.toNat 0)) x_1.1.toNat 0))&&decide (IntKind.wrap .i64 (List.getD (ah x.1.2 (x.1.1.getD x_2.2.1.toNat 0)) (Int.toNat (IntKind.wrap .i64 ((↑(List.length (ah x.1.2 (x.1.1.getD 0 0))):Int) - 1))) 0*List.getD (ah x.1.2 (x.1.1.getD x_2.1.toNat 0)) x_1.1.toNat 0)=IntKind.wrap .i64 (List.getD (ah x.1.2 (x.1.1.getD x_2.1.toNat 0)) (Int.toNat (IntKind.wrap .i64 ((↑(List.length (ah x.1.2 (x.1.1.getD 0 (0 : Nat)))):Int) - 1))) 0*List.getD (ah x.1.2 (x.1.1.getD x_2.2.1.toNat 0)) x_1.1.toNat 0)))&&(!(!decide (IntKind.wrap IntKind.i64 (List.getD (ah x.1.2 (x.1.1.getD x_2.2.1.toNat 0)) (Int.toNat (IntKind.wrap .i64 ((↑(List.length (ah x.1.2 (x.1.1.getD 0 0))):Int) - 1))) 0*List.getD (ah x.1.2 (x.1.1.getD x_2.1.toNat 0)) x_1.1.toNat 0)<IntKind.wrap IntKind.i64 (List.getD (ah x.1.2 (x.1.1.getD x_2.1.toNat 0)) (Int.toNat (IntKind.wrap .i64 ((↑(List.length (ah x.1.2 (x.1.1.getD (0 : Nat) 0))):Int) - 1))) 0*List.getD (ah x.1.2 (x.1.1.getD x_2.2.1.toNat 0)) x_1.1.toNat 0))&&decide (IntKind.wrap .i64 (List.getD (ah x.1.2 (x.1.1.getD x_2.2.1.toNat 0)) (Int.toNat (IntKind.wrap .i64 ((↑(List.length (ah x.1.2 (x.1.1.getD 0 0))):Int) - 1))) 0*List.getD (ah x.1.2 (x.1.1.getD x_2.1.toNat 0)) x_1.1.toNat (0 : Int))=IntKind.wrap .i64 (List.getD (ah x.1.2 (x.1.1.getD x_2.1.toNat 0)) (Int.toNat (IntKind.wrap .i64 ((↑(List.length (ah x.1.2 (x.1.1.getD 0 0))):Int) - 1))) 0*List.getD (ah x.1.2 (x.1.1.getD x_2.2.1.toNat 0)) x_1.1.toNat (0 : Int))))||Nat.ble (Nat.succ x_2.1.toNat) x.2.1.length) then bif (!(!decide (IntKind.wrap .i64 (List.getD (ah x.1.2 (x.1.1.getD x_2.2.1.toNat 0)) (Int.toNat (IntKind.wrap .i64 ((↑(List.length (ah x.1.2 (x.1.1.getD 0 0))):Int) - 1))) 0*List.getD (ah x.1.2 (x.1.1.getD x_2.1.toNat 0)) x_1.1.toNat 0)<IntKind.wrap .i64 (List.getD (ah x.1.2 (x.1.1.getD x_2.1.toNat 0)) (Int.toNat (IntKind.wrap .i64 ((↑(List.length (ah x.1.2 (x.1.1.getD 0 0))):Int) - 1))) 0*List.getD (ah x.1.2 (x.1.1.getD x_2.2.1.toNat 0)) x_1.1.toNat 0))&&decide (IntKind.wrap .i64 (List.getD (ah x.1.2 (x.1.1.getD x_2.2.1.toNat 0)) (Int.toNat (IntKind.wrap .i64 ((↑(List.length (ah x.1.2 (x.1.1.getD 0 0))):Int) - 1))) 0 * List.getD (ah x.1.2 (x.1.1.getD x_2.1.toNat 0)) x_1.1.toNat 0)=IntKind.wrap .i64 (List.getD (ah x.1.2 (x.1.1.getD x_2.1.toNat 0)) (Int.toNat (IntKind.wrap .i64 ((↑(List.length (ah x.1.2 (x.1.1.getD 0 0))):Int) - 1))) 0 * List.getD (ah x.1.2 (x.1.1.getD x_2.2.1.toNat 0)) x_1.1.toNat 0)))||!decide (IntKind.wrap .i64 (List.getD (ah x.1.2 (x.1.1.getD x_2.2.1.toNat 0)) (Int.toNat (IntKind.wrap .i64 ((↑(List.length (ah x.1.2 (x.1.1.getD 0 0))):Int) - (1 : Int)))) 0*List.getD (ah x.1.2 (x.1.1.getD x_2.1.toNat 0)) x_1.1.toNat 0)<IntKind.wrap .i64 (List.getD (ah x.1.2 (x.1.1.getD x_2.1.toNat 0)) (Int.toNat (IntKind.wrap .i64 ((↑(List.length (ah x.1.2 (x.1.1.getD 0 0))):Int) - (1 : Int)))) 0*List.getD (ah x.1.2 (x.1.1.getD x_2.2.1.toNat 0)) x_1.1.toNat 0))&&decide (IntKind.wrap .i64 (List.getD (ah x.1.2 (x.1.1.getD x_2.2.1.toNat 0)) (Int.toNat (IntKind.wrap .i64 ((↑(List.length (ah x.1.2 (x.1.1.getD 0 0))) : Int) - 1))) 0*List.getD (ah x.1.2 (x.1.1.getD x_2.1.toNat 0)) x_1.1.toNat 0)=IntKind.wrap .i64 (List.getD (ah x.1.2 (x.1.1.getD x_2.1.toNat 0)) (Int.toNat (IntKind.wrap .i64 ((↑(List.length (ah x.1.2 (x.1.1.getD 0 0))) : Int) - 1))) 0*List.getD (ah x.1.2 (x.1.1.getD x_2.2.1.toNat 0)) x_1.1.toNat 0)))&&(!(!decide (IntKind.wrap IntKind.i64 (List.getD (ah x.1.2 (x.1.1.getD x_2.2.1.toNat 0)) (Int.toNat (IntKind.wrap .i64 ((↑(List.length (ah x.1.2 (x.1.1.getD 0 0))):Int) - 1))) 0*List.getD (ah x.1.2 (x.1.1.getD x_2.1.toNat 0)) x_1.1.toNat 0)<IntKind.wrap IntKind.i64 (List.getD (ah x.1.2 (x.1.1.getD x_2.1.toNat 0)) (Int.toNat (IntKind.wrap .i64 ((↑(List.length (ah x.1.2 (x.1.1.getD (0 : Nat) 0))):Int) - 1))) 0*List.getD (ah x.1.2 (x.1.1.getD x_2.2.1.toNat 0)) x_1.1.toNat 0))&&decide (IntKind.wrap .i64 (List.getD (ah x.1.2 (x.1.1.getD x_2.2.1.toNat 0)) (Int.toNat (IntKind.wrap .i64 ((↑(List.length (ah x.1.2 (x.1.1.getD 0 0))):Int) - 1))) 0*List.getD (ah x.1.2 (x.1.1.getD x_2.1.toNat 0)) x_1.1.toNat (0 : Int))=IntKind.wrap .i64 (List.getD (ah x.1.2 (x.1.1.getD x_2.1.toNat 0)) (Int.toNat (IntKind.wrap .i64 ((↑(List.length (ah x.1.2 (x.1.1.getD 0 0))):Int) - 1))) 0*List.getD (ah x.1.2 (x.1.1.getD x_2.2.1.toNat 0)) x_1.1.toNat (0 : Int))))||!decide (IntKind.wrap .i64 (List.getD (ah x.1.2 (x.1.1.getD x_2.2.1.toNat 0)) (Int.toNat (IntKind.wrap .i64 ((↑(List.length (ah x.1.2 (x.1.1.getD 0 0))):Int) - 1))) 0*List.getD (ah x.1.2 (x.1.1.getD x_2.1.toNat 0)) x_1.1.toNat 0)<IntKind.wrap .i64 (List.getD (ah x.1.2 (x.1.1.getD x_2.1.toNat 0)) (Int.toNat (IntKind.wrap .i64 ((↑(List.length (ah x.1.2 (x.1.1.getD 0 0))):Int) - 1))) 0*List.getD (ah x.1.2 (x.1.1.getD x_2.2.1.toNat 0)) x_1.1.toNat 0))&&decide (IntKind.wrap .i64 (List.getD (ah x.1.2 (x.1.1.getD x_2.2.1.toNat 0)) (Int.toNat (IntKind.wrap .i64 ((↑(List.length (ah x.1.2 (x.1.1.getD 0 0))):Int) - 1))) 0*List.getD (ah x.1.2 (x.1.1.getD x_2.1.toNat (0 : Nat))) x_1.1.toNat 0)=IntKind.wrap .i64 (List.getD (ah x.1.2 (x.1.1.getD x_2.1.toNat 0)) (Int.toNat (IntKind.wrap .i64 ((↑(List.length (ah x.1.2 (x.1.1.getD 0 0))):Int) - 1))) 0*List.getD (ah x.1.2 (x.1.1.getD x_2.2.1.toNat (0 : Nat))) x_1.1.toNat 0))) then bif (!!decide (IntKind.wrap .i64 (List.getD (ah x.1.2 (x.1.1.getD x_2.2.1.toNat 0)) (Int.toNat (IntKind.wrap .i64 ((↑(List.length (ah x.1.2 (x.1.1.getD 0 0))):Int) - 1))) 0*List.getD (ah x.1.2 (x.1.1.getD x_2.1.toNat 0)) x_1.1.toNat 0)<IntKind.wrap .i64 (List.getD (ah x.1.2 (x.1.1.getD x_2.1.toNat 0)) (Int.toNat (IntKind.wrap .i64 ((↑(List.length (ah x.1.2 (x.1.1.getD 0 0))):Int) - 1))) 0*List.getD (ah x.1.2 (x.1.1.getD x_2.2.1.toNat 0)) x_1.1.toNat 0))||(!!decide (IntKind.wrap .i64 (List.getD (ah x.1.2 (x.1.1.getD x_2.2.1.toNat (0 : Nat))) (Int.toNat (IntKind.wrap .i64 ((↑(List.length (ah x.1.2 (x.1.1.getD 0 0))):Int) - 1))) 0*List.getD (ah x.1.2 (x.1.1.getD x_2.1.toNat 0)) x_1.1.toNat 0)<IntKind.wrap .i64 (List.getD (ah x.1.2 (x.1.1.getD x_2.1.toNat (0 : Nat))) (Int.toNat (IntKind.wrap .i64 ((↑(List.length (ah x.1.2 (x.1.1.getD 0 0))):Int) - 1))) 0*List.getD (ah x.1.2 (x.1.1.getD x_2.2.1.toNat 0)) x_1.1.toNat 0))||!decide (IntKind.wrap .i64 (List.getD (ah x.1.2 (x.1.1.getD x_2.2.1.toNat 0)) (Int.toNat (IntKind.wrap .i64 ((↑(List.length (ah x.1.2 (x.1.1.getD 0 0))):Int) - 1))) 0*List.getD (ah x.1.2 (x.1.1.getD x_2.1.toNat 0)) x_1.1.toNat 0)<IntKind.wrap .i64 (List.getD (ah x.1.2 (x.1.1.getD x_2.1.toNat 0)) (Int.toNat (IntKind.wrap .i64 ((↑(List.length (ah x.1.2 (x.1.1.getD 0 0))):Int) - 1))) 0*List.getD (ah x.1.2 (x.1.1.getD x_2.2.1.toNat 0)) x_1.1.toNat 0))))&&(!!decide (IntKind.wrap .i64 (List.getD (ah x.1.2 (x.1.1.getD x_2.2.1.toNat 0)) (Int.toNat (IntKind.wrap .i64 ((↑(List.length (ah x.1.2 (x.1.1.getD 0 0))):Int) - 1))) (0 : Int)*List.getD (ah x.1.2 (x.1.1.getD x_2.1.toNat 0)) x_1.1.toNat 0)<IntKind.wrap .i64 (List.getD (ah x.1.2 (x.1.1.getD x_2.1.toNat 0)) (Int.toNat (IntKind.wrap .i64 ((↑(List.length (ah x.1.2 (x.1.1.getD 0 0))):Int) - 1))) (0 : Int)*List.getD (ah x.1.2 (x.1.1.getD x_2.2.1.toNat 0)) x_1.1.toNat 0))||(!decide (IntKind.wrap .i64 (List.getD (ah x.1.2 (x.1.1.getD x_2.2.1.toNat 0)) (Int.toNat (IntKind.wrap .i64 ((↑(List.length (ah x.1.2 (x.1.1.getD 0 0))) : Int) - 1))) 0*List.getD (ah x.1.2 (x.1.1.getD x_2.1.toNat 0)) x_1.1.toNat 0)=IntKind.wrap .i64 (List.getD (ah x.1.2 (x.1.1.getD x_2.1.toNat 0)) (Int.toNat (IntKind.wrap .i64 ((↑(List.length (ah x.1.2 (x.1.1.getD 0 0))):Int) - 1))) 0*List.getD (ah x.1.2 (x.1.1.getD x_2.2.1.toNat 0)) x_1.1.toNat 0))||(!!decide (IntKind.wrap .i64 (List.getD (ah x.1.2 (x.1.1.getD x_2.2.1.toNat 0)) (Int.toNat (IntKind.wrap .i64 ((↑(List.length (ah x.1.2 (x.1.1.getD 0 0))):Int) - 1))) 0*List.getD (ah x.1.2 (x.1.1.getD x_2.1.toNat 0)) x_1.1.toNat 0)<IntKind.wrap .i64 (List.getD (ah x.1.2 (x.1.1.getD x_2.1.toNat 0)) (Int.toNat (IntKind.wrap .i64 ((↑(List.length (ah x.1.2 (x.1.1.getD 0 (0 : Nat)))):Int) - 1))) 0*List.getD (ah x.1.2 (x.1.1.getD x_2.2.1.toNat 0)) x_1.1.toNat 0))||!decide (IntKind.wrap IntKind.i64 (List.getD (ah x.1.2 (x.1.1.getD x_2.2.1.toNat 0)) (Int.toNat (IntKind.wrap .i64 ((↑(List.length (ah x.1.2 (x.1.1.getD 0 0))):Int) - 1))) 0*List.getD (ah x.1.2 (x.1.1.getD x_2.1.toNat 0)) x_1.1.toNat 0)<IntKind.wrap IntKind.i64 (List.getD (ah x.1.2 (x.1.1.getD x_2.1.toNat 0)) (Int.toNat (IntKind.wrap .i64 ((↑(List.length (ah x.1.2 (x.1.1.getD (0 : Nat) 0))):Int) - 1))) 0*List.getD (ah x.1.2 (x.1.1.getD x_2.2.1.toNat 0)) x_1.1.toNat 0))&&decide (IntKind.wrap .i64 (List.getD (ah x.1.2 (x.1.1.getD x_2.2.1.toNat 0)) (Int.toNat (IntKind.wrap .i64 ((↑(List.length (ah x.1.2 (x.1.1.getD 0 0))):Int) - 1))) 0*List.getD (ah x.1.2 (x.1.1.getD x_2.1.toNat 0)) x_1.1.toNat (0 : Int))=IntKind.wrap .i64 (List.getD (ah x.1.2 (x.1.1.getD x_2.1.toNat 0)) (Int.toNat (IntKind.wrap .i64 ((↑(List.length (ah x.1.2 (x.1.1.getD 0 0))):Int) - 1))) 0*List.getD (ah x.1.2 (x.1.1.getD x_2.2.1.toNat 0)) x_1.1.toNat (0 : Int)))))) then bif decide (IntKind.wrap .i64 (List.getD (ah x.1.2 (x.1.1.getD x_2.2.1.toNat 0)) (Int.toNat (IntKind.wrap .i64 ((↑(List.length (ah x.1.2 (x.1.1.getD 0 0))):Int) - 1))) 0*List.getD (ah x.1.2 (x.1.1.getD x_2.1.toNat (0 : Nat))) x_1.1.toNat 0)<IntKind.wrap .i64 (List.getD (ah x.1.2 (x.1.1.getD x_2.1.toNat 0)) (Int.toNat (IntKind.wrap .i64 ((↑(List.length (ah x.1.2 (x.1.1.getD 0 0))):Int) - 1))) 0*List.getD (ah x.1.2 (x.1.1.getD x_2.2.1.toNat (0 : Nat))) x_1.1.toNat 0))||!decide (IntKind.wrap .i64 (List.getD (ah x.1.2 (x.1.1.getD x_2.2.1.toNat 0)) (Int.toNat (IntKind.wrap IntKind.i64 ((↑(List.length (ah x.1.2 (x.1.1.getD 0 0))):Int) - 1))) 0*List.getD (ah x.1.2 (x.1.1.getD x_2.1.toNat 0)) x_1.1.toNat 0)<IntKind.wrap .i64 (List.getD (ah x.1.2 (x.1.1.getD x_2.1.toNat 0)) (Int.toNat (IntKind.wrap IntKind.i64 ((↑(List.length (ah x.1.2 (x.1.1.getD 0 0))):Int) - 1))) 0*List.getD (ah x.1.2 (x.1.1.getD x_2.2.1.toNat 0)) x_1.1.toNat 0)) then bif bif decide (IntKind.wrap .i64 (List.getD (ah x.1.2 (x.1.1.getD x_2.2.1.toNat (0 : Nat))) (Int.toNat (IntKind.wrap .i64 ((↑(List.length (ah x.1.2 (x.1.1.getD 0 0))):Int) - 1))) 0*List.getD (ah x.1.2 (x.1.1.getD x_2.1.toNat 0)) x_1.1.toNat 0)<IntKind.wrap .i64 (List.getD (ah x.1.2 (x.1.1.getD x_2.1.toNat (0 : Nat))) (Int.toNat (IntKind.wrap .i64 ((↑(List.length (ah x.1.2 (x.1.1.getD 0 0))):Int) - 1))) 0*List.getD (ah x.1.2 (x.1.1.getD x_2.2.1.toNat 0)) x_1.1.toNat 0)) then true else bif decide (IntKind.wrap .i64 (List.getD (ah x.1.2 (x.1.1.getD x_2.2.1.toNat 0)) (Int.toNat (IntKind.wrap .i64 ((↑(List.length (ah x.1.2 (x.1.1.getD 0 0))):Int) - 1))) (0 : Int)*List.getD (ah x.1.2 (x.1.1.getD x_2.1.toNat 0)) x_1.1.toNat 0)=IntKind.wrap .i64 (List.getD (ah x.1.2 (x.1.1.getD x_2.1.toNat 0)) (Int.toNat (IntKind.wrap .i64 ((↑(List.length (ah x.1.2 (x.1.1.getD 0 0))):Int) - 1))) (0 : Int)*List.getD (ah x.1.2 (x.1.1.getD x_2.2.1.toNat 0)) x_1.1.toNat 0)) then decide (x.2.1.getD x_2.2.1.toNat (0 : Int)<x.2.1.getD x_2.1.toNat 0) else false then again_2 (x_2.2.1,v16) else again_2 (x_2.1,v16) else none else none else none else none else none else none else none else none else none else none else none else none else none else none else none else none else none else none else none else none else none else none else none else none else none else none else none else none else none else none else none else bif v17 then some (x.1,x.2.1,x.2.2.1,x.2.2.2.1,false,PUnit.unit) else aa (ij x.1 x.2.1 x.2.2.1 x.2.2.2.1 x_2.1 x_1.1) fun (y:(List Nat×List (Option (List Int)))×List Int×Int×Int×PUnit)=>again (y.1,y.2.1, y.2.2.1,y.2.2.2.1,x.2.2.2.2.1,x.2.2.2.2.2.1,x.2.2.2.2.2.2.1,x.2.2.2.2.2.2.2.1,PUnit.unit)) ((-1),(0 : Int),PUnit.unit) else none else none else none else none else none else none else none else none else none else none) (0,PUnit.unit)) (x0,x1,x2,x3,([],[]),[],0, 0,PUnit.unit)
def p5 (x0:List Nat×List (Option (List Int))) (x1:List Int) (x2:Int) (x3:Int):Option ((List Nat×List (Option (List Int)))×(List Int)×Int×Int×Bool×Unit):=BZ lpK jnK ij x0 x1 x2 x3
abbrev t66:=(List Nat×List (Option (List Int)))->(List Int)->(Int)->(Int)->Option ((List Nat×List (Option (List Int)))×(List Int)×Int×Int×Bool×Unit)
def xf (lp:Lp) (jn:Jn) (x0:(List Int)×List ((List Int)×Int×Int)):Option ((List Nat×List (Option (List Int)))×(List Int)×Int×Int×Unit) :=
 
 let v3:Int:=IntKind.wrap .i64 ((↑x0.1.length:Int)+(↑x0.2.length:Int));
 let v4:Int:=IntKind.wrap .i64 ((↑x0.1.length:Int)+IntKind.wrap .i64 (2*(↑x0.2.length:Int)));
 let v5:List Int×PUnit:=(List.replicate (Int.toNat (IntKind.wrap .i64 (v4+1))) 0,PUnit.unit);
 let v6:Bool:=decide (0<=IntKind.wrap .i64 (v4+1))&&dR (Int.toNat (IntKind.wrap .i64 (v4+1))) 8;bif v6 then lp (Int×(List Nat × List (Option (List Int)))×List Int×Int×Int×List Int×PUnit) ((List Nat×List (Option (List Int)))×List Int×Int×Int×PUnit) (fun (again:Int×(List Nat×List (Option (List Int)))×List Int×Int×Int×List Int×PUnit->Option ((List Nat×List (Option (List Int)))×List Int×Int×Int×PUnit)) (x:Int×(List Nat×List (Option (List Int)))×List Int×Int×Int×List Int×PUnit) =>
 let v9:Int:=IntKind.wrap .i64 (v3+x.1);
 let v10:Bool:=inB x.1 x0.2.length;
 let v11:Int:=IntKind.wrap .i64 ((↑x0.1.length:Int)+x.1);
 let v12:List Int×Int×Int:=x0.2.getD x.1.toNat ([],0,0);
 let v13:Bool:=dR (List.length x.2.1.1+1) 24;
 let v14:List Nat:=x.2.1.1++[List.length x.2.1.2+0];bif decide (x.1<(↑x0.2.length:Int)) then bif v6 then bif v10 then lp (Int×List Int × PUnit) ((List Nat×List (Option (List Int)))×List Int×Int×Int×PUnit) (fun (again_1:Int×List Int×PUnit->Option ((List Nat×List (Option (List Int)))×List Int×Int × Int×PUnit)) (x_1:Int×List Int×PUnit)=>bif decide (x_1.1<(↑v12.1.length:Int)) then bif inB x_1.1 v12.1.length then bif inB x_1.1 x_1.2.1.length then bif Nat.ble (Nat.succ x_1.1.toNat) x_1.2.1.length then again_1 (IntKind.wrap .i64 (x_1.1+1),x_1.2.1.set x_1.1.toNat (v12.1.getD x_1.1.toNat 0),PUnit.unit) else none else none else none else bif v10 then jn (List Int×PUnit) ((List Nat×List (Option (List Int))) × List Int×Int×Int×PUnit) (fun (x_2:List Int×PUnit)=>bif v10 then jn (List Int×PUnit) ((List Nat×List (Option (List Int)))×List Int×Int×Int×PUnit) (fun (x_3:List Int×PUnit) =>
 let v19:List Int×PUnit:=(x_3.1.set v4.toNat v12.2.2,PUnit.unit);bif v10 then bif inB v4 x_3.1.length then bif Nat.ble (Nat.succ v4.toNat) x_3.1.length then bif v10 then jn (List Int×PUnit) ((List Nat×List (Option (List Int)))×List Int×Int×Int×PUnit) (fun (x_4:List Int×PUnit)=>lp (Int×List Int × PUnit) ((List Nat×List (Option (List Int)))×List Int×Int×Int×PUnit) (fun (again_2:Int×List Int×PUnit->Option ((List Nat×List (Option (List Int)))×List Int×Int × Int×PUnit)) (x_5:Int×List Int×PUnit) =>
 let v23:Bool:=inB x_5.1 x_5.2.1.length;
 let v24:Bool:=Nat.ble (Nat.succ x_5.1.toNat) x_5.2.1.length;bif decide (x_5.1<(↑x_4.1.length:Int)) then bif v23 then bif v24 then bif inB x_5.1 x_4.1.length then bif Nat.ble (Nat.succ x_5.1.toNat) x_4.1.length then bif v23 then bif v24 then again_2 (IntKind.wrap .i64 (x_5.1+1), x_5.2.1.set x_5.1.toNat (IntKind.wrap .i64 (x_5.2.1.getD x_5.1.toNat 0 - x_4.1.getD x_5.1.toNat 0)),PUnit.unit) else none else none else none else none else none else none else bif inB v9 x_4.1.length then bif Nat.ble (Nat.succ v9.toNat) x_4.1.length then bif v13 then bif dR (List.length x.2.2.1+1) 8 then again (IntKind.wrap .i64 (x.1+1),(v14,x.2.1.2++[some (x_4.1.set v9.toNat (1 : Int))]),x.2.2.1++[v9],x.2.2.2.1,x.2.2.2.2.1,x_5.2.1,PUnit.unit) else none else none else none else none) (0,x.2.2.2.2.2.1, PUnit.unit)) fun (j:List Int×PUnit->Option ((List Nat×List (Option (List Int)))×List Int×Int×Int×PUnit))=>bif decide (v12.2.2<0) then lp (Int×List Int × PUnit) ((List Nat×List (Option (List Int)))×List Int×Int×Int×PUnit) (fun (again:Int×List Int×PUnit->Option ((List Nat×List (Option (List Int)))×List Int×Int×Int × PUnit)) (x:Int×List Int×PUnit) =>
 let v23:Bool:=inB x.1 x.2.1.length;
 let v24:Bool:=Nat.ble (Nat.succ x.1.toNat) x.2.1.length;bif decide (x.1<(↑x.2.1.length:Int)) then bif v23 then bif v24 then bif v23 then bif v24 then again (IntKind.wrap .i64 (x.1+1),x.2.1.set x.1.toNat (IntKind.wrap .i64 (0 - x.2.1.getD x.1.toNat 0)), PUnit.unit) else none else none else none else none else j (x.2.1,PUnit.unit)) (0,v19) else j v19 else none else none else none else none) fun (j:List Int×PUnit -> Option ((List Nat×List (Option (List Int)))×List Int×Int×Int×PUnit))=>bif decide (v12.2.1=2) then bif inB v11 x_2.1.length then bif Nat.ble (Nat.succ v11.toNat) x_2.1.length then j (x_2.1.set v11.toNat (-1),PUnit.unit) else none else none else j (x_2.1,PUnit.unit) else none) fun (j:List Int × PUnit->Option ((List Nat×List (Option (List Int)))×List Int×Int×Int×PUnit))=>bif decide (v12.2.1=1) then bif inB v11 x_1.2.1.length then bif Nat.ble (Nat.succ v11.toNat) x_1.2.1.length then j (x_1.2.1.set v11.toNat 1,PUnit.unit) else none else none else j (x_1.2.1,PUnit.unit) else none) (0,v5) else none else none else bif v13 then some ((v14,x.2.1.2++[some x.2.2.2.2.2.1]),x.2.2.1,x.2.2.2.1,x.2.2.2.2.1, PUnit.unit) else none) (0,([],[]),[],1,v3,v5) else none
def pD (x0:(List Int)×List ((List Int)×Int×Int)):Option ((List Nat×List (Option (List Int)))×(List Int)×Int×Int×Unit):=xf lpK jnK x0
abbrev t67:=((List Int)×List ((List Int)×Int×Int))->Option ((List Nat×List (Option (List Int)))×(List Int)×Int×Int×Unit)
def AR (lp:Lp) (_:Jn) (ij:Rx) (x0:List Nat×List (Option (List Int))) (x1:List Int) (x2:Int) (x3:Int):Option ((List Nat×List (Option (List Int)))×(List Int)×Int×Int×Unit) :=
 lp (Int×(List Nat×List (Option (List Int)))×List Int×Int×Int×PUnit) ((List Nat×List (Option (List Int)))×List Int×Int×Int×PUnit) (fun (again:Int×(List Nat×List (Option (List Int)))×List Int×Int×Int×PUnit->Option ((List Nat×List (Option (List Int)))×List Int×Int×Int×PUnit)) (x:Int×(List Nat×List (Option (List Int))) × List Int×Int×Int×PUnit) =>
 let v8:Int:=IntKind.wrap .i64 (x.1+1);
 let v9:Bool:=inB x.1 x.2.1.1.length;
 let v10:Bool:=Nat.ble (Nat.succ x.1.toNat) x.2.1.1.length;
 let v11:(List Nat×List (Option (List Int)))×List Int×Int×Int×PUnit:=(x.2.1,x.2.2.1,x.2.2.2.1,x.2.2.2.2.1,PUnit.unit);bif decide (x.1 < (↑x.2.2.1.length:Int)) then bif inB x.1 x.2.2.1.length then bif Nat.ble (Nat.succ x.1.toNat) x.2.2.1.length then bif decide (x.2.2.1.getD x.1.toNat 0<x.2.2.2.2.1) then again (v8,v11) else lp (Int×PUnit) ((List Nat×List (Option (List Int)))×List Int×Int×Int×PUnit) (fun (again_1:Int×PUnit->Option ((List Nat×List (Option (List Int)))×List Int×Int×Int×PUnit)) (x_1:Int×PUnit) =>
 let v14:Bool:=decide (x_1.1<x.2.2.2.2.1);
 let v15:Bool:=!v14;
 let v16:Bool:=v15||v14;bif v16 then bif v16&&(v16&&(v15||v9)) then bif v16&&(v15||v10) then bif v16&&(v16&&(v15||inB x_1.1 (List.length (ah x.2.1.2 (x.2.1.1.getD x.1.toNat 0))))) then bif v16&&(v15||Nat.ble (Nat.succ x_1.1.toNat) (List.length (ah x.2.1.2 (x.2.1.1.getD x.1.toNat 0)))) then bif v16 then bif v16 then bif bif v14 then decide (List.getD (ah x.2.1.2 (x.2.1.1.getD x.1.toNat 0)) x_1.1.toNat 0=0) else false then again_1 (IntKind.wrap .i64 (x_1.1+1),PUnit.unit) else bif decide (x_1.1=x.2.2.2.2.1) then again (v8, v11) else bif v9 then bif v10 then bif inB x_1.1 (List.length (ah x.2.1.2 (x.2.1.1.getD x.1.toNat 0))) then bif Nat.ble (Nat.succ x_1.1.toNat) (List.length (ah x.2.1.2 (x.2.1.1.getD x.1.toNat 0))) then bif decide (List.getD (ah x.2.1.2 (x.2.1.1.getD x.1.toNat 0)) x_1.1.toNat 0<0) then lp (Int×(List Nat×List (Option (List Int)))×PUnit) ((List Nat×List (Option (List Int)))×List Int×Int×Int × PUnit) (fun (again_2:Int×(List Nat×List (Option (List Int)))×PUnit->Option ((List Nat×List (Option (List Int)))×List Int×Int×Int×PUnit)) (x_2:Int×(List Nat × List (Option (List Int)))×PUnit) =>
 let v19:Bool:=inB x.1 x_2.2.1.1.length;
 let v20:Bool:=Nat.ble (Nat.succ x.1.toNat) x_2.2.1.1.length;bif v19 then bif v20 then bif eD x_2.2.1.2 (x_2.2.1.1.getD x.1.toNat (0 : Nat)) then bif decide (x_2.1<(↑(List.length (ah x_2.2.1.2 (x_2.2.1.1.getD x.1.toNat 0))):Int)) then bif v19 then bif v20 then bif v19 then bif v20 then bif inB x_2.1 (List.length (ah x_2.2.1.2 (x_2.2.1.1.getD x.1.toNat 0))) then bif Nat.ble (Nat.succ x_2.1.toNat) (List.length (ah x_2.2.1.2 (x_2.2.1.1.getD x.1.toNat 0))) then bif inB x_2.1 (List.length (ah x_2.2.1.2 (x_2.2.1.1.getD x.1.toNat (0 : Nat)))) then bif Nat.ble (Nat.succ x_2.1.toNat) (List.length (ah x_2.2.1.2 (x_2.2.1.1.getD x.1.toNat 0))) then again_2 (IntKind.wrap IntKind.i64 (x_2.1+1),(x_2.2.1.1,x_2.2.1.2.set (x_2.2.1.1.getD x.1.toNat 0) (some (List.set (ah x_2.2.1.2 (x_2.2.1.1.getD x.1.toNat 0)) x_2.1.toNat (IntKind.wrap .i64 (0 - List.getD (ah x_2.2.1.2 (x_2.2.1.1.getD x.1.toNat (0 : Nat))) x_2.1.toNat 0))))),PUnit.unit) else none else none else none else none else none else none else none else none else aa (ij x_2.2.1 x.2.2.1 x.2.2.2.1 x.2.2.2.2.1 x.1 x_1.1) fun (y:(List Nat×List (Option (List Int)))×List Int×Int×Int×PUnit)=>again (v8,y.1,y.2.1, y.2.2.1,y.2.2.2.1,PUnit.unit) else none else none else none) (0,x.2.1,PUnit.unit) else aa (ij x.2.1 x.2.2.1 x.2.2.2.1 x.2.2.2.2.1 x.1 x_1.1) fun (y:(List Nat×List (Option (List Int)))×List Int×Int×Int×PUnit)=>again (v8,y.1,y.2.1,y.2.2.1,y.2.2.2.1, PUnit.unit) else none else none else none else none else none else none else none else none else none else none else none) (0,PUnit.unit) else none else none else some v11) ((0 : Int),x0,x1,x2,x3,PUnit.unit)
def tD (x0:List Nat×List (Option (List Int))) (x1:List Int) (x2:Int) (x3:Int):Option ((List Nat×List (Option (List Int)))×(List Int)×Int×Int×Unit):=AR lpK jnK ij x0 x1 x2 x3
abbrev t68:=(List Nat×List (Option (List Int)))->(List Int)->(Int)->(Int)->Option ((List Nat×List (Option (List Int)))×(List Int)×Int×Int×Unit)
def Ax (_:Lp) (_:Jn) (a6:DU) (fq:P9) (x0:Int) (x1:Int):Option ((Int×Int)×Int×Unit) :=
 aa (a6 x0) fun (t:Int)=>aa (a6 x1) fun (t_1:Int)=>aa (fq (0,t) (!decide (decide (x0<0)=decide (x1<0))) (0, t_1)) fun (t:(Int×Int)×Int×PUnit)=>some (t.1,t.2.1,PUnit.unit)
def q9 (x0:Int) (x1:Int):Option ((Int×Int)×Int×Unit):=Ax lpK jnK a6 fq x0 x1
abbrev t70:=(Int)->(Int)->Option ((Int×Int)×Int×Unit)
def xu (lp:Lp) (_:Jn) (q9:t70) (p5:t66) (pD:t67) (tD:t68) (x0:(List Int)×List ((List Int)×Int×Int)):Option ((Int×Int)×Int×Unit) :=
 aa (pD x0) fun (y:(List Nat×List (Option (List Int)))×List Int×Int×Int×PUnit)=>aa (p5 y.1 y.2.1 y.2.2.1 y.2.2.2.1) fun (y:(List Nat × List (Option (List Int)))×List Int×Int×Int×Bool×PUnit) =>
 let v5:Int:=IntKind.wrap .i64 ((↑y.1.1.length:Int) - 1);bif inB 0 y.1.1.length then bif Nat.ble 1 y.1.1.length then bif eD y.1.2 (y.1.1.getD 0 0) then bif inB v5 y.1.1.length then bif Nat.ble (Nat.succ v5.toNat) y.1.1.length then bif inB (IntKind.wrap .i64 ((↑(List.length (ah y.1.2 (y.1.1.getD 0 0))):Int) - 1)) (List.length (ah y.1.2 (y.1.1.getD v5.toNat 0))) then bif Nat.ble (Nat.succ (Int.toNat (IntKind.wrap .i64 ((↑(List.length (ah y.1.2 (y.1.1.getD 0 0))):Int) - 1)))) (List.length (ah y.1.2 (y.1.1.getD v5.toNat 0))) then bif decide (List.getD (ah y.1.2 (y.1.1.getD v5.toNat 0)) (Int.toNat (IntKind.wrap .i64 ((↑(List.length (ah y.1.2 (y.1.1.getD 0 0))):Int) - 1))) 0<0) then some ((0,0),(22 : Int),PUnit.unit) else aa (tD y.1 y.2.1 y.2.2.1 y.2.2.2.1) fun (y_1:(List Nat×List (Option (List Int)))×List Int×Int×Int×PUnit)=>bif decide (0<=IntKind.wrap .i64 (IntKind.wrap .i64 ((↑(List.length (ah y.1.2 (y.1.1.getD 0 0))):Int) - 1)+1))&&dR (Int.toNat (IntKind.wrap .i64 (IntKind.wrap .i64 ((↑(List.length (ah y.1.2 (y.1.1.getD 0 0))):Int) - 1)+1))) 8 then lp (Int×List Int×PUnit) ((Int×Int)×Int×PUnit) (fun (again:Int×List Int×PUnit->Option ((Int×Int)×Int×PUnit)) (x:Int×List Int×PUnit)=>bif decide (x.1 < (↑x0.1.length:Int)) then bif inB x.1 x0.1.length then bif inB x.1 x.2.1.length then bif Nat.ble (Nat.succ x.1.toNat) x.2.1.length then again (IntKind.wrap .i64 (x.1+1),x.2.1.set x.1.toNat (x0.1.getD x.1.toNat 0),PUnit.unit) else none else none else none else lp (Int×(List Nat×List (Option (List Int)))×PUnit) ((Int×Int)×Int×PUnit) (fun (again:Int×(List Nat×List (Option (List Int)))×PUnit->Option ((Int×Int)×Int × PUnit)) (x_1:Int×(List Nat×List (Option (List Int)))×PUnit)=>bif decide (x_1.1<=IntKind.wrap .i64 ((↑(List.length (ah y.1.2 (y.1.1.getD 0 (0 : Nat)))):Int) - 1)) then bif inB x_1.1 x.2.1.length then bif Nat.ble (Nat.succ x_1.1.toNat) x.2.1.length then lp (Int×Int×PUnit) ((Int × Int)×Int×PUnit) (fun (again_1:Int×Int×PUnit->Option ((Int×Int)×Int×PUnit)) (x_2:Int×Int×PUnit) =>
 let v13:Int:=y_1.2.1.getD x_2.2.1.toNat 0;bif decide (x_2.2.1<v5) then bif inB x_2.2.1 y_1.2.1.length then bif Nat.ble (Nat.succ x_2.2.1.toNat) y_1.2.1.length then bif inB v13 x.2.1.length then bif Nat.ble (Nat.succ v13.toNat) x.2.1.length then bif inB x_2.2.1 x_1.2.1.1.length then bif Nat.ble (Nat.succ x_2.2.1.toNat) x_1.2.1.1.length then bif inB x_1.1 (List.length (ah x_1.2.1.2 (x_1.2.1.1.getD x_2.2.1.toNat 0))) then bif Nat.ble (Nat.succ x_1.1.toNat) (List.length (ah x_1.2.1.2 (x_1.2.1.1.getD x_2.2.1.toNat 0))) then again_1 (IntKind.wrap .i64 (x_2.1 - IntKind.wrap .i64 (x.2.1.getD v13.toNat 0*List.getD (ah x_1.2.1.2 (x_1.2.1.1.getD x_2.2.1.toNat 0)) x_1.1.toNat 0)),IntKind.wrap .i64 (x_2.2.1+1),PUnit.unit) else none else none else none else none else none else none else none else none else bif inB v5 x_1.2.1.1.length then bif Nat.ble (Nat.succ v5.toNat) x_1.2.1.1.length then bif inB x_1.1 (List.length (ah x_1.2.1.2 (x_1.2.1.1.getD v5.toNat 0))) then bif Nat.ble (Nat.succ x_1.1.toNat) (List.length (ah x_1.2.1.2 (x_1.2.1.1.getD v5.toNat 0))) then again (IntKind.wrap .i64 (x_1.1+1),(x_1.2.1.1,x_1.2.1.2.set (x_1.2.1.1.getD v5.toNat 0) (some (List.set (ah x_1.2.1.2 (x_1.2.1.1.getD v5.toNat 0)) x_1.1.toNat x_2.1))),PUnit.unit) else none else none else none else none) (IntKind.wrap .i64 (x.2.1.getD x_1.1.toNat 0*y_1.2.2.1),0,PUnit.unit) else none else none else aa (p5 x_1.2.1 y_1.2.1 y_1.2.2.1 y_1.2.2.2.1) fun (y_2:(List Nat×List (Option (List Int)))×List Int×Int×Int×Bool×PUnit)=>bif !y_2.2.2.2.2.1 then some ((0,0),21,PUnit.unit) else bif inB v5 y_2.1.1.length then bif Nat.ble (Nat.succ v5.toNat) y_2.1.1.length then bif inB (IntKind.wrap .i64 ((↑(List.length (ah y.1.2 (y.1.1.getD 0 0))):Int) - 1)) (List.length (ah y_2.1.2 (y_2.1.1.getD v5.toNat 0))) then bif Nat.ble (Nat.succ (Int.toNat (IntKind.wrap .i64 ((↑(List.length (ah y.1.2 (y.1.1.getD 0 0))):Int) - (1 : Int))))) (List.length (ah y_2.1.2 (y_2.1.1.getD v5.toNat 0))) then aa (q9 (IntKind.wrap .i64 (0 - List.getD (ah y_2.1.2 (y_2.1.1.getD v5.toNat 0)) (Int.toNat (IntKind.wrap .i64 ((↑(List.length (ah y.1.2 (y.1.1.getD 0 0))):Int) - 1))) 0)) y_2.2.2.1) fun (t:(Int×Int)×Int×PUnit)=>some (t.1,t.2.1,PUnit.unit) else none else none else none else none) (0,y_1.1,PUnit.unit)) ((0 : Int),List.replicate (Int.toNat (IntKind.wrap .i64 (IntKind.wrap .i64 ((↑(List.length (ah y.1.2 (y.1.1.getD 0 0))):Int) - 1)+(1 : Int)))) 0,PUnit.unit) else none else none else none else none else none else none else none else none
def dC (x0:(List Int)×List ((List Int)×Int×Int)):Option ((Int×Int)×Int×Unit):=xu lpK jnK q9 p5 pD tD x0
abbrev t26:=((List Int)×List ((List Int)×Int×Int))->Option ((Int×Int)×Int×Unit)
def k26 (dC:t26):Ctr:=⟨[T32],[],[],.tup [T49,i64],fun x _ _=>dC x.1⟩
def my (_:Lp) (_:Jn) (aw:t72) (x0:Int×Int):Option Bool :=
 aa (aw x0) fun (t:Bool)=>some !t
def fh (x0:Int×Int):Option Bool:=my lpK jnK aw x0
abbrev t71:=(Int×Int)->Option (Bool)
def c71:Ctr:=⟨[T49],[],[],.one .bool,fun x _ _=>fh x.1⟩
theorem e71 (lp:Lp) (jn:Jn) (aw:t72):∀(x:TsS c71.as) (F:TsF c71.fs) (y:TsS c71.cs),my lp jn aw x.1=cb lp jn (cx [(72,k72 aw)] [(134,bF)]) ao 4 71 f71 c71 x F y:=fun x F y=>by kernel_rfl
theorem Us:c71.ok prog 71:=Ctr.of_den (au (ai (bQ) (by kernel_rfl) Gy)) aW (hl:=ao) (d:=4) func71 rfl (by decide) (e71 lpK jnK aw)
def o4 (lp:Lp) (_:Jn) (aj:t32) (ba:t35) (fh:t71) (x0:List (Int×Int)):Option ((Int×Int)×Int×Unit) :=
 aa (aj x0 fun (x:(Int×Int)×PUnit)=>fh x.1) fun (t:Bool)=>bif t then some ((0,0),1,PUnit.unit) else bif decide ((↑x0.length:Int)>1000) then some ((0,0),4,PUnit.unit) else lp (Int×(Int×Int)×(Int×Int)×PUnit) ((Int×Int)×Int×PUnit) (fun (again:Int×(Int×Int)×(Int×Int)×PUnit->Option ((Int×Int)×Int×PUnit)) (x:Int×(Int×Int)×(Int×Int)×PUnit)=>bif decide (x.1<(↑x0.length:Int)) then bif inB x.1 x0.length then aa (ba x.2.2.1 (x0.getD x.1.toNat (0,0))) fun (t:(Int×Int)×Int×PUnit)=>bif !decide (t.2.1=0) then some ((0,0),t.2.1,PUnit.unit) else again (IntKind.wrap .i64 (x.1+1),x.2.1,t.1,PUnit.unit) else none else some (x.2.2.1,0,PUnit.unit)) (0,(0,0),(0,1),PUnit.unit)
def bi (x0:List (Int×Int)):Option ((Int×Int)×Int×Unit):=o4 lpK jnK aj ba fh x0
abbrev t27:=(List (Int×Int))->Option ((Int×Int)×Int×Unit)
def k27 (bi:t27):Ctr:=⟨[(.sl T49)],[],[],.tup [T49,i64],fun x _ _=>bi x.1⟩
def c27:Ctr:=k27 bi
theorem e27 (lp:Lp) (jn:Jn) (aj:t32) (ba:t35) (fh:t71):∀(x:TsS c27.as) (F:TsF c27.fs) (y:TsS c27.cs),o4 lp jn aj ba fh x.1=cb lp jn (cx [(71,⟨[T49],[],[],.one .bool,fun x _ _=>fh x.1⟩),(35,k35 ba),(32,k32 aj)] [(134,bF)]) ao 4 27 f27 c27 x F y:=fun x F y=>by kernel_rfl
theorem Um:c27.ok prog 27:=Ctr.of_den (au (ai (ai (ai (bQ) (by kernel_rfl) O0) (by kernel_rfl) PV) (by kernel_rfl) Us)) aW (hl:=ao) (d:=4) func27 rfl (by decide) (e27 lpK jnK aj ba fh)
def xi (lp:Lp) (_:Jn) (cZ:t73) (aV:t15) (gA:t64) (dC:t26) (x0:(List (ByteArray×Int))×List (ByteArray×(List (ByteArray×Int×Int×Int))×Bool)):Option ((List ByteArray)×Int×Unit) :=
 lp (List ByteArray×Int×PUnit) (List ByteArray×Int×PUnit) (fun (again:List ByteArray×Int×PUnit->Option (List ByteArray×Int×PUnit)) (x:List ByteArray×Int×PUnit) =>
 let v5:Int×PUnit:=(IntKind.wrap .i64 (x.2.1+1),PUnit.unit);bif decide (x.2.1<(↑x0.2.length:Int)) then aa (gA x0 x.2.1 (-1 : Int)) fun (t:List Int)=>aa (aV x0 t) fun (t:List Int×List (List Int×Int×Int))=>aa (dC t) fun (t:(Int×Int)×Int×PUnit) =>
 let v9:Bool:=decide (t.2.1=0);
 let v10:Bool:=!v9||v9;bif decide (t.2.1=22) then some ([],t.2.1,PUnit.unit) else aa (bif v9 then cZ 0 else some (0,0)) fun (t_1:Int×Int)=>bif v10&&v10 then bif v10 then bif bif v9 then decide (t.1.1=t_1.1)&&(decide (t.1.2=t_1.2)&&true) else false then bif inB x.2.1 x0.2.length then bif dR (List.length x.1+1) 16 then again (x.1++[(x0.2.getD x.2.1.toNat ({ data:={ toList:=[] } },[], false)).1],v5) else none else none else again (x.1,v5) else none else none else some (x.1,0,PUnit.unit)) ([],0,PUnit.unit)
def jd (x0:(List (ByteArray×Int))×List (ByteArray×(List (ByteArray×Int×Int×Int))×Bool)):Option ((List ByteArray)×Int×Unit):=xi lpK jnK cZ aV gA dC x0
abbrev t28:=((List (ByteArray×Int))×List (ByteArray×(List (ByteArray×Int×Int×Int))×Bool))->Option ((List ByteArray)×Int×Unit)
def jz (lp:Lp) (_:Jn) (x0:List ByteArray) (x1:List ByteArray):Option Bool :=
 bif !decide ((↑x0.length:Int)=(↑x1.length:Int)) then some false else lp (Int×PUnit) Bool (fun (again:Int×PUnit->Option Bool) (x:Int×PUnit)=>bif decide (x.1<(↑x0.length:Int)) then bif inB x.1 x0.length then bif inB x.1 x1.length then bif !List.beq (ByteArray.toList (x0.getD x.1.toNat { data :={ toList:=[] } })) (ByteArray.toList (x1.getD x.1.toNat { data:={ toList:=[] } })) then some false else again (IntKind.wrap .i64 (x.1+1), PUnit.unit) else none else none else some true) (0,PUnit.unit)
def aR (x0:List ByteArray) (x1:List ByteArray):Option Bool:=jz lpK jnK x0 x1
abbrev t29:=(List ByteArray)->(List ByteArray)->Option (Bool)
def k29 (aR:t29):Ctr:=⟨[(.sl .str),(.sl .str)],[],[],.one .bool,fun x _ _=>aR x.1 x.2.1⟩
def c29:Ctr:=k29 aR
theorem e29 (lp:Lp) (jn:Jn):∀(x:TsS c29.as) (F:TsF c29.fs) (y:TsS c29.cs),jz lp jn x.1 x.2.1=cb lp jn (cx [] [(134,bF)]) ao 4 29 f29 c29 x F y:=fun x F y=>by kernel_rfl
theorem Uc:c29.ok prog 29:=Ctr.of_den (au (bQ)) aW (hl:=ao) (d:=4) func29 rfl (by decide) (e29 lpK jnK)
def xj (_:Lp) (_:Jn) (aV:t15) (gA:t64) (dC:t26) (x0:(List (ByteArray×Int))×List (ByteArray×(List (ByteArray×Int×Int×Int))×Bool)) (x1:Int):Option ((Int×Int)×Int×Unit) :=
 aa (gA x0 x1 1) fun (t:List Int)=>aa (aV x0 t) fun (t:List Int×List (List Int×Int×Int))=>aa (dC t) fun (t:(Int×Int)×Int × PUnit)=>some (t.1,t.2.1,PUnit.unit)
def i9 (x0:(List (ByteArray×Int))×List (ByteArray×(List (ByteArray×Int×Int×Int))×Bool)) (x1:Int):Option ((Int×Int)×Int×Unit):=xj lpK jnK aV gA dC x0 x1
abbrev t30:=((List (ByteArray×Int))×List (ByteArray×(List (ByteArray×Int×Int×Int))×Bool))->(Int)->Option ((Int×Int)×Int×Unit)
def ly (_:Lp) (jn:Jn) (aE:t19) (b9:t20) (aF:t21) (aK:t9) (a7:t10) (bK:t22) (bh:t13) (aV:t15) (cE:t16) (jO:t23) (gK:t24) (jf:t25) (dC:t26) (bi:t27) (jd:t28) (aR:t29) (i9:t30) (x0:(List (ByteArray×Int))×List (ByteArray×(List (ByteArray×Int×Int×Int))×Bool)) (x1:ByteArray):Option Bool :=
 aa aK fun (t:Bool)=>bif !t then some false else aa (a7 x0 []) fun (t:Bool) =>
 let v6:Bool:=!t;
 let v7:Bool:=!v6;
 let v8:Bool:=!v7||v7;bif v8 then bif v8 then bif v6||v7 then bif bif v6 then true else decide ((↑(ByteArray.size x1):Int)>60) then some true else aa (aE x0) fun (t:List (Int×Int)×Int×PUnit) =>
 let v10:Bool:=decide (t.2.1=0);
 let v11:Bool:=!v10;
 let v12:Bool:=decide ((↑t.1.length:Int)=0);
 let v13:Bool:=!v12;
 let v14:Bool:=bif v12 then decide (t.2.1=1) else false;
 let v15:Bool:=v13||v12;
 let v16:Bool:=!v14||v14;aa (b9 x0 x1) fun (t_1:(Int×Int)×Int×PUnit) =>
 let v18:Bool:=decide (t_1.1.1=0)&&(decide (t_1.1.2=0)&&true);
 let v19:Bool:=!v18;
 let v20:Bool:=bif v14 then v18 else false;
 let v21:Bool:=bif v20 then decide (t_1.2.1=1) else false;
 let v22:Bool:=!v20||v20;
 let v23:Bool:=!v21||v21;aa (aF x0) fun (t_2:List ByteArray×Int×PUnit) =>
 let v25:Bool:=decide ((↑t_2.1.length:Int)=0);
 let v26:Bool:=bif v21 then v25 else false;
 let v27:Bool:=bif v25 then decide (t_2.2.1=5) else false;
 let v28:Bool:=!v27;
 let v29:Bool:=!v25||v25;
 let v30:Bool:=!v26||v26;
 let v31:Bool:=v28||v27;aa (bh x0) fun (t_3:Bool)=>bif !t_3 then bif v15 then bif v15 then bif v16&&v16 then bif v16 then bif v22 then bif v22 then bif v23 then bif v23 then bif v23 then bif v30 then bif v30 then some (bif v26 then decide (t_2.2.1=1) else false) else none else none else none else none else none else none else none else none else none else none else none else aa (bK x0 x1) fun (t_4:Int) =>
 let v34:Bool:=decide (t_4<0);
 let v35:Bool:=!v34;
 let v36:Bool:=v34&&!v19;
 let v37:Bool:=v27&&v35;
 let v38:Bool:=!v37;
 let v39:Bool:=v37&&v18;
 let v40:Bool:=v35||v34;
 let v41:Bool:=v38||v37;bif v40&&v40 then bif v40 then bif !v36||v36 then bif (v35||v40)&&(v35||(v19||(v35||v36))) then bif v40 then bif bif v34 then bif v19 then true else !decide (t_1.2.1=9) else false then some false else aa (jO x0) fun (t_5:Bool) =>
 let v43:Bool:=!t_5;
 let v44:Bool:=!v43;
 let v45:Bool:=v43&&!v13;
 let v46:Bool:=v44||v43;bif v46 then bif v46 then bif v46 then bif !v45||v45 then bif (v44||v46)&&(v44||(v13||(v44||v45))) then bif v46 then bif bif v43 then bif v13 then true else !decide (t.2.1=5) else false then some false else aa (gK x0) fun (t_6:Bool)=>bif !t_6 then bif v29 then bif v29 then bif v31 then bif v31 then bif v41&&v41 then bif v41 then bif !v39||v39 then bif (v38||v41)&&(v38||(v19||(v38||v39))) then bif (v28||v31)&&(v28||(v34||(v28||v37))) then bif v31 then some (bif v27 then bif v34 then true else bif v18 then decide (t_1.2.1=5) else false else false) else none else none else none else none else none else none else none else none else none else none else aa (jf x0) fun (t_7:Bool)=>bif !t_7 then some true else aa (cE x0) fun (t_8:List Int)=>aa (aV x0 t_8) fun (t_9 : List Int×List (List Int×Int×Int))=>aa (dC t_9) fun (t_10:(Int×Int)×Int×PUnit) =>
 let v52:Bool:=!decide (t.2.1=t_10.2.1);
 let v53:Bool:=!v52;
 let v54:Bool:=!v53;
 let v55:Bool:=v53&&v11;
 let v56:Bool:=v54||v53;
 let v57:Bool:=!v55||v55;bif v56 then bif v56 then bif v57 then bif v57 then bif (v54||v56)&&(v54||(!v11||(v54||v55))) then bif v52||v53 then bif bif v52 then true else bif v11 then v13 else false then some false else jn PUnit Bool (fun (_:PUnit)=>aa (jd x0) fun (t:List ByteArray×Int×PUnit)=>aa (aR t_2.1 t.1) fun (t_11:Bool) =>
 let v61:Bool:=!t_11;
 let v62:Bool:=!v61;
 let v63:Bool:=!v62||v62;bif v63&&v63 then bif v61||v62 then bif bif v61 then true else !decide (t_2.2.1=t.2.1) then some false else bif v34 then some true else aa (i9 x0 t_4) fun (t:(Int×Int)×Int×PUnit) =>
 let v65:Bool:=decide (t_1.1.1=t.1.1)&&(decide (t_1.1.2=t.1.2)&&true);
 let v66:Bool:=!v65||v65;bif v66&&v66 then bif v66 then some (bif v65 then decide (t_1.2.1=t.2.1) else false) else none else none else none else none) fun (j:PUnit -> Option Bool)=>bif v10 then aa (bi t.1) fun (t_11:(Int×Int)×Int×PUnit) =>
 let v60:Bool:=!decide (t_11.2.1=0);
 let v61:Bool:=!v60;
 let v62:Bool:=!v61||v61;
 let v63:Bool:=bif v60 then true else !(decide (t_11.1.1=t_10.1.1)&&(decide (t_11.1.2=t_10.1.2)&&true));
 let v64:Bool:=!v63;
 let v65:Bool:=!v64||v64;bif v62&&v62 then bif v60||v61 then bif v65 then bif v65 then bif v65 then bif v65&&v65 then bif v63||v64 then bif bif v63 then true else !decide ((↑t.1.length:Int)=(↑x0.2.length:Int)) then some false else j PUnit.unit else none else none else none else none else none else none else none else j PUnit.unit else none else none else none else none else none else none else none else none else none else none else none else none else none else none else none else none else none else none else none else none
def tK (x0:(List (ByteArray×Int))×List (ByteArray×(List (ByteArray×Int×Int×Int))×Bool)) (x1:ByteArray):Option Bool:=ly lpK jnK aE b9 aF aK a7 bK bh aV cE jO gK jf dC bi jd aR i9 x0 x1
def c4:Ctr:=⟨[T25,.str],[],[],.one .bool,fun x _ _=>tK x.1 x.2.1⟩
theorem e4 (lp:Lp) (jn:Jn) (aE:t19) (b9:t20) (aF:t21) (aK:t9) (a7:t10) (bK:t22) (bh:t13) (aV:t15) (cE:t16) (jO:t23) (gK:t24) (jf:t25) (dC:t26) (bi:t27) (jd:t28) (aR:t29) (i9:t30):∀(x:TsS c4.as) (F:TsF c4.fs) (y:TsS c4.cs),ly lp jn aE b9 aF aK a7 bK bh aV cE jO gK jf dC bi jd aR i9 x.1 x.2.1=cb lp jn (cx [(30,⟨[T25,i64],[],[],.tup [T49,i64],fun x _ _=>i9 x.1 x.2.1⟩),(29,k29 aR),(28,⟨[T25],[],[],.tup [(.sl .str),i64],fun x _ _=>jd x.1⟩),(27,k27 bi),(26,k26 dC),(25,⟨[T25],[],[],.one .bool,fun x _ _=>jf x.1⟩),(24,⟨[T25],[],[],.one .bool,fun x _ _=>gK x.1⟩),(23,⟨[T25],[],[],.one .bool,fun x _ _=>jO x.1⟩),(16,k16 cE),(15,k15 aV),(13,k13 bh),(22,k22 bK),(10,k10 a7),(9,k9 aK),(21,k21 aF),(20,k20 b9),(19,k19 aE)] [(134,bF)]) ao 4 4 f4 c4 x F y:=fun x F y=>by kernel_rfl
def nM (lp:Lp) (_:Jn) (x0:(List (ByteArray×Int))×List (ByteArray×(List (ByteArray×Int×Int×Int))×Bool)):Option ((List (ByteArray×Int))×List (ByteArray×(List (ByteArray×Int×Int×Int))×Bool)) :=
 
 let v3:List (ByteArray×List (ByteArray×Int×Int×Int)×Bool):=[];bif dR (0+List.length x0.1) 24 then lp (Int×List (ByteArray×Int)×List (ByteArray × List (ByteArray×Int×Int×Int)×Bool)×PUnit) (List (ByteArray×Int)×List (ByteArray×List (ByteArray×Int×Int×Int)×Bool)) (fun (again:Int×List (ByteArray×Int) × List (ByteArray×List (ByteArray×Int×Int×Int)×Bool)×PUnit->Option (List (ByteArray×Int)×List (ByteArray×List (ByteArray×Int×Int×Int)×Bool))) (x:Int×List (ByteArray×Int)×List (ByteArray×List (ByteArray×Int×Int×Int)×Bool)×PUnit) =>
 let v6:ByteArray×List (ByteArray×Int×Int×Int)×Bool:=x0.2.getD x.1.toNat ({ data:={ toList:=[] } },[],false);bif decide (x.1<(↑x0.2.length : Int)) then bif inB x.1 x0.2.length then bif dR (0+List.length v6.2.1) 40 then bif dR (List.length x.2.2.1+1) 48 then again (IntKind.wrap .i64 (x.1+1),x.2.1,x.2.2.1++v6 ::v3,PUnit.unit) else none else none else none else some (x.2.1,x.2.2.1)) (0,x0.1, v3,PUnit.unit) else none
def cW (x0:(List (ByteArray×Int))×List (ByteArray×(List (ByteArray×Int×Int×Int))×Bool)):Option ((List (ByteArray×Int))×List (ByteArray×(List (ByteArray×Int×Int×Int))×Bool)):=nM lpK jnK x0
abbrev t31:=((List (ByteArray×Int))×List (ByteArray×(List (ByteArray×Int×Int×Int))×Bool))->Option ((List (ByteArray×Int))×List (ByteArray×(List (ByteArray×Int×Int×Int))×Bool))
set_option maxRecDepth 100000
def im (_:Lp) (_:Jn) (bB:t34) (x0:Int×Int):Option Bool :=
 aa (bB 0) fun (t:Int×Int)=>some !(decide (x0.1=t.1)&&(decide (x0.2=t.2)&&true))
def bm (x0:Int×Int):Option Bool:=im lpK jnK bB x0
abbrev t33:=(Int×Int)->Option (Bool)
def c33:Ctr:=⟨[T49],[],[],.one .bool,fun x _ _=>bm x.1⟩
theorem e33 (lp:Lp) (jn:Jn) (bB:t34):∀(x:TsS c33.as) (F:TsF c33.fs) (y:TsS c33.cs),im lp jn bB x.1=cb lp jn (cx [(34,k34 bB)] [(134,bF)]) ao 4 33 f33 c33 x F y:=fun x F y=>by kernel_rfl
theorem SU:c33.ok prog 33:=Ctr.of_den (au (ai (bQ) (by kernel_rfl) PQ)) aW (hl:=ao) (d:=4) func33 rfl (by decide) (e33 lpK jnK bB)
def lX (lp:Lp) (jn:Jn) (aj:t32) (ba:t35) (aE:t19) (aF:t21) (aK:t9) (a7:t10) (bh:t13) (bi:t27) (aR:t29) (cW:t31) (bm:t33) (x0:(List (ByteArray×Int))×List (ByteArray×(List (ByteArray×Int×Int×Int))×Bool)):Option Bool :=
 aa aK fun (t:Bool)=>bif !t then some false else aa (a7 x0 []) fun (t:Bool) =>
 let v5:Bool:=!t;
 let v6:Bool:=!v5;
 let v7:Bool:=!v6||v6;bif v7 then aa (bif v6 then bh x0 else some false) fun (t:Bool)=>bif v7 then bif v5||v6 then bif bif v5 then true else !t then some true else aa (cW x0) fun (t:List (ByteArray×Int)×List (ByteArray×List (ByteArray×Int×Int×Int)×Bool))=>aa (cW x0) fun (t_1:List (ByteArray×Int)×List (ByteArray×List (ByteArray×Int×Int×Int)×Bool))=>lp (Int×PUnit) Bool (fun (again:Int×PUnit->Option Bool) (x:Int×PUnit)=>bif decide (x.1<(↑x0.1.length:Int)) then bif inB x.1 t.1.length then none else none else aa (aE t) fun (t:List (Int×Int)×Int×PUnit) =>
 let v14:Bool:=!decide (t.2.1=0);
 let v15:Bool:=!v14;
 let v16:Bool:=!v15||v15;
 let v17:Bool:=bif v14 then true else !decide ((↑t.1.length:Int)=(↑x0.2.length:Int));
 let v18:Bool:=!v17;jn PUnit Bool (fun (_:PUnit)=>aa (aE x0) fun (t:List (Int×Int)×Int×PUnit) =>
 let v21:Bool:=decide (t.2.1=5);
 let v22:Bool:=!v21;
 let v23:Bool:=!decide (t.2.1=0);
 let v24:Bool:=!v23;aa (aE t_1) fun (t_2:List (Int×Int)×Int×PUnit) =>
 let v26:Bool:=bif v21 then true else decide (t_2.2.1=5);
 let v27:Bool:=!v26;
 let v28:Bool:=decide (t.2.1=t_2.2.1);
 let v29:Bool:=!v28||v28;bif !v22||v22 then bif v21||v22 then bif !v27||v27 then bif v26||v27 then bif bif v26 then true else decide (t_2.2.1=1) then some true else bif !v24||v24 then bif v23||v24 then bif bif v23 then true else !decide (t_2.2.1=0) then bif v29 then bif v29 then some (bif v28 then decide (t.2.1=(22 : Int)) else false) else none else none else aa (bi t.1) fun (t:(Int×Int)×Int×PUnit) =>
 let v31:Bool:=!decide (t.2.1=0);
 let v32:Bool:=!v31;aa (bi t_2.1) fun (t_3:(Int×Int)×Int×PUnit) =>
 let v34:Bool:=bif v31 then true else !decide (t_3.2.1=0);
 let v35:Bool:=!v34;aa (ba t.1 t.1) fun (t:(Int×Int)×Int×PUnit) =>
 let v37:Bool:=bif v34 then true else !decide (t.2.1=0);
 let v38:Bool:=!v37;
 let v39:Bool:=!v38||v38;bif !v32||v32 then bif v31||v32 then bif !v35||v35 then bif v34||v35 then bif v39&&v39 then bif v37||v38 then bif bif v37 then true else !(decide (t_3.1.1=t.1.1)&&(decide (t_3.1.2=t.1.2)&&true)) then some false else aa (aF x0) fun (t:List ByteArray×Int×PUnit) =>
 let v41:Bool:=!decide (t.2.1=0);
 let v42:Bool:=!v41;aa (aF t_1) fun (t_4:List ByteArray×Int×PUnit) =>
 let v44:Bool:=bif v41 then true else !decide (t_4.2.1=0);
 let v45:Bool:=!v44;
 let v46:Bool:=!v45||v45;bif !v42||v42 then bif v41||v42 then bif v46&&v46 then aa (bif v45 then aR t.1 t_4.1 else some false) fun (t:Bool)=>bif v44 || v45 then some (bif v44 then true else t) else none else none else none else none else none else none else none else none else none else none else none else none else none else none else none else none) fun (j:PUnit->Option Bool)=>bif !decide (t.2.1=5) then bif v16 then bif v16 then bif v16 then bif v16&&v16 then bif v14||v15 then bif !v18||v18 then aa (bif v18 then aj t.1 fun (x:(Int×Int)×PUnit)=>bm x.1 else some false) fun (t:Bool)=>bif v17||v18 then bif bif v17 then true else t then some false else j PUnit.unit else none else none else none else none else none else none else none else j PUnit.unit) (0,PUnit.unit) else none else none else none
def tS (x0:(List (ByteArray×Int))×List (ByteArray×(List (ByteArray×Int×Int×Int))×Bool)):Option Bool:=lX lpK jnK aj ba aE aF aK a7 bh bi aR cW bm x0
def c5:Ctr:=⟨[T25],[],[],.one .bool,fun x _ _=>tS x.1⟩
theorem e5 (lp:Lp) (jn:Jn) (aj:t32) (ba:t35) (aE:t19) (aF:t21) (aK:t9) (a7:t10) (bh:t13) (bi:t27) (aR:t29) (cW:t31) (bm:t33):∀(x:TsS c5.as) (F:TsF c5.fs) (y:TsS c5.cs),lX lp jn aj ba aE aF aK a7 bh bi aR cW bm x.1=cb lp jn (cx [(33,⟨[T49],[],[],.one .bool,fun x _ _=>bm x.1⟩),(31,⟨[T25],[],[],.one T25,fun x _ _=>cW x.1⟩),(29,k29 aR),(27,k27 bi),(13,k13 bh),(10,k10 a7),(9,k9 aK),(21,k21 aF),(19,k19 aE),(35,k35 ba),(32,k32 aj)] [(134,bF)]) ao 4 5 f5 c5 x F y:=fun x F y=>by kernel_rfl
def tv (lp:Lp) (jn:Jn) (bz:t91) (cO:LM) (b6:LO) (bn:LN) (aH:LV) (a9:L8) (x0:(List Int)×List ((List Int)×Int×Int)):Option ((List (Int×Int))×Int×Unit) :=
 aa (bz x0) fun (t:Bool)=>bif !t then some ([],1,PUnit.unit) else aa (cO x0) fun (t:Bool)=>bif !t then some ([],5,PUnit.unit) else lp (Int×Int×PUnit) (List (Int×Int)×Int×PUnit) (fun (again:Int×Int×PUnit->Option (List (Int×Int)×Int×PUnit)) (x:Int×Int×PUnit) =>
 let v7:Int×PUnit:=(IntKind.wrap .i64 (x.2.1+1),PUnit.unit);
 let v8:Int:=IntKind.wrap .i64 ((↑x0.1.length:Int)+x.1);bif decide (x.2.1<(↑x0.2.length:Int)) then bif inB x.2.1 x0.2.length then bif !decide ((x0.2.getD x.2.1.toNat ([],0,0)).2.1=3) then again (IntKind.wrap .i64 (x.1+1),v7) else again (x.1, v7) else none else aa (b6 x0.1) fun (t:List Int)=>lp (Int×Int×(List Nat×List (Option (List Int)))×Int×List Int×List Int×List Int×Int×Int × PUnit) (List (Int×Int)×Int×PUnit) (fun (again:Int×Int×(List Nat×List (Option (List Int)))×Int×List Int×List Int×List Int×Int×Int×PUnit->Option (List (Int × Int)×Int×PUnit)) (x:Int×Int×(List Nat×List (Option (List Int)))×Int×List Int×List Int×List Int×Int×Int×PUnit) =>
 let v12:Int:=IntKind.wrap .i64 (x.1+1);
 let v13:List Int×Int×Int:=x0.2.getD x.2.1.toNat ([],0,0);
 let v14:List Int:=List.replicate (Int.toNat (IntKind.wrap .i64 (x.2.2.2.2.2.2.2.2.1+1))) 0;
 let v15:Bool:=inB x.1 (Int.toNat (IntKind.wrap .i64 (x.2.2.2.2.2.2.2.2.1+1)));
 let v16:Bool:=Nat.ble (Nat.succ x.1.toNat) (Int.toNat (IntKind.wrap .i64 (x.2.2.2.2.2.2.2.2.1+1)));
 let v17:Int:=IntKind.wrap .i64 (x.2.2.2.2.2.2.2.1+x.2.1);
 let v18:List Int:=List.take (Int.toNat (IntKind.wrap .i64 (x.2.2.2.2.2.2.2.2.1+1))) v13.1;
 let v19:List Int:=List.set (List.take 0 v14++v18++List.drop (0+List.length v18) v14) x.2.2.2.2.2.2.2.2.1.toNat v13.2.2;bif decide (x.2.1<(↑x0.2.length:Int)) then bif inB x.2.1 x0.2.length then bif decide (0<=IntKind.wrap .i64 (x.2.2.2.2.2.2.2.2.1+(1 : Int)))&&dR (Int.toNat (IntKind.wrap .i64 (x.2.2.2.2.2.2.2.2.1+1))) 8 then bif inB x.2.2.2.2.2.2.2.2.1 (Int.toNat (IntKind.wrap .i64 (x.2.2.2.2.2.2.2.2.1+1))) then bif Nat.ble (Nat.succ x.2.2.2.2.2.2.2.2.1.toNat) (Int.toNat (IntKind.wrap IntKind.i64 (x.2.2.2.2.2.2.2.2.1+1))) then jn (Int×List Int×PUnit) (List (Int×Int)×Int×PUnit) (fun (x_1:Int×List Int×PUnit) =>
 let v21:List Int×PUnit:=(x_1.2.1,PUnit.unit);jn (Int×List Int×PUnit) (List (Int×Int)×Int×PUnit) (fun (x_2:Int×List Int×PUnit)=>bif inB v17 x_2.2.1.length then bif Nat.ble (Nat.succ v17.toNat) x_2.2.1.length then bif dR (List.length x.2.2.1.1+1) 24 then bif dR (List.length x.2.2.2.2.2.1+1) 8 then bif dR (List.length x.2.2.2.2.1+1) 8 then again (x_1.1,IntKind.wrap .i64 (x.2.1+(1 : Int)),(x.2.2.1.1++[List.length x.2.2.1.2+0],x.2.2.1.2++[some (x_2.2.1.set v17.toNat 1)]),x.2.2.2.1, x.2.2.2.2.1++[v17],x.2.2.2.2.2.1++[x_2.1],x.2.2.2.2.2.2.1,x.2.2.2.2.2.2.2.1,x.2.2.2.2.2.2.2.2.1, PUnit.unit) else none else none else none else none else none) fun (j:Int×List Int×PUnit->Option (List (Int×Int)×Int×PUnit))=>bif decide (v13.2.2<0) then lp (Int×List Int×PUnit) (List (Int×Int)×Int×PUnit) (fun (again:Int×List Int×PUnit->Option (List (Int×Int)×Int×PUnit)) (x:Int×List Int×PUnit) =>
 let v25:Bool:=inB x.1 x.2.1.length;
 let v26:Bool:=Nat.ble (Nat.succ x.1.toNat) x.2.1.length;bif decide (x.1<(↑x_1.2.1.length:Int)) then bif v25 then bif v26 then bif v25 then bif v26 then again (IntKind.wrap .i64 (x.1+1),x.2.1.set x.1.toNat (IntKind.wrap .i64 (0 - x.2.1.getD x.1.toNat 0)), PUnit.unit) else none else none else none else none else j ((-1),x.2.1,PUnit.unit)) (0,v21) else j (1,v21)) fun (j:Int×List Int×PUnit->Option (List (Int×Int)×Int×PUnit))=>bif decide (v13.2.1=1) then bif v15 then bif v16 then j (v12,v19.set x.1.toNat 1,PUnit.unit) else none else none else jn (Int×List Int×PUnit) (List (Int×Int)×Int×PUnit) (fun (x:Int×List Int×PUnit)=>j (x.1,x.2.1,PUnit.unit)) fun (j:Int×List Int×PUnit->Option (List (Int × Int)×Int×PUnit))=>bif decide (v13.2.1=2) then bif v15 then bif v16 then j (v12,v19.set x.1.toNat (-1),PUnit.unit) else none else none else j (x.1,v19,PUnit.unit) else none else none else none else none else aa (bn x.2.2.1 x.2.2.2.1 x.2.2.2.2.1 x.2.2.2.2.2.1 x.2.2.2.2.2.2.1 x.2.2.2.2.2.2.2.1 x.2.2.2.2.2.2.2.2.1) fun (y:(List Nat×List (Option (List Int)))×Int×List Int×List Int×List Int×Int×Int×Bool×PUnit)=>bif y.2.2.2.2.2.2.2.1 then some ([],12,PUnit.unit) else lp (List (Int×Int)×Int×PUnit) (List (Int×Int)×Int×PUnit) (fun (again:List (Int×Int)×Int×PUnit->Option (List (Int×Int)×Int×PUnit)) (x:List (Int×Int)×Int×PUnit)=>bif decide (x.2.1<(↑x0.2.length:Int)) then bif inB x.2.1 y.2.2.2.1.length then bif Nat.ble (Nat.succ x.2.1.toNat) y.2.2.2.1.length then aa (bif List.all y.1.1 fun (x:Nat) =>eD y.1.2 x then aH (List.map (fun (x:Nat)=>ah y.1.2 x) y.1.1,y.2.1,y.2.2.1,y.2.2.2.1,y.2.2.2.2.1, y.2.2.2.2.2.1,y.2.2.2.2.2.2.1) (IntKind.wrap .i64 (y.2.2.2.2.2.1+x.2.1)) else none) fun (t:Int)=>aa (bif List.all y.1.1 fun (x:Nat)=>eD y.1.2 x then a9 (List.map (fun (x:Nat)=>ah y.1.2 x) y.1.1,y.2.1,y.2.2.1,y.2.2.2.1,y.2.2.2.2.1, y.2.2.2.2.2.1,y.2.2.2.2.2.2.1) (IntKind.wrap .i64 (y.2.2.2.1.getD x.2.1.toNat 0*t)) else none) fun (t:Int×Int) => bif dR (List.length x.1+1) 16 then again (x.1++[t],IntKind.wrap .i64 (x.2.1+1),PUnit.unit) else none else none else none else some (x.1,0,PUnit.unit)) ([],0,PUnit.unit)) ((↑x0.1.length:Int),0,([],[]),1,[],[],t,v8,IntKind.wrap .i64 (v8+(↑x0.2.length:Int)),PUnit.unit)) (0,0,PUnit.unit)
def lF (x0:(List Int)×List ((List Int)×Int×Int)):Option ((List (Int×Int))×Int×Unit):=tv lpK jnK bz cO b6 bn aH a9 x0
abbrev t83:=((List Int)×List ((List Int)×Int×Int))->Option ((List (Int×Int))×Int×Unit)
def xb (_:Lp) (_:Jn) (aU:t11) (lF:t83) (x0:(List (ByteArray×Int))×List (ByteArray×(List (ByteArray×Int×Int×Int))×Bool)):Option ((List (Int×Int))×Int×Unit) :=
 aa (aU x0) fun (t:(List Int×List (List Int×Int×Int))×Int×PUnit)=>bif !decide (t.2.1=0) then some ([],t.2.1,PUnit.unit) else aa (lF t.1) fun (t:List (Int×Int)×Int×PUnit)=>some (t.1,t.2.1,PUnit.unit)
def cX (x0:(List (ByteArray×Int))×List (ByteArray×(List (ByteArray×Int×Int×Int))×Bool)):Option ((List (Int×Int))×Int×Unit):=xb lpK jnK aU lF x0
abbrev t36:=((List (ByteArray×Int))×List (ByteArray×(List (ByteArray×Int×Int×Int))×Bool))->Option ((List (Int×Int))×Int×Unit)
def k36 (cX:t36):Ctr:=⟨[T25],[],[],.tup [(.sl T49),i64],fun x _ _=>cX x.1⟩
def sU (_:Lp) (_:Jn) (aw:t72) (x0:Int×Int):Option Bool :=
 aa (aw x0) fun (t:Bool)=>some !t
def kI (x0:Int×Int):Option Bool:=sU lpK jnK aw x0
abbrev S5:=(Int×Int)->Option (Bool)
def uI (_:Lp) (_:Jn) (ce:t87) (aj:t32) (kI:S5) (x0:(List (ByteArray×Int))×List (ByteArray×(List (ByteArray×Int×Int×Int))×Bool)) (x1:List (Int×Int)):Option ((List (List Int))×Int×Unit) :=
 aa (ce x0) fun (t:List (List Int)×Int×PUnit)=>bif !decide (t.2.1=0) then some ([],t.2.1,PUnit.unit) else aa (aj x1 fun (x : (Int×Int)×PUnit)=>kI x.1) fun (t_1:Bool)=>bif t_1 then some ([],1,PUnit.unit) else bif !decide ((↑x1.length:Int)=(↑x0.2.length : Int)) then some ([],3,PUnit.unit) else some (t.1,0,PUnit.unit)
def mz (x0:(List (ByteArray×Int))×List (ByteArray×(List (ByteArray×Int×Int×Int))×Bool)) (x1:List (Int×Int)):Option ((List (List Int))×Int×Unit):=uI lpK jnK ce aj kI x0 x1
abbrev S0:=((List (ByteArray×Int))×List (ByteArray×(List (ByteArray×Int×Int×Int))×Bool))->(List (Int×Int))->Option ((List (List Int))×Int×Unit)
def y5 (_:Lp) (_:Jn) (x0:Int):Option (Int×Int) :=
 some (x0,1)
def iZ (x0:Int):Option (Int×Int):=y5 lpK jnK x0
abbrev Ss:=(Int)->Option (Int×Int)
def vV (_:Lp) (_:Jn) (ba:t35) (fp:LL) (iZ:Ss) (x0:Int×Int) (x1:Int) (x2:Int×Int):Option ((Int×Int)×Int×Unit) :=
 aa (iZ x1) fun (t:Int×Int)=>aa (fp t x2) fun (t:(Int×Int)×Int×PUnit)=>bif !decide (t.2.1=0) then some ((0,0),t.2.1, PUnit.unit) else aa (ba x0 t.1) fun (t:(Int×Int)×Int×PUnit)=>some (t.1,t.2.1,PUnit.unit)
def ol (x0:Int×Int) (x1:Int) (x2:Int×Int):Option ((Int×Int)×Int×Unit):=vV lpK jnK ba fp iZ x0 x1 x2
abbrev T6:=(Int×Int)->(Int)->(Int×Int)->Option ((Int×Int)×Int×Unit)
def AP (_:Lp) (_:Jn) (aw:t72) (ba:t35) (x0:Int×Int) (x1:Int×Int):Option ((Int×Int)×Int×Unit) :=
 aa (aw x0) fun (t:Bool) =>
 let v5:Bool:=!t;
 let v6:Bool:=!v5;
 let v7:Bool:=!v6||v6;bif v7 then aa (bif v6 then aw x1 else some false) fun (t:Bool)=>bif v7 then bif v5||v6 then bif bif v5 then true else !t then some (((0 : Int),0),1,PUnit.unit) else aa (ba x0 (IntKind.wrap .i64 (0 - x1.1),x1.2)) fun (t:(Int×Int)×Int×PUnit)=>some (t.1,t.2.1, PUnit.unit) else none else none else none
def tP (x0:Int×Int) (x1:Int×Int):Option ((Int×Int)×Int×Unit):=AP lpK jnK aw ba x0 x1
abbrev SL:=(Int×Int)->(Int×Int)->Option ((Int×Int)×Int×Unit)
def qx (lp:Lp) (_:Jn) (mz:S0) (iZ:Ss) (ol:T6) (tP:SL) (x0:(List (ByteArray×Int))×List (ByteArray×(List (ByteArray×Int×Int×Int))×Bool)) (x1:List (Int×Int)):Option ((List (Int×Int))×Int×Unit) :=
 aa (mz x0 x1) fun (t:List (List Int)×Int×PUnit)=>bif !decide (t.2.1=0) then some ([],t.2.1,PUnit.unit) else lp (List (Int×Int)×Int×Int × PUnit) (List (Int×Int)×Int×PUnit) (fun (again:List (Int×Int)×Int×Int×PUnit->Option (List (Int×Int)×Int×PUnit)) (x:List (Int×Int)×Int×Int×PUnit) =>
 let v7:List Int:=t.1.getD x.2.2.1.toNat [];bif decide (x.2.2.1<(↑t.1.length:Int)) then aa (iZ 0) fun (t_1:Int×Int)=>lp (Int×(Int×Int)×PUnit) (List (Int×Int)×Int×PUnit) (fun (again_1:Int×(Int×Int)×PUnit->Option (List (Int×Int)×Int×PUnit)) (x_1:Int×(Int×Int)×PUnit) => bif decide (x_1.1<(↑x1.length:Int)) then bif inB x.2.2.1 t.1.length then bif inB x_1.1 v7.length then bif inB x_1.1 x1.length then aa (ol x_1.2.1 (v7.getD x_1.1.toNat 0) (x1.getD x_1.1.toNat (0,0))) fun (t:(Int×Int)×Int×PUnit) =>
 let v12:Bool:=!decide (t.2.1=0);bif v12 then bif v12 then some ([],t.2.1,PUnit.unit) else some (x.1,0,PUnit.unit) else again_1 (IntKind.wrap IntKind.i64 (x_1.1+1),t.1,PUnit.unit) else none else none else none else bif inB x.2.2.1 x0.1.length then aa (iZ (x0.1.getD x.2.2.1.toNat ({ data:={ toList:=[] } },0)).2) fun (t:Int×Int)=>aa (tP t x_1.2.1) fun (t:(Int×Int)×Int×PUnit) =>
 let v13:Bool:=!decide (t.2.1=0);bif v13 then bif v13 then some ([],t.2.1,PUnit.unit) else some (x.1,0,PUnit.unit) else bif dR (List.length x.1 + 1) 16 then again (x.1++[t.1],t.2.1,IntKind.wrap .i64 (x.2.2.1+1),PUnit.unit) else none else none) (0,t_1,PUnit.unit) else bif !decide (x.2.1=0) then some ([],x.2.1,PUnit.unit) else some (x.1,0,PUnit.unit)) ([],0,0,PUnit.unit)
def jG (x0:(List (ByteArray×Int))×List (ByteArray×(List (ByteArray×Int×Int×Int))×Bool)) (x1:List (Int×Int)):Option ((List (Int×Int))×Int×Unit):=qx lpK jnK mz iZ ol tP x0 x1
abbrev t84:=((List (ByteArray×Int))×List (ByteArray×(List (ByteArray×Int×Int×Int))×Bool))->(List (Int×Int))->Option ((List (Int×Int))×Int×Unit)
def sf (_:Lp) (_:Jn) (x0:Int×Int):Option Bool :=
 some !decide (x0.1=0)
def kC (x0:Int×Int):Option Bool:=sf lpK jnK x0
abbrev t85:=(Int×Int)->Option (Bool)
def uS (_:Lp) (_:Jn) (aj:t32) (jG:t84) (kC:t85) (x0:(List (ByteArray×Int))×List (ByteArray×(List (ByteArray×Int×Int×Int))×Bool)) (x1:List (Int×Int)):Option (Bool×Int×Unit) :=
 aa (jG x0 x1) fun (t:List (Int×Int)×Int×PUnit)=>bif !decide (t.2.1=0) then some (false,t.2.1,PUnit.unit) else aa (aj t.1 fun (x:(Int×Int)×PUnit)=>kC x.1) fun (t:Bool)=>some (!t,0,PUnit.unit)
def cK (x0:(List (ByteArray×Int))×List (ByteArray×(List (ByteArray×Int×Int×Int))×Bool)) (x1:List (Int×Int)):Option (Bool×Int×Unit):=uS lpK jnK aj jG kC x0 x1
abbrev t37:=((List (ByteArray×Int))×List (ByteArray×(List (ByteArray×Int×Int×Int))×Bool))->(List (Int×Int))->Option (Bool×Int×Unit)
def k37 (cK:t37):Ctr:=⟨[T25,(.sl T49)],[],[],.tup [.bool,i64],fun x _ _=>cK x.1 x.2.1⟩
def tq (lp:Lp) (_:Jn) (x0:List (Int×Int)):Option Bool :=
 lp (Int×PUnit) Bool (fun (again:Int×PUnit->Option Bool) (x:Int×PUnit)=>bif decide (x.1<(↑x0.length:Int)) then bif inB x.1 x0.length then bif decide ((x0.getD x.1.toNat (0,0)).1<0) then some false else again (IntKind.wrap .i64 (x.1+1),PUnit.unit) else none else some true) (0,PUnit.unit)
def cz (x0:List (Int×Int)):Option Bool:=tq lpK jnK x0
abbrev t38:=(List (Int×Int))->Option (Bool)
def k38 (cz:t38):Ctr:=⟨[(.sl T49)],[],[],.one .bool,fun x _ _=>cz x.1⟩
def lB (_:Lp) (_:Jn) (a8:t12) (aE:t19) (aK:t9) (a7:t10) (cX:t36) (cK:t37) (cz:t38) (x0:(List (ByteArray×Int))×List (ByteArray×(List (ByteArray×Int×Int×Int))×Bool)):Option Bool :=
 aa aK fun (t:Bool)=>bif !t then some false else aa (a7 x0 []) fun (t:Bool)=>bif !t then some true else aa (aE x0) fun (t:List (Int×Int)×Int × PUnit) =>
 let v6:Bool:=decide (t.2.1=1);
 let v7:Bool:=decide ((↑t.1.length:Int)=0);
 let v8:Bool:=!v7||v7;aa (cX x0) fun (t_1:List (Int×Int)×Int×PUnit) =>
 let v10:Bool:=bif v7 then decide (t_1.2.1=0) else false;
 let v11:Bool:=decide ((↑t_1.1.length:Int)=0);
 let v12:Bool:=bif v7 then decide (t_1.2.1=t.2.1) else false;
 let v13:Bool:=!v10||v10;
 let v14:Bool:=bif v12 then v11 else false;
 let v15:Bool:=!v14;
 let v16:Bool:=v14&&!v6;
 let v17:Bool:=!v12||v12;
 let v18:Bool:=v15||v14;bif decide (t.2.1=0) then aa (cK x0 t.1) fun (t_2:Bool×Int×PUnit)=>aa (cz t.1) fun (t:Bool) =>
 let v21:Bool:=!t||t;
 let v22:Bool:=bif t then decide (t_2.2.1=0) else false;
 let v23:Bool:=bif v22 then t_2.1 else false;
 let v24:Bool:=bif v23 then decide (t_1.2.1=12) else false;
 let v25:Bool:=!v23||v23;
 let v26:Bool:=!v24||v24;bif v21 then bif v21 then bif !v22||v22 then bif v25 then bif v25 then bif v26 then bif v26 then bif v26 then some (bif v24 then v11 else false) else none else none else none else none else none else none else none else none else bif decide (t.2.1=22) then aa (a8 x0 t_1.1) fun (t:Bool×Int×PUnit) =>
 let v20:Bool:=bif v10 then decide (t.2.1=0) else false;bif v8 then bif v8 then bif v13 then bif v13 then bif !v20||v20 then some (bif v20 then t.1 else false) else none else none else none else none else none else bif v8&&v8 then bif v8 then bif v17 then bif v17 then bif v17 then bif v18 then bif v18 then bif !v16||v16 then bif (v15||v18) && (v15||(v6||(v15||v16))) then bif v18 then some (bif v14 then bif v6 then true else decide (t.2.1=5) else false) else none else none else none else none else none else none else none else none else none else none
def td (x0:(List (ByteArray×Int))×List (ByteArray×(List (ByteArray×Int×Int×Int))×Bool)):Option Bool:=lB lpK jnK a8 aE aK a7 cX cK cz x0
def c6:Ctr:=⟨[T25],[],[],.one .bool,fun x _ _=>td x.1⟩
theorem e6 (lp:Lp) (jn:Jn) (a8:t12) (aE:t19) (aK:t9) (a7:t10) (cX:t36) (cK:t37) (cz:t38):∀(x:TsS c6.as) (F:TsF c6.fs) (y:TsS c6.cs),lB lp jn a8 aE aK a7 cX cK cz x.1=cb lp jn (cx [(38,k38 cz),(37,k37 cK),(36,k36 cX),(10,k10 a7),(9,k9 aK),(19,k19 aE),(12,k12 a8)] [(134,bF)]) ao 4 6 f6 c6 x F y:=fun x F y=>by kernel_rfl
def sj (lp:Lp) (_:Jn) (x0:List ByteArray) (x1:ByteArray):Option Int :=
 lp (Int×PUnit) Int (fun (again:Int×PUnit->Option Int) (x:Int×PUnit)=>bif decide (x.1<(↑x0.length:Int)) then bif inB x.1 x0.length then bif List.beq (ByteArray.toList x1) (ByteArray.toList (x0.getD x.1.toNat { data:={ toList:=[] } })) then some x.1 else again (IntKind.wrap .i64 (x.1+1), PUnit.unit) else none else some (-1)) (0,PUnit.unit)
def kH (x0:List ByteArray) (x1:ByteArray):Option Int:=sj lpK jnK x0 x1
abbrev t86:=(List ByteArray)->(ByteArray)->Option (Int)
def pF (_:Lp) (_:Jn) (kH:t86) (x0:List ByteArray) (x1:ByteArray):Option Bool :=
 aa (kH x0 x1) fun (t:Int)=>some (decide (t>=0))
def c8 (x0:List ByteArray) (x1:ByteArray):Option Bool:=pF lpK jnK kH x0 x1
abbrev t40:=(List ByteArray)->(ByteArray)->Option (Bool)
def k40 (c8:t40):Ctr:=⟨[(.sl .str),.str],[],[],.one .bool,fun x _ _=>c8 x.1 x.2.1⟩
def kQ (lp:Lp) (jn:Jn) (dS:t39) (a8:t12) (aE:t19) (b9:t20) (aF:t21) (aK:t9) (a7:t10) (bi:t27) (cX:t36) (cK:t37) (cz:t38) (c8:t40) (x0:(List (ByteArray×Int))×List (ByteArray×(List (ByteArray×Int×Int×Int))×Bool)) (x1:List (Int×Int)) (x2:List (Int×Int)):Option Bool :=
 aa aK fun (t:Bool)=>bif !t then some false else aa (a7 x0 x1) fun (t:Bool) =>
 let v7:Bool:=!t;
 let v8:Bool:=!v7;
 let v9:Bool:=!v8||v8;bif v9 then bif v9 then bif v7||v8 then bif bif v7 then true else decide ((↑x2.length:Int)>10) then some true else aa (cK x0 x1) fun (t:Bool×Int×PUnit) =>
 let v11:Bool:=!decide (t.2.1=0);
 let v12:Bool:=!v11;
 let v13:Bool:=bif v11 then true else !t.1;
 let v14:Bool:=!v13;
 let v15:Bool:=!v14||v14;bif !v12||v12 then bif v11||v12 then bif v15 then aa (bif v14 then cz x1 else some false) fun (t:Bool)=>bif v15 then bif v13||v14 then bif bif v13 then true else !t then some true else aa (a8 x0 x2) fun (t:Bool×Int×PUnit) =>
 let v18:Bool:=decide (t.2.1=0);bif !v18||v18 then bif bif v18 then t.1 else false then some false else aa (cX x0) fun (t:List (Int×Int)×Int × PUnit) =>
 let v20:Bool:=!decide (t.2.1=12);
 let v21:Bool:=!v20||v20;bif v21 then bif v21 then bif bif v20 then !decide (t.2.1=5) else false then some false else aa (aE x0) fun (t:List (Int×Int) × Int×PUnit)=>bif !decide (t.2.1=0) then some (decide (t.2.1=5)) else aa (bi x1) fun (t_1:(Int×Int)×Int×PUnit) =>
 let v24:Bool:=decide (t_1.2.1=0);
 let v25:Bool:=!v24||v24;aa (bi t.1) fun (t:(Int×Int)×Int×PUnit)=>bif v25 then bif v25 then jn PUnit Bool (fun (_:PUnit)=>aa (aF x0) fun (t : List ByteArray×Int×PUnit) =>
 let v29:Bool:=decide (t.2.1=0);
 let v30:Bool:=!v29||v29;lp (Int×PUnit) Bool (fun (again:Int×PUnit->Option Bool) (x:Int×PUnit) =>
 let v33:Bool:=inB x.1 x1.length;bif decide (x.1<(↑x0.2.length:Int)) then bif inB x.1 x0.2.length then aa (b9 x0 (x0.2.getD x.1.toNat ({ data:={ toList:=[] } },[],false)).1) fun (t_2:(Int×Int)×Int×PUnit) =>
 let v35:Bool:=!decide (t_2.2.1=0);
 let v36:Bool:=!v35;bif decide (t_2.2.1=5) then again (IntKind.wrap .i64 (x.1+1),PUnit.unit) else bif v33 then aa (dS t_2.1 (x1.getD x.1.toNat (0,0))) fun (t_3:Int×Int×PUnit) =>
 let v38:Bool:=bif v35 then true else !decide (t_3.2.1=0);
 let v39:Bool:=!v38;bif !v36||v36 then bif v35||v36 then bif !v39||v39 then bif v38||v39 then bif bif v38 then true else decide (t_3.1>0) then some false else bif v30 then bif v30&&v30 then aa (bif v29 then c8 t.1 (x0.2.getD x.1.toNat ({ data:={ toList:=[] } },[],false)).1 else some false) fun (t : Bool) =>
 let v41:Bool:=bif v29 then t else false;
 let v42:Bool:=!v41;
 let v43:Bool:=v42||v41;bif v30 then bif v43&&(v43&&(v42||v33)) then bif v43 then bif v43 then bif v43 then bif v43 then bif bif v41 then !decide ((x1.getD x.1.toNat (0,0)).1=0) else false then some false else again (IntKind.wrap .i64 (x.1+1),PUnit.unit) else none else none else none else none else none else none else none else none else none else none else none else none else none else none else some true) (0,PUnit.unit)) fun (j:PUnit->Option Bool)=>bif bif v24 then decide (t.2.1=0) else false then aa (dS t.1 t_1.1) fun (t:Int×Int×PUnit) =>
 let v29:Bool:=!decide (t.2.1=0);
 let v30:Bool:=!v29;bif !v30||v30 then bif v29||v30 then bif bif v29 then true else decide (t.1>0) then some false else j PUnit.unit else none else none else j PUnit.unit else none else none else none else none else none else none else none else none else none else none else none else none else none
def s7 (x0:(List (ByteArray×Int))×List (ByteArray×(List (ByteArray×Int×Int×Int))×Bool)) (x1:List (Int×Int)) (x2:List (Int×Int)):Option Bool:=kQ lpK jnK dS a8 aE b9 aF aK a7 bi cX cK cz c8 x0 x1 x2
def c7:Ctr:=⟨[T25,(.sl T49),(.sl T49)],[],[],.one .bool,fun x _ _=>s7 x.1 x.2.1 x.2.2.1⟩
theorem e7 (lp:Lp) (jn:Jn) (dS:t39) (a8:t12) (aE:t19) (b9:t20) (aF:t21) (aK:t9) (a7:t10) (bi:t27) (cX:t36) (cK:t37) (cz:t38) (c8:t40):∀(x:TsS c7.as) (F:TsF c7.fs) (y:TsS c7.cs),kQ lp jn dS a8 aE b9 aF aK a7 bi cX cK cz c8 x.1 x.2.1 x.2.2.1=cb lp jn (cx [(40,k40 c8),(38,k38 cz),(37,k37 cK),(36,k36 cX),(27,k27 bi),(10,k10 a7),(9,k9 aK),(21,k21 aF),(20,k20 b9),(19,k19 aE),(12,k12 a8),(39,k39 dS)] [(134,bF)]) ao 4 7 f7 c7 x F y:=fun x F y=>by kernel_rfl
end
end Go.Proofs.YtfknoaclabfdlaaGreat

namespace Go.Proofs.YtfknoaclabfdlaaGreat
namespace Dn
section
variable {T R α σ:Type}
theorem af {t:T} {k:T->Option R}:aa (some t) k=k t:=rfl
theorem AN {F:(α->Option R)->α->Option R} {g:α->Option R} (I:α->Prop) (μ:α->Nat)
  (h:∀x rec,I x->(∀y,I y->μ y<μ x->rec y=g y)->F rec x=g x):∀{n:Nat} {x:α},I x->μ x<n->i8 F n x=g x
 | 0,x,_,hn=>by omega
 | n+1,x,hx,hn=>by
  rw[gq]
  exact h x _ hx fun y hy hlt=>AN I μ h hy (by omega)
theorem jA {F:(α->Option R)->α->Option R} {g:α->Option R} (I:α->Prop) (μ:α->Nat)
  (h:∀x rec,I x->(∀y,I y->μ y<μ x->rec y=g y)->F rec x=g x) {x:α} (hx:I x) (hn:μ x<1180591620717411303424):lpK α R F x=g x:=AN I μ h hx hn
theorem sJ {j:α->Option R} {f:(α->Option R)->Option R}:jnK α R j f=f j:=rfl
theorem be {x:Int} (h1: -9223372036854775808<=x) (h2:x<9223372036854775808):IntKind.wrap .i64 x=x:=by
 rw[IntKind.wrap_i64];omega
def upF (b:Nat->σ->(σ->Option R)->Option R) (f:σ->Option R):Nat->Nat->σ->Option R
 | 0,_,s=>f s
 | k+1,i,s=>b i s (upF b f k (i+1))
theorem K7 {F:(α->Option R)->α->Option R} (n:Nat) (hn:n<=1180591620717411303423) (enc:Nat->σ->α) (b:Nat->σ->(σ->Option R)->Option R) (f:σ->Option R)
  (hb:∀again (i:Nat) s,i<n->F again (enc i s)=b i s (fun s'=>again (enc (i+1) s'))) (hf:∀again s,F again (enc n s)=f s) (s:σ) :
  i8 F K0 (enc 0 s)=upF b f n 0 s:=by
 have key:∀(k:Nat) (i:Nat) (m:Nat) (s:σ),i+k=n->k<m->i8 F m (enc i s)=upF b f k i s:=by
  intro k
  induction k with
  | zero =>
   intro i m s h1 h2
   obtain ⟨m,rfl⟩:∃m',m=m'+1:=⟨m - 1,by omega⟩
   have:i=n:=by omega
   subst this
   simp only[gq,hf,upF]
  | succ k ih =>
   intro i m s h1 h2
   obtain ⟨m,rfl⟩:∃m',m=m'+1:=⟨m - 1,by omega⟩
   simp only[gq,upF]
   rw[hb _ _ _ (by omega)]
   congr 1
   funext s'
   exact ih (i+1) m s' (by omega) (by omega)
 exact key n 0 K0 s (by omega) (by unfold K0;omega)
theorem bo {i n:Nat}:inB (i:Int) n=decide (i<n):=by
 rw[Bool.eq_iff_iff,jD,decide_eq_true_iff];omega
theorem ru {i:Int} {n:Nat} (h1:0<=i) (h2:i<n):inB i n=true:=jD.2 ⟨h1,h2⟩
theorem nP {n:Int} (h:n≠0):nzB n=true:=zX.2 h
theorem Lc {lo hi:Int} {n:Nat} (h1:0<=lo) (h2:lo<=hi) (h3:hi<=n):slB lo hi n=true:=qu.2 ⟨h1,h2,h3⟩
theorem fM {n k:Nat} (h:n*k<=140737488355328):dR n k=true:=kz.2 h
theorem di {n m:Nat} (h:n<=m):Nat.ble n m=true:=by rw[Nat.ble_eq];exact h
theorem cT0 {α:Sort _} {c:Bool} (h:c=true) (a b:α):cond c a b=a:=by subst h;rfl
theorem cT {α:Sort _} (a b:α):cond true a b=a:=cT0 (Eq.trans rfl rfl) a b
theorem cF0 {α:Sort _} {c:Bool} (h:c=false) (a b:α):cond c a b=b:=by subst h;rfl
theorem cF {α:Sort _} (a b:α):cond false a b=b:=cF0 (Eq.trans rfl rfl) a b
theorem ff {b:Bool}:(b||!b)=true:=by cases b<;>rfl
theorem aX {b:Bool}:(!b||b)=true:=by cases b<;>rfl
theorem iU {b:Bool} {c:Bool}:(bif b then c else false)=(b&&c):=by cases b<;>rfl
theorem Ha {b:Bool} {c:Bool}:(bif b then true else c)=(b||c):=by cases b<;>rfl
theorem M9 {a b:Int}:(if b>a then b else a)=max a b:=by omega
theorem bG {l:List α} {d:α} {i:Nat} (h:i<l.length):l.getD i d=l[i]:=by simp[List.getD,h]
end
end Dn
end Go.Proofs.YtfknoaclabfdlaaGreat

namespace Go.Proofs.YtfknoaclabfdlaaGreat
noncomputable section
open Tryz Dn Dn.Sh
theorem lf (a b:ByteArray):List.beq (ByteArray.toList a) (ByteArray.toList b)=decide (a=b):=by
 show (a.toList ==b.toList)=_
 rw[ByteArray.toList_eq,ByteArray.toList_eq,Bool.eq_iff_iff,decide_eq_true_iff,beq_iff_eq]
 exact ⟨fun h=>ByteArray.ext (Array.toList_inj.mp h),fun h=>by rw[h]⟩
theorem JK {α R:Type} {F:(α->Option R)->α->Option R} (I:α->Prop) (μ:α->Nat) (h:∀x rec,I x->(∀y,I y->μ y<μ x->(rec y).isSome=true)->(F rec x).isSome=true) {x:α} (hx:I x) (hn:μ x<1180591620717411303424):(lpK α R F x).isSome=true:=by
 have key:∀n x,I x->μ x<n->(i8 F n x).isSome=true:=by
  intro n
  induction n with
  | zero=>intro x _ h;omega
  | succ n ih =>
   intro x hx hn
   rw[gq]
   exact h x _ hx fun y hy hlt=>ih y hy (by omega)
 exact key _ x hx hn
theorem ua:bu=cm:=by
 funext c
 rfl
theorem C7:dH=fO:=by
 funext c
 rfl
theorem oY (c:Int):∃b,bu c=some b:=by
 simp only[bu,j9,aX,ff,cond_true]
 cases decide (c>=97)<;>cases decide (c<=122)<;>cases decide (c>=65)<;>exact ⟨_,rfl⟩
theorem CS (c:Int):∃b,dH c=some b:=by
 simp only[dH,kF,aX,cond_true]
 exact ⟨_,rfl⟩
theorem xI {s:ByteArray} (h:s.size<=1000000):∃n,dt s=some n:=by
 rw[<-Option.isSome_iff_exists]
 simp only[dt,jE]
 refine JK (I:=fun (x:Int×PUnit)=>0<=x.1/\x.1<=s.size) (μ:=fun (x:Int×PUnit)=>((s.size:Int) - x.1).toNat) (x:=((0:Int),PUnit.unit)) ?_ ⟨Int.le_refl _,by simp only;omega⟩ (by simp only;omega)
 rintro ⟨i,_⟩ rec ⟨h0,h1⟩ hrec
 simp only at h0 h1 ⊢
 by_cases hi:i<s.size
 ·rw[ru h0 hi,z7 hi]
  obtain ⟨b,hb⟩:=oY (eW s i.toNat)
  obtain ⟨c,hc⟩:=CS (eW s i.toNat)
  have hw:IntKind.wrap .i64 (i+1)=i+1:=be (by omega) (by omega)
  have hr:=hrec (i+1,PUnit.unit) ⟨by simp only;omega,by simp only;omega⟩ (by simp only;omega)
  simp only[hb,hc,hw]
  cases b<;>cases c<;>cases decide (eW s i.toNat=95)<;>simp[af,hr]
 ·rw[z8 hi]
  simp[af]
theorem GY (s:ByteArray):fU s 0=dt s:=by
 simp only[fU,nA,dt,jE,ua,C7]
def qT (s:ByteArray):Bool:=decide (0<s.size)&&(decide (s.size<=20)&&((bu (eW s 0)).getD false&&decide ((dt s).getD 0=(s.size:Int))))
theorem xQ (s:ByteArray):s={ data:=#[] }↔s.size=0:=by
 constructor
 ·intro h;rw[h];rfl
 ·intro h
  apply ByteArray.ext
  exact Array.eq_empty_of_size_eq_zero h
theorem GL (s:ByteArray):dl s=some (qT s):=by
 simp only[dl,jU,lf,aX,Bool.and_self,cond_true]
 unfold qT
 by_cases h0:s.size=0
 ·have e:decide (s={ data:=#[] })=true:=z7 ((xQ s).2 h0)
  simp[e,h0,af]
 ·have e:decide (s={ data:=#[] })=false:=z8 fun h=>h0 ((xQ s).1 h)
  by_cases h1:s.size<=20
  ·obtain ⟨b,hb⟩:=oY (eW s 0)
   obtain ⟨n,hn⟩:=xI (s:=s) (by omega)
   have h2:decide ((s.size:Int)<=20)=true:=z7 (by omega)
   rw[ru (show (0:Int)<=0 by omega) (show (0:Int)<s.size by omega)]
   simp only[e,h2,hb,hn]
   cases b<;>simp[af,h1,show 0<s.size by omega]
  ·have h2:decide ((s.size:Int)<=20)=false:=z8 (by omega)
   simp[e,h2,h1,af]
theorem yU (s:ByteArray):dY s=some (qT s):=by
 simp only[dY,lR,aX,ff,cond_true]
 unfold qT
 by_cases h0:s.size=0
 ·simp[h0,af]
 ·have e:decide ((s.size:Int)=0)=false:=z8 (by omega)
  by_cases h1:s.size<=20
  ·obtain ⟨b,hb⟩:=oY (eW s 0)
   obtain ⟨n,hn⟩:=xI (s:=s) (by omega)
   have h2:decide ((s.size:Int)>20)=false:=z8 (by omega)
   rw[ru (show (0:Int)<=0 by omega) (show (0:Int)<s.size by omega),GY]
   simp only[e,h2,<-ua,hb,hn]
   cases b<;>simp[af,h1,show 0<s.size by omega]
  ·have h2:decide ((s.size:Int)>20)=true:=z7 (by omega)
   simp[h2,h1,af]
end
end Go.Proofs.YtfknoaclabfdlaaGreat

namespace Go.Proofs.YtfknoaclabfdlaaGreat
namespace Dn
abbrev Fq:=Int×Int
def okF (a:Fq):Prop:=(1<=a.2/\a.2<=1152921504606846976)/\(-1152921504606846976<=a.1/\a.1<=1152921504606846976)/\Nat.gcd a.1.natAbs a.2.natAbs=1
instance (a:Fq):Decidable (okF a):=by unfold okF;infer_instance
def qv (a:Fq):Rat:=mkRat a.1 a.2.toNat
def fm (q:Rat):Prop:=q.num.natAbs<=1152921504606846976/\q.den<=1152921504606846976
instance (q:Rat):Decidable (fm q):=by unfold fm;infer_instance
def prQ (q:Rat):Fq:=(q.num,(q.den:Int))
def uK (q:Rat):Fq×Int×Unit:=if fm q then (prQ q,0,()) else ((0,0),5,())
theorem FK {a:Fq} (h:okF a):(qv a).num=a.1:=by
 obtain ⟨⟨h1,h2⟩,_,h3⟩:=h
 have h0:a.2.toNat≠0:=by omega
 have h4:Nat.gcd a.2.toNat a.1.natAbs=1:=by rw[Nat.gcd_comm,show a.2.toNat=a.2.natAbs by omega];exact h3
 rw[qv,Rat.num_mkRat,if_neg h0,h4]
 simp
theorem EN {a:Fq} (h:okF a):((qv a).den:Int)=a.2:=by
 obtain ⟨⟨h1,h2⟩,_,h3⟩:=h
 have h0:a.2.toNat≠0:=by omega
 have h4:Nat.gcd a.2.toNat a.1.natAbs=1:=by rw[Nat.gcd_comm,show a.2.toNat=a.2.natAbs by omega];exact h3
 rw[qv,Rat.den_mkRat,if_neg h0,h4]
 simp;omega
theorem K4 {a:Fq} (h:okF a):prQ (qv a)=a:=by
 unfold prQ
 rw[FK h,EN h]
theorem Ae (q:Rat):qv (prQ q)=q:=by
 unfold qv prQ
 simp only[z9]
 exact Rat.mkRat_self q
theorem vg {q:Rat} (h:fm q):okF (prQ q):=by
 obtain ⟨h1,h2⟩:=h
 have:=q.den_pos
 refine ⟨⟨?_,?_⟩,⟨?_,?_⟩,?_⟩
 ·simp only[prQ];omega
 ·simp only[prQ];omega
 ·simp only[prQ];omega
 ·simp only[prQ];omega
 ·simp only[prQ]
  rw[Int.natAbs_natCast]
  exact q.reduced
theorem Ik {a:Fq} (h:okF a):fm (qv a):=by
 unfold fm
 have h1:=FK h
 have h2:=EN h
 obtain ⟨⟨_,_⟩,⟨_,_⟩,_⟩:=h
 rw[h1]
 omega
theorem OZ {a b:Fq} (ha:okF a) (hb:okF b) (h:qv a=qv b):a=b:=by
 rw[<-K4 ha,<-K4 hb,h]
theorem vu (q:Rat):(fm q/\uK q=(prQ q,0,()))\/(¬ fm q/\uK q=((0,0),5,())):=by
 unfold uK
 by_cases h:fm q
 ·exact .inl ⟨h,by rw[if_pos h]⟩
 ·exact .inr ⟨h,by rw[if_neg h]⟩
theorem NG {n:Int} (h1: -1152921504606846976<=n) (h2:n<=1152921504606846976):okF (n,1):=⟨⟨by simp,by simp⟩,⟨h1,h2⟩,by simp⟩
def sgn (s:Bool) (n:Nat):Int:=if s then -(n:Int) else n
theorem Fl {s:Bool} {n d:Nat} (hd:0<d) (hc:Nat.gcd n d=1):(mkRat (sgn s n) d).num=sgn s n/\(mkRat (sgn s n) d).den=d:=by
 have h0:d≠0:=by omega
 have ha:(sgn s n).natAbs=n:=by unfold sgn;split<;>simp
 have hg:Nat.gcd d (sgn s n).natAbs=1:=by rw[ha,Nat.gcd_comm];exact hc
 rw[Rat.num_mkRat,Rat.den_mkRat,if_neg h0,if_neg h0,hg]
 simp
theorem EG {s:Bool} {n d:Nat} (hd:0<d):mkRat (sgn s n) d=mkRat (sgn s (n / Nat.gcd n d)) (d / Nat.gcd n d)/\0<d / Nat.gcd n d/\Nat.gcd (n / Nat.gcd n d) (d / Nat.gcd n d)=1:=by
 have hg:0<Nat.gcd n d:=Nat.gcd_pos_of_pos_right _ hd
 have h1:n / Nat.gcd n d*Nat.gcd n d=n:=Nat.div_mul_cancel (Nat.gcd_dvd_left n d)
 have h2:d / Nat.gcd n d*Nat.gcd n d=d:=Nat.div_mul_cancel (Nat.gcd_dvd_right n d)
 refine ⟨?_,Nat.div_pos (Nat.le_of_dvd hd (Nat.gcd_dvd_right n d)) hg,Nat.gcd_div_gcd_div_gcd_of_pos_right hd⟩
 have h3:sgn s n=sgn s (n / Nat.gcd n d)*(Nat.gcd n d:Int):=by
  unfold sgn
  split
  ·rw[Int.neg_mul,<-Int.natCast_mul,h1]
  ·rw[<-Int.natCast_mul,h1]
 have h4:mkRat (sgn s n) d=mkRat (sgn s (n / Nat.gcd n d)*(Nat.gcd n d:Int)) (d / Nat.gcd n d*Nat.gcd n d):=by rw[<-h3,h2]
 rw[h4]
 exact Rat.mkRat_mul_right (by omega)
theorem Gp {s:Bool} {n d m e:Nat} (hd:0<d) (he:0<e) (h:n*e=m*d):mkRat (sgn s n) d=mkRat (sgn s m) e:=by
 rw[Rat.mkRat_eq_iff (by omega) (by omega)]
 unfold sgn
 split
 ·rw[Int.neg_mul,Int.neg_mul,<-Int.natCast_mul,<-Int.natCast_mul,h]
 ·rw[<-Int.natCast_mul,<-Int.natCast_mul,h]
theorem EO {s:Bool} {n d:Nat} (hd:0<d) (hc:Nat.gcd n d=1):uK (mkRat (sgn s n) d)=if n<=1152921504606846976/\d<=1152921504606846976 then ((sgn s n,(d:Int)),0,()) else ((0,0),5,()):=by
 obtain ⟨h1,h2⟩:=Fl (s:=s) hd hc
 have ha:(sgn s n).natAbs=n:=by unfold sgn;split<;>simp
 unfold uK
 have e:fm (mkRat (sgn s n) d)↔n<=1152921504606846976/\d<=1152921504606846976:=by unfold fm;rw[h1,h2,ha]
 have e2:prQ (mkRat (sgn s n) d)=(sgn s n,(d:Int)):=by unfold prQ;rw[h1,h2]
 rw[e2]
 by_cases h:n<=1152921504606846976/\d<=1152921504606846976
 ·rw[if_pos h,if_pos (e.2 h)]
 ·rw[if_neg h,if_neg (fun hh=>h (e.1 hh))]
theorem o8 (n:Int):n=sgn (decide (n<0)) n.natAbs:=by
 unfold sgn
 by_cases h:n<0
 ·simp[h];omega
 ·simp[h];omega
theorem Jv (s t:Bool):sgn s 0=sgn t 0:=by unfold sgn;cases s<;>cases t<;>rfl
end Dn
end Go.Proofs.YtfknoaclabfdlaaGreat

namespace Go.Proofs.YtfknoaclabfdlaaGreat
open Tryz Dn Dn.Sh
theorem bL {x:Int} (h1:0<=x) (h2:x<18446744073709551616):IntKind.wrap .u64 x=x:=by
 rw[IntKind.wrap_u64];omega
theorem qe {x:Int} (h1: -9223372036854775808<=x) (h2:x<9223372036854775808):aL x=some (x.natAbs:Int):=by
 simp only[aL,nJ]
 by_cases h:x<0
 ·simp only[h,decide_true,cond_true]
  rw[IntKind.wrap_u64,IntKind.wrap_u64]
  congr 1;omega
 ·simp only[h,decide_false,cond_false]
  rw[bL (by omega) (by omega)]
  congr 1;omega
theorem zS (m n:Nat) (hn:n<18446744073709551616):bw (m:Int) (n:Int)=some ((Nat.gcd m n:Nat):Int):=by
 simp only[bw,pc]
 refine jA (g:=fun x=>some ((Nat.gcd x.1.toNat x.2.1.toNat:Nat):Int)) (I:=fun (x:Int×Int×PUnit)=>0<=x.1/\0<=x.2.1) (μ:=fun (x:Int×Int×PUnit)=>x.2.1.toNat) (x:=((m:Int),(n:Int),PUnit.unit)) ?_ ⟨Int.natCast_nonneg _,Int.natCast_nonneg _⟩ (by simp only;omega)
 rintro ⟨a,b,_⟩ rec ⟨h1,h2⟩ hrec
 simp only at h1 h2 ⊢
 by_cases hb:b=0
 ·subst hb
  simp only[decide_true,Bool.not_true,cond_false,Int.toNat_zero,Nat.gcd_zero_right]
  congr 1;omega
 ·rw[z8 hb,nP hb,Int.tmod_eq_emod_of_nonneg h1]
  simp only[Bool.not_false,cT]
  have h3:0<=a % b:=Int.emod_nonneg _ hb
  have h4:a % b<b:=Int.emod_lt_of_pos _ (by omega)
  rw[hrec _ ⟨by simp only;omega,by simp only;omega⟩ (by simp only;omega)]
  simp only
  congr 2
  rw[Int.toNat_emod h1 h2,Nat.gcd_comm a.toNat,Nat.gcd_rec b.toNat a.toNat,Nat.gcd_comm]
theorem yN (s:Bool) (n d:Nat) (h1:n<18446744073709551616) (h2:d<18446744073709551616) :
  bg s (n:Int) (d:Int)=some (if n<=1152921504606846976/\d<=1152921504606846976 then ((sgn s n,(d:Int)),0,()) else ((0,0),5,())):=by
 simp only[bg,lO,aX,ff,cond_true]
 by_cases hn:n<=1152921504606846976
 ·by_cases hd:d<=1152921504606846976
  ·have e1:decide ((n:Int)>1152921504606846976)=false:=z8 (by omega)
   have e2:decide ((d:Int)>1152921504606846976)=false:=z8 (by omega)
   rw[be (x:=(n:Int)) (by omega) (by omega),be (x:=(d:Int)) (by omega) (by omega),be (x:=0 - (n:Int)) (by omega) (by omega)]
   simp only[e1,e2,cond_false,hn,hd,and_self,if_true]
   cases s<;>simp[sgn]
  ·have e2:decide ((d:Int)>1152921504606846976)=true:=z7 (by omega)
   simp only[e2,Ha,Bool.or_true,cond_true,hd,and_false,if_false]
 ·have e1:decide ((n:Int)>1152921504606846976)=true:=z7 (by omega)
  simp only[e1,cond_true,hn,false_and,if_false]
def Di (n d:Int):Rat:=mkRat (sgn (decide (n<0) !=decide (d<0)) n.natAbs) d.natAbs
theorem zb {n d:Int} (hd:d≠0):Di n d=(n:Rat) / d:=by
 unfold Di
 rw[<-Rat.divInt_eq_div,show mkRat (sgn (decide (n<0) !=decide (d<0)) n.natAbs) d.natAbs=Rat.divInt (sgn (decide (n<0) !=decide (d<0)) n.natAbs) (d.natAbs:Int) from (Rat.divInt_ofNat _ _).symm]
 rw[Rat.divInt_eq_divInt_iff (by omega) hd]
 unfold sgn
 by_cases h1:n<0<;>by_cases h2:d<0
 ·rw[show ((n.natAbs:Nat):Int)= -n by omega,show ((d.natAbs:Nat):Int)= -d by omega]
  simp[h1,h2,Int.neg_mul,Int.mul_neg]
 ·rw[show ((n.natAbs:Nat):Int)= -n by omega,show ((d.natAbs:Nat):Int)=d by omega]
  simp[h1,h2]
 ·rw[show ((n.natAbs:Nat):Int)=n by omega,show ((d.natAbs:Nat):Int)= -d by omega]
  simp[h1,h2,Int.neg_mul,Int.mul_neg]
 ·rw[show ((n.natAbs:Nat):Int)=n by omega,show ((d.natAbs:Nat):Int)=d by omega]
  simp[h1,h2]
theorem lU (m n:Nat):Int.tdiv (m:Int) (n:Int)=((m / n:Nat):Int):=by
 rw[Int.tdiv_eq_ediv_of_nonneg (by omega)]
 rfl
theorem Mu {n d:Int} (h1: -9223372036854775808<=n) (h2:n<9223372036854775808) (h3: -9223372036854775808<=d) (h4:d<9223372036854775808) :
  fa n d=some (if d=0 then ((0,0),16,()) else uK (Di n d)):=by
 simp only[fa,od,aX,Bool.and_self,cond_true]
 by_cases hd:d=0
 ·simp only[hd,decide_true,cond_true,if_true]
 ·simp only[hd,decide_false,cond_false,if_false]
  rw[qe h1 h2,af,qe h3 h4,af,zS _ _ (by omega),af]
  have hg:0<Nat.gcd n.natAbs d.natAbs:=Nat.gcd_pos_of_pos_right _ (by omega)
  have a1:n.natAbs / Nat.gcd n.natAbs d.natAbs<=n.natAbs:=Nat.div_le_self _ _
  have a2:d.natAbs / Nat.gcd n.natAbs d.natAbs<=d.natAbs:=Nat.div_le_self _ _
  have hz:nzB ((Nat.gcd n.natAbs d.natAbs:Nat):Int)=true:=nP (by omega)
  obtain ⟨m1,m2,m3⟩:=EG (s:=decide (n<0) !=decide (d<0)) (n:=n.natAbs) (d:=d.natAbs) (by omega)
  have hs:n=0->n.natAbs / Nat.gcd n.natAbs d.natAbs=0:=fun h=>by subst h;simp
  rw[hz,cond_true,cond_true,lU,lU]
  unfold Di
  rw[m1]
  generalize n.natAbs / Nat.gcd n.natAbs d.natAbs=p at *
  generalize d.natAbs / Nat.gcd n.natAbs d.natAbs=q at *
  rw[bL (by omega) (by omega),bL (by omega) (by omega),yN _ _ _ (by omega) (by omega),af,EO m2 m3]
  have hs:sgn (bif !decide (n=0) then !decide (decide (n<0)=decide (d<0)) else false) p=sgn (decide (n<0) !=decide (d<0)) p:=by
   by_cases h0:n=0
   ·rw[hs h0]
    exact Jv _ _
   ·simp only[h0,decide_false,Bool.not_false,cond_true]
    cases decide (n<0)<;>cases decide (d<0)<;>rfl
  rw[hs]
theorem vK {a:Fq}:aw a=some (decide (okF a)):=by
 simp only[aw,mu,aX,Bool.and_self,cond_true,iU]
 unfold okF
 by_cases h1:1<=a.2
 ·by_cases h2:a.2<=1152921504606846976
  ·by_cases h3: -1152921504606846976<=a.1
   ·by_cases h4:a.1<=1152921504606846976
    ·have e:IntKind.wrap .u64 a.2=((a.2.natAbs:Nat):Int):=by rw[bL (by omega) (by omega)];omega
     simp only[ge_iff_le,h1,h2,h3,h4,decide_true,Bool.and_self,cond_true]
     rw[qe (by omega) (by omega),af,e,zS _ _ (by omega),af]
     congr 1
     rw[Bool.eq_iff_iff]
     simp only[Bool.true_and,decide_eq_true_eq,true_and]
     generalize Nat.gcd a.1.natAbs a.2.natAbs=g
     omega
    ·simp[af,h4]
   ·simp[af,h3]
  ·simp[af,h2]
 ·simp[af,h1]
theorem Ar {x:Int} (h1:0<=x) (h2:x<18446744073709551616):((Nat.land (Int.toNat (x % Int.ofNat 18446744073709551616)) (Int.toNat ((4294967295:Int) % Int.ofNat 18446744073709551616)):Nat):Int)=x % 4294967296:=by
 have e1:x % Int.ofNat 18446744073709551616=x:=Int.emod_eq_of_lt h1 h2
 have e2:Int.toNat ((4294967295:Int) % Int.ofNat 18446744073709551616)=2 ^ 32 - 1:=by decide
 rw[e1,e2]
 have:Nat.land x.toNat (2 ^ 32 - 1)=x.toNat % 2 ^ 32:=Nat.and_two_pow_sub_one_eq_mod x.toNat 32
 rw[this]
 omega
def hl (n:Nat):Int×Int:=(((n / 18446744073709551616:Nat):Int),((n % 18446744073709551616:Nat):Int))
theorem Qg {x y:Int} (x0:0<=x) (x1:x<18446744073709551616) (y0:0<=y) (y1:y<18446744073709551616):bU x y=some (x*y / 18446744073709551616,x*y % 18446744073709551616,()):=by
 have p32:(2:Int) ^ (32:Nat)=4294967296:=by decide
 simp only[bU,nq,p32,show decide ((0:Int)<=32)=true from rfl,cond_true]
 obtain ⟨a,b,ha,hb,hx⟩:∃a b,a=x / 4294967296/\b=x % 4294967296/\x=a*4294967296+b:=⟨_,_,rfl,rfl,by omega⟩
 obtain ⟨c,d,hc,hd,hy⟩:∃c d,c=y / 4294967296/\d=y % 4294967296/\y=c*4294967296+d:=⟨_,_,rfl,rfl,by omega⟩
 have fd:∀n:Int,Int.fdiv n 4294967296=n / 4294967296:=fun n=>Int.fdiv_eq_ediv_of_nonneg n (by omega)
 rw[Ar x0 x1,Ar y0 y1,<-hb,<-hd]
 simp only[fd,<-ha,<-hc]
 have a0:0<=a/\a<=4294967295:=by omega
 have b0:0<=b/\b<=4294967295:=by omega
 have c0:0<=c/\c<=4294967295:=by omega
 have d0:0<=d/\d<=4294967295:=by omega
 have mb:∀{m n:Int},0<=m/\m<=4294967295->0<=n/\n<=4294967295->0<=m*n/\m*n<=18446744065119617025:=fun {m n} hm hn=>⟨Int.mul_nonneg hm.1 hn.1,Int.le_trans (Int.mul_le_mul hm.2 hn.2 hn.1 (by omega)) (by decide)⟩
 have e1:=mb a0 c0
 have e2:=mb a0 d0
 have e3:=mb b0 c0
 have e4:=mb b0 d0
 have hxy:x*y=a*c*18446744073709551616+(a*d+b*c)*4294967296+b*d:=by rw[hx,hy];grind
 rw[IntKind.wrap_u64 (x*y)]
 rw[hxy]
 rw[bL (x:=b) (by omega) (by omega),bL (x:=d) (by omega) (by omega)]
 rw[bL (x:=b*d) (by omega) (by omega),bL (x:=a*d) (by omega) (by omega),bL (x:=b*c) (by omega) (by omega),bL (x:=a*c) (by omega) (by omega)]
 generalize b*d=bd at *
 generalize a*d=ad at *
 generalize b*c=bc at *
 generalize a*c=ac at *
 rw[bL (x:=ad+bd / 4294967296) (by omega) (by omega)]
 generalize ht:ad+bd / 4294967296=t
 rw[Ar (by omega) (by omega)]
 rw[bL (x:=t % 4294967296) (by omega) (by omega)]
 rw[bL (x:=t % 4294967296+bc) (by omega) (by omega),bL (x:=ac+t / 4294967296) (by omega) (by omega)]
 rw[bL (x:=ac+t / 4294967296+(t % 4294967296+bc) / 4294967296) (by omega) (by omega)]
 congr 1
 ext
 ·simp only;omega
 ·rfl
theorem rz {m n:Nat} (hm:m<18446744073709551616) (hn:n<18446744073709551616):aO (m:Int) (n:Int)=some (hl (m*n)):=by
 simp only[aO,kE]
 rw[Qg (by omega) (by omega) (by omega) (by omega),af,<-Int.natCast_mul]
 rfl
theorem m6 {n:Nat} (h:n<18446744073709551616):hl n=(0,(n:Int)):=by
 unfold hl
 rw[Nat.div_eq_of_lt h,Nat.mod_eq_of_lt h]
 rfl
theorem JA {n:Nat} (h:¬ n<18446744073709551616):(hl n).1>0:=by
 unfold hl
 simp only
 omega
theorem oa {n d:Int} (h:0<=d):Int.fdiv n d=n / d:=Int.fdiv_eq_ediv_of_nonneg n h
theorem vc {n:Nat} (_:n<340282366920938463463374607431768211456):eC (hl n)=some (hl (n / 2)):=by
 simp only[eC,oq,show decide ((0:Int)<=1)=true from rfl,show decide ((0:Int)<=63)=true from rfl,cond_true,show (2:Int) ^ (1:Nat)=2 from rfl,show (2:Int) ^ (63:Nat)=9223372036854775808 from rfl,IntKind.wrap_u64,oa (show (0:Int)<=2 by omega),hl]
 congr 1
 ext<;>simp only<;>omega
theorem Mg {a b:Nat}:cB (hl a) (hl b)=some (decide (a<b)):=by
 simp only[cB,nS]
 have e:decide (a<b)=(bif decide ((hl a).1<(hl b).1) then true else bif decide ((hl a).1=(hl b).1) then decide ((hl a).2<(hl b).2) else false):=by
  by_cases c1:(hl a).1<(hl b).1
  ·simp only[c1,decide_true,cond_true]
   simp only[hl] at c1
   exact z7 (by omega)
  ·by_cases c2:(hl a).1=(hl b).1
   ·rw[z8 c1,z7 c2,cond_true,cond_false]
    have e2:a<b↔(hl a).2<(hl b).2:=by
     simp only[hl] at c1 c2 ⊢
     omega
    rw[Bool.eq_iff_iff,decide_eq_true_iff,decide_eq_true_iff]
    exact e2
   ·simp only[c1,c2,decide_false,cond_false]
    simp only[hl] at c1 c2
    exact z8 (by omega)
 rw[e]
 cases decide ((hl a).1<(hl b).1)<;>cases decide ((hl a).1=(hl b).1)<;>rfl
theorem BO {a b:Nat} (h:b<=a) (ha:a<340282366920938463463374607431768211456):cq (hl a) (hl b)=some (hl (a - b)):=by
 simp only[cq,mB]
 by_cases hc:(hl a).2<(hl b).2
 ·rw[z7 hc,cond_true]
  simp only[IntKind.wrap_u64,hl] at hc ⊢
  congr 1
  ext<;>simp only<;>omega
 ·rw[z8 hc,cond_false]
  simp only[IntKind.wrap_u64,hl] at hc ⊢
  congr 1
  ext<;>simp only<;>omega
theorem NP {m n:Nat} (h:m+n<340282366920938463463374607431768211456):dQ (hl m) (hl n)=some (hl (m+n)):=by
 simp only[dQ,oe]
 by_cases hc:IntKind.wrap .u64 ((hl m).2+(hl n).2)<(hl m).2
 ·rw[z7 hc,cond_true]
  simp only[IntKind.wrap_u64,hl] at hc ⊢
  congr 1
  ext<;>simp only<;>omega
 ·rw[z8 hc,cond_false]
  simp only[IntKind.wrap_u64,hl] at hc ⊢
  congr 1
  ext<;>simp only<;>omega
theorem TQ {x:Int} (h1:0<=x) (h2:x<18446744073709551616):IntKind.wrap .u64 ((Nat.land (Int.toNat (x % Int.ofNat 18446744073709551616)) (Int.toNat ((1:Int) % Int.ofNat 18446744073709551616)):Nat):Int)=x % 2:=by
 have e1:x % Int.ofNat 18446744073709551616=x:=Int.emod_eq_of_lt h1 h2
 have e2:Int.toNat ((1:Int) % Int.ofNat 18446744073709551616)=2 ^ 1 - 1:=by decide
 rw[e1,e2]
 have:Nat.land x.toNat (2 ^ 1 - 1)=x.toNat % 2 ^ 1:=Nat.and_two_pow_sub_one_eq_mod x.toNat 1
 rw[this,IntKind.wrap_u64]
 omega
theorem yV {n:Nat}:decide (IntKind.wrap .u64 ((Nat.land (Int.toNat ((hl n).2 % Int.ofNat 18446744073709551616)) (Int.toNat ((1:Int) % Int.ofNat 18446744073709551616)):Nat):Int)=0)=decide (n % 2=0):=by
 rw[TQ (by simp only[hl];omega) (by simp only[hl];omega)]
 rw[Bool.eq_iff_iff,decide_eq_true_iff,decide_eq_true_iff]
 simp only[hl]
 omega
theorem zf {n:Nat} (_:n<340282366920938463463374607431768211456):(decide ((hl n).1=0)&&(decide ((hl n).2=0)&&true))=decide (n=0):=by
 rw[Bool.and_true,Bool.eq_iff_iff,z10,decide_eq_true_iff,decide_eq_true_iff,decide_eq_true_iff]
 simp only[hl]
 omega
def B7 (p:Int×Int):Nat:=p.1.toNat*18446744073709551616+p.2.toNat
theorem lg {n:Nat}:B7 (hl n)=n:=by
 simp only[B7,hl];omega
theorem Bp {a b:Nat} (ha:a % 2=0) (h:Nat.gcd a b % 2=1):Nat.gcd (a / 2) b=Nat.gcd a b:=by
 have h2:a / 2∣a:=Nat.div_dvd_of_dvd (Nat.dvd_of_mod_eq_zero ha)
 refine Nat.dvd_antisymm (Nat.dvd_gcd (Nat.dvd_trans (Nat.gcd_dvd_left _ _) h2) (Nat.gcd_dvd_right _ _)) (Nat.dvd_gcd ?_ (Nat.gcd_dvd_right _ _))
 have h3:Nat.gcd a b∣2*(a / 2):=by rw[show 2*(a / 2)=a by omega];exact Nat.gcd_dvd_left _ _
 refine Nat.Coprime.dvd_of_dvd_mul_left ?_ h3
 show Nat.gcd (Nat.gcd a b) 2=1
 rw[Nat.gcd_comm,Nat.gcd_rec,h]
 rfl
theorem qc {a:Nat} (h:2<=a):Nat.log2 (a / 2)+1=Nat.log2 a:=by
 conv=>rhs;rw[Nat.log2_def]
 rw[if_pos h]
theorem qg {a b:Nat} (h:a<=b):Nat.log2 a<=Nat.log2 b:=by
 by_cases ha:a=0
 ·subst ha;simp
 ·have hb:b≠0:=by omega
  rw[Nat.le_log2 hb]
  exact Nat.le_trans ((Nat.le_log2 ha).1 (Nat.le_refl _)) h
theorem Je {a b:Nat} (ha:0<a) (h:2*a<=b):Nat.log2 a+1<=Nat.log2 b:=by
 have h1:=qc (a:=b) (by omega)
 have:=qg (show a<=b / 2 by omega)
 omega
theorem mZ {a:Nat} (h:a<340282366920938463463374607431768211456):Nat.log2 a<=127:=by
 by_cases ha:a=0
 ·subst ha;simp
 ·have:Nat.log2 a<128:=(Nat.log2_lt ha).2 h
  omega
theorem Pd {A B:Nat} (hA:A<340282366920938463463374607431768211456) (hB0:0<B) (hB:B<340282366920938463463374607431768211456):eA (hl A) (hl B)=some (hl (Nat.gcd A B)):=by
 simp only[eA,po]
 rw[zf hA]
 by_cases hA0:A=0
 ·rw[z7 hA0,cond_true,hA0,Nat.gcd_zero_left]
 rw[z8 hA0,cond_false]
 have hG:Nat.gcd A B<=B:=Nat.le_of_dvd hB0 (Nat.gcd_dvd_right A B)
 have hGdef:∃G,G=Nat.gcd A B:=⟨_,rfl⟩
 obtain ⟨G,hGd⟩:=hGdef
 rw[<-hGd]
 refine jA (g:=fun _=>some (hl G)) (I:=fun (x:Int×(Int×Int)×(Int×Int)×PUnit)=>∃t a b:Nat,x=((t:Int),hl a,hl b,⟨⟩)/\0<a/\a<340282366920938463463374607431768211456/\0<b/\b<340282366920938463463374607431768211456/\2 ^ t*Nat.gcd a b=G/\t+Nat.log2 a<=127)
  (μ:=fun (x:Int×(Int×Int)×(Int×Int)×PUnit)=>Nat.log2 (B7 x.2.1)) (x:=((0:Int),hl A,hl B,PUnit.unit)) ?_ ⟨0,A,B,rfl,by omega,hA,hB0,hB,by rw[hGd];simp,by have:=mZ hA;omega⟩ (by simp only[lg];have:=mZ hA;omega)
 rintro _ rec ⟨t,a,b,rfl,a0,a1,b0,b1,hg,ht⟩ hrec
 simp only[yV,aX,cond_true]
 by_cases hev:a % 2=0/\b % 2=0
 ·rw[z7 hev.1,cond_true,z7 hev.2,cond_true,vc a1,af,vc b1,af,be (by omega) (by omega)]
  have hl2:=qc (a:=a) (by omega)
  refine hrec _ ⟨t+1,a / 2,b / 2,by rfl,by omega,by omega,by omega,by omega,?_,by omega⟩ (by simp only[lg];omega)
  rw[<-hg,Nat.pow_succ,Nat.mul_assoc,<-Nat.gcd_mul_left,show 2*(a / 2)=a by omega,show 2*(b / 2)=b by omega]
 have hodd:Nat.gcd a b % 2=1:=by
  rcases Nat.mod_two_eq_zero_or_one (Nat.gcd a b) with h | h
  ·exfalso
   have h2:=Nat.dvd_of_mod_eq_zero h
   exact hev ⟨Nat.mod_eq_zero_of_dvd (Nat.dvd_trans h2 (Nat.gcd_dvd_left a b)),Nat.mod_eq_zero_of_dvd (Nat.dvd_trans h2 (Nat.gcd_dvd_right a b))⟩
  ·exact h
 have hcond:(bif decide (a % 2=0) then decide (b % 2=0) else false)=false:=by
  rw[Bool.eq_false_iff]
  intro h
  by_cases h2:a % 2=0
  ·rw[z7 h2,cond_true,decide_eq_true_iff] at h
   exact hev ⟨h2,h⟩
  ·rw[z8 h2,cond_false] at h
   cases h
 rw[hcond,cond_false]
 clear hcond hrec
 generalize hgd:Nat.gcd a b=g at *
 refine jA (g:=fun _=>some (hl G)) (I:=fun (x:(Int×Int)×(Int×Int)×PUnit)=>∃a b:Nat,x=(hl a,hl b,⟨⟩)/\a<340282366920938463463374607431768211456/\0<b/\b<340282366920938463463374607431768211456/\Nat.gcd a b=g)
  (μ:=fun (x:(Int×Int)×(Int×Int)×PUnit)=>Nat.log2 (B7 x.1)+Nat.log2 (B7 x.2.1)+B7 x.1 % 2) (x:=(hl a,hl b,PUnit.unit)) ?_ ⟨a,b,rfl,a1,b0,b1,hgd⟩ (by simp only[lg];have:=mZ a1;have:=mZ b1;omega)
 clear hgd hev a0 a1 b0 b1
 rintro _ rec ⟨a,b,rfl,a1,b0,b1,hgd⟩ hrec
 simp only[zf a1]
 by_cases ha0:a=0
 ·rw[z7 ha0,Bool.not_true,cond_false]
  have hbg:b=g:=by rw[<-hgd,ha0,Nat.gcd_zero_left]
  refine jA (g:=fun _=>some (hl G)) (I:=fun (x:Int×(Int×Int)×PUnit)=>∃t b:Nat,x=((t:Int),hl b,⟨⟩)/\0<b/\2 ^ t*b=G/\t<=127)
   (μ:=fun (x:Int×(Int×Int)×PUnit)=>x.1.toNat) (x:=((t:Int),hl b,PUnit.unit)) ?_ ⟨t,b,rfl,b0,by rw[hbg];exact hg,by omega⟩ (by simp only;omega)
  rintro _ rec ⟨t,b,rfl,b0,hg,ht⟩ hrec
  simp only
  by_cases ht0:t=0
  ·rw[z8 (by omega),cond_false,<-hg,ht0];simp
  ·rw[z7 (by omega),cond_true]
   obtain ⟨s,rfl⟩:∃s,t=s+1:=⟨t - 1,by omega⟩
   have h2:2 ^ s*(b+b)=G:=by rw[<-hg,Nat.pow_succ,Nat.mul_assoc];congr 1;omega
   have h3:b+b<=G:=by
    rw[<-h2]
    exact Nat.le_mul_of_pos_left _ (Nat.pow_pos (by omega))
   rw[NP (by omega),af,be (by omega) (by omega)]
   exact hrec _ ⟨s,b+b,by simp only[Prod.mk.injEq,and_true];omega,by omega,h2,by omega⟩ (by simp only;omega)
 rw[z8 ha0,Bool.not_false,cond_true]
 refine jA (g:=fun _=>some (hl G)) (I:=fun (x:(Int×Int)×PUnit)=>∃c:Nat,x=(hl c,⟨⟩)/\0<c/\c<340282366920938463463374607431768211456/\Nat.gcd c b=g/\(c=a\/2*c<=a))
  (μ:=fun (x:(Int×Int)×PUnit)=>Nat.log2 (B7 x.1)) (x:=(hl a,PUnit.unit)) ?_ ⟨a,rfl,by omega,a1,hgd,.inl rfl⟩ (by simp only[lg];have:=mZ a1;omega)
 rintro _ rec3 ⟨c,rfl,c0,c1,hgc,hca⟩ hrec3
 simp only[yV]
 by_cases hce:c % 2=0
 ·rw[z7 hce,cond_true,vc c1,af]
  have hl2:=qc (a:=c) (by omega)
  exact hrec3 _ ⟨c / 2,rfl,by omega,by omega,by rw[Bp hce (by rw[hgc];exact hodd),hgc],.inr (by omega)⟩ (by simp only[lg];omega)
 rw[z8 hce,cond_false]
 clear hrec3
 refine jA (g:=fun _=>some (hl G)) (I:=fun (x:(Int×Int)×PUnit)=>∃d:Nat,x=(hl d,⟨⟩)/\0<d/\d<=b/\Nat.gcd c d=g)
  (μ:=fun (x:(Int×Int)×PUnit)=>Nat.log2 (B7 x.1)) (x:=(hl b,PUnit.unit)) ?_ ⟨b,rfl,b0,Nat.le_refl _,hgc⟩ (by simp only[lg];have:=mZ b1;omega)
 rintro _ rec4 ⟨d,rfl,d0,d1,hgd'⟩ hrec4
 simp only[yV]
 by_cases hde:d % 2=0
 ·rw[z7 hde,cond_true,vc (by omega),af]
  have hl2:=qc (a:=d) (by omega)
  exact hrec4 _ ⟨d / 2,rfl,by omega,by omega,by rw[Nat.gcd_comm,Bp hde (by rw[Nat.gcd_comm,hgd'];exact hodd),Nat.gcd_comm,hgd']⟩ (by simp only[lg];omega)
 rw[z8 hde,cond_false,Mg,af]
 clear hrec4
 have lb:=qg d1
 have la:Nat.log2 c+1<=Nat.log2 a+a % 2:=by
  rcases hca with rfl | h
  ·omega
  ·have:=Je c0 h;omega
 by_cases hlt:c<d
 ·rw[z7 hlt,cond_true,BO (by omega) (by omega),af]
  have l1:=qg (show d - c<=d by omega)
  exact hrec _ ⟨d - c,c,rfl,by omega,c0,c1,by rw[Nat.gcd_sub_self_left (by omega),Nat.gcd_comm,hgd']⟩ (by simp only[lg];omega)
 ·rw[z8 hlt,cond_false,BO (by omega) (by omega),af]
  have l1:=qg (show c - d<=c by omega)
  exact hrec _ ⟨c - d,d,rfl,by omega,d0,by omega,by rw[Nat.gcd_sub_self_left (by omega),hgd']⟩ (by simp only[lg];omega)
theorem xB {t b q r:Nat} (hr:r<b) (h:t=q*b+r):t / b=q/\t % b=r:=by
 subst h
 constructor
 ·rw[Nat.mul_comm,Nat.mul_add_div (by omega),Nat.div_eq_of_lt hr,Nat.add_zero]
 ·rw[Nat.mul_comm,Nat.mul_add_mod,Nat.mod_eq_of_lt hr]
theorem BM {x:Int} (h1: -9223372036854775808<=x) (h2:x<9223372036854775808):a6 x=some (x.natAbs:Int):=by
 simp only[a6,nC]
 by_cases h:x<0
 ·simp only[h,decide_true,cond_true]
  rw[IntKind.wrap_u64,IntKind.wrap_u64]
  congr 1;omega
 ·simp only[h,decide_false,cond_false]
  rw[bL (by omega) (by omega)]
  congr 1;omega
end Go.Proofs.YtfknoaclabfdlaaGreat

namespace Go.Proofs.YtfknoaclabfdlaaGreat
noncomputable section
open Tryz Dn Dn.Sh
theorem HH {a b:Nat}:cJ (hl a) (hl b)=some (decide (a<b)):=by
 simp only[cJ,oz]
 have e:decide (a<b)=(bif decide ((hl a).1<(hl b).1) then true else bif decide ((hl a).1=(hl b).1) then decide ((hl a).2<(hl b).2) else false):=by
  by_cases c1:(hl a).1<(hl b).1
  ·simp only[c1,decide_true,cond_true]
   simp only[hl] at c1
   exact z7 (by omega)
  ·by_cases c2:(hl a).1=(hl b).1
   ·rw[z8 c1,z7 c2,cond_true,cond_false]
    have e2:a<b↔(hl a).2<(hl b).2:=by
     simp only[hl] at c1 c2 ⊢
     omega
    rw[Bool.eq_iff_iff,decide_eq_true_iff,decide_eq_true_iff]
    exact e2
   ·simp only[c1,c2,decide_false,cond_false]
    simp only[hl] at c1 c2
    exact z8 (by omega)
 rw[e]
 cases decide ((hl a).1<(hl b).1)<;>cases decide ((hl a).1=(hl b).1)<;>rfl
theorem sX {m n:Nat}:oQ (hl m).2 (hl n).2 0=(((m % 18446744073709551616+n % 18446744073709551616) / 18446744073709551616:Nat):Int):=by
 simp only[oQ,hl,z9,Int.toNat_zero,Nat.add_zero]
 rfl
theorem so {m n:Nat}:nl (hl m).2 (hl n).2 0=(((if m % 18446744073709551616<n % 18446744073709551616 then 1 else 0:Nat):Nat):Int):=by
 simp only[nl,hl,z9,Int.toNat_zero,Nat.add_zero]
 cases h:Nat.blt (m % 18446744073709551616) (n % 18446744073709551616) with
 | true =>
  have h':m % 18446744073709551616<n % 18446744073709551616:=by simpa [Nat.blt_eq] using h
  rw[if_pos h'];rfl
 | false =>
  have h':¬ m % 18446744073709551616<n % 18446744073709551616:=by
   intro h2
   have:Nat.blt (m % 18446744073709551616) (n % 18446744073709551616)=true:=by simpa [Nat.blt_eq] using h2
   rw[this] at h;cases h
  rw[if_neg h'];rfl
theorem B1 {m n:Nat} (h:m+n<340282366920938463463374607431768211456):fu (hl m) (hl n)=some (hl (m+n)):=by
 simp only[fu,kZ,sX]
 have c1:decide ((0:Int)<=(0:Int))=true:=rfl
 have c2:decide ((0:Int)<=(1:Int))=true:=rfl
 rw[c1,c2,z7 (show (0:Int)<=(((m % 18446744073709551616+n % 18446744073709551616) / 18446744073709551616:Nat):Int) by omega),z7 (show (((m % 18446744073709551616+n % 18446744073709551616) / 18446744073709551616:Nat):Int)<=1 by omega)]
 simp only[Bool.and_self,cT,Option.some.injEq,xr,hl,z9,Int.toNat_zero,Nat.add_zero,Prod.mk.injEq]
 constructor
 ·show ((_:Nat):Int)=((_:Nat):Int)
  omega
 ·show ((_:Nat):Int)=((_:Nat):Int)
  omega
theorem tA {m n:Nat} (h:n<=m) (hm:m<340282366920938463463374607431768211456):eo (hl m) (hl n)=some (hl (m - n)):=by
 simp only[eo,kf,so]
 have c1:decide ((0:Int)<=(0:Int))=true:=rfl
 have c2:decide ((0:Int)<=(1:Int))=true:=rfl
 have hb:(if m % 18446744073709551616<n % 18446744073709551616 then 1 else 0:Nat)<=1:=by split<;>omega
 have hc:(if m % 18446744073709551616<n % 18446744073709551616 then 1 else 0:Nat)=1/\m % 18446744073709551616<n % 18446744073709551616\/(if m % 18446744073709551616<n % 18446744073709551616 then 1 else 0:Nat)=0/\¬ m % 18446744073709551616<n % 18446744073709551616:=by split<;>simp_all
 generalize (if m % 18446744073709551616<n % 18446744073709551616 then 1 else 0:Nat)=c at *
 rw[c1,c2,z7 (show (0:Int)<=(c:Int) by omega),z7 (show (c:Int)<=1 by omega)]
 simp only[Bool.and_self,cT,Option.some.injEq,tj,hl,z9,Int.toNat_zero,Nat.sub_zero,Prod.mk.injEq]
 constructor
 ·show ((_:Nat):Int)=((_:Nat):Int)
  omega
 ·show ((_:Nat):Int)=((_:Nat):Int)
  omega
def MQ (T:ByteArray) (a b:Int):Option Int :=
 bif decide (a>=(256:Int)) then bif decide ((0:Int)<=(8:Int)) then bif inB (IntKind.wrap .u8 (Int.fdiv a ((2:Int) ^ (8:Nat)))) (256:Nat) then
  some (IntKind.wrap .i64 (IntKind.wrap .i64 (b+(8:Int))+IntKind.wrap .i64 (eW T (Int.toNat (IntKind.wrap .u8 (Int.fdiv a ((2:Int) ^ (8:Nat)))))))) else none else none
 else bif inB (IntKind.wrap .u8 a) (256:Nat) then some (IntKind.wrap .i64 (b+IntKind.wrap .i64 (eW T (Int.toNat (IntKind.wrap .u8 a))))) else none
def NL (T:ByteArray) (a b:Int):Option Int:=bif decide (a>=(65536:Int)) then bif decide ((0:Int)<=(16:Int)) then MQ T (Int.fdiv a ((2:Int) ^ (16:Nat))) (IntKind.wrap .i64 (b+(16:Int))) else none else MQ T a b
theorem GV:∃T:ByteArray,(∀i,i<256->0<=eW T i/\eW T i<=8/\(0<i->i<2 ^ (eW T i).toNat/\2 ^ (eW T i).toNat<=2*i)) /\
  ∀x,fX x=bif decide (x>=(4294967296:Int)) then bif decide ((0:Int)<=(32:Int)) then NL T (Int.fdiv x ((2:Int) ^ (32:Nat))) 32 else none else NL T x 0 :=
 ⟨_,by decide +kernel,fun _=>rfl⟩
def wu (n L:Nat):Prop:=n<2 ^ L/\2 ^ L<=2*n
theorem oT {n k L:Nat} (h:wu (n / 2 ^ k) L):wu n (L+k):=by
 obtain ⟨h1,h2⟩:=h
 have hk:0<2 ^ k:=Nat.two_pow_pos k
 unfold wu
 rw[Nat.pow_add]
 constructor
 ·exact (Nat.div_lt_iff_lt_mul hk).1 h1
 ·have h3:n / 2 ^ k*2 ^ k<=n:=Nat.div_mul_le_self n _
  have h4:=Nat.mul_le_mul_right (2 ^ k) h2
  rw[Nat.mul_assoc] at h4
  omega
theorem Fx {x:Int} (h1:0<=x) (h2:x<256):IntKind.wrap .u8 x=x:=by
 rw[IntKind.wrap_u8];omega
theorem H1 {n:Nat} (h0:0<n) (h1:n<18446744073709551616):∃L:Nat,fX (n:Int)=some (L:Int)/\wu n L/\L<=64:=by
 obtain ⟨T,hT,hx⟩:=GV
 have tab:∀i:Nat,0<i->i<256->∃L:Nat,eW T i=L/\L<=8/\wu i L:=fun i h2 h3=>by
  obtain ⟨a1,a2,a3⟩:=hT i h3
  exact ⟨(eW T i).toNat,by omega,by omega,a3 h2⟩
 have p8:(2:Int) ^ (8:Nat)=256:=by decide
 have p16:(2:Int) ^ (16:Nat)=65536:=by decide
 have p32:(2:Int) ^ (32:Nat)=4294967296:=by decide
 have stepT:∀a b:Nat,0<a->a<65536->b<=48->∃L:Nat,MQ T (a:Int) (b:Int)=some ((L+b:Nat):Int)/\wu a L/\L<=16:=fun a b ha hb hb2=>by
  unfold MQ
  by_cases h:a<256
  ·obtain ⟨L,e1,e2,e3⟩:=tab a ha h
   rw[z8 (show ¬ (a:Int)>=256 by omega),cond_false,Fx (by omega) (by omega),ru (by omega) (by omega),cond_true,z9,e1,be (x:=(L:Int)) (by omega) (by omega),be (by omega) (by omega)]
   exact ⟨L,by congr 1;omega,e3,by omega⟩
  ·obtain ⟨L,e1,e2,e3⟩:=tab (a / 256) (by omega) (by omega)
   rw[z7 (show (a:Int)>=256 by omega),cond_true,show decide ((0:Int)<=8)=true from rfl,cond_true,p8,oa (by omega),Fx (by omega) (by omega),ru (by omega) (by omega),cond_true,show ((a:Int) / 256).toNat=a / 256 by omega,e1,be (x:=(L:Int)) (by omega) (by omega),be (x:=(b:Int)+8) (by omega) (by omega),be (by omega) (by omega)]
   exact ⟨L+8,by congr 1;omega,oT (k:=8) e3,by omega⟩
 have stepU:∀a b:Nat,0<a->a<4294967296->b<=32->∃L:Nat,NL T (a:Int) (b:Int)=some ((L+b:Nat):Int)/\wu a L/\L<=32:=fun a b ha hb hb2=>by
  unfold NL
  by_cases h:a<65536
  ·obtain ⟨L,e1,e2,e3⟩:=stepT a b ha h (by omega)
   rw[z8 (show ¬ (a:Int)>=65536 by omega),cond_false,e1]
   exact ⟨L,rfl,e2,by omega⟩
  ·obtain ⟨L,e1,e2,e3⟩:=stepT (a / 65536) (b+16) (by omega) (by omega) (by omega)
   rw[z7 (show (a:Int)>=65536 by omega),cond_true,show decide ((0:Int)<=16)=true from rfl,cond_true,p16,oa (by omega),be (by omega) (by omega),show (a:Int) / 65536=((a / 65536:Nat):Int) by omega,show (b:Int)+16=((b+16:Nat):Int) by omega,e1]
   exact ⟨L+16,by congr 1;omega,oT (k:=16) e2,by omega⟩
 rw[hx]
 by_cases h:n<4294967296
 ·obtain ⟨L,e1,e2,e3⟩:=stepU n 0 h0 h (by omega)
  rw[z8 (show ¬ (n:Int)>=4294967296 by omega),cond_false]
  exact ⟨L,e1,e2,by omega⟩
 ·obtain ⟨L,e1,e2,e3⟩:=stepU (n / 4294967296) 32 (by omega) (by omega) (by omega)
  rw[z7 (show (n:Int)>=4294967296 by omega),cond_true,show decide ((0:Int)<=32)=true from rfl,cond_true,p32,oa (by omega),show (n:Int) / 4294967296=((n / 4294967296:Nat):Int) by omega]
  exact ⟨L+32,e1,oT (k:=32) e2,by omega⟩
theorem DW {q r U u y1 y0:Int} (hq:q*y1+r=U) (_:0<=u) (hy:0<y1*4294967296+y0) (hge:(U*4294967296+u) / (y1*4294967296+y0)<=q) (ht:q*y0<=4294967296*r+u):q=(U*4294967296+u) / (y1*4294967296+y0):=by
 refine Int.le_antisymm (Int.le_ediv_of_mul_le hy ?_) hge
 rw[Int.mul_add,<-Int.mul_assoc]
 omega
theorem Dx {q r U u y1 y0:Int} (hq:q*y1+r=U) (hy:0<y1*4294967296+y0) (hU:U*4294967296+u<(y1*4294967296+y0)*4294967296) (ht:q>=4294967296\/q*y0>4294967296*r+u):(U*4294967296+u) / (y1*4294967296+y0)<=q - 1:=by
 have:(U*4294967296+u) / (y1*4294967296+y0)<q:=by
  refine Int.ediv_lt_of_lt_mul hy ?_
  rcases ht with ht | ht
  ·exact Int.lt_of_lt_of_le hU (by rw[Int.mul_comm q];exact Int.mul_le_mul_of_nonneg_left ht (by omega))
  ·rw[Int.mul_add,<-Int.mul_assoc]
   omega
 omega
theorem Hq {q r U u y1 y0:Int} (hq:q*y1+r=U) (hu:0<=u) (hy:0<y1*4294967296+y0) (h0:0<=y0/\y0<4294967296) (hge:(U*4294967296+u) / (y1*4294967296+y0)<=q - 1) (hr:r+y1>=4294967296) (hq2:1<=q/\q<=4294967297):q - 1=(U*4294967296+u) / (y1*4294967296+y0):=by
 refine Int.le_antisymm (Int.le_ediv_of_mul_le hy ?_) hge
 have e1:(q - 1)*y0<=4294967296*4294967295:=Int.mul_le_mul (by omega) (by omega) h0.1 (by omega)
 rw[Int.mul_add,<-Int.mul_assoc,Int.sub_mul q 1 y1,Int.one_mul]
 omega
theorem Ny {s:Nat} {a b:Nat} (h:b<2 ^ s):Nat.lor (a*2 ^ s) b=a*2 ^ s+b:=by
 have:=Nat.two_pow_add_eq_or_of_lt h a
 rw[Nat.mul_comm a]
 exact this.symm
theorem vD {α R:Type} {F:(α->Option R)->α->Option R} {J:Int->Option R} {U u y1 y0:Int} (enc:Int->Int->α) (dec:α->Int) (hdec:∀q r,dec (enc q r)=q)
  (hu:0<=u) (h0:0<=y0/\y0<4294967296) (h1:2147483648<=y1/\y1<4294967296) (hU0:0<=U) (hU:U*4294967296+u<(y1*4294967296+y0)*4294967296)
  (hF1:∀again q r,1<=q->q<=4294967297->0<=r->r<4294967296->(q>=4294967296\/q*y0>4294967296*r+u)->F again (enc q r)=bif decide (r+y1>=4294967296) then J (q - 1) else again (enc (q - 1) (r+y1)))
  (hF2:∀again q r,0<=q->q<4294967296->0<=r->r<4294967296->¬ q*y0>4294967296*r+u->F again (enc q r)=J q)
  {q r:Int} (hq:q*y1+r=U) (hq0:0<=q) (hq2:q<=4294967297) (hr0:0<=r) (hr1:r<4294967296) (hge:(U*4294967296+u) / (y1*4294967296+y0)<=q) :
  lpK α R F (enc q r)=J ((U*4294967296+u) / (y1*4294967296+y0)):=by
 have hD:0<=(U*4294967296+u) / (y1*4294967296+y0):=Int.ediv_nonneg (by omega) (by omega)
 refine jA (g:=fun _=>J ((U*4294967296+u) / (y1*4294967296+y0))) (I:=fun x=>∃q r,x=enc q r/\q*y1+r=U/\0<=q/\q<=4294967297/\0<=r/\r<4294967296/\(U*4294967296+u) / (y1*4294967296+y0)<=q) (μ:=fun x=>(dec x).toNat) ?_ ⟨q,r,rfl,hq,hq0,hq2,hr0,hr1,hge⟩ (by rw[hdec];omega)
 rintro _ rec ⟨q,r,rfl,hq,hq0,hq2,hr0,hr1,hge⟩ hrec
 have hy:0<y1*4294967296+y0:=by omega
 by_cases ht:q>=4294967296\/q*y0>4294967296*r+u
 ·have hl:=Dx hq hy hU ht
  rw[hF1 _ _ _ (by omega) hq2 hr0 hr1 ht]
  by_cases hr:r+y1>=4294967296
  ·rw[z7 hr,cond_true,Hq hq hu hy h0 hl hr ⟨by omega,hq2⟩]
  ·rw[z8 hr,cond_false]
   refine hrec _ ⟨q - 1,r+y1,rfl,?_,by omega,by omega,by omega,by omega,hl⟩ (by rw[hdec,hdec];omega)
   rw[Int.sub_mul,Int.one_mul];omega
 ·rw[not_or] at ht
  rw[hF2 _ _ _ hq0 (by omega) hr0 hr1 ht.2,<-DW hq hu hy hge (by omega)]
theorem wk {U u y1 y0:Int} (hu:0<=u/\u<4294967296) (h0:0<=y0/\y0<4294967296) (h1:2147483648<=y1/\y1<4294967296) (hU0:0<=U) (hU:U<y1*4294967296+y0) :
  (U / y1)*y1+(U - U / y1*y1)=U/\0<=U / y1/\U / y1<=4294967297/\0<=U - U / y1*y1/\U - U / y1*y1<4294967296/\(U*4294967296+u) / (y1*4294967296+y0)<=U / y1:=by
 have e1:=Int.mul_ediv_add_emod U y1
 have e2:=Int.emod_nonneg U (show y1≠0 by omega)
 have e3:=Int.emod_lt_of_pos U (show 0<y1 by omega)
 rw[Int.mul_comm] at e1
 refine ⟨by omega,Int.ediv_nonneg hU0 (by omega),?_,by omega,by omega,?_⟩
 ·have:U / y1<4294967298:=Int.ediv_lt_of_lt_mul (by omega) (by omega)
  omega
 ·have:(U*4294967296+u) / (y1*4294967296+y0)<U / y1+1:=by
   refine Int.ediv_lt_of_lt_mul (by omega) ?_
   have hq:0<=U / y1:=Int.ediv_nonneg hU0 (by omega)
   have e4:0<=(U / y1+1)*y0:=Int.mul_nonneg (by omega) h0.1
   rw[Int.mul_add,<-Int.mul_assoc,Int.add_mul (U / y1) 1 y1,Int.one_mul]
   omega
  omega
def L1 (_ _ Y u0 P q1 un:Int) (q:Int):Option (Int×Int×Unit):=some (IntKind.wrap .u64 (IntKind.wrap .u64 (q1*4294967296)+q),Int.fdiv (IntKind.wrap .u64 (IntKind.wrap .u64 (IntKind.wrap .u64 (un*4294967296)+u0) - IntKind.wrap .u64 (q*Y))) P,())
def dv2 (y1 y0 Y u0 P q1 un:Int):Option (Int×Int×Unit):=lpK (Int×Int×PUnit) (Int×Int×PUnit) (fun again x=>bif (bif decide (x.2.1>=4294967296) then true else decide (IntKind.wrap .u64 (x.2.1*y0)>IntKind.wrap .u64 (IntKind.wrap .u64 (4294967296*x.1)+u0))) then
 (bif decide (IntKind.wrap .u64 (x.1+y1)>=4294967296) then L1 y1 y0 Y u0 P q1 un (IntKind.wrap .u64 (x.2.1 - 1)) else again (IntKind.wrap .u64 (x.1+y1),IntKind.wrap .u64 (x.2.1 - 1),PUnit.unit)) else L1 y1 y0 Y u0 P q1 un x.2.1)
 (IntKind.wrap .u64 (un - IntKind.wrap .u64 (IntKind.wrap .u64 (Int.tdiv un y1)*y1)),IntKind.wrap .u64 (Int.tdiv un y1),PUnit.unit)
theorem Qi {y1 y0 u0 P q1 un:Int} (hu:0<=u0/\u0<4294967296) (h0:0<=y0/\y0<4294967296) (h1:2147483648<=y1/\y1<4294967296) (hU0:0<=un) (hU:un<y1*4294967296+y0) :
  dv2 y1 y0 (y1*4294967296+y0) u0 P q1 un=L1 y1 y0 (y1*4294967296+y0) u0 P q1 un ((un*4294967296+u0) / (y1*4294967296+y0)):=by
 obtain ⟨i1,i2,i3,i4,i5,i6⟩:=wk (U:=un) hu h0 h1 hU0 hU
 unfold dv2
 rw[Int.tdiv_eq_ediv_of_nonneg hU0]
 have hm:un / y1*y1<=un:=by omega
 have hm0:0<=un / y1*y1:=Int.mul_nonneg i2 (by omega)
 rw[bL (x:=un / y1) i2 (by omega),bL (x:=un / y1*y1) hm0 (by omega),bL (x:=un - un / y1*y1) (by omega) (by omega)]
 refine vD (α:=Int×Int×PUnit) (enc:=fun q r=>(r,q,PUnit.unit)) (dec:=fun x=>x.2.1) (fun _ _=>rfl) hu.1 h0 h1 hU0 (by omega) ?_ ?_ i1 i2 i3 i4 i5 i6
 ·intro again q r g1 g2 g3 g4 g5
  have e1:0<=q*y0:=Int.mul_nonneg (by omega) h0.1
  have e2:q*y0<=4294967297*4294967295:=Int.mul_le_mul g2 (by omega) h0.1 (by omega)
  simp only
  rw[bL (x:=q*y0) e1 (by omega),bL (x:=4294967296*r) (by omega) (by omega),bL (x:=4294967296*r+u0) (by omega) (by omega),bL (x:=r+y1) (by omega) (by omega),bL (x:=q - 1) (by omega) (by omega)]
  have e:(bif decide (q>=4294967296) then true else decide (q*y0>4294967296*r+u0))=true:=by
   rcases g5 with ht | ht
   ·rw[z7 ht];rfl
   ·rw[z7 ht];cases decide (q>=4294967296)<;>rfl
  rw[e,cT]
 ·intro again q r g1 g2 g3 g4 g5
  have e1:0<=q*y0:=Int.mul_nonneg (by omega) h0.1
  have e2:q*y0<=4294967297*4294967295:=Int.mul_le_mul (by omega) (by omega) h0.1 (by omega)
  simp only
  rw[bL (x:=q*y0) e1 (by omega),bL (x:=4294967296*r) (by omega) (by omega),bL (x:=4294967296*r+u0) (by omega) (by omega)]
  rw[z8 (show ¬ q>=4294967296 by omega),z8 g5,cF,cF]
def MB (y1 y0 Y u1 u0 P U:Int) (q1:Int):Option (Int×Int×Unit):=dv2 y1 y0 Y u0 P q1 (IntKind.wrap .u64 (IntKind.wrap .u64 (IntKind.wrap .u64 (U*4294967296)+u1) - IntKind.wrap .u64 (q1*Y)))
def dv1 (y1 y0 Y u1 u0 P U:Int):Option (Int×Int×Unit):=lpK (Int×Int×PUnit) (Int×Int×PUnit) (fun again x=>bif (bif decide (x.1>=4294967296) then true else decide (IntKind.wrap .u64 (x.1*y0)>IntKind.wrap .u64 (IntKind.wrap .u64 (4294967296*x.2.1)+u1))) then
 (bif decide (IntKind.wrap .u64 (x.2.1+y1)>=4294967296) then MB y1 y0 Y u1 u0 P U (IntKind.wrap .u64 (x.1 - 1)) else again (IntKind.wrap .u64 (x.1 - 1),IntKind.wrap .u64 (x.2.1+y1),PUnit.unit)) else MB y1 y0 Y u1 u0 P U x.1)
 (IntKind.wrap .u64 (Int.tdiv U y1),IntKind.wrap .u64 (U - IntKind.wrap .u64 (IntKind.wrap .u64 (Int.tdiv U y1)*y1)),PUnit.unit)
theorem OX {y1 y0 u1 u0 P U:Int} (hu:0<=u1/\u1<4294967296) (h0:0<=y0/\y0<4294967296) (h1:2147483648<=y1/\y1<4294967296) (hU0:0<=U) (hU:U<y1*4294967296+y0) :
  dv1 y1 y0 (y1*4294967296+y0) u1 u0 P U=MB y1 y0 (y1*4294967296+y0) u1 u0 P U ((U*4294967296+u1) / (y1*4294967296+y0)):=by
 obtain ⟨i1,i2,i3,i4,i5,i6⟩:=wk (U:=U) hu h0 h1 hU0 hU
 unfold dv1
 rw[Int.tdiv_eq_ediv_of_nonneg hU0]
 have hm:U / y1*y1<=U:=by omega
 have hm0:0<=U / y1*y1:=Int.mul_nonneg i2 (by omega)
 rw[bL (x:=U / y1) i2 (by omega),bL (x:=U / y1*y1) hm0 (by omega),bL (x:=U - U / y1*y1) (by omega) (by omega)]
 refine vD (α:=Int×Int×PUnit) (enc:=fun q r=>(q,r,PUnit.unit)) (dec:=fun x=>x.1) (fun _ _=>rfl) hu.1 h0 h1 hU0 (by omega) ?_ ?_ i1 i2 i3 i4 i5 i6
 ·intro again q r g1 g2 g3 g4 g5
  have e1:0<=q*y0:=Int.mul_nonneg (by omega) h0.1
  have e2:q*y0<=4294967297*4294967295:=Int.mul_le_mul g2 (by omega) h0.1 (by omega)
  simp only
  rw[bL (x:=q*y0) e1 (by omega),bL (x:=4294967296*r) (by omega) (by omega),bL (x:=4294967296*r+u1) (by omega) (by omega),bL (x:=r+y1) (by omega) (by omega),bL (x:=q - 1) (by omega) (by omega)]
  have e:(bif decide (q>=4294967296) then true else decide (q*y0>4294967296*r+u1))=true:=by
   rcases g5 with ht | ht
   ·rw[z7 ht];rfl
   ·rw[z7 ht];cases decide (q>=4294967296)<;>rfl
  rw[e,cT]
 ·intro again q r g1 g2 g3 g4 g5
  have e1:0<=q*y0:=Int.mul_nonneg (by omega) h0.1
  have e2:q*y0<=4294967297*4294967295:=Int.mul_le_mul (by omega) (by omega) h0.1 (by omega)
  simp only
  rw[bL (x:=q*y0) e1 (by omega),bL (x:=4294967296*r) (by omega) (by omega),bL (x:=4294967296*r+u1) (by omega) (by omega)]
  rw[z8 (show ¬ q>=4294967296 by omega),z8 g5,cF,cF]
theorem QM {U W Y P:Nat} (hY:9223372036854775808<=Y) (hY2:Y<18446744073709551616) (hW:W<18446744073709551616) (hU:U<Y) :
  dv1 ((Y:Int) / 4294967296) ((Y:Int) % 4294967296) (Y:Int) ((W:Int) / 4294967296) ((W:Int) % 4294967296) (P:Int) (U:Int)=some ((((U*18446744073709551616+W) / Y:Nat):Int),(((U*18446744073709551616+W) % Y / P:Nat):Int),()):=by
 have eY:(Y:Int) / 4294967296*4294967296+(Y:Int) % 4294967296=Y:=by omega
 have h1:=OX (y1:=(Y:Int) / 4294967296) (y0:=(Y:Int) % 4294967296) (u1:=(W:Int) / 4294967296) (u0:=(W:Int) % 4294967296) (P:=(P:Int)) (U:=(U:Int)) (by omega) (by omega) (by omega) (by omega) (by omega)
 rw[eY] at h1
 rw[h1]
 unfold MB
 obtain ⟨A,hA⟩:∃A:Nat,A=U*4294967296+W / 4294967296:=⟨_,rfl⟩
 have hAi:(U:Int)*4294967296+(W:Int) / 4294967296=(A:Int):=by omega
 rw[hAi]
 have hq1:A / Y<4294967296:=(Nat.div_lt_iff_lt_mul (by omega)).2 (by omega)
 have d1:=Nat.div_add_mod A Y
 have d2:=Nat.mod_lt A (show Y>0 by omega)
 rw[show (A:Int) / (Y:Int)=((A / Y:Nat):Int) from rfl]
 have hun:IntKind.wrap .u64 (IntKind.wrap .u64 (IntKind.wrap .u64 ((U:Int)*4294967296)+(W:Int) / 4294967296) - IntKind.wrap .u64 (((A / Y:Nat):Int)*(Y:Int)))=((A % Y:Nat):Int):=by
  rw[<-Int.natCast_mul,Nat.mul_comm (A / Y)]
  generalize A / Y=q1 at *
  generalize Y*q1=m at *
  rw[IntKind.wrap_u64,IntKind.wrap_u64,IntKind.wrap_u64,IntKind.wrap_u64]
  omega
 rw[hun]
 have h2:=Qi (y1:=(Y:Int) / 4294967296) (y0:=(Y:Int) % 4294967296) (u0:=(W:Int) % 4294967296) (P:=(P:Int)) (q1:=((A / Y:Nat):Int)) (un:=((A % Y:Nat):Int)) (by omega) (by omega) (by omega) (by omega) (by omega)
 rw[eY] at h2
 rw[h2]
 unfold L1
 obtain ⟨B,hB⟩:∃B:Nat,B=A % Y*4294967296+W % 4294967296:=⟨_,rfl⟩
 have hBi:((A % Y:Nat):Int)*4294967296+(W:Int) % 4294967296=(B:Int):=by omega
 rw[hBi,show (B:Int) / (Y:Int)=((B / Y:Nat):Int) from rfl]
 have hq0:B / Y<4294967296:=(Nat.div_lt_iff_lt_mul (by omega)).2 (by omega)
 have d3:=Nat.div_add_mod B Y
 have d4:=Nat.mod_lt B (show Y>0 by omega)
 have hN:U*18446744073709551616+W=(A / Y*4294967296+B / Y)*Y+B % Y:=by
  rw[Nat.add_mul,Nat.mul_right_comm,Nat.mul_comm (A / Y),Nat.mul_comm (B / Y)]
  omega
 obtain ⟨n1,n2⟩:=xB d4 hN
 rw[n1,n2]
 have hrest:IntKind.wrap .u64 (IntKind.wrap .u64 (IntKind.wrap .u64 (((A % Y:Nat):Int)*4294967296)+(W:Int) % 4294967296) - IntKind.wrap .u64 (((B / Y:Nat):Int)*(Y:Int)))=((B % Y:Nat):Int):=by
  rw[<-Int.natCast_mul,Nat.mul_comm (B / Y)]
  generalize B / Y=q0 at *
  generalize Y*q0=m at *
  generalize A % Y=r1 at *
  rw[IntKind.wrap_u64,IntKind.wrap_u64,IntKind.wrap_u64,IntKind.wrap_u64]
  omega
 rw[hrest,oa (by omega)]
 generalize A / Y=q1 at *
 generalize B / Y=q0 at *
 rw[bL (x:=(q1:Int)*4294967296) (by omega) (by omega),bL (by omega) (by omega)]
 rfl
theorem Ck (m n:Nat):Int.tmod (m:Int) (n:Int)=((m % n:Nat):Int):=by
 rw[Int.tmod_eq_emod_of_nonneg (by omega)]
 rfl
theorem jnT {α R:Type} (j:α->Option R) (f:(α->Option R)->Option R):jnK α R j f=f j:=Eq.trans rfl rfl
theorem BV {h l y:Nat} (hy:h<y) (hy2:y<18446744073709551616) (hl0:l<18446744073709551616):cP (h:Int) (l:Int) (y:Int)=some ((((h*18446744073709551616+l) / y:Nat):Int),(((h*18446744073709551616+l) % y:Nat):Int),()):=by
 simp only[cP,oh,jnT]
 rw[z8 (show ¬ (y:Int)=0 by omega),cF,z8 (show ¬ (y:Int)<=(h:Int) by omega),cF]
 have hz:nzB (y:Int)=true:=nP (by omega)
 by_cases h0:h=0
 ·subst h0
  rw[z7 (show ((0:Nat):Int)=0 from rfl),cT,hz,cT,cT,lU,Ck,Nat.zero_mul,Nat.zero_add]
  have:=Nat.div_le_self l y
  generalize l / y=d at *
  rw[bL (by omega) (by omega)]
 ·rw[z8 (show ¬ (h:Int)=0 by omega),cF]
  obtain ⟨L,e1,⟨e2,e3⟩,e4⟩:=H1 (n:=y) (by omega) hy2
  simp only[cC,gQ,e1,af]
  rw[be (x:=64 - (L:Int)) (by omega) (by omega)]
  obtain ⟨s,hs⟩:∃s:Nat,L+s=64:=⟨64 - L,by omega⟩
  have w1:IntKind.wrap .u64 (64 - (L:Int))=(s:Int):=by rw[bL (by omega) (by omega)];omega
  have w2:IntKind.wrap .u64 (64 - (s:Int))=(L:Int):=by rw[bL (by omega) (by omega)];omega
  have p2:∀k:Nat,(2:Int) ^ k=((2 ^ k:Nat):Int):=fun k=>by rw[Int.natCast_pow];rfl
  have p32:(2:Int) ^ (32:Nat)=4294967296:=by decide
  simp only[w1,w2,z9,Nat.min_eq_left (show s<=64 by omega),Nat.min_eq_left (show L<=64 by omega),p32]
  simp only[p2]
  have hPQ:2 ^ s*2 ^ L=18446744073709551616:=by rw[<-Nat.pow_add,show s+L=64 by omega]
  have hP:0<2 ^ s:=Nat.two_pow_pos s
  have hQ:0<2 ^ L:=Nat.two_pow_pos L
  have hYlt:y*2 ^ s<18446744073709551616:=by rw[<-hPQ,Nat.mul_comm (2 ^ s)];exact Nat.mul_lt_mul_of_pos_right e2 hP
  have hYge:9223372036854775808<=y*2 ^ s:=by
   have:=Nat.mul_le_mul_right (2 ^ s) e3
   rw[Nat.mul_comm (2 ^ L),hPQ,Nat.mul_assoc] at this
   omega
  have hhP:h*2 ^ s+2 ^ s<=y*2 ^ s:=by rw[<-Nat.succ_mul];exact Nat.mul_le_mul_right _ hy
  have hlQ:l / 2 ^ L<2 ^ s:=by rw[Nat.div_lt_iff_lt_mul hQ,hPQ];exact hl0
  have hlor:IntKind.wrap .u64 ((Nat.lor (Int.toNat (IntKind.wrap .u64 ((h:Int)*((2 ^ s:Nat):Int)) % Int.ofNat 18446744073709551616)) (Int.toNat (Int.fdiv (l:Int) ((2 ^ L:Nat):Int) % Int.ofNat 18446744073709551616)):Nat):Int)=((h*2 ^ s+l / 2 ^ L:Nat):Int):=by
   have a1:IntKind.wrap .u64 ((h:Int)*((2 ^ s:Nat):Int))=((h*2 ^ s:Nat):Int):=by rw[<-Int.natCast_mul,bL (by omega) (by omega)]
   have a2:Int.fdiv (l:Int) ((2 ^ L:Nat):Int)=((l / 2 ^ L:Nat):Int):=by rw[oa (by omega)];rfl
   have a3:∀n:Nat,n<18446744073709551616->Int.toNat ((n:Int) % Int.ofNat 18446744073709551616)=n:=fun n hn=>by
    rw[show Int.ofNat 18446744073709551616=(18446744073709551616:Int) from rfl];omega
   rw[a1,a2,a3 (h*2 ^ s) (by omega),a3 (l / 2 ^ L) (by omega),Ny hlQ]
   exact bL (Int.natCast_nonneg _) (by
    have h5:h*2 ^ s+l / 2 ^ L<18446744073709551616:=by omega
    exact Int.ofNat_lt.2 h5)
  have hlo:IntKind.wrap .u64 ((l:Int)*((2 ^ s:Nat):Int))=((l % 2 ^ L*2 ^ s:Nat):Int):=by
   rw[<-Int.natCast_mul,IntKind.wrap_u64]
   have a1:l*2 ^ s=(l / 2 ^ L)*18446744073709551616+l % 2 ^ L*2 ^ s:=by
    rw[<-hPQ,Nat.mul_comm (2 ^ s),<-Nat.mul_assoc,<-Nat.add_mul,Nat.mul_comm (l / 2 ^ L),Nat.div_add_mod]
   have a2:l % 2 ^ L*2 ^ s<18446744073709551616:=by rw[<-hPQ,Nat.mul_comm (2 ^ s)];exact Nat.mul_lt_mul_of_pos_right (Nat.mod_lt _ hQ) hP
   rw[a1]
   generalize l / 2 ^ L=A at *
   generalize l % 2 ^ L*2 ^ s=B at *
   omega
  have hlolt:l % 2 ^ L*2 ^ s<18446744073709551616:=by rw[<-hPQ,Nat.mul_comm (2 ^ s)];exact Nat.mul_lt_mul_of_pos_right (Nat.mod_lt _ hQ) hP
  have hN:(h*18446744073709551616+l)*2 ^ s=(h*2 ^ s+l / 2 ^ L)*18446744073709551616+l % 2 ^ L*2 ^ s:=by
   have a1:l*2 ^ s=(l / 2 ^ L)*18446744073709551616+l % 2 ^ L*2 ^ s:=by
    rw[<-hPQ,Nat.mul_comm (2 ^ s),<-Nat.mul_assoc,<-Nat.add_mul,Nat.mul_comm (l / 2 ^ L),Nat.div_add_mod]
   rw[Nat.add_mul,a1,Nat.add_mul,Nat.mul_right_comm]
   omega
  have hY:IntKind.wrap .u64 ((y:Int)*((2 ^ s:Nat):Int))=((y*2 ^ s:Nat):Int):=by rw[<-Int.natCast_mul,bL (by omega) (by omega)]
  have hdiv:(h*18446744073709551616+l) / y=((h*2 ^ s+l / 2 ^ L)*18446744073709551616+l % 2 ^ L*2 ^ s) / (y*2 ^ s):=by rw[<-hN,Nat.mul_div_mul_right _ _ hP]
  have hmod:((h*18446744073709551616+l) % y)*2 ^ s=((h*2 ^ s+l / 2 ^ L)*18446744073709551616+l % 2 ^ L*2 ^ s) % (y*2 ^ s):=by rw[<-hN,Nat.mul_mod_mul_right]
  rw[hlor,hlo,hY]
  have hU:h*2 ^ s+l / 2 ^ L<y*2 ^ s:=by omega
  have hm:(h*18446744073709551616+l) % y=((h*2 ^ s+l / 2 ^ L)*18446744073709551616+l % 2 ^ L*2 ^ s) % (y*2 ^ s) / 2 ^ s:=by rw[<-hmod,Nat.mul_div_cancel _ hP]
  rw[hdiv,hm]
  generalize h*2 ^ s+l / 2 ^ L=U at *
  generalize l % 2 ^ L*2 ^ s=W at *
  generalize y*2 ^ s=Y at *
  generalize 2 ^ s=P at *
  clear e2 e3 e1 hlor hlo hN hdiv hmod hm hlQ hPQ hhP hY
  have hdv:=QM (P:=P) hYge hYlt hlolt hU
  rw[<-hdv]
  have c1:decide ((0:Int)<=(s:Int))=true:=z7 (by omega)
  have c2:decide ((0:Int)<=(L:Int))=true:=z7 (by omega)
  have c3:decide ((0:Int)<=(32:Int))=true:=rfl
  have c4:nzB ((Y:Int) / 4294967296)=true:=nP (by omega)
  have m1:∀n:Nat,n<18446744073709551616->IntKind.wrap .u64 ((Nat.land (Int.toNat ((n:Int) % Int.ofNat 18446744073709551616)) (Int.toNat ((4294967295:Int) % Int.ofNat 18446744073709551616)):Nat):Int)=(n:Int) % 4294967296:=fun n hn=>by
   rw[Ar (by omega) (by omega),bL (by omega) (by omega)]
  simp only[oa (show (0:Int)<=4294967296 by omega),c1,c2,c3,c4,m1 Y hYlt,m1 W hlolt,ff,Bool.not_not,Bool.and_self,cT]
  rfl
end
end Go.Proofs.YtfknoaclabfdlaaGreat

namespace Go.Proofs.YtfknoaclabfdlaaGreat
open Tryz Dn Dn.Sh
theorem E9 {n b:Nat} (hb0:0<b) (hb:b<18446744073709551616) (hn:n<340282366920938463463374607431768211456):dP (hl n) (b:Int)=some (hl (n / b),((n % b:Nat):Int),()):=by
 have hz:nzB (b:Int)=true:=nP (by omega)
 obtain ⟨h,l,hh,hl',hnn⟩:∃h l:Nat,h=n / 18446744073709551616/\l=n % 18446744073709551616/\n=h*18446744073709551616+l:=⟨_,_,rfl,rfl,by omega⟩
 have e:hl n=((h:Int),(l:Int)):=by unfold hl;rw[hh,hl']
 rw[e]
 simp only[dP,nW]
 rw[hz,Ck,BV (Nat.mod_lt h hb0) hb (by omega),af]
 have d1:=Nat.div_add_mod h b
 have d2:=Nat.mod_lt h hb0
 obtain ⟨A,hA⟩:∃A,A=h % b*18446744073709551616+l:=⟨_,rfl⟩
 rw[<-hA]
 have d3:=Nat.div_add_mod A b
 have d4:=Nat.mod_lt A hb0
 have d5:A / b<18446744073709551616:=(Nat.div_lt_iff_lt_mul hb0).2 (by
  have:(h % b+1)*18446744073709551616<=b*18446744073709551616:=Nat.mul_le_mul_right _ d2
  rw[Nat.mul_comm 18446744073709551616 b]
  omega)
 have hN:n=(h / b*18446744073709551616+A / b)*b+A % b:=by
  have e1:(h / b*18446744073709551616+A / b)*b=b*(h / b)*18446744073709551616+b*(A / b):=by grind
  rw[e1,hnn]
  generalize b*(h / b)=x at *
  generalize b*(A / b)=y at *
  generalize A % b=r at *
  generalize h % b=r1 at *
  clear e hz hb0 hb hn hh hl' hnn d5 e1
  omega
 obtain ⟨n1,n2⟩:=xB d4 hN
 rw[n1,n2,lU]
 have d6:h / b<18446744073709551616:=Nat.lt_of_le_of_lt (Nat.div_le_self h b) (by omega)
 generalize h / b=x at *
 generalize A / b=y at *
 rw[bL (x:=(x:Int)) (by omega) (by omega)]
 unfold hl
 rw[show (x*18446744073709551616+y) / 18446744073709551616=x by omega,show (x*18446744073709551616+y) % 18446744073709551616=y by omega]
 rfl
theorem FE {na nb:Int} {da A B:Nat} (ha:Nat.gcd na.natAbs da=1) (hA:A∣da) (hAB:Nat.gcd A B=1):Nat.gcd (na*B+nb*A).natAbs A=1:=by
 have d1:=Nat.gcd_dvd_left (na*B+nb*A).natAbs A
 have d2:=Nat.gcd_dvd_right (na*B+nb*A).natAbs A
 generalize Nat.gcd (na*B+nb*A).natAbs A=d at *
 have e1:(d:Int)∣na*B+nb*A:=Int.ofNat_dvd_left.2 d1
 have e2:(d:Int)∣nb*A:=Int.dvd_mul_of_dvd_right (Int.ofNat_dvd.2 d2)
 have e3:(d:Int)∣na*B:=(Int.dvd_iff_dvd_of_dvd_add e1).2 e2
 have e4:d∣na.natAbs*B:=by
  have:=Int.ofNat_dvd_left.1 e3
  rwa [Int.natAbs_mul,Int.natAbs_natCast] at this
 have e5:Nat.Coprime d na.natAbs:=(Nat.Coprime.coprime_dvd_right (Nat.dvd_trans d2 hA) ha).symm
 have e6:d∣B:=Nat.Coprime.dvd_of_dvd_mul_left e5 e4
 have e7:=Nat.dvd_gcd d2 e6
 rw[hAB] at e7
 exact Nat.dvd_one.1 e7
theorem F8 {na nb:Int} {da db g A B:Nat} (ha:Nat.gcd na.natAbs da=1) (hb:Nat.gcd nb.natAbs db=1) (h1:da=A*g) (h2:db=B*g) (hAB:Nat.gcd A B=1) (hg:0<g) (hA:0<A) (hB:0<B) {c:Nat} (hc:c=Nat.gcd g (na*B+nb*A).natAbs) :
  mkRat na da+mkRat nb db=mkRat (na*B+nb*A) (A*db)/\Nat.gcd ((na*B+nb*A).natAbs / c) (A*(db / c))=1/\0<c/\c∣(na*B+nb*A).natAbs/\c∣db:=by
 have hc0:0<c:=by rw[hc];exact Nat.gcd_pos_of_pos_left _ hg
 have k1:Nat.gcd (na*B+nb*A).natAbs A=1:=FE ha ⟨g,h1⟩ hAB
 have k2:Nat.gcd (na*B+nb*A).natAbs B=1:=by
  rw[Int.add_comm]
  exact FE hb ⟨g,h2⟩ (by rw[Nat.gcd_comm];exact hAB)
 have c1:c∣(na*B+nb*A).natAbs:=by rw[hc];exact Nat.gcd_dvd_right _ _
 have c2:c∣g:=by rw[hc];exact Nat.gcd_dvd_left _ _
 refine ⟨?_,?_,hc0,c1,by rw[h2];exact Nat.dvd_trans c2 (Nat.dvd_mul_left g B)⟩
 ·have p1:0<A*g:=Nat.mul_pos hA hg
  have p2:0<B*g:=Nat.mul_pos hB hg
  have p3:0<A*(B*g):=Nat.mul_pos hA p2
  rw[Rat.mkRat_add_mkRat _ _ (by omega) (by omega),h1,h2,Rat.mkRat_eq_iff (Nat.ne_of_gt (Nat.mul_pos p1 p2)) (by omega)]
  simp only[Int.natCast_mul]
  grind
 ·have c3:Nat.gcd ((na*B+nb*A).natAbs / c) (g / c)=1:=by
   rw[hc,Nat.gcd_comm]
   exact Nat.gcd_div_gcd_div_gcd_of_pos_left hg
  have hdb:db / c=B*(g / c):=by rw[h2,Nat.mul_div_assoc _ c2]
  have dv:(na*B+nb*A).natAbs / c∣(na*B+nb*A).natAbs:=Nat.div_dvd_of_dvd c1
  rw[hdb]
  exact Nat.Coprime.mul_right (Nat.Coprime.coprime_dvd_left dv k1) (Nat.Coprime.mul_right (Nat.Coprime.coprime_dvd_left dv k2) c3)
theorem Kj {a b:Fq} (ha:okF a) (hb:okF b):ba a b=some (uK (qv a+qv b)):=by
 obtain ⟨na,da'⟩:=a
 obtain ⟨nb,db'⟩:=b
 have ha':=ha
 have hb':=hb
 unfold okF at ha' hb'
 simp only at ha' hb'
 obtain ⟨⟨a1,a2⟩,⟨a3,a4⟩,a5⟩:=ha'
 obtain ⟨⟨b1,b2⟩,⟨b3,b4⟩,b5⟩:=hb'
 obtain ⟨da,rfl⟩:∃da:Nat,da'=da:=⟨da'.toNat,by omega⟩
 obtain ⟨db,rfl⟩:∃db:Nat,db'=db:=⟨db'.toNat,by omega⟩
 rw[Int.natAbs_natCast] at a5 b5
 simp only[ba,pb,vK,z7 ha,z7 hb,af,Bool.not_true,Bool.not_false,Bool.or_true,cT,cF,jnT]
 rw[bL (x:=(da:Int)) (by omega) (by omega),bL (x:=(db:Int)) (by omega) (by omega),zS _ _ (by omega),af,qe (by omega) (by omega),af,qe (by omega) (by omega)]
 have hg:0<Nat.gcd da db:=Nat.gcd_pos_of_pos_left _ (by omega)
 have hgl:Nat.gcd da db<=da:=Nat.gcd_le_left _ (by omega)
 obtain ⟨A,hA⟩:∃A,A=da / Nat.gcd da db:=⟨_,rfl⟩
 obtain ⟨B,hB⟩:∃B,B=db / Nat.gcd da db:=⟨_,rfl⟩
 have hAg:da=A*Nat.gcd da db:=by rw[hA,Nat.div_mul_cancel (Nat.gcd_dvd_left _ _)]
 have hBg:db=B*Nat.gcd da db:=by rw[hB,Nat.div_mul_cancel (Nat.gcd_dvd_right _ _)]
 have hAB:Nat.gcd A B=1:=by rw[hA,hB];exact Nat.gcd_div_gcd_div_gcd_of_pos_left (by omega)
 have hA0:0<A:=by rw[hA];exact Nat.div_pos (Nat.gcd_le_left _ (by omega)) hg
 have hB0:0<B:=by rw[hB];exact Nat.div_pos (Nat.gcd_le_right _ (by omega)) hg
 have hAl:A<=da:=by rw[hA];exact Nat.div_le_self _ _
 have hBl:B<=db:=by rw[hB];exact Nat.div_le_self _ _
 have hz:nzB ((Nat.gcd da db:Nat):Int)=true:=nP (by omega)
 rw[hz,cT,lU,lU,<-hA,<-hB,bL (x:=(A:Int)) (by omega) (by omega),bL (x:=(B:Int)) (by omega) (by omega)]
 have x1:na.natAbs*B<=1152921504606846976*1152921504606846976:=Nat.mul_le_mul (by omega) (by omega)
 have y1:nb.natAbs*A<=1152921504606846976*1152921504606846976:=Nat.mul_le_mul (by omega) (by omega)
 rw[rz (by omega) (by omega),af,af,cT,rz (by omega) (by omega),af]
 have hsum:=F8 (na:=na) (nb:=nb) a5 b5 hAg hBg hAB hg hA0 hB0 rfl
 generalize Nat.gcd da db=g at *
 have hv:qv (na,(da:Int))+qv (nb,(db:Int))=mkRat na da+mkRat nb db:=rfl
 rw[hv,hsum.1]
 simp only[ff,Bool.not_not,cT]
 have tail:∀(s:Bool) (N:Nat),N<=2658455991569831745807614120560689152->sgn s N=na*B+nb*A->(bif decide ((hl N).1=0)&&(decide ((hl N).2=0)&&true) then some (((0:Int),(1:Int)),(0:Int),PUnit.unit) else
   aa (dP (hl N) (g:Int)) fun t_5=>aa (bw (g:Int) t_5.2.1) fun t_1=>aa (dP (hl N) t_1) fun t_6=>bif nzB t_1 then aa (aO (A:Int) (IntKind.wrap .u64 (Int.tdiv (db:Int) t_1))) fun t =>
    bif bif decide (t_6.1.1>0) then true else decide (t.1>0) then some (((0:Int),(0:Int)),(5:Int),PUnit.unit) else aa (bg s t_6.1.2 t.2) fun t=>some (t.1,t.2.1,PUnit.unit) else none)=some (uK (mkRat (na*B+nb*A) (A*db))):=by
  intro s N hN hs
  have hNT:(na*B+nb*A).natAbs=N:=by rw[<-hs];unfold sgn;split<;>simp
  rw[hNT] at hsum
  rw[zf (by omega)]
  by_cases h0:N=0
  ·rw[z7 h0,cT,<-hs,h0,show sgn s 0=0 by unfold sgn;cases s<;>rfl,Rat.zero_mkRat]
   rfl
  ·obtain ⟨c,hc⟩:∃c,c=Nat.gcd g N:=⟨_,rfl⟩
   rw[<-hc] at hsum
   obtain ⟨_,s2,s3,s4,s5⟩:=hsum
   have hcg:c<=g:=by rw[hc];exact Nat.gcd_le_left _ hg
   rw[z8 h0,cF,E9 hg (by omega) (by omega),af,zS _ _ (by have:=Nat.mod_lt N hg;generalize N % g=w at *;omega),af,Nat.gcd_comm,<-Nat.gcd_rec,<-hc,E9 s3 (by omega) (by omega),af,nP (by omega),cT,lU]
   have hdc:db / c<=db:=Nat.div_le_self _ _
   have hdc0:0<db / c:=Nat.div_pos (Nat.le_of_dvd (by omega) s5) s3
   rw[bL (by omega) (by generalize db / c=w at *;omega),rz (by omega) (by generalize db / c=w at *;omega),af]
   have hNc:N / c<=N:=Nat.div_le_self _ _
   have hval:mkRat (na*B+nb*A) (A*db)=mkRat (sgn s (N / c)) (A*(db / c)):=by
    rw[<-hs]
    refine Gp (Nat.mul_pos hA0 (by omega)) (Nat.mul_pos hA0 hdc0) ?_
    obtain ⟨x,rfl⟩:=s4
    obtain ⟨y,rfl⟩:=s5
    rw[Nat.mul_div_cancel_left _ s3,Nat.mul_div_cancel_left _ s3]
    grind
   rw[hval,EO (Nat.mul_pos hA0 hdc0) s2]
   have hden:A*(db / c)<=1152921504606846976*1152921504606846976:=Nat.mul_le_mul (by omega) (by omega)
   generalize N / c=n at *
   generalize A*(db / c)=d at *
   by_cases hn:n<18446744073709551616
   ·by_cases hd:d<18446744073709551616
    ·rw[m6 hn,m6 hd]
     simp only
     rw[show decide ((0:Int)>0)=false from rfl,cF,cF,yN _ _ _ hn hd,af]
    ·rw[m6 hn]
     simp only
     rw[show decide ((0:Int)>0)=false from rfl,z7 (JA hd),cF,cT,if_neg (by omega)]
   ·rw[z7 (JA hn),cT,cT,if_neg (by omega)]
 have sx:∀{n:Int} {s:Bool},s=decide (n<0)->n=sgn s n.natAbs:=fun {n s} h=>by rw[h];exact o8 n
 by_cases hsg:decide (na<0)=decide (nb<0)
 ·rw[z7 hsg,cT,B1 (by omega),af]
  refine tail _ _ (by omega) ?_
  have e1:na=sgn (decide (na<0)) na.natAbs:=o8 na
  have e2:nb=sgn (decide (na<0)) nb.natAbs:=by rw[hsg];exact o8 nb
  generalize na.natAbs=m at *
  generalize nb.natAbs=n at *
  generalize decide (na<0)=s at *
  rw[e1,e2]
  unfold sgn
  cases s
  ·simp only[Bool.false_eq_true,if_false]
   rw[Int.natCast_add,Int.natCast_mul,Int.natCast_mul]
  ·simp only[if_true]
   rw[Int.natCast_add,Int.natCast_mul,Int.natCast_mul]
   grind
 ·have e1:na=sgn (decide (na<0)) na.natAbs:=o8 na
  have e2:nb=sgn (!decide (na<0)) nb.natAbs:=by
   have:(!decide (na<0))=decide (nb<0):=by
    clear tail sx hsum hv ha hb
    revert hsg
    cases decide (na<0)<;>cases decide (nb<0)<;>simp
   rw[this];exact o8 nb
  rw[z8 hsg,cF,HH,af]
  by_cases hlt:na.natAbs*B<nb.natAbs*A
  ·rw[z7 hlt,cT,tA (by omega) (by omega),af]
   refine tail _ _ (by omega) ?_
   generalize na.natAbs=m at *
   generalize nb.natAbs=n at *
   generalize decide (na<0)=s at *
   rw[e1,e2]
   have e3:(((n*A - m*B:Nat)):Int)=(n:Int)*A - (m:Int)*B:=by rw[Int.ofNat_sub (Nat.le_of_lt hlt),Int.natCast_mul,Int.natCast_mul]
   unfold sgn
   cases s
   ·simp only[Bool.false_eq_true,if_false,Bool.not_false,if_true]
    grind
   ·simp only[if_true,Bool.not_true,Bool.false_eq_true,if_false]
    grind
  ·rw[z8 hlt,cF,tA (by omega) (by omega),af]
   refine tail _ _ (by omega) ?_
   generalize na.natAbs=m at *
   generalize nb.natAbs=n at *
   generalize decide (na<0)=s at *
   rw[e1,e2]
   have e3:(((m*B - n*A:Nat)):Int)=(m:Int)*B - (n:Int)*A:=by rw[Int.ofNat_sub (Nat.not_lt.1 hlt),Int.natCast_mul,Int.natCast_mul]
   unfold sgn
   cases s
   ·simp only[Bool.false_eq_true,if_false,Bool.not_false,if_true]
    grind
   ·simp only[if_true,Bool.not_true,Bool.false_eq_true,if_false]
    grind
end Go.Proofs.YtfknoaclabfdlaaGreat

namespace Go.Proofs.YtfknoaclabfdlaaGreat
namespace Dn
theorem mG {σ α R:Type} {F:(α->Option R)->α->Option R} (n:Nat) (hn:n<=1180591620717411303423) (enc:Nat->σ->α) (b:Nat->σ->(σ->Option R)->Option R) (f:σ->Option R)
  (hb:∀again (i:Nat) s,i<n->F again (enc i s)=b i s (fun s'=>again (enc (i+1) s'))) (hf:∀again s,F again (enc n s)=f s) (s:σ) :
  lpK α R F (enc 0 s)=upF b f n 0 s:=K7 n hn enc b f hb hf s
def iI {α:Type} (p:α->Bool):List α->Int->Int
 | [],_=> -1
 | a ::l,i=>bif p a then i else iI p l (i+1)
theorem ww {α:Type} {p:α->Bool}:∀{l:List α} {i:Int},0<=i->(iI p l i<0↔∀a ∈ l,p a=false)
 | [],i,h=>by simp[iI]
 | a ::l,i,h=>by
  unfold iI
  cases hp:p a with
  | true=>simp only[cond_true,List.mem_cons,forall_eq_or_imp,hp];simp;omega
  | false=>simp only[cond_false,List.mem_cons,forall_eq_or_imp,hp,true_and];exact ww (by omega)
theorem GF {α:Type} {p:α->Bool} {l:List α} {d:α} {i:Nat} (h:i<l.length):iI p (l.drop i) i=bif p (l.getD i d) then (i:Int) else iI p (l.drop (i+1)) ((i:Int)+1):=by
 rw[List.drop_eq_getElem_cons h,bG h]
 rfl
theorem FF {α:Type} {p:α->Bool} {d:α}:∀{l:List α} {i:Int},0<=i->0<=iI p l i->i<=iI p l i/\iI p l i<i+l.length/\p (l.getD (iI p l i - i).toNat d)=true
 | [],i,_,h=>by simp[iI] at h
 | a ::l,i,hi,h=>by
  unfold iI at h ⊢
  cases hp:p a with
  | true=>simp[hp];omega
  | false =>
   rw[hp,cond_false] at h
   obtain ⟨h1,h2,h3⟩:=FF (d:=d) (show 0<=i+1 by omega) h
   rw[cond_false]
   refine ⟨by omega,by simp only[List.length_cons];omega,?_⟩
   have e:(iI p l (i+1) - i).toNat=(iI p l (i+1) - (i+1)).toNat+1:=by omega
   rw[e,List.getD_cons_succ]
   exact h3
theorem nH {α:Type} {f:(α×Unit)->Option Bool} {d:α} {p:α->Bool} {l:List α} (hl:l.length<=1000000) (h:∀a,a ∈ l->f (a,())=some (p a)) :
  lpK (Int×PUnit) Int (fun (again:Int×PUnit->Option Int) (x:Int×PUnit)=>bif decide (x.1<(↑(List.length l):Int)) then bif inB x.1 (List.length l) then aa (f
   (List.getD l (Int.toNat x.1) d,PUnit.unit)) fun (t:Bool)=>bif t then some x.1 else again
   (IntKind.wrap .i64 (x.1+(1:Int)),PUnit.unit) else none else some (-1:Int)) ((0:Int),PUnit.unit)=some (iI p l 0):=by
 refine jA (g:=fun _=>some (iI p l 0)) (I:=fun (x:Int×PUnit)=>0<=x.1/\x.1<=l.length/\iI p (l.drop x.1.toNat) x.1=iI p l 0) (μ:=fun (x:Int×PUnit)=>((l.length:Int) - x.1).toNat) ?_ ⟨by simp,by simp only;omega,rfl⟩ (by simp only;omega)
 rintro ⟨i,_⟩ rec ⟨h0,h1,h2⟩ hrec
 simp only at h0 h1 h2 ⊢
 by_cases hi:i<l.length
 ·obtain ⟨n,rfl⟩:∃n:Nat,i=n:=⟨i.toNat,by omega⟩
  rw[z7 hi,cond_true,ru h0 hi,cond_true,z9,h _ (by rw[bG (by omega)];exact List.getElem_mem (by omega)),af,be (by omega) (by omega)]
  rw[z9,GF (d:=d) (by omega)] at h2
  cases hp:p (l.getD n d) with
  | true=>rw[hp,cond_true] at h2;rw[cond_true,h2]
  | false=>rw[hp,cond_false] at h2;rw[cond_false];exact hrec _ ⟨by simp only;omega,by simp only;omega,h2⟩ (by simp only;omega)
 ·rw[z8 hi,cond_false]
  have e:i.toNat=l.length:=by omega
  rw[e,List.drop_length] at h2
  rw[<-h2]
  rfl
theorem yS {α:Type} {p:α->Bool} {d:α} {l:List α} (hl:l.length<=1000000) :
  lpK (Int×PUnit) Int (fun (again:Int×PUnit->Option Int) (x:Int×PUnit)=>bif decide (x.1<(↑(List.length l):Int)) then bif inB x.1 (List.length l) then bif p
   (List.getD l (Int.toNat x.1) d) then some x.1 else again
   (IntKind.wrap .i64 (x.1+(1:Int)),PUnit.unit) else none else some (-1:Int)) ((0:Int),PUnit.unit)=some (iI p l 0) :=
 nH (f:=fun a=>some (p a.1)) hl fun _ _=>rfl
theorem mr {R σ:Type} {b:Nat->σ->(σ->Option R)->Option R} {f:σ->Option R} {p:Nat->Bool} {r:Option R} {s:σ} (n:Nat) (hb:∀i (k:σ->Option R),i<n->b i s k=bif p i then k s else r) :
  ∀(k i:Nat),i+k<=n->upF b f k i s=bif (List.range' i k).all p then f s else r
 | 0,i,_=>rfl
 | k+1,i,h=>by
  simp only[upF,hb i _ (by omega),List.range'_succ,List.all_cons]
  cases hp:p i with
  | true=>exact mr n hb k (i+1) (by omega)
  | false=>rfl
end Dn
end Go.Proofs.YtfknoaclabfdlaaGreat

namespace Go.Proofs.YtfknoaclabfdlaaGreat
open Tryz Dn Dn.Sh
theorem Pw {n:Nat} (h:n<18446744073709551616):(decide ((hl n).1=0)&&(decide ((hl n).2=1)&&true))=decide (n=1):=by
 rw[m6 h]
 simp only[decide_true,Bool.true_and,Bool.and_true]
 rw[Bool.eq_iff_iff,decide_eq_true_eq,decide_eq_true_eq]
 omega
theorem Hs {a:Fq}:df a=some (decide (okF a)):=by
 simp only[df,mL,aX,ff,cT]
 by_cases h1:a.2<1
 ·rw[z7 h1]
  simp only[cT]
  rw[z8 (by unfold okF;omega)]
 ·rw[z8 h1]
  by_cases h2:a.2>1152921504606846976
  ·rw[z7 h2]
   simp only[cT,cF]
   rw[z8 (by unfold okF;omega)]
  ·rw[z8 h2]
   by_cases h3:a.1< -1152921504606846976
   ·rw[z7 h3]
    simp only[cT,cF]
    rw[z8 (by unfold okF;omega)]
   ·rw[z8 h3]
    by_cases h4:a.1>1152921504606846976
    ·rw[z7 h4]
     simp only[cT,cF]
     rw[z8 (by unfold okF;omega)]
    ·rw[z8 h4]
     simp only[cF]
     have hg:Nat.gcd a.1.natAbs a.2.natAbs<=a.2.natAbs:=Nat.gcd_le_right _ (by omega)
     rw[BM (by omega) (by omega),af,BM (by omega) (by omega),af,<-m6 (show a.1.natAbs<18446744073709551616 by omega),<-m6 (show a.2.natAbs<18446744073709551616 by omega),Pd (by omega) (by omega) (by omega),af,Pw (by generalize Nat.gcd a.1.natAbs a.2.natAbs=g at *;omega)]
     congr 1
     rw[Bool.eq_iff_iff,decide_eq_true_eq,decide_eq_true_eq]
     unfold okF
     generalize Nat.gcd a.1.natAbs a.2.natAbs=g at *
     omega
end Go.Proofs.YtfknoaclabfdlaaGreat

namespace Go.Proofs.YtfknoaclabfdlaaGreat
namespace Dn
end Dn
end Go.Proofs.YtfknoaclabfdlaaGreat

namespace Go.Proofs.YtfknoaclabfdlaaGreat
open Tryz Dn Dn.Sh
abbrev Rw:=List Int×Int×Int
abbrev Pg:=List Int×List Rw
abbrev rw0:Rw:=([],(0:Int),(0:Int))
def inC (n:Int):Bool:=decide (-1048576<=n/\n<=1048576)
def inR (n:Int):Bool:=decide (-1073741824<=n/\n<=1073741824)
def uc (n:Nat) (r:Rw):Bool:=decide (r.1.length=n)&&(decide (1<=r.2.1/\r.2.1<=3)&&(inR r.2.2&&r.1.all inC))
def HQ (p:Pg):Bool:=decide (1<=p.1.length/\p.1.length<=12/\p.2.length<=6)
def zH (p:Pg):Bool:=HQ p&&(p.1.all inC&&p.2.all (uc p.1.length))
theorem yX {α:Type} {p:α->Bool} {l:List α}:decide (iI p l 0>=0)=l.any p:=by
 have:=ww (p:=p) (l:=l) (i:=0) (by omega)
 rw[Bool.eq_iff_iff,decide_eq_true_iff,List.any_eq_true]
 constructor
 ·intro h1
  by_cases h2:∃a ∈ l,p a=true
  ·exact h2
  ·have:iI p l 0<0:=this.2 fun a ha=>by
    cases e:p a with
    | false=>rfl
    | true=>exact (h2 ⟨a,ha,e⟩).elim
   omega
 ·rintro ⟨a,ha,h3⟩
  by_cases h2:iI p l 0<0
  ·rw[this.1 h2 a ha] at h3;cases h3
  ·omega
theorem MS {α:Type} {p:α->Bool} {l:List α}:(l.any fun a=>!p a)=!l.all p:=by
 induction l with
 | nil=>rfl
 | cons a l ih=>simp[ih,Bool.not_and]
theorem tV {α:Type} {p:α->Bool} {l:List α} (d:α):(List.range' 0 l.length).all (fun i=>p (l.getD i d))=l.all p:=by
 rw[Bool.eq_iff_iff,List.all_eq_true,List.all_eq_true]
 constructor
 ·intro h a ha
  obtain ⟨i,hi,rfl⟩:=List.getElem_of_mem ha
  have:=h i (List.mem_range'.2 ⟨i,hi,by omega⟩)
  rwa [bG hi] at this
 ·intro h i hi
  obtain ⟨k,hk,rfl⟩:=List.mem_range'.1 hi
  rw[bG (by omega)]
  exact h _ (List.getElem_mem _)
theorem ED {f:(Int×Unit)->Option Bool} {p:Int->Bool} {l:List Int} (hl:l.length<=1000000) (h:∀a,a ∈ l->f (a,())=some (p a)):aY l f=some (l.any p):=by
 have h1:bH l f=some (iI p l 0):=by
  unfold bH gu
  exact nH (f:=f) (d:=(0:Int)) hl h
 simp only[aY,fA,h1,af,yX]
theorem Jd (n m:Int) (h0:0<=m) (h1:m<=1099511627776):b8 n m=some (!decide (-m<=n/\n<=m)):=by
 have hw:IntKind.wrap .i64 (0 - m)= -m:=by rw[be (by omega) (by omega)];omega
 simp only[b8,iC,hw,aX,ff,Bool.and_self,cT]
 by_cases g1:n< -m
 ·rw[z7 g1,z8 (show ¬ (-m<=n/\n<=m) by omega)];rfl
 ·rw[z8 g1]
  by_cases g2:n>m
  ·rw[z7 g2,z8 (show ¬ (-m<=n/\n<=m) by omega)];rfl
  ·rw[z8 g2,z7 (show (-m<=n/\n<=m) by omega)];rfl
theorem TD (n:Int):b8 n 1048576=some (!inC n):=Jd n _ (by omega) (by omega)
theorem Uk (n:Int):b8 n 1073741824=some (!inR n):=Jd n _ (by omega) (by omega)
theorem yz (p:Pg):bz p=some (zH p):=by
 obtain ⟨c,rs⟩:=p
 simp only[bz,kG,cS,jq,aX,ff,Bool.and_self,cT,zH,HQ]
 by_cases g1:(c.length:Int)<1
 ·rw[z7 g1,z8 (show ¬ (1<=c.length/\c.length<=12/\rs.length<=6) by omega)]
  rfl
 ·rw[z8 g1]
  by_cases g2:(c.length:Int)>12
  ·rw[z7 g2,z8 (show ¬ (1<=c.length/\c.length<=12/\rs.length<=6) by omega)]
   rfl
  ·rw[z8 g2]
   by_cases g3:(rs.length:Int)>6
   ·rw[z7 g3,z8 (show ¬ (1<=c.length/\c.length<=12/\rs.length<=6) by omega)]
    rfl
   ·rw[z8 g3,z7 (show (1<=c.length/\c.length<=12/\rs.length<=6) by omega)]
    have hc:∀l:List Int,l.length<=1000000->aY l (fun x=>b8 x.1 1048576)=some (!l.all inC):=fun l hl=>by
     rw[<-MS]
     exact ED hl fun a _=>TD a
    simp only[cF,cT,Bool.not_false,af,hc c (by omega),Bool.true_and]
    cases hcc:c.all inC with
    | false=>rfl
    | true =>
     simp only[Bool.not_true,cF,Bool.true_and]
     refine (mG (α:=Int×PUnit) rs.length (by omega) (fun i (_:Unit)=>((i:Int),PUnit.unit)) (fun i s k=>bif uc c.length (rs.getD i rw0) then k s else some false) (fun _=>some true) ?_ ?_ ()).trans ?_
     ·intro again i _ hi
      have hw:IntKind.wrap .i64 ((i:Int)+1)=((i+1:Nat):Int):=by rw[be (by omega) (by omega)];rfl
      simp only[bo,z7 hi,z7 (show (i:Int)<rs.length by omega),cT,z9,hw]
      obtain ⟨a,k,b,e⟩:∃a k b,List.getD rs i rw0=(a,k,b):=⟨_,_,_,rfl⟩
      simp only[e,uc,Uk,z7 (show (i:Int)>=0 by omega)]
      by_cases q1:a.length=c.length
      ·have hca:=hc a (by omega)
       simp only[z7 (show (a.length:Int)=c.length by omega),z7 q1,Bool.not_true,Bool.not_false,cT,cF,af,hca,Bool.true_and]
       by_cases q2:k<1
       ·simp only[z7 q2,z8 (show ¬ (1<=k/\k<=3) by omega)]
        cases a.all inC<;>simp[af]
       ·by_cases q3:k>3
        ·simp only[z8 q2,z7 q3,z8 (show ¬ (1<=k/\k<=3) by omega)]
         cases a.all inC<;>simp[af]
        ·simp only[z8 q2,z8 q3,z7 (show (1<=k/\k<=3) by omega)]
         cases h1:a.all inC<;>cases h2:inR b<;>simp[af,h2]
      ·simp only[z8 (show ¬ (a.length:Int)=c.length by omega),z8 q1]
       simp[af]
     ·intro again _
      simp
     ·refine (mr (p:=fun i=>uc c.length (rs.getD i rw0)) (r:=some false) rs.length (fun _ _ _=>rfl) rs.length 0 (by omega)).trans ?_
      rw[tV (p:=uc c.length) (l:=rs) rw0]
      cases rs.all (uc c.length)<;>rfl
end Go.Proofs.YtfknoaclabfdlaaGreat

namespace Go.Proofs.YtfknoaclabfdlaaGreat
noncomputable section
open Tryz Dn Dn.Sh
abbrev Bk:=ByteArray×Int
abbrev Hd:=ByteArray×Int×Int×Int
abbrev Rp:=ByteArray×List Hd×Bool
abbrev Sy:=List Bk×List Rp
abbrev bk0:Bk:=({ data:={ toList:=[] } },(0:Int))
abbrev hd0:Hd:=({ data:={ toList:=[] } },(0:Int),(0:Int),(0:Int))
abbrev rp0:Rp:=({ data:={ toList:=[] } },[],false)
theorem An {σ R:Type} {b:Nat->σ->(σ->Option R)->Option R} {f:σ->Option R} {q:Nat->Bool} {g:Nat->σ->σ} {r:Option R} (n:Nat) (hb:∀i s (k:σ->Option R),i<n->b i s k=bif q i then k (g i s) else r) :
  ∀(k i:Nat) (s:σ),i+k<=n->upF b f k i s=bif (List.range' i k).all q then f ((List.range' i k).foldl (fun s i=>g i s) s) else r
 | 0,i,s,_=>rfl
 | k+1,i,s,h=>by
  simp only[upF,hb i s _ (by omega),List.range'_succ,List.all_cons,List.foldl_cons]
  cases hp:q i with
  | true=>exact An n hb k (i+1) _ (by omega)
  | false=>rfl
theorem tF {α R:Type} {p:α->Bool} {d:α} {l:List α} {yes no:Option R} {F:(Int×PUnit->Option R)->Int×PUnit->Option R} (hl:l.length<=1000000)
  (hb:∀again (i:Nat),i<l.length->F again ((i:Int),PUnit.unit)=bif p (l.getD i d) then again (((i+1:Nat):Int),PUnit.unit) else no) (hf:∀again,F again ((l.length:Int),PUnit.unit)=yes) :
  lpK (Int×PUnit) R F ((0:Int),PUnit.unit)=bif l.all p then yes else no:=by
 refine (mG (α:=Int×PUnit) l.length (by omega) (fun i (_:Unit)=>((i:Int),PUnit.unit)) (fun i s k=>bif p (l.getD i d) then k s else no) (fun _=>yes) ?_ ?_ ()).trans ?_
 ·intro again i _ hi
  exact hb again i hi
 ·intro again _
  exact hf again
 ·rw[mr l.length (fun i k _=>rfl) l.length 0 (by omega),tV]
theorem xE (x y:ByteArray):∀m:List (ByteArray×Bool),iq str Sh.bool x false (oP str Sh.bool y true m)=(decide (x=y)||iq str Sh.bool x false m)
 | []=>by
  simp only[oP,iq,kM]
  cases decide (x=y)<;>rfl
 | z ::m=>by
  cases h1:decide (y=z.1) with
  | true =>
   have e:=z12 h1
   simp only[oP,kM,h1,cT,iq]
   rw[e]
   cases decide (x=z.1)<;>rfl
  | false =>
   simp only[oP,kM,h1,cF,iq,xE x y m]
   cases h2:decide (x=z.1) with
   | false=>rfl
   | true =>
    have h3:decide (x=y)=false:=z8 fun e=>of_decide_eq_false h1 (by rw[<-e];exact z12 h2)
    rw[h3]
    rfl
def mX (x:ByteArray) (l:List ByteArray):Bool:=l.any fun y=>decide (x=y)
theorem AJ {x:ByteArray} {l:List ByteArray}:mX x l=true↔x ∈ l:=by
 unfold mX
 rw[List.any_eq_true]
 constructor
 ·rintro ⟨y,h1,h2⟩;rw[z12 h2];exact h1
 ·intro h;exact ⟨x,h,z7 rfl⟩
theorem r8 {x:ByteArray} {l:List ByteArray}:mX x l=false↔x ∉ l:=by rw[<-AJ,Bool.not_eq_true]
def vJ (l:List ByteArray):List (ByteArray×Bool):=l.foldl (fun m x=>oP str Sh.bool x true m) []
theorem wM (x:ByteArray):∀(l:List ByteArray) (m:List (ByteArray×Bool)),iq str Sh.bool x false (l.foldl (fun m x=>oP str Sh.bool x true m) m)=(mX x l||iq str Sh.bool x false m)
 | [],m=>rfl
 | y ::l,m=>by
  rw[List.foldl_cons,wM x l,xE,<-Bool.or_assoc]
  congr 1
  unfold mX
  rw[List.any_cons,Bool.or_comm]
theorem xX (x:ByteArray) (l:List ByteArray):iq str Sh.bool x false (vJ l)=mX x l:=by
 unfold vJ
 rw[wM]
 exact Bool.or_false _
theorem wK (x:ByteArray) (l:List ByteArray):oP str Sh.bool x true (vJ l)=vJ (l++[x]):=by
 unfold vJ
 rw[List.foldl_append]
 rfl
theorem tn {α:Type} {l:List α} {i:Nat} (d:α) (h:i<l.length):l.take i++[l.getD i d]=l.take (i+1):=by
 rw[bG h,List.take_succ_eq_append_getElem h]
theorem nk {α β:Type} {f:α->β} {l:List α} {d:α} {i:Nat} (h:i<l.length) (e:β):(l.map f).getD i e=f (l.getD i d):=by
 rw[bG (by rw[List.length_map];exact h),bG h,List.getElem_map]
theorem rJ {α:Type} {p:α->Bool} (d:α):∀{l:List α} {i:Nat} {k:Int},i<l.length->p (l.getD i d)=true->(iI p l k=k+i↔∀a ∈ l.take i,p a=false)
 | a ::l,0,k,_,hp=>by
  rw[List.getD_cons_zero] at hp
  unfold iI
  rw[hp,cT]
  simp
 | a ::l,i+1,k,h,hp=>by
  rw[List.getD_cons_succ] at hp
  unfold iI
  rw[List.take_succ_cons]
  cases ha:p a with
  | true =>
   rw[cT]
   constructor
   ·intro e;omega
   ·intro e;have:=e a (by simp);rw[ha] at this;cases this
  | false =>
   rw[cF]
   have:=rJ d (l:=l) (i:=i) (k:=k+1) (by simpa using h) hp
   rw[show k+((i+1:Nat):Int)=k+1+i by omega,this]
   simp[ha]
def fbI (s:Sy) (n:ByteArray):Int:=iI (fun b:Bk=>decide (b.1=n)) s.1 0
def frI (s:Sy) (n:ByteArray):Int:=iI (fun r:Rp=>decide (r.1=n)) s.2 0
theorem CI (s:Sy) (n:ByteArray) (hl:s.1.length<=1000000):bZ s n=some (fbI s n):=by
 simp only[bZ,lI,eg,jT,lf]
 unfold bR gy
 exact congrArg (fun m:Option Int=>aa m fun t=>some t) (nH (f:=fun x:Bk×Unit=>some (decide (x.1.1=n))) (p:=fun b:Bk=>decide (b.1=n)) (d:=bk0) hl (fun a _=>rfl))
theorem xY (s:Sy) (n:ByteArray) (hl:s.1.length<=1000000):bj s n=some (fbI s n):=by
 simp only[bj,jF,lf]
 exact yS (p:=fun b:Bk=>decide (b.1=n)) (d:=bk0) hl
theorem F2 (s:Sy) (n:ByteArray) (hl:s.2.length<=1000000):bK s n=some (frI s n):=by
 simp only[bK,j6,lf]
 exact yS (p:=fun r:Rp=>decide (r.1=n)) (d:=rp0) hl
def nX (n a b:Int):Bool:=decide (n>=a)&&decide (n<=b)
theorem wB (n a b:Int):br n a b=some (nX n a b):=by
 simp only[br,jY,aX,Bool.and_self,cT,iU,nX]
def oA (f:Int×Int):Bool:=decide (okF f)&&(decide (f.1>=f.2)&&decide (f.1<=100))
theorem K5 (f:Int×Int):dX f=some (oA f):=by
 simp only[dX,kJ,vK,af,aX,Bool.and_self,cT,iU,oA,Bool.and_assoc]
theorem Gn (f:Int×Int):dn f=some (oA f):=by
 simp only[dn,jl,Hs,af,aX,Bool.and_self,cT,iU,oA,Bool.and_assoc]
def nF (s:ByteArray):Bool:=decide (s={ data:=#[] })
def kn (s:Sy) (h:Hd) (e:Bool):Bool:=(bif e then decide (h.2.2.1=1)&&decide (h.2.2.2=1) else oA h.2.2) &&
 (bif nF h.1 then decide (h.2.1=0) else !decide (fbI s h.1<0)&&(bif e then decide (h.2.1=1)||decide (h.2.1= -1) else decide (h.2.1=2)||(decide (h.2.1=0)||decide (h.2.1= -2))))
theorem JQ (s:Sy) (h:Hd) (e:Bool) (hl:s.1.length<=1000000):dN s h e=some (kn s h e):=by
 obtain ⟨b,p,n,d⟩:=h
 simp only[dN,lH,K5,CI s _ hl,lf,kn,nF,af]
 generalize decide (fbI s b<0)=g1
 generalize decide (b={ data:=#[] })=g2
 generalize oA (n,d)=g3
 generalize decide (p=0)=p0
 generalize decide (p=1)=p1
 generalize decide (p= -1)=p2
 generalize decide (p=2)=p3
 generalize decide (p= -2)=p4
 generalize decide (n=1)=g4
 generalize decide (d=1)=g5
 cases e with
 | false =>
  cases g3;· rfl
  cases g2;case true=>rfl
  cases g1;case true=>rfl
  cases p3<;>cases p0<;>cases p4<;>rfl
 | true =>
  cases g4;· rfl
  cases g5;· rfl
  cases g2;case true=>rfl
  cases g1;case true=>rfl
  cases p1<;>cases p2<;>rfl
theorem Ng (n:Int):cZ n=some (n,1):=id rfl
theorem GA (s:Sy) (h:Hd) (e:Bool) (hl:s.1.length<=1000000):fc s h e=some (kn s h e):=by
 obtain ⟨b,p,n,d⟩:=h
 have hL:decide (n=1)=true->decide (d=1)=true->oA (n,d)=true:=fun h1 h2=>by
  have e1:=z12 h1
  have e2:=z12 h2
  subst e1;subst e2
  unfold oA
  rw[z7 (NG (by omega) (by omega))]
  rfl
 simp only[fc,ow,Gn,xY s _ hl,lf,kn,nF,af,Ng]
 generalize decide (fbI s b<0)=g1
 generalize decide (b={ data:=#[] })=g2
 generalize oA (n,d)=g3 at hL
 generalize decide (p=0)=p0
 generalize decide (p=1)=p1
 generalize decide (p= -1)=p2
 generalize decide (p=2)=p3
 generalize decide (p= -2)=p4
 cases e with
 | false =>
  cases g3;· rfl
  cases g2;case true=>rfl
  cases g1;case true=>rfl
  cases p3<;>cases p0<;>cases p4<;>rfl
 | true =>
  simp only[cT,af]
  generalize decide (n=1)=g4 at hL
  generalize decide (d=1)=g5 at hL
  cases g4;· rfl
  cases g5;· rfl
  rw[hL rfl rfl]
  cases g2;case true=>rfl
  cases g1;case true=>rfl
  cases p1<;>cases p2<;>rfl
def oI (s:Sy) (r:Rp):Bool:=decide (2<=r.2.1.length/\r.2.1.length<=10)&&((List.range' 0 r.2.1.length).all (fun i=>kn s (r.2.1.getD i hd0) (decide (i=0)||decide (i=r.2.1.length - 1))) &&
 (!r.2.2||nF (r.2.1.getD (r.2.1.length - 1) hd0).1))
theorem Jz (s:Sy) (r:Rp) (hl:s.1.length<=1000000):eF s r=some (oI s r):=by
 obtain ⟨nm,hs,ha⟩:=r
 have hh:=fun h e=>JQ s h e hl
 simp only[eF,lM,wB,hh,af,oI,lf]
 by_cases h2:2<=hs.length/\hs.length<=10
 ·have e:nX (hs.length:Int) 2 10=true:=by
   unfold nX
   rw[z7 (show (hs.length:Int)>=2 by omega),z7 (show (hs.length:Int)<=10 by omega)];rfl
  have hw0:IntKind.wrap .i64 ((hs.length:Int) - 1)=((hs.length - 1:Nat):Int):=by rw[be (by omega) (by omega)];omega
  rw[e,z7 h2]
  simp only[Bool.not_true,cF,Bool.true_and,hw0]
  refine (mG (α:=Int×PUnit) hs.length (by omega) (fun i (_:Unit)=>((i:Int),PUnit.unit)) (fun i t k=>bif kn s (hs.getD i hd0) (decide (i=0)||decide (i=hs.length - 1)) then k t else some false) (fun _=>some (!ha||nF (hs.getD (hs.length - 1) hd0).1)) ?_ ?_ ()).trans ?_
  ·intro again i _ hi
   have hw:IntKind.wrap .i64 ((i:Int)+1)=((i+1:Nat):Int):=by rw[be (by omega) (by omega)];rfl
   have e0:decide ((i:Int)=0)=decide (i=0):=decide_eq_decide.2 (by omega)
   have e1:decide ((i:Int)=((hs.length - 1:Nat):Int))=decide (i=hs.length - 1):=decide_eq_decide.2 (by omega)
   simp only[bo,z7 hi,z7 (show (i:Int)<hs.length by omega),cT,z9,hw,e0,e1,aX,ff,Bool.and_self]
   have e3:(bif decide (i=0) then true else decide (i=hs.length - 1))=(decide (i=0)||decide (i=hs.length - 1)):=by cases decide (i=0)<;>rfl
   rw[e3]
   cases kn s (hs.getD i hd0) (decide (i=0)||decide (i=hs.length - 1))<;>rfl
  ·intro again _
   simp only[z8 (show ¬ (hs.length:Int)<hs.length by omega),cF,bo,z7 (show hs.length - 1<hs.length by omega),z9,nF]
   generalize decide ((List.getD hs (hs.length - 1) hd0).1={ data:=#[] })=g
   cases ha<;>rfl
  ·rw[mr hs.length (fun i k _=>rfl) hs.length 0 (by omega)]
   cases (List.range' 0 hs.length).all fun i=>kn s (hs.getD i hd0) (decide (i=0)||decide (i=hs.length - 1))<;>rfl
 ·have e:nX (hs.length:Int) 2 10=false:=by
   unfold nX
   by_cases g:(hs.length:Int)>=2
   ·rw[z7 g,z8 (show ¬ (hs.length:Int)<=10 by omega)];rfl
   ·rw[z8 g];rfl
  rw[e,z8 h2]
  rfl
theorem G4 (s:Sy) (r:Rp) (hl:s.1.length<=1000000):fT s r=some (oI s r):=by
 obtain ⟨nm,hs,ha⟩:=r
 have hh:=fun h e=>GA s h e hl
 simp only[fT,oj,hh,af,oI,lf]
 by_cases h2:2<=hs.length/\hs.length<=10
 ·have hw0:IntKind.wrap .i64 ((hs.length:Int) - 1)=((hs.length - 1:Nat):Int):=by rw[be (by omega) (by omega)];omega
  rw[z7 h2,z8 (show ¬ (hs.length:Int)<2 by omega),z8 (show ¬ (hs.length:Int)>10 by omega)]
  simp only[Bool.not_true,Bool.not_false,Bool.or_true,cT,cF,Bool.true_and,hw0]
  refine (mG (α:=Int×PUnit) hs.length (by omega) (fun i (_:Unit)=>((i:Int),PUnit.unit)) (fun i t k=>bif kn s (hs.getD i hd0) (decide (i=0)||decide (i=hs.length - 1)) then k t else some false) (fun _=>some (!ha||nF (hs.getD (hs.length - 1) hd0).1)) ?_ ?_ ()).trans ?_
  ·intro again i _ hi
   have hw:IntKind.wrap .i64 ((i:Int)+1)=((i+1:Nat):Int):=by rw[be (by omega) (by omega)];rfl
   have e0:decide ((i:Int)=0)=decide (i=0):=decide_eq_decide.2 (by omega)
   have e1:decide ((i:Int)=((hs.length - 1:Nat):Int))=decide (i=hs.length - 1):=decide_eq_decide.2 (by omega)
   simp only[bo,z7 hi,z7 (show (i:Int)<hs.length by omega),cT,z9,hw,e0,e1,aX,ff,Bool.and_self]
   have e3:(bif decide (i=0) then true else decide (i=hs.length - 1))=(decide (i=0)||decide (i=hs.length - 1)):=by cases decide (i=0)<;>rfl
   rw[e3]
   cases kn s (hs.getD i hd0) (decide (i=0)||decide (i=hs.length - 1))<;>rfl
  ·intro again _
   simp only[z8 (show ¬ (hs.length:Int)<hs.length by omega),cF,bo,z7 (show hs.length - 1<hs.length by omega),z9,nF]
   generalize decide ((List.getD hs (hs.length - 1) hd0).1={ data:=#[] })=g
   cases ha<;>rfl
  ·rw[mr hs.length (fun i k _=>rfl) hs.length 0 (by omega)]
   cases (List.range' 0 hs.length).all fun i=>kn s (hs.getD i hd0) (decide (i=0)||decide (i=hs.length - 1))<;>rfl
 ·rw[z8 h2]
  by_cases g:(hs.length:Int)<2
  ·rw[z7 g];rfl
  ·rw[z8 g,z7 (show (hs.length:Int)>10 by omega)];rfl
def lW (s:Sy) (i:Nat):Bool:=qT (s.1.getD i bk0).1&&(!mX (s.1.getD i bk0).1 ((s.1.map (·.fst)).take i)&&nX (s.1.getD i bk0).2 0 16777216)
def gB (s:Sy) (i:Nat):Bool:=qT (s.2.getD i rp0).1&&(!mX (s.2.getD i rp0).1 (s.1.map (·.fst)++(s.2.map (·.fst)).take i)&&oI s (s.2.getD i rp0))
def sR (rs:List Rp):Int:=(List.range' 0 rs.length).foldl (fun h i=>bif (rs.getD i rp0).2.2 then IntKind.wrap .i64 (h+1) else h) 0
def fe (s:Sy):Bool:=decide (1<=s.1.length/\s.1.length<=6/\1<=s.2.length/\s.2.length<=6)&&((List.range' 0 s.1.length).all (lW s)&&((List.range' 0 s.2.length).all (gB s)&&decide (sR s.2<=1)))
theorem sr (s:Sy):aI s=some (fe s):=by
 obtain ⟨bs,rs⟩:=s
 simp only[aI,kD,wB,GL,af,fe]
 by_cases h1:1<=bs.length/\bs.length<=6
 ·have e1:nX (bs.length:Int) 1 6=true:=by
   unfold nX
   rw[z7 (show (bs.length:Int)>=1 by omega),z7 (show (bs.length:Int)<=6 by omega)];rfl
  by_cases h2:1<=rs.length/\rs.length<=6
  ·have e2:nX (rs.length:Int) 1 6=true:=by
    unfold nX
    rw[z7 (show (rs.length:Int)>=1 by omega),z7 (show (rs.length:Int)<=6 by omega)];rfl
   have hr:=fun r=>Jz (bs,rs) r (show bs.length<=1000000 by omega)
   simp only[e1,e2,hr,af,Bool.not_true,Bool.not_false,Bool.or_true,cT,cF,z7 (show 1<=bs.length/\bs.length<=6/\1<=rs.length/\rs.length<=6 by omega),Bool.true_and]
   refine (mG (α:=Int×List (ByteArray×Bool)×PUnit) bs.length (by omega) (fun i (_:Unit)=>((i:Int),vJ ((bs.map (·.fst)).take i),PUnit.unit)) (fun i t k=>bif lW (bs,rs) i then k t else some false)
    (fun _=>some ((List.range' 0 rs.length).all (gB (bs,rs))&&decide (sR rs<=1))) ?_ ?_ ()).trans ?_
   ·intro again i _ hi
    have hw:IntKind.wrap .i64 ((i:Int)+1)=((i+1:Nat):Int):=by rw[be (by omega) (by omega)];rfl
    have hn:(bs.map (·.fst)).take (i+1)=(bs.map (·.fst)).take i++[(bs.getD i bk0).1]:=by
     rw[<-tn (d:=bk0.1) (by rw[List.length_map];exact hi),nk (d:=bk0) hi]
    simp only[bo,z7 hi,z7 (show (i:Int)<bs.length by omega),cT,z9,hw,xX,wK,<-hn,lW,aX,Bool.and_self]
    generalize mX (List.getD bs i bk0).1 ((bs.map (·.fst)).take i)=g1
    generalize nX (List.getD bs i bk0).2 0 16777216=g2
    cases qT (List.getD bs i bk0).1<;>cases g1<;>cases g2<;>rfl
   ·intro again _
    simp only[z8 (show ¬ (bs.length:Int)<bs.length by omega),cF]
    refine (mG (α:=Int×Int×List (ByteArray×Bool)×PUnit) rs.length (by omega) (fun i (h:Int)=>(h,(i:Int),vJ (bs.map (·.fst)++(rs.map (·.fst)).take i),PUnit.unit)) (fun i t k=>bif gB (bs,rs) i then k (bif (rs.getD i rp0).2.2 then IntKind.wrap .i64 (t+1) else t) else some false)
     (fun h=>some (decide (h<=1))) ?_ ?_ 0 |>Eq.trans (by rw[List.take_zero,List.append_nil,List.take_of_length_le (by rw[List.length_map];omega)];rfl)).trans ?_
    ·intro again i t hi
     have hw:IntKind.wrap .i64 ((i:Int)+1)=((i+1:Nat):Int):=by rw[be (by omega) (by omega)];rfl
     have hn:bs.map (·.fst)++(rs.map (·.fst)).take (i+1)=bs.map (·.fst)++(rs.map (·.fst)).take i++[(rs.getD i rp0).1]:=by
      rw[<-tn (d:=rp0.1) (by rw[List.length_map];exact hi),nk (d:=rp0) hi,List.append_assoc]
     simp only[bo,z7 hi,z7 (show (i:Int)<rs.length by omega),cT,z9,hw,xX,wK,<-hn,gB,aX,Bool.and_self]
     generalize mX (List.getD rs i rp0).1 (bs.map (·.fst)++(rs.map (·.fst)).take i)=g1
     generalize oI (bs,rs) (List.getD rs i rp0)=g2
     cases qT (List.getD rs i rp0).1<;>cases g1<;>cases g2<;>cases (List.getD rs i rp0).2.2<;>rfl
    ·intro again t
     simp only[z8 (show ¬ (rs.length:Int)<rs.length by omega),cF]
    ·rw[An (q:=gB (bs,rs)) (g:=fun i t=>bif (rs.getD i rp0).2.2 then IntKind.wrap .i64 (t+1) else t) rs.length (fun i s k _=>rfl) rs.length 0 _ (by omega)]
     unfold sR
     cases (List.range' 0 rs.length).all (gB (bs,rs))<;>rfl
   ·rw[mr bs.length (fun i k _=>rfl) bs.length 0 (by omega)]
    cases (List.range' 0 bs.length).all (lW (bs,rs))<;>rfl
  ·have e2:nX (rs.length:Int) 1 6=false:=by
    unfold nX
    by_cases g:(rs.length:Int)>=1
    ·rw[z7 g,z8 (show ¬ (rs.length:Int)<=6 by omega)];rfl
    ·rw[z8 g];rfl
   rw[e1,e2,z8 (show ¬ (1<=bs.length/\bs.length<=6/\1<=rs.length/\rs.length<=6) by omega)]
   rfl
 ·have e1:nX (bs.length:Int) 1 6=false:=by
   unfold nX
   by_cases g:(bs.length:Int)>=1
   ·rw[z7 g,z8 (show ¬ (bs.length:Int)<=6 by omega)];rfl
   ·rw[z8 g];rfl
  rw[e1,z8 (show ¬ (1<=bs.length/\bs.length<=6/\1<=rs.length/\rs.length<=6) by omega)]
  rfl
theorem HI (s:Sy):bh s=some (fe s):=by
 obtain ⟨bs,rs⟩:=s
 simp only[bh,mI,yU,af,fe]
 by_cases h0:1<=bs.length/\bs.length<=6/\1<=rs.length/\rs.length<=6
 ·have hr:=fun r=>G4 (bs,rs) r (show bs.length<=1000000 by omega)
  have hfb:=fun n=>xY (bs,rs) n (show bs.length<=1000000 by omega)
  have hfr:=fun n=>F2 (bs,rs) n (show rs.length<=1000000 by omega)
  rw[z7 h0,z8 (show ¬ (bs.length:Int)<1 by omega),z8 (show ¬ (bs.length:Int)>6 by omega),z8 (show ¬ (rs.length:Int)<1 by omega),z8 (show ¬ (rs.length:Int)>6 by omega)]
  simp only[hr,hfb,hfr,Bool.not_true,Bool.not_false,Bool.or_true,cT,cF,Bool.true_and]
  refine (mG (α:=Int×PUnit) bs.length (by omega) (fun i (_:Unit)=>((i:Int),PUnit.unit)) (fun i t k=>bif lW (bs,rs) i then k t else some false)
   (fun _=>some ((List.range' 0 rs.length).all (gB (bs,rs))&&decide (sR rs<=1))) ?_ ?_ ()).trans ?_
  ·intro again i _ hi
   have hw:IntKind.wrap .i64 ((i:Int)+1)=((i+1:Nat):Int):=by rw[be (by omega) (by omega)];rfl
   have hi1:decide (fbI (bs,rs) (bs.getD i bk0).1=(i:Int))=!mX (bs.getD i bk0).1 ((bs.map (·.fst)).take i):=by
    have:=rJ (p:=fun b:Bk=>decide (b.1=(bs.getD i bk0).1)) bk0 (l:=bs) (i:=i) (k:=0) hi (z7 rfl)
    rw[Bool.eq_iff_iff,Bool.not_eq_true',decide_eq_true_iff,r8,<-List.map_take]
    unfold fbI
    rw[Int.zero_add] at this
    rw[this,List.mem_map]
    constructor
    ·rintro h ⟨a,ha,he⟩
     exact of_decide_eq_false (h a ha) he
    ·intro h a ha
     exact z8 fun he=>h ⟨a,ha,he⟩
   simp only[bo,z7 hi,z7 (show (i:Int)<bs.length by omega),cT,z9,hw,lW,nX]
   generalize hg:mX (List.getD bs i bk0).1 ((bs.map (·.fst)).take i)=g1 at hi1
   have hlt:decide ((List.getD bs i bk0).2<0)=!decide ((List.getD bs i bk0).2>=0):=by
    rw[Bool.eq_iff_iff,Bool.not_eq_true',decide_eq_true_iff,decide_eq_false_iff_not];omega
   have hgt:decide ((List.getD bs i bk0).2>16777216)=!decide ((List.getD bs i bk0).2<=16777216):=by
    rw[Bool.eq_iff_iff,Bool.not_eq_true',decide_eq_true_iff,decide_eq_false_iff_not];omega
   rw[hlt,hgt]
   generalize decide ((List.getD bs i bk0).2>=0)=g2
   generalize decide ((List.getD bs i bk0).2<=16777216)=g3
   cases qT (List.getD bs i bk0).1 with
   | false=>rfl
   | true =>
    simp only[Bool.not_true,Bool.not_false,Bool.or_true,Bool.and_self,cT,af,hi1]
    cases g1<;>cases g2<;>cases g3<;>rfl
  ·intro again _
   simp only[z8 (show ¬ (bs.length:Int)<bs.length by omega),cF]
   refine (mG (α:=Int×Int×PUnit) rs.length (by omega) (fun i (h:Int)=>(h,(i:Int),PUnit.unit)) (fun i t k=>bif gB (bs,rs) i then k (bif (rs.getD i rp0).2.2 then IntKind.wrap .i64 (t+1) else t) else some false)
    (fun h=>some (decide (h<=1))) ?_ ?_ 0).trans ?_
   ·intro again i t hi
    have hw:IntKind.wrap .i64 ((i:Int)+1)=((i+1:Nat):Int):=by rw[be (by omega) (by omega)];rfl
    have hi1:decide (frI (bs,rs) (rs.getD i rp0).1=(i:Int))=!mX (rs.getD i rp0).1 ((rs.map (·.fst)).take i):=by
     have:=rJ (p:=fun b:Rp=>decide (b.1=(rs.getD i rp0).1)) rp0 (l:=rs) (i:=i) (k:=0) hi (z7 rfl)
     rw[Bool.eq_iff_iff,Bool.not_eq_true',decide_eq_true_iff,r8,<-List.map_take]
     unfold frI
     rw[Int.zero_add] at this
     rw[this,List.mem_map]
     constructor
     ·rintro h ⟨a,ha,he⟩
      exact of_decide_eq_false (h a ha) he
     ·intro h a ha
      exact z8 fun he=>h ⟨a,ha,he⟩
    have hi2:decide (fbI (bs,rs) (rs.getD i rp0).1>=0)=mX (rs.getD i rp0).1 (bs.map (·.fst)):=by
     unfold fbI
     rw[yX,Bool.eq_iff_iff,List.any_eq_true,AJ,List.mem_map]
     constructor
     ·rintro ⟨a,ha,he⟩;exact ⟨a,ha,z12 he⟩
     ·rintro ⟨a,ha,he⟩;exact ⟨a,ha,z7 he⟩
    have hm:mX (rs.getD i rp0).1 (bs.map (·.fst)++(rs.map (·.fst)).take i)=(mX (rs.getD i rp0).1 (bs.map (·.fst))||mX (rs.getD i rp0).1 ((rs.map (·.fst)).take i)):=by
     unfold mX
     rw[List.any_append]
    simp only[bo,z7 hi,z7 (show (i:Int)<rs.length by omega),cT,z9,hw,gB,hm]
    generalize mX (List.getD rs i rp0).1 (bs.map (·.fst))=g1 at hi2
    generalize mX (List.getD rs i rp0).1 ((rs.map (·.fst)).take i)=g2 at hi1
    generalize oI (bs,rs) (List.getD rs i rp0)=g3
    generalize qT (List.getD rs i rp0).1=g4
    generalize (List.getD rs i rp0).2.2=g5
    cases g4 with
    | false=>rfl
    | true =>
     simp only[Bool.not_true,Bool.not_false,Bool.or_true,Bool.and_self,cT,cF,af,hi1]
     cases g2 with
     | true=>cases g1<;>rfl
     | false =>
      simp only[Bool.not_true,Bool.not_false,Bool.or_true,Bool.or_false,cT,cF,af,hi2]
      cases g1<;>cases g3<;>cases g5<;>rfl
   ·intro again t
    simp only[z8 (show ¬ (rs.length:Int)<rs.length by omega),cF]
   ·rw[An (q:=gB (bs,rs)) (g:=fun i t=>bif (rs.getD i rp0).2.2 then IntKind.wrap .i64 (t+1) else t) rs.length (fun i s k _=>rfl) rs.length 0 _ (by omega)]
    unfold sR
    cases (List.range' 0 rs.length).all (gB (bs,rs))<;>rfl
  ·rw[mr bs.length (fun i k _=>rfl) bs.length 0 (by omega)]
   cases (List.range' 0 bs.length).all (lW (bs,rs))<;>rfl
 ·rw[z8 h0]
  by_cases g1:(bs.length:Int)<1
  ·rw[z7 g1];rfl
  ·rw[z8 g1]
   by_cases g2:(bs.length:Int)>6
   ·rw[z7 g2];rfl
   ·rw[z8 g2]
    by_cases g3:(rs.length:Int)<1
    ·rw[z7 g3];rfl
    ·rw[z8 g3,z7 (show (rs.length:Int)>6 by omega)];rfl
end
end Go.Proofs.YtfknoaclabfdlaaGreat

namespace Go.Proofs.YtfknoaclabfdlaaGreat
namespace Dn
def ab (x:Int):Int:=(x.natAbs:Int)
theorem cH (x:Int):0<=ab x:=by unfold ab;omega
theorem PE (x y:Int):ab (x+y)<=ab x+ab y:=by unfold ab;omega
theorem xU {x b:Int}:ab x<=b↔ -b<=x/\x<=b:=by unfold ab;omega
theorem pr (x y:Int):ab (x*y)=ab x*ab y:=by
 unfold ab
 rw[Int.natAbs_mul]
 rfl
def sz:Nat->(Nat->Int)->Int
 | 0,_=>0
 | n+1,f=>sz n f+f n
theorem bA:∀{n:Nat} {f g:Nat->Int},(∀i,i<n->f i=g i)->sz n f=sz n g
 | 0,_,_,_=>rfl
 | n+1,f,g,h=>by
  simp only[sz]
  rw[bA (n:=n) fun i hi=>h i (by omega),h n (by omega)]
theorem mD:∀{n:Nat} {f g:Nat->Int},sz n (fun i=>f i+g i)=sz n f+sz n g
 | 0,_,_=>rfl
 | n+1,f,g=>by
  simp only[sz]
  rw[mD]
  omega
theorem fV:∀{n:Nat} {c:Int} {f:Nat->Int},sz n (fun i=>c*f i)=c*sz n f
 | 0,c,_=>by simp[sz]
 | n+1,c,f=>by
  simp only[sz]
  rw[fV,Int.mul_add]
theorem zk {n:Nat} {c:Int} {f:Nat->Int}:sz n (fun i=>f i*c)=sz n f*c:=by
 rw[Int.mul_comm,<-fV]
 exact bA fun i _=>Int.mul_comm _ _
theorem gb:∀{n:Nat} {f:Nat->Int},(∀i,i<n->f i=0)->sz n f=0
 | 0,_,_=>rfl
 | n+1,f,h=>by
  simp only[sz]
  rw[gb fun i hi=>h i (by omega),h n (by omega)]
  rfl
theorem PX {n:Nat} {f:Nat->Int}:sz n (fun i=> - f i)= - sz n f:=by
 have:sz n (fun i=> - f i)=sz n (fun i=>(-1)*f i):=bA fun i _=>by omega
 rw[this,fV]
 omega
theorem wa {n:Nat} {f g:Nat->Int}:sz n (fun i=>f i - g i)=sz n f - sz n g:=by
 have:sz n (fun i=>f i - g i)=sz n (fun i=>f i+ - g i):=bA fun i _=>by omega
 rw[this,mD,PX]
 omega
theorem eG:∀{n:Nat} {f:Nat->Int} {k:Nat},k<n->(∀i,i<n->i≠k->f i=0)->sz n f=f k
 | n+1,f,k,hk,h=>by
  simp only[sz]
  by_cases e:k=n
  ·subst e
   rw[gb fun i hi=>h i (by omega) (by omega)]
   omega
  ·rw[eG (k:=k) (by omega) fun i hi hne=>h i (by omega) hne,h n (by omega) (fun e'=>e e'.symm)]
   omega
theorem Dq {n:Nat} {f:Nat->Int} {k l:Nat} (hk:k<n) (hl:l<n) (hkl:k≠l) (h:∀i,i<n->i≠k->i≠l->f i=0):sz n f=f k+f l:=by
 have e:sz n f=sz n (fun i=>(if i=k then f k else 0)+(if i=l then f l else 0)):=bA fun i hi=>by
  by_cases h1:i=k
  ·subst h1;rw[if_pos rfl,if_neg hkl];omega
  ·by_cases h2:i=l
   ·subst h2;rw[if_neg h1,if_pos rfl];omega
   ·rw[if_neg h1,if_neg h2,h i hi h1 h2];rfl
 rw[e,mD,eG hk (f:=fun i=>if i=k then f k else 0) (fun i _ hne=>if_neg hne),eG hl (f:=fun i=>if i=l then f l else 0) (fun i _ hne=>if_neg hne)]
 simp
theorem s9:∀{m n:Nat} {f:Nat->Nat->Int},sz m (fun i=>sz n (fun j=>f i j))=sz n (fun j=>sz m (fun i=>f i j))
 | 0,n,f=>by
  simp only[sz]
  exact (gb fun _ _=>rfl).symm
 | m+1,n,f=>by
  simp only[sz]
  rw[s9,mD]
theorem pT:∀{n:Nat} {f g:Nat->Int},(∀i,i<n->f i<=g i)->sz n f<=sz n g
 | 0,_,_,_=>Int.le_refl _
 | n+1,f,g,h=>by
  simp only[sz]
  have:=pT (n:=n) fun i hi=>h i (by omega)
  have:=h n (by omega)
  omega
theorem iu {n:Nat} {f:Nat->Int} (h:∀i,i<n->0<=f i):0<=sz n f:=by
 have:=pT (n:=n) (f:=fun _=>0) (g:=f) h
 rwa [gb fun _ _=>rfl] at this
theorem DF:∀{n:Nat} {f:Nat->Int},ab (sz n f)<=sz n (fun i=>ab (f i))
 | 0,_=>by simp[sz,ab]
 | n+1,f=>by
  simp only[sz]
  have:=DF (n:=n) (f:=f)
  have:=PE (sz n f) (f n)
  omega
def skip (k j:Nat):Nat:=if j<k then j else j+1
def sgd (k:Nat):Int:=if k % 2=0 then 1 else -1
theorem Jc (k:Nat):sgd (k+1)= - sgd k:=by
 unfold sgd
 split<;>split<;>omega
theorem M1 (k:Nat) (x:Int):ab (sgd k*x)=ab x:=by
 unfold sgd ab
 split<;>omega
def ki (A:Nat->Nat->Int) (k:Nat):Nat->Nat->Int:=fun i j=>A (i+1) (skip k j)
def det:Nat->(Nat->Nat->Int)->Int
 | 0,_=>1
 | n+1,A=>sz (n+1) fun k=>sgd k*A 0 k*det n (ki A k)
def bW (A:Nat->Nat->Int) (c:Nat) (v:Nat->Int):Nat->Nat->Int:=fun i j=>if j=c then v i else A i j
theorem iw:∀{n:Nat} {A B:Nat->Nat->Int},(∀i j,i<n->j<n->A i j=B i j)->det n A=det n B
 | 0,_,_,_=>rfl
 | n+1,A,B,h=>by
  simp only[det]
  refine bA fun k hk=>?_
  rw[h 0 k (by omega) hk,iw (A:=ki A k) (B:=ki B k) fun i j hi hj=>h (i+1) (skip k j) (by omega) (by unfold skip;split<;>omega)]
theorem oM {A:Nat->Nat->Int} {k:Nat} {v:Nat->Int}:ki (bW A k v) k=ki A k:=by
 funext i j
 unfold ki bW
 rw[if_neg]
 unfold skip
 split<;>omega
def DY (k c:Nat):Nat:=if c<k then c else c - 1
theorem lV {A:Nat->Nat->Int} {k c:Nat} {v:Nat->Int} (h:k≠c):ki (bW A c v) k=bW (ki A k) (DY k c) (fun i=>v (i+1)):=by
 funext i j
 unfold ki bW skip DY
 by_cases h1:j<k<;>by_cases h2:c<k
 ·simp only[h1,h2,if_true]
 ·simp only[h1,h2,if_true,if_false]
  rw[if_neg (by omega),if_neg (by omega)]
 ·simp only[h1,h2,if_true,if_false]
  rw[if_neg (by omega),if_neg (by omega)]
 ·simp only[h1,h2,if_false]
  by_cases h3:j+1=c
  ·rw[if_pos h3,if_pos (by omega)]
  ·rw[if_neg h3,if_neg (by omega)]
theorem md:∀{n:Nat} {A:Nat->Nat->Int} {c:Nat} {u v:Nat->Int},c<n->det n (bW A c fun i=>u i+v i)=det n (bW A c u)+det n (bW A c v)
 | n+1,A,c,u,v,hc=>by
  simp only[det]
  rw[<-mD]
  refine bA fun k hk=>?_
  by_cases h:k=c
  ·subst h
   simp only[oM]
   have e:∀v:Nat->Int,bW A k v 0 k=v 0:=fun v=>by simp[bW]
   rw[e,e,e,Int.mul_add,Int.add_mul]
  ·have e:∀v:Nat->Int,bW A c v 0 k=A 0 k:=fun v=>by simp[bW,h]
   rw[lV h,lV h,lV h,e,e,e,md (u:=fun i=>u (i+1)) (v:=fun i=>v (i+1)) (by unfold DY;split<;>omega),Int.mul_add]
theorem mP:∀{n:Nat} {A:Nat->Nat->Int} {c:Nat} {x:Int} {u:Nat->Int},c<n->det n (bW A c fun i=>x*u i)=x*det n (bW A c u)
 | n+1,A,c,x,u,hc=>by
  simp only[det]
  rw[<-fV]
  refine bA fun k hk=>?_
  by_cases h:k=c
  ·subst h
   simp only[oM]
   have e:∀v:Nat->Int,bW A k v 0 k=v 0:=fun v=>by simp[bW]
   rw[e,e]
   simp only[Int.mul_assoc,Int.mul_left_comm]
  ·have e:∀v:Nat->Int,bW A c v 0 k=A 0 k:=fun v=>by simp[bW,h]
   rw[lV h,lV h,e,e,mP (u:=fun i=>u (i+1)) (by unfold DY;split<;>omega)]
   simp only[Int.mul_assoc,Int.mul_left_comm]
theorem K1 {n:Nat} {A:Nat->Nat->Int} {c:Nat} (hc:c<n):det n (bW A c fun _=>0)=0:=by
 have:=mP (n:=n) (A:=A) (x:=0) (u:=fun _=>0) hc
 simpa using this
theorem sY {n:Nat} {A:Nat->Nat->Int} {c:Nat} (hc:c<n):∀{m:Nat} {x:Nat->Int} {u:Nat->Nat->Int},det n (bW A c fun i=>sz m fun l=>x l*u l i)=sz m fun l=>x l*det n (bW A c (u l))
 | 0,x,u=>by simp only[sz];exact K1 hc
 | m+1,x,u=>by
  simp only[sz]
  rw[md hc,mP hc,sY hc]
theorem zE:∀{n:Nat} {A:Nat->Nat->Int} {c:Nat},c+1<n->(∀i,i<n->A i c=A i (c+1))->det n A=0
 | n+1,A,c,hc,h=>by
  simp only[det]
  rw[Dq (k:=c) (l:=c+1) (by omega) hc (by omega) fun k hk h1 h2=>?_]
  ·have e:det n (ki A c)=det n (ki A (c+1)):=by
    refine iw fun i j hi hj=>?_
    unfold ki skip
    by_cases h1:j<c
    ·rw[if_pos h1,if_pos (by omega)]
    ·by_cases h2:j=c
     ·subst h2
      rw[if_neg h1,if_pos (by omega)]
      exact (h (i+1) (by omega)).symm
     ·rw[if_neg h1,if_neg (by omega)]
   rw[e,Jc,h 0 (by omega)]
   simp only[Int.neg_mul]
   omega
  ·have e:det n (ki A k)=0:=by
    refine zE (c:=DY k c) ?_ fun i hi=>?_
    ·unfold DY;split<;>omega
    ·unfold ki skip DY
     by_cases h3:c<k
     ·simp only[h3,if_true]
      rw[if_pos (by omega)]
      exact h (i+1) (by omega)
     ·simp only[h3,if_false]
      rw[if_neg (by omega),if_neg (by omega),show c - 1+1=c by omega]
      exact h (i+1) (by omega)
   rw[e,Int.mul_zero]
theorem ni (A:Nat->Nat->Int) (c:Nat):bW A c (fun i=>A i c)=A:=by
 funext i j
 unfold bW
 split
 ·rename_i h;rw[h]
 ·rfl
theorem eu {A:Nat->Nat->Int} {c e:Nat} {u v:Nat->Int} (h:c≠e):bW (bW A c u) e v=bW (bW A e v) c u:=by
 funext i j
 unfold bW
 by_cases h1:j=c<;>by_cases h2:j=e
 ·omega
 ·simp[h1,h]
 ·simp[h2,Ne.symm h]
 ·simp[h1,h2]
theorem zP {n:Nat} {A:Nat->Nat->Int} {c:Nat} {u v:Nat->Int} (hc:c+1<n):det n (bW (bW A c u) (c+1) v)= - det n (bW (bW A c v) (c+1) u):=by
 have h0:∀w:Nat->Int,det n (bW (bW A c w) (c+1) w)=0:=fun w=>zE hc fun i _=>by simp[bW]
 have h1:=h0 fun i=>u i+v i
 rw[md hc,eu (by omega),eu (u:=fun i=>u i+v i) (by omega),md (by omega),md (by omega),eu (c:=c+1) (by omega),eu (c:=c+1) (v:=v) (by omega),eu (c:=c+1) (u:=v) (v:=u) (by omega),eu (c:=c+1) (u:=v) (v:=v) (by omega),h0,h0] at h1
 omega
theorem DV:∀{k:Nat} {n:Nat} {A:Nat->Nat->Int} {c:Nat},c+k+1<n->(∀i,i<n->A i c=A i (c+k+1))->det n A=0
 | 0,n,A,c,hc,h=>zE hc h
 | k+1,n,A,c,hc,h=>by
  have e:A=bW (bW A (c+k+1) fun i=>A i (c+k+1)) (c+k+1+1) fun i=>A i (c+k+1+1):=by
   rw[ni,ni]
  rw[e,zP (by omega)]
  have:det n (bW (bW A (c+k+1) fun i=>A i (c+k+1+1)) (c+k+1+1) fun i=>A i (c+k+1))=0:=by
   refine DV (k:=k) (c:=c) (by omega) fun i hi=>?_
   simp only[bW]
   rw[if_neg (by omega),if_neg (by omega),if_neg (by omega)]
   simp only[if_true]
   exact h i hi
  rw[this]
  rfl
theorem kS {n:Nat} {A:Nat->Nat->Int} {a b:Nat} (ha:a<n) (hb:b<n) (hab:a≠b) (h:∀i,i<n->A i a=A i b):det n A=0:=by
 by_cases hlt:a<b
 ·obtain ⟨k,rfl⟩:∃k,b=a+k+1:=⟨b - a - 1,by omega⟩
  exact DV hb h
 ·obtain ⟨k,rfl⟩:∃k,a=b+k+1:=⟨a - b - 1,by omega⟩
  exact DV ha fun i hi=>(h i hi).symm
theorem AK {n:Nat} {A:Nat->Nat->Int} {a b:Nat} {u v:Nat->Int} (ha:a<n) (hb:b<n) (hab:a≠b):det n (bW (bW A a u) b v)= - det n (bW (bW A a v) b u):=by
 have h0:∀w:Nat->Int,det n (bW (bW A a w) b w)=0:=fun w=>kS ha hb hab fun i _=>by simp[bW]
 have h1:=h0 fun i=>u i+v i
 rw[md hb,eu hab,eu (u:=fun i=>u i+v i) hab,md ha,md ha,eu (c:=b) (Ne.symm hab),eu (c:=b) (v:=v) (Ne.symm hab),eu (c:=b) (u:=v) (v:=u) (Ne.symm hab),eu (c:=b) (u:=v) (v:=v) (Ne.symm hab),h0,h0] at h1
 omega
def pz:Nat->(Nat->Int)->Int
 | 0,_=>1
 | n+1,f=>f 0*pz n fun i=>f (i+1)
theorem tU:∀{n:Nat} {f:Nat->Int},(∀i,i<n->0<=f i)->0<=pz n f
 | 0,_,_=>by simp[pz]
 | n+1,f,h=>Int.mul_nonneg (h 0 (by omega)) (tU fun i hi=>h (i+1) (by omega))
theorem HJ:∀{n:Nat} {f g:Nat->Int},(∀i,i<n->0<=f i/\f i<=g i)->pz n f<=pz n g
 | 0,_,_,_=>Int.le_refl _
 | n+1,f,g,h=>by
  simp only[pz]
  have h1:=HJ (n:=n) (f:=fun i=>f (i+1)) (g:=fun i=>g (i+1)) fun i hi=>h (i+1) (by omega)
  have h2:=h 0 (by omega)
  have h3:=tU (n:=n) (f:=fun i=>f (i+1)) fun i hi=>(h (i+1) (by omega)).1
  exact Int.mul_le_mul h2.2 h1 h3 (Int.le_trans h2.1 h2.2)
theorem FC:∀{n k:Nat} {f:Nat->Int},k<=n->sz n (fun j=>f (skip k j))+f k=sz (n+1) f
 | 0,k,f,hk=>by
  have:k=0:=by omega
  subst this
  simp[sz]
 | n+1,k,f,hk=>by
  by_cases h:k=n+1
  ·subst h
   have e:=bA (n:=n+1) (f:=fun j=>f (skip (n+1) j)) (g:=f) fun j hj=>by simp[skip,hj]
   rw[e]
   rfl
  ·have:=FC (n:=n) (k:=k) (f:=f) (by omega)
   simp only[sz] at this ⊢
   have e:f (skip k n)=f (n+1):=by unfold skip;rw[if_neg (by omega)]
   rw[e]
   omega
theorem xP:∀{n:Nat} {A:Nat->Nat->Int},ab (det n A)<=pz n fun i=>sz n fun j=>ab (A i j)
 | 0,A=>by simp[det,pz,ab]
 | n+1,A=>by
  simp only[det,pz]
  refine Int.le_trans DF ?_
  have hP:0<=pz n fun i=>sz (n+1) fun j=>ab (A (i+1) j):=tU fun i _=>iu fun j _=>cH _
  refine Int.le_trans (pT (g:=fun k=>ab (A 0 k)*pz n fun i=>sz (n+1) fun j=>ab (A (i+1) j)) fun k hk=>?_) (by rw[zk];exact Int.le_refl _)
  rw[Int.mul_assoc,M1,pr]
  refine Int.mul_le_mul_of_nonneg_left (Int.le_trans xP (HJ fun i hi=>⟨iu fun j _=>cH _,?_⟩)) (cH _)
  have:=FC (n:=n) (k:=k) (f:=fun j=>ab (A (i+1) j)) (by omega)
  have h0:=cH (A (i+1) k)
  simp only[ki]
  omega
def upd (β:Nat->Nat) (r c:Nat):Nat->Nat:=fun k=>if k=r then c else β k
def eU (M:Nat->Nat->Int) (γ:Nat->Nat):Nat->Nat->Int:=fun i k=>M i (γ k)
def dc (m:Nat) (M:Nat->Nat->Int) (γ:Nat->Nat):Int:=det m (eU M γ)
theorem lG (M:Nat->Nat->Int) (β:Nat->Nat) (r c:Nat):eU M (upd β r c)=bW (eU M β) r (fun i=>M i c):=by
 funext i k
 unfold eU upd bW
 split<;>rfl
theorem MO (β:Nat->Nat) (r c e:Nat):upd (upd β r c) r e=upd β r e:=by
 funext k
 unfold upd
 split<;>rfl
theorem J9 (β:Nat->Nat) (r:Nat):upd β r (β r)=β:=by
 funext k
 unfold upd
 split
 ·rename_i h;rw[h]
 ·rfl
structure Tb (m w:Nat) (M T:Nat->Nat->Int) (d:Int) (β:Nat->Nat):Prop where
 dpos:0<d
 lt:∀i,i<m->β i<w
 co:∀k,k<m->∀j,j<w->d*M k j=sz m fun i=>T i j*M k (β i)
 cr:∃σ:Int,σ*σ=1/\d=σ*dc m M β/\∀i,i<m->∀j,j<w->T i j=σ*dc m M (upd β i j)
section
variable {m w:Nat} {M T:Nat->Nat->Int} {d:Int} {β:Nat->Nat}
theorem Au {i k:Nat} (hi:i<m) (hk:k<m) (h:i≠k):dc m M (upd β i (β k))=0:=by
 refine kS hi hk h fun l _=>?_
 unfold eU upd
 rw[if_pos rfl,if_neg (Ne.symm h)]
theorem Tb.basis (h:Tb m w M T d β) {i:Nat} (hi:i<m):T i (β i)=d:=by
 obtain ⟨σ,_,h2,h3⟩:=h.cr
 rw[h3 i hi _ (h.lt i hi),J9,<-h2]
theorem Tb.other (h:Tb m w M T d β) {i k:Nat} (hi:i<m) (hk:k<m) (hik:i≠k):T i (β k)=0:=by
 obtain ⟨σ,_,h2,h3⟩:=h.cr
 rw[h3 i hi _ (h.lt k hk),Au hi hk hik,Int.mul_zero]
theorem Tb.inj (h:Tb m w M T d β) {i k:Nat} (hi:i<m) (hk:k<m) (hb:β i=β k):i=k:=by
 by_cases e:i=k
 ·exact e
 ·have h1:=h.other hi hk e
  rw[<-hb,h.basis hi] at h1
  have:=h.dpos
  omega
theorem KI (h:Tb m w M T d β) {r i c j:Nat} (hr:r<m) (hi:i<m) (hri:r≠i) (hc:c<w) (hj:j<w) :
  d*d*dc m M (upd (upd β r c) i j)=(T r c*T i j - T i c*T r j)*dc m M β:=by
 obtain ⟨B,hB⟩:∃B,B=eU M β:=⟨_,rfl⟩
 have e1:d*d*dc m M (upd (upd β r c) i j)=det m (bW (bW B r fun q=>d*M q c) i fun q=>d*M q j):=by
  have a1:=mP (n:=m) (A:=bW B r fun q=>d*M q c) (c:=i) (x:=d) (u:=fun q=>M q j) hi
  have a2:=mP (n:=m) (A:=bW B i fun q=>M q j) (c:=r) (x:=d) (u:=fun q=>M q c) hr
  unfold dc
  rw[lG,lG,<-hB,a1,eu (u:=fun q=>d*M q c) hri,a2,eu (u:=fun q=>M q c) hri,Int.mul_assoc]
 have e2:det m (bW (bW B r fun q=>d*M q c) i fun q=>d*M q j)=det m (bW (bW B r fun q=>sz m fun k=>T k c*B q k) i fun q=>sz m fun l=>T l j*B q l):=by
  refine iw fun p q hp hq=>?_
  unfold bW
  rw[hB]
  split
  ·exact h.co p hp j hj
  ·split
   ·exact h.co p hp c hc
   ·rfl
 rw[e1,e2,sY hi (x:=fun l=>T l j) (u:=fun l q=>B q l)]
 have e3:∀l,det m (bW (bW B r fun q=>sz m fun k=>T k c*B q k) i fun q=>B q l)=sz m fun k=>T k c*det m (bW (bW B i fun q=>B q l) r fun q=>B q k):=fun l=>by
  rw[eu hri,sY hr (x:=fun k=>T k c) (u:=fun k q=>B q k)]
 have z1:∀k l,k<m->k≠r->k≠i->det m (bW (bW B i fun q=>B q l) r fun q=>B q k)=0:=fun k l hk h1 h2 =>
  kS hr hk h1.symm fun q _=>by simp[bW,h1,h2]
 have z2:∀k l,l<m->l≠r->l≠i->det m (bW (bW B i fun q=>B q l) r fun q=>B q k)=0:=fun k l hl h1 h2 =>
  kS hi hl h2.symm fun q _=>by simp[bW,h1,h2,hri.symm]
 have z3:det m (bW (bW B i fun q=>B q r) r fun q=>B q r)=0:=kS hi hr hri.symm fun q _=>by simp[bW,hri.symm]
 have z4:det m (bW (bW B i fun q=>B q i) r fun q=>B q i)=0:=kS hi hr hri.symm fun q _=>by simp[bW,hri.symm]
 have z5:det m (bW (bW B i fun q=>B q i) r fun q=>B q r)=det m B:=by
  rw[ni,ni]
 have z6:det m (bW (bW B i fun q=>B q r) r fun q=>B q i)= - det m B:=by
  rw[AK hi hr hri.symm,z5]
 have e4:∀l,l<m->(sz m fun k=>T k c*det m (bW (bW B i fun q=>B q l) r fun q=>B q k))=T r c*det m (bW (bW B i fun q=>B q l) r fun q=>B q r)+T i c*det m (bW (bW B i fun q=>B q l) r fun q=>B q i):=fun l _ =>
  Dq hr hi hri fun k hk h1 h2=>by rw[z1 k l hk h1 h2,Int.mul_zero]
 rw[bA (g:=fun l=>T l j*(T r c*det m (bW (bW B i fun q=>B q l) r fun q=>B q r)+T i c*det m (bW (bW B i fun q=>B q l) r fun q=>B q i))) fun l hl=>by rw[e3 l,e4 l hl]]
 rw[Dq hr hi hri fun l hl h1 h2=>by rw[z2 r l hl h1 h2,z2 i l hl h1 h2];simp]
 rw[z3,z4,z5,z6]
 have:dc m M β=det m B:=by rw[hB];rfl
 rw[this]
 grind
def piv (T:Nat->Nat->Int) (d:Int) (r c i j:Nat):Int:=(T r c*T i j - T i c*T r j) / d
theorem jg (h:Tb m w M T d β) {r i c j:Nat} (hr:r<m) (hi:i<m) (hri:r≠i) (hc:c<w) (hj:j<w):d*piv T d r c i j=T r c*T i j - T i c*T r j:=by
 obtain ⟨σ,h1,h2,_⟩:=h.cr
 have h3:=KI h hr hi hri hc hj
 have hd:=h.dpos
 have h4:dc m M β=σ*d:=by rw[h2,<-Int.mul_assoc,h1,Int.one_mul]
 rw[h4] at h3
 have h5:d*(d*dc m M (upd (upd β r c) i j))=d*((T r c*T i j - T i c*T r j)*σ):=by
  rw[<-Int.mul_assoc,h3]
  grind
 have h6:=Int.eq_of_mul_eq_mul_left (by omega) h5
 have h7:T r c*T i j - T i c*T r j=d*(σ*dc m M (upd (upd β r c) i j)):=by
  have:(T r c*T i j - T i c*T r j)*σ*σ=d*dc m M (upd (upd β r c) i j)*σ:=by rw[h6]
  rw[Int.mul_assoc,h1,Int.mul_one] at this
  rw[this]
  grind
 unfold piv
 rw[h7,Int.mul_ediv_cancel_left _ (by omega)]
theorem O9 (h:Tb m w M T d β) {σ:Int} (h1:σ*σ=1) (h2:d=σ*dc m M β) {r i c j:Nat} (hr:r<m) (hi:i<m) (hri:r≠i) (hc:c<w) (hj:j<w):piv T d r c i j=σ*dc m M (upd (upd β r c) i j):=by
 have h3:=KI h hr hi hri hc hj
 have hd:=h.dpos
 have h4:dc m M β=σ*d:=by rw[h2,<-Int.mul_assoc,h1,Int.one_mul]
 have h5:=jg h hr hi hri hc hj
 rw[h4,<-h5] at h3
 have h6:(d*d)*dc m M (upd (upd β r c) i j)=(d*d)*(piv T d r c i j*σ):=by rw[h3];grind
 have h7:=Int.eq_of_mul_eq_mul_left (Int.ne_of_gt (Int.mul_pos hd hd)) h6
 rw[h7]
 grind
def sg (x:Int):Int:=if x<0 then -1 else 1
theorem C6 (x:Int):sg x*sg x=1:=by unfold sg;split<;>rfl
theorem Kz {x:Int} (h:x≠0):0<sg x*x:=by unfold sg;split<;>omega
def mF (T:Nat->Nat->Int) (d:Int) (r c:Nat):Nat->Nat->Int:=fun i j=>sg (T r c)*(if i=r then T r j else piv T d r c i j)
theorem Tb.step (h:Tb m w M T d β) {r c:Nat} (hr:r<m) (hc:c<w) (he:T r c≠0):Tb m w M (mF T d r c) (sg (T r c)*T r c) (upd β r c):=by
 have hd:=h.dpos
 refine ⟨Kz he,fun i hi=>?_,fun k hk j hj=>?_,?_⟩
 ·unfold upd
  split
  ·exact hc
  ·exact h.lt i hi
 ·have h1:∀i,i<m->d*((if i=r then T r j else piv T d r c i j)*M k (upd β r c i))=(T r c*(T i j*M k (β i)) - T r j*(T i c*M k (β i)))+(if i=r then d*(T r j*M k c) else 0):=fun i hi=>by
   unfold upd
   by_cases e:i=r
   ·subst e
    simp only[if_true]
    grind
   ·simp only[e,if_false,Int.add_zero]
    rw[<-Int.mul_assoc,jg h hr hi (Ne.symm e) hc hj]
    grind
  have h2:d*(sz m fun i=>(if i=r then T r j else piv T d r c i j)*M k (upd β r c i))=d*(T r c*M k j):=by
   rw[<-fV,bA h1,mD,wa,fV,fV,<-h.co k hk j hj,<-h.co k hk c hc,eG hr fun i _ hne=>if_neg hne,if_pos rfl]
   grind
  have h3:=Int.eq_of_mul_eq_mul_left (by omega) h2
  have h4:(sz m fun i=>mF T d r c i j*M k (upd β r c i))=sg (T r c)*sz m fun i=>(if i=r then T r j else piv T d r c i j)*M k (upd β r c i):=by
   rw[<-fV]
   exact bA fun i _=>by unfold mF;rw[Int.mul_assoc]
  rw[h4,h3,Int.mul_assoc]
 ·obtain ⟨σ,h1,h2,h3⟩:=h.cr
  refine ⟨sg (T r c)*σ,?_,?_,fun i hi j hj=>?_⟩
  ·have:=C6 (T r c)
   grind
  ·rw[h3 r hr c hc]
   grind
  ·unfold mF
   by_cases e:i=r
   ·subst e
    rw[if_pos rfl,h3 i hi j hj,MO]
    grind
   ·rw[if_neg e,O9 h h1 h2 hr hi (Ne.symm e) hc hj]
    grind
theorem FN:∀n:Nat,det n (fun i k=>if i=k then 1 else 0)=1
 | 0=>rfl
 | n+1=>by
  simp only[det]
  rw[eG (k:=0) (by omega) fun k _ hk=>by rw[if_neg (Ne.symm hk)];simp]
  have:det n (ki (fun i k=>if i=k then 1 else 0) 0)=det n (fun i k=>if i=k then 1 else 0):=iw fun i j _ _=>by
   unfold ki skip
   simp
  rw[this,FN n]
  simp[sgd]
theorem Tb.first {a:Nat->Nat} (ha:∀i,i<m->a i<w) (hM:∀k,k<m->∀i,i<m->M k (a i)=if k=i then 1 else 0):Tb m w M M 1 a:=by
 have h1:dc m M a=1:=by
  unfold dc
  rw[<-FN m]
  exact iw fun i j hi hj=>hM i hi j hj
 refine ⟨by omega,ha,fun k hk j hj=>?_,1,by omega,by rw[h1];rfl,fun i hi j hj=>?_⟩
 ·rw[eG hk fun i hi hne=>by rw[hM k hk i hi,if_neg (Ne.symm hne),Int.mul_zero],hM k hk k hk,if_pos rfl]
  omega
 ·unfold dc
  rw[lG]
  have e:det m (bW (eU M a) i fun q=>M q j)=det m (bW (eU M a) i fun q=>sz m fun k=>M k j*eU M a q k):=by
   refine iw fun p q hp hq=>?_
   unfold bW
   split
   ·show M p j=sz m fun k=>M k j*eU M a p k
    rw[eG hp fun k hk hne=>by unfold eU;rw[hM p hp k hk,if_neg (Ne.symm hne),Int.mul_zero]]
    unfold eU
    rw[hM p hp p hp,if_pos rfl]
    omega
   ·rfl
  rw[e,sY hi (x:=fun k=>M k j) (u:=fun k q=>eU M a q k),eG hi fun k hk hne=>by
   rw[kS hi hk (Ne.symm hne) fun q _=>by simp[bW,hne],Int.mul_zero],ni]
  have:det m (eU M a)=1:=h1
  rw[this]
  omega
theorem Tb.rows (h:Tb m w M T d β) {a:Nat->Nat} (ha:∀i,i<m->a i<w) (hM:∀k,k<m->∀i,i<m->M k (a i)=if k=i then 1 else 0) {i j:Nat} (hi:i<m) (hj:j<w):T i j=sz m fun k=>T i (a k)*M k j:=by
 obtain ⟨σ,h1,h2,h3⟩:=h.cr
 rw[h3 i hi j hj]
 have e:dc m M (upd β i j)=sz m fun k=>M k j*dc m M (upd β i (a k)):=by
  unfold dc
  rw[lG]
  have e:det m (bW (eU M β) i fun q=>M q j)=det m (bW (eU M β) i fun q=>sz m fun k=>M k j*M q (a k)):=by
   refine iw fun p q hp hq=>?_
   unfold bW
   split
   ·show M p j=sz m fun k=>M k j*M p (a k)
    rw[eG hp fun k hk hne=>by rw[hM p hp k hk,if_neg (Ne.symm hne),Int.mul_zero],hM p hp p hp,if_pos rfl]
    omega
   ·rfl
  rw[e,sY hi (x:=fun k=>M k j) (u:=fun k q=>M q (a k))]
  exact bA fun k _=>by rw[lG]
 rw[e,<-fV]
 exact bA fun k hk=>by rw[h3 i hi _ (ha k hk)];grind
theorem Tb.bound (h:Tb m w M T d β) {i j:Nat} (hi:i<m) (hj:j<w):ab (T i j)=ab (dc m M (upd β i j)):=by
 obtain ⟨σ,h1,_,h3⟩:=h.cr
 rw[h3 i hi j hj,pr]
 have h4:ab σ*ab σ=1:=by rw[<-pr,h1];rfl
 have h5:ab σ=1:=by
  have h6:=cH σ
  by_cases h7:ab σ<=1
  ·have:ab σ≠0:=fun e=>by rw[e] at h4;simp at h4
   omega
  ·exfalso
   have:2*2<=ab σ*ab σ:=Int.mul_le_mul (by omega) (by omega) (by omega) h6
   omega
 rw[h5,Int.one_mul]
end
structure Sx where
 T:Nat->Nat->Int
 d:Int
 β:Nat->Nat
def zr (m:Nat) (wc:Nat->Int) (S:Sx) (j:Nat):Int:=wc j*S.d - sz m fun i=>wc (S.β i)*S.T i j
structure Leaves (m R:Nat) (S:Sx) (c r:Nat):Prop where
 lt:r<m
 pos:0<S.T r c
 le:∀i,i<m->0<S.T i c->S.T r R*S.T i c<=S.T i R*S.T r c
 tie:∀i,i<m->0<S.T i c->S.T r R*S.T i c=S.T i R*S.T r c->S.β r<=S.β i
structure Enters (m N:Nat) (wc:Nat->Int) (S:Sx) (c:Nat):Prop where
 lt:c<N
 neg:zr m wc S c<0
 least:∀j,j<c->0<=zr m wc S j
structure StepAt (m w:Nat) (S S':Sx) (r c:Nat):Prop where
 T:∀i j,i<m->j<w->S'.T i j=if i=r then S.T r j else piv S.T S.d r c i j
 d:S'.d=S.T r c
 β:∀i,i<m->S'.β i=upd S.β r c i
structure Step (m w N R:Nat) (wc:Nat->Int) (S S':Sx) (r c:Nat):Prop where
 enters:Enters m N wc S c
 leaves:Leaves m R S c r
 at':StepAt m w S S' r c
structure Val (m w N R:Nat) (M:Nat->Nat->Int) (S:Sx):Prop where
 tb:Tb m w M S.T S.d S.β
 feas:∀i,i<m->0<=S.T i R
 ne:∀i,i<m->S.β i≠R
section
variable {m w N R:Nat} {M:Nat->Nat->Int} {wc:Nat->Int}
theorem sL {β β':Nat->Nat} (h:∀i,i<m->β' i=β i):dc m M β'=dc m M β:=iw fun i j _ hj=>by unfold eU;rw[h j hj]
theorem Tb.congr {T T':Nat->Nat->Int} {d:Int} {β β':Nat->Nat} (h:Tb m w M T d β) (hT:∀i j,i<m->j<w->T' i j=T i j) (hβ:∀i,i<m->β' i=β i):Tb m w M T' d β':=by
 refine ⟨h.dpos,fun i hi=>by rw[hβ i hi];exact h.lt i hi,fun k hk j hj=>?_,?_⟩
 ·rw[h.co k hk j hj]
  exact bA fun i hi=>by rw[hT i j hi hj,hβ i hi]
 ·obtain ⟨σ,h1,h2,h3⟩:=h.cr
  refine ⟨σ,h1,by rw[sL hβ];exact h2,fun i hi j hj=>?_⟩
  rw[hT i j hi hj,h3 i hi j hj]
  congr 1
  exact (sL fun k hk=>by unfold upd;rw[hβ k hk]).symm
theorem Val.stepAt {S S':Sx} (h:Val m w N R M S) (hR:R<w) {r c:Nat} (hc:c<w) (hcR:c≠R) (hl:Leaves m R S c r) (hs:StepAt m w S S' r c):Val m w N R M S':=by
 have hr:=hl.lt
 have e1:sg (S.T r c)=1:=by unfold sg;rw[if_neg (by have:=hl.pos;omega)]
 have h1:=h.tb.step hr hc (by have:=hl.pos;omega)
 have h2:=h1.congr (T':=S'.T) (β':=S'.β) (fun i j hi hj=>by rw[hs.T i j hi hj];unfold mF;rw[e1,Int.one_mul]) hs.β
 rw[e1,Int.one_mul,<-hs.d] at h2
 refine ⟨h2,fun i hi=>?_,fun i hi=>?_⟩
 ·rw[hs.T i R hi hR]
  split
  ·exact h.feas r hr
  ·rename_i hne
   have h3:=jg h.tb hr hi (Ne.symm hne) hc hR
   have h4:=h.tb.dpos
   have h5:=hl.pos
   have h6:0<=S.T r c*S.T i R - S.T i c*S.T r R:=by
    by_cases h7:0<S.T i c
    ·have:=hl.le i hi h7
     have e1:=Int.mul_comm (S.T r R) (S.T i c)
     have e2:=Int.mul_comm (S.T i R) (S.T r c)
     omega
    ·have h8:0<=S.T r c*S.T i R:=Int.mul_nonneg (by omega) (h.feas i hi)
     have h9:0<= -S.T i c*S.T r R:=Int.mul_nonneg (by omega) (h.feas r hr)
     rw[Int.neg_mul] at h9
     omega
   rw[<-h3] at h6
   exact Int.nonneg_of_mul_nonneg_right h6 h4
 ·rw[hs.β i hi]
  unfold upd
  split
  ·exact hcR
  ·exact h.ne i hi
theorem Cv {S:Sx} (h:Tb m w M S.T S.d S.β) {i:Nat} (hi:i<m):zr m wc S (S.β i)=0:=by
 unfold zr
 rw[eG hi fun k hk hne=>by rw[h.other hk hi hne,Int.mul_zero],h.basis hi]
 omega
theorem s8 {S:Sx} (h:Tb m w M S.T S.d S.β) {a:Nat->Nat} (ha:∀i,i<m->a i<w) (hM:∀k,k<m->∀i,i<m->M k (a i)=if k=i then 1 else 0) {j:Nat} (hj:j<w) :
  zr m wc S j=wc j*S.d - sz m fun k=>(sz m fun i=>wc (S.β i)*S.T i (a k))*M k j:=by
 unfold zr
 congr 1
 rw[bA (g:=fun i=>sz m fun k=>wc (S.β i)*S.T i (a k)*M k j) fun i hi=>by
  rw[h.rows ha hM hi hj,<-fV]
  exact bA fun k _=>by rw[Int.mul_assoc]]
 rw[s9]
 exact bA fun k _=>zk
theorem N1 {S S':Sx} (h:Tb m w M S.T S.d S.β) {r c j:Nat} (hr:r<m) (hc:c<w) (hj:j<w) (hs:StepAt m w S S' r c):S.d*zr m wc S' j=S.T r c*zr m wc S j - zr m wc S c*S.T r j:=by
 have h1:∀i,i<m->S.d*(wc (S'.β i)*S'.T i j)=(S.T r c*(wc (S.β i)*S.T i j) - S.T r j*(wc (S.β i)*S.T i c))+(if i=r then S.d*(wc c*S.T r j) else 0):=fun i hi=>by
  rw[hs.β i hi,hs.T i j hi hj]
  unfold upd
  by_cases e:i=r
  ·subst e
   simp only[if_true]
   grind
  ·simp only[e,if_false,Int.add_zero]
   have:=jg h hr hi (Ne.symm e) hc hj
   grind
 have h2:S.d*(sz m fun i=>wc (S'.β i)*S'.T i j)=S.T r c*(sz m fun i=>wc (S.β i)*S.T i j) - S.T r j*(sz m fun i=>wc (S.β i)*S.T i c)+S.d*(wc c*S.T r j):=by
  rw[<-fV,bA h1,mD,wa,fV,fV,eG hr fun i _ hne=>if_neg hne,if_pos rfl]
 unfold zr
 rw[Int.mul_sub,h2,hs.d]
 grind
theorem Qh {S S':Sx} (h:Tb m w M S.T S.d S.β) (h':Tb m w M S'.T S'.d S'.β) {a:Nat->Nat} (ha:∀i,i<m->a i<w) (hM:∀k,k<m->∀i,i<m->M k (a i)=if k=i then 1 else 0) {s:Nat} (hs:s<w) :
  S.d*zr m wc S' s=S'.d*zr m wc S s+sz m fun i=>S.T i s*zr m wc S' (S.β i):=by
 have e1:=s8 (wc:=wc) h' ha hM hs
 have e2:∀i,i<m->S.T i s*zr m wc S' (S.β i)=S'.d*(wc (S.β i)*S.T i s) - sz m fun k=>(sz m fun i=>wc (S'.β i)*S'.T i (a k))*(S.T i s*M k (S.β i)):=fun i hi=>by
  rw[s8 (wc:=wc) h' ha hM (h.lt i hi),Int.mul_sub,<-fV]
  congr 1
  ·grind
  ·exact bA fun k _=>by grind
 rw[bA e2,wa,fV,s9]
 have e3:(sz m fun k=>sz m fun i=>(sz m fun i=>wc (S'.β i)*S'.T i (a k))*(S.T i s*M k (S.β i)))=S.d*sz m fun k=>(sz m fun i=>wc (S'.β i)*S'.T i (a k))*M k s:=by
  rw[<-fV]
  refine bA fun k hk=>?_
  rw[fV,<-h.co k hk s hs]
  grind
 rw[e3,e1]
 unfold zr
 grind
theorem nu {β:Nat->Nat->Nat} {q:Nat}:∀{k i:Nat},(∃p,p<m/\β i p=q)->(¬ ∃p,p<m/\β (i+k) p=q)->∃n,i<=n/\n<i+k/\(∃p,p<m/\β n p=q)/\¬ ∃p,p<m/\β (n+1) p=q
 | 0,i,h1,h2=>(h2 h1).elim
 | k+1,i,h1,h2=>by
  by_cases h:∃p,p<m/\β (i+k) p=q
  ·exact ⟨i+k,by omega,by omega,h,h2⟩
  ·obtain ⟨n,h3,h4,h5,h6⟩:=nu h1 h
   exact ⟨n,h3,by omega,h5,h6⟩
theorem kU {β:Nat->Nat->Nat} {q:Nat}:∀{k i:Nat},(¬ ∃p,p<m/\β i p=q)->(∃p,p<m/\β (i+k) p=q)->∃n,i<=n/\n<i+k/\(¬ ∃p,p<m/\β n p=q)/\∃p,p<m/\β (n+1) p=q
 | 0,i,h1,h2=>(h1 h2).elim
 | k+1,i,h1,h2=>by
  by_cases h:∃p,p<m/\β (i+k) p=q
  ·obtain ⟨n,h3,h4,h5,h6⟩:=kU h1 h
   exact ⟨n,h3,by omega,h5,h6⟩
  ·exact ⟨i+k,by omega,by omega,h,h2⟩
theorem Pj {k:Nat} {f:Nat->Nat}:0<k->∃n,n<k/\∀i,i<k->f i<=f n:=by
 induction k with
 | zero=>intro h;omega
 | succ k ih =>
  intro _
  by_cases hk:k=0
  ·subst hk
   exact ⟨0,by omega,fun i hi=>by rw[show i=0 by omega];exact Nat.le_refl _⟩
  ·obtain ⟨n,h1,h2⟩:=ih (by omega)
   by_cases h3:f k<=f n
   ·refine ⟨n,by omega,fun i hi=>?_⟩
    by_cases h4:i=k
    ·rw[h4];exact h3
    ·exact h2 i (by omega)
   ·refine ⟨k,by omega,fun i hi=>?_⟩
    by_cases h4:i=k
    ·rw[h4];exact Nat.le_refl _
    ·have:=h2 i (by omega);omega
theorem yj {e x y:Int} (he:0<e) (h:e*x<=e*y):x<=y:=Int.le_of_mul_le_mul_left h he
structure Run (m w N R:Nat) (M:Nat->Nat->Int) (wc:Nat->Int) (k:Nat) (S:Nat->Sx) (r c:Nat->Nat):Prop where
 val:∀n,n<=k->Val m w N R M (S n)
 step:∀n,n<k->Step m w N R wc (S n) (S (n+1)) (r n) (c n)
theorem Run.of {k:Nat} {S:Nat->Sx} {r c:Nat->Nat} (hN:N<=R) (hR:R<w) (h0:Val m w N R M (S 0)) (hs:∀n,n<k->Step m w N R wc (S n) (S (n+1)) (r n) (c n)):Run m w N R M wc k S r c:=by
 refine ⟨fun n=>?_,hs⟩
 induction n with
 | zero=>intro _;exact h0
 | succ n ih =>
  intro hn
  have h1:=hs n (by omega)
  have:=h1.enters.lt
  exact (ih (by omega)).stepAt hR (by omega) (by omega) h1.leaves h1.at'
theorem Run.nocycle {k:Nat} {S:Nat->Sx} {r c:Nat->Nat} {a:Nat->Nat} (ha:∀i,i<m->a i<w) (hM:∀k,k<m->∀i,i<m->M k (a i)=if k=i then 1 else 0) (hN:N<=R) (hR:R<w)
  (h:Run m w N R M wc k S r c) (hk:0<k):¬ ∀i,i<m->(S k).β i=(S 0).β i:=by
 intro hcyc
 have cw:∀n,n<k->c n<w:=fun n hn=>by have:=(h.step n hn).enters.lt;omega
 have dp:∀n,n<=k->0<(S n).d:=fun n hn=>(h.val n hn).tb.dpos
 have vstep:∀n,n<k->zr m wc (S n) R*(S (n+1)).d<=zr m wc (S (n+1)) R*(S n).d/\((S n).T (r n) R≠0->zr m wc (S n) R*(S (n+1)).d<zr m wc (S (n+1)) R*(S n).d):=fun n hn=>by
  have hs:=h.step n hn
  have h1:=N1 (wc:=wc) (h.val n (by omega)).tb hs.leaves.lt (cw n hn) hR hs.at'
  have h2:=hs.enters.neg
  have h3:=(h.val n (by omega)).feas (r n) hs.leaves.lt
  have h4:0<= -zr m wc (S n) (c n)*(S n).T (r n) R:=Int.mul_nonneg (by omega) h3
  rw[Int.neg_mul] at h4
  rw[hs.at'.d,Int.mul_comm (zr m wc (S (n+1)) R),h1,Int.mul_comm (zr m wc (S n) R)]
  refine ⟨by omega,fun hne=>?_⟩
  have h5:0< -zr m wc (S n) (c n)*(S n).T (r n) R:=Int.mul_pos (by omega) (by omega)
  rw[Int.neg_mul] at h5
  omega
 have vle:∀i j,i+j<=k->zr m wc (S i) R*(S (i+j)).d<=zr m wc (S (i+j)) R*(S i).d:=by
  intro i j
  induction j with
  | zero=>intro _;exact Int.le_refl _
  | succ j ih =>
   intro hj
   have h1:=ih (by omega)
   have h2:=(vstep (i+j) (by omega)).1
   have d1:=dp i (by omega)
   have d2:=dp (i+j) (by omega)
   have d3:=dp (i+j+1) (by omega)
   refine yj d2 ?_
   have h3:=z11 h1 (Int.le_of_lt d3)
   have h4:=z11 h2 (Int.le_of_lt d1)
   rw[show i+(j+1)=i+j+1 by omega]
   calc (S (i+j)).d*(zr m wc (S i) R*(S (i+j+1)).d)=zr m wc (S i) R*(S (i+j)).d*(S (i+j+1)).d:=by grind
    _<=zr m wc (S (i+j)) R*(S i).d*(S (i+j+1)).d:=h3
    _=zr m wc (S (i+j)) R*(S (i+j+1)).d*(S i).d:=by grind
    _<=zr m wc (S (i+j+1)) R*(S (i+j)).d*(S i).d:=h4
    _=(S (i+j)).d*(zr m wc (S (i+j+1)) R*(S i).d):=by grind
 have same:(S k).d=(S 0).d/\∀i j,i<m->j<w->(S k).T i j=(S 0).T i j:=by
  obtain ⟨σ,s1,s2,s3⟩:=(h.val k (Nat.le_refl _)).tb.cr
  obtain ⟨τ,t1,t2,t3⟩:=(h.val 0 (by omega)).tb.cr
  rw[sL hcyc] at s2
  have p1:=dp k (Nat.le_refl _)
  have p2:=dp 0 (by omega)
  have e:σ=τ:=by
   have h1:σ*(S k).d=dc m M (S 0).β:=by rw[s2,<-Int.mul_assoc,s1,Int.one_mul]
   have h2:τ*(S 0).d=dc m M (S 0).β:=by rw[t2,<-Int.mul_assoc,t1,Int.one_mul]
   have pm:∀x:Int,x*x=1->x=1\/x= -1:=fun x hx=>by
    have h4:x.natAbs*x.natAbs=1:=by
     have:=congrArg Int.natAbs hx
     rwa [Int.natAbs_mul] at this
    have h5:x.natAbs=1:=Nat.eq_one_of_mul_eq_one_left h4
    omega
   rcases pm σ s1 with rfl | rfl<;>rcases pm τ t1 with rfl | rfl<;>omega
  refine ⟨by rw[s2,e];exact t2.symm,fun i j hi hj=>?_⟩
  rw[s3 i hi j hj,t3 i hi j hj,e]
  congr 1
  exact sL fun l hl=>by unfold upd;rw[hcyc l hl]
 have vend:zr m wc (S k) R=zr m wc (S 0) R:=by
  unfold zr
  rw[same.1]
  congr 1
  exact bA fun i hi=>by rw[hcyc i hi,same.2 i R hi hR]
 have flat:∀n,n<k->(S n).T (r n) R=0:=fun n hn=>by
  by_cases e:(S n).T (r n) R=0
  ·exact e
  ·exfalso
   have h1:=(vstep n hn).2 e
   have h2:=vle 0 n (by omega)
   have h3:=vle (n+1) (k - (n+1)) (by omega)
   rw[Nat.zero_add] at h2
   rw[show n+1+(k - (n+1))=k by omega,vend,same.1] at h3
   have d0:=dp 0 (by omega)
   have d1:=dp n (by omega)
   have d2:=dp (n+1) (by omega)
   have h4:=Int.mul_lt_mul_of_pos_right h1 d0
   have h5:=z11 h2 (Int.le_of_lt d2)
   have h6:=z11 h3 (Int.le_of_lt d1)
   have:zr m wc (S 0) R*(S n).d*(S (n+1)).d<zr m wc (S 0) R*(S n).d*(S (n+1)).d:=by
    calc zr m wc (S 0) R*(S n).d*(S (n+1)).d<=zr m wc (S n) R*(S 0).d*(S (n+1)).d:=h5
     _=zr m wc (S n) R*(S (n+1)).d*(S 0).d:=by grind
     _<zr m wc (S (n+1)) R*(S n).d*(S 0).d:=h4
     _=zr m wc (S (n+1)) R*(S 0).d*(S n).d:=by grind
     _<=zr m wc (S 0) R*(S (n+1)).d*(S n).d:=h6
     _=zr m wc (S 0) R*(S n).d*(S (n+1)).d:=by grind
   omega
 have zeroStep:∀n q,n<k->((∀i,i<m->(S n).β i=q->(S n).T i R=0)↔(∀i,i<m->(S (n+1)).β i=q->(S (n+1)).T i R=0)):=fun n q hn=>by
  have hs:=h.step n hn
  have hf:=flat n hn
  have htb:=(h.val n (by omega)).tb
  have key:∀i,i<m->i≠r n->((S (n+1)).T i R=0↔(S n).T i R=0):=fun i hi hne=>by
   rw[hs.at'.T i R hi hR,if_neg hne]
   have h1:=jg htb hs.leaves.lt hi (Ne.symm hne) (cw n hn) hR
   rw[hf,Int.mul_zero,Int.sub_zero] at h1
   have h2:=hs.leaves.pos
   have h3:=dp n (by omega)
   constructor
   ·intro e
    rw[e,Int.mul_zero] at h1
    rcases Int.mul_eq_zero.1 h1.symm with h4 | h4
    ·omega
    ·exact h4
   ·intro e
    rw[e,Int.mul_zero] at h1
    rcases Int.mul_eq_zero.1 h1 with h4 | h4
    ·omega
    ·exact h4
  constructor
  ·intro hz i hi hb
   by_cases e:i=r n
   ·rw[e,hs.at'.T _ R hs.leaves.lt hR,if_pos rfl];exact hf
   ·rw[hs.at'.β i hi] at hb
    unfold upd at hb
    rw[if_neg e] at hb
    exact (key i hi e).2 (hz i hi hb)
  ·intro hz i hi hb
   by_cases e:i=r n
   ·rw[e];exact hf
   ·refine (key i hi e).1 (hz i hi ?_)
    rw[hs.at'.β i hi]
    unfold upd
    rw[if_neg e]
    exact hb
 have zeroAll:∀q n,n<=k->((∀i,i<m->(S 0).β i=q->(S 0).T i R=0)↔(∀i,i<m->(S n).β i=q->(S n).T i R=0)):=fun q n=>by
  induction n with
  | zero=>intro _;exact Iff.rfl
  | succ n ih=>intro hn;exact (ih (by omega)).trans (zeroStep n q (by omega))
 have comes:∀n q,n<k->(¬ ∃p,p<m/\(S n).β p=q)->(∃p,p<m/\(S (n+1)).β p=q)->q=c n:=fun n q hn h1 ⟨p,hp,hq⟩=>by
  have hs:=h.step n hn
  rw[hs.at'.β p hp] at hq
  unfold upd at hq
  split at hq
  ·exact hq.symm
  ·exact (h1 ⟨p,hp,hq⟩).elim
 have goes:∀n q,n<k->(∃p,p<m/\(S n).β p=q)->(¬ ∃p,p<m/\(S (n+1)).β p=q)->q=(S n).β (r n):=fun n q hn ⟨p,hp,hq⟩ h1=>by
  have hs:=h.step n hn
  by_cases e:p=r n
  ·rw[<-e];exact hq.symm
  ·refine (h1 ⟨p,hp,?_⟩).elim
   rw[hs.at'.β p hp]
   unfold upd
   rw[if_neg e]
   exact hq
 have B2:∀n,n<k->¬ ∃p,p<m/\(S n).β p=c n:=fun n hn ⟨p,hp,hq⟩=>by
  have hs:=h.step n hn
  have h1:=hs.enters.neg
  rw[<-hq,Cv (h.val n (by omega)).tb hp] at h1
  omega
 have isIn:∀n,n<k->∃p,p<m/\(S (n+1)).β p=c n:=fun n hn=>by
  have hs:=h.step n hn
  refine ⟨r n,hs.leaves.lt,?_⟩
  rw[hs.at'.β _ hs.leaves.lt]
  unfold upd
  rw[if_pos rfl]
 have ends:∀q,(∃p,p<m/\(S k).β p=q)↔∃p,p<m/\(S 0).β p=q:=fun q=>by
  constructor
  ·rintro ⟨p,hp,hq⟩;exact ⟨p,hp,by rw[<-hcyc p hp];exact hq⟩
  ·rintro ⟨p,hp,hq⟩;exact ⟨p,hp,by rw[hcyc p hp];exact hq⟩
 obtain ⟨ns,hns,hmax⟩:=Pj (f:=c) hk
 have leaves:∃n,n<k/\(S n).β (r n)=c ns:=by
  by_cases h0:∃p,p<m/\(S 0).β p=c ns
  ·obtain ⟨n,h1,h2,h3,h4⟩:=nu (β:=fun n=>(S n).β) (k:=ns) (i:=0) h0 (by rw[Nat.zero_add];exact B2 ns hns)
   exact ⟨n,by omega,(goes n _ (by omega) h3 h4).symm⟩
  ·have h1:¬ ∃p,p<m/\(S k).β p=c ns:=fun e=>h0 ((ends _).1 e)
   obtain ⟨n,h2,h3,h4,h5⟩:=nu (β:=fun n=>(S n).β) (k:=k - (ns+1)) (i:=ns+1) (isIn ns hns) (by rw[show ns+1+(k - (ns+1))=k by omega];exact h1)
   exact ⟨n,by omega,(goes n _ (by omega) h4 h5).symm⟩
 obtain ⟨n,hn,hleave⟩:=leaves
 have hs:=h.step n hn
 have hst:=h.step ns hns
 have vn:=h.val n (by omega)
 have vs:=h.val ns (by omega)
 have hcn:=hmax n hn
 have hne:c n≠c ns:=fun e=>B2 n hn ⟨r n,hs.leaves.lt,by rw[hleave];exact e.symm⟩
 have id:=Qh (wc:=wc) vn.tb vs.tb ha hM (cw n hn)
 have z1:0<=zr m wc (S ns) (c n):=hst.enters.least (c n) (by omega)
 have z2:=hs.enters.neg
 have d1:=dp n (by omega)
 have d2:=dp ns (by omega)
 have hsum:0<sz m fun i=>(S n).T i (c n)*zr m wc (S ns) ((S n).β i):=by
  have h1:0<=(S n).d*zr m wc (S ns) (c n):=Int.mul_nonneg (by omega) z1
  have h2:0<(S ns).d* -zr m wc (S n) (c n):=Int.mul_pos d2 (by omega)
  rw[Int.mul_neg] at h2
  omega
 have hex:∃i,i<m/\0<(S n).T i (c n)*zr m wc (S ns) ((S n).β i):=by
  by_cases e:∃i,i<m/\0<(S n).T i (c n)*zr m wc (S ns) ((S n).β i)
  ·exact e
  ·exfalso
   have:=pT (n:=m) (f:=fun i=>(S n).T i (c n)*zr m wc (S ns) ((S n).β i)) (g:=fun _=>0) fun i hi=>Int.not_lt.1 fun h'=>e ⟨i,hi,h'⟩
   rw[gb (f:=fun _=>0) fun _ _=>rfl] at this
   omega
 obtain ⟨i,hi,hpos⟩:=hex
 have hq0:zr m wc (S ns) ((S n).β i)≠0:=fun e=>by rw[e,Int.mul_zero] at hpos;omega
 have hq1:¬ ∃p,p<m/\(S ns).β p=(S n).β i:=fun ⟨p,hp,hq⟩=>hq0 (by rw[<-hq];exact Cv vs.tb hp)
 have hq2:∃p,p<m/\(S n).β p=(S n).β i:=⟨i,hi,rfl⟩
 have hq3:∃n',n'<k/\(S n).β i=c n':=by
  by_cases hlt:ns<n
  ·obtain ⟨n',h1,h2,h3,h4⟩:=kU (β:=fun n=>(S n).β) (k:=n - ns) (i:=ns) hq1 (by rw[show ns+(n - ns)=n by omega];exact hq2)
   exact ⟨n',by omega,comes n' _ (by omega) h3 h4⟩
  ·by_cases h0:∃p,p<m/\(S 0).β p=(S n).β i
   ·obtain ⟨n',h1,h2,h3,h4⟩:=kU (β:=fun n=>(S n).β) (k:=k - ns) (i:=ns) hq1 (by rw[show ns+(k - ns)=k by omega];exact (ends _).2 h0)
    exact ⟨n',by omega,comes n' _ (by omega) h3 h4⟩
   ·obtain ⟨n',h1,h2,h3,h4⟩:=kU (β:=fun n=>(S n).β) (k:=n) (i:=0) h0 (by rw[Nat.zero_add];exact hq2)
    exact ⟨n',by omega,comes n' _ (by omega) h3 h4⟩
 obtain ⟨n',hn',hq4⟩:=hq3
 have hq5:(S n).β i<=c ns:=by rw[hq4];exact hmax n' hn'
 by_cases hqt:(S n).β i=c ns
 ·have:i=r n:=vn.tb.inj hi hs.leaves.lt (by rw[hqt,hleave])
  rw[this,hleave] at hpos
  have h1:=hs.leaves.pos
  have h2:=hst.enters.neg
  have h3:0<(S n).T (r n) (c n)* -zr m wc (S ns) (c ns):=Int.mul_pos h1 (by omega)
  rw[Int.mul_neg] at h3
  omega
 ·have z3:0<=zr m wc (S ns) ((S n).β i):=hst.enters.least _ (by omega)
  have hTi:0<(S n).T i (c n):=by
   by_cases e:0<(S n).T i (c n)
   ·exact e
   ·exfalso
    have:0<= -(S n).T i (c n)*zr m wc (S ns) ((S n).β i):=Int.mul_nonneg (by omega) z3
    rw[Int.neg_mul] at this
    omega
  have hiR:(S n).T i R=0:=((zeroAll _ n (by omega)).1 ((zeroAll _ ns (by omega)).2 fun p hp hq=>(hq1 ⟨p,hp,hq⟩).elim)) i hi rfl
  have:=hs.leaves.tie i hi hTi (by rw[flat n hn,hiR,Int.zero_mul,Int.zero_mul])
  rw[hleave] at this
  omega
end
end Dn
end Go.Proofs.YtfknoaclabfdlaaGreat

namespace Go.Proofs.YtfknoaclabfdlaaGreat
noncomputable section
namespace Dn
theorem Iu:∀(K:Nat) (f:Nat->Nat),(∀i,i<=K->f i<K)->∃i j,i<j/\j<=K/\f i=f j
 | 0,f,h=>by have:=h 0 (by omega);omega
 | K+1,f,h=>by
  by_cases e:∃i,i<=K/\f i=f (K+1)
  ·obtain ⟨i,h1,h2⟩:=e
   exact ⟨i,K+1,by omega,by omega,h2⟩
  ·
   obtain ⟨i,j,h1,h2,h3⟩:=Iu K (fun i=>if f i<f (K+1) then f i else f i - 1) fun i hi=>by
    have h4:=h i (by omega)
    have h5:=h (K+1) (by omega)
    have h6:f i≠f (K+1):=fun e'=>e ⟨i,hi,e'⟩
    show (if f i<f (K+1) then f i else f i - 1)<K
    split<;>omega
   refine ⟨i,j,h1,by omega,?_⟩
   have h6:f i≠f (K+1):=fun e'=>e ⟨i,by omega,e'⟩
   have h7:f j≠f (K+1):=fun e'=>e ⟨j,by omega,e'⟩
   have h3:(if f i<f (K+1) then f i else f i - 1)=(if f j<f (K+1) then f j else f j - 1):=h3
   split at h3<;>split at h3<;>omega
def code (w:Nat) (β:Nat->Nat):Nat->Nat
 | 0=>0
 | m+1=>code w β m*w+β m
theorem Fi {w:Nat} {β:Nat->Nat}:∀{m:Nat},(∀i,i<m->β i<w)->code w β m<w ^ m
 | 0,_=>by simp[code]
 | m+1,h=>by
  simp only[code]
  have h1:=Fi (m:=m) fun i hi=>h i (by omega)
  have h2:=h m (by omega)
  have h3:(code w β m+1)*w<=w ^ m*w:=Nat.mul_le_mul_right _ h1
  rw[Nat.pow_succ]
  rw[Nat.add_mul,Nat.one_mul] at h3
  omega
theorem CQ {w:Nat} {β γ:Nat->Nat}:∀{m:Nat},(∀i,i<m->β i<w)->(∀i,i<m->γ i<w)->code w β m=code w γ m->∀i,i<m->β i=γ i
 | 0,_,_,_,i,hi=>by omega
 | m+1,hβ,hγ,h,i,hi=>by
  simp only[code] at h
  have h1:=hβ m (by omega)
  have h2:=hγ m (by omega)
  have e1:(code w β m*w+β m) % w=β m:=by rw[Nat.mul_comm,Nat.mul_add_mod,Nat.mod_eq_of_lt h1]
  have e2:(code w γ m*w+γ m) % w=γ m:=by rw[Nat.mul_comm,Nat.mul_add_mod,Nat.mod_eq_of_lt h2]
  have e3:β m=γ m:=by rw[<-e1,<-e2,h]
  have e4:code w β m=code w γ m:=by
   have:code w β m*w=code w γ m*w:=by omega
   exact Nat.eq_of_mul_eq_mul_right (by omega) this
  by_cases e:i=m
  ·rw[e];exact e3
  ·exact CQ (fun i hi=>hβ i (by omega)) (fun i hi=>hγ i (by omega)) e4 i (by omega)
open Classical in
def jk (p:Nat->Prop):Nat->Nat
 | 0=>0
 | k+1=>if p k then k else jk p k
theorem t7 {p:Nat->Prop}:∀{K k:Nat},k<K->p k->k<=jk p K
 | K+1,k,hk,h=>by
  unfold jk
  by_cases e:k=K
  ·subst e;rw[if_pos h];exact Nat.le_refl _
  ·split
   ·omega
   ·exact t7 (by omega) h
theorem qE {p:Nat->Prop} (h0:p 0):∀{K:Nat},p (jk p K)
 | 0=>h0
 | K+1=>by
  unfold jk
  split
  ·assumption
  ·exact qE h0
theorem ut {p:Nat->Prop}:∀{K:Nat},0<K->jk p K<K
 | K+1,_=>by
  unfold jk
  split
  ·omega
  ·by_cases h:K=0
   ·subst h;simp[jk]
   ·have:=ut (p:=p) (K:=K) (by omega);omega
section
variable {m w N R:Nat} {M:Nat->Nat->Int} {wc:Nat->Int}
theorem Run.short {k:Nat} {S:Nat->Sx} {r c:Nat->Nat} {a:Nat->Nat} (ha:∀i,i<m->a i<w) (hM:∀k,k<m->∀i,i<m->M k (a i)=if k=i then 1 else 0) (hN:N<=R) (hR:R<w)
  (h:Run m w N R M wc k S r c):k<w ^ m:=by
 by_cases hk:k<w ^ m
 ·exact hk
 ·exfalso
  obtain ⟨i,j,h1,h2,h3⟩:=Iu (w ^ m) (fun n=>code w (S n).β m) fun n hn=>Fi (h.val n (by omega)).tb.lt
  have h4:=CQ (h.val i (by omega)).tb.lt (h.val j (by omega)).tb.lt h3
  have h5:Run m w N R M wc (j - i) (fun n=>S (i+n)) (fun n=>r (i+n)) (fun n=>c (i+n)):=⟨fun n hn=>h.val (i+n) (by omega),fun n hn=>h.step (i+n) (by omega)⟩
  refine h5.nocycle ha hM hN hR (by omega) fun p hp=>?_
  show (S (i+(j - i))).β p=(S (i+0)).β p
  rw[show i+(j - i)=j by omega,Nat.add_zero]
  exact (h4 p hp).symm
def left (m w N R:Nat) (M:Nat->Nat->Int) (wc:Nat->Int) (s:Sx):Nat:=jk (fun k=>∃S r c,S 0=s/\Run m w N R M wc k S r c) (w ^ m)
theorem EI (hw:0<w) (s:Sx):left m w N R M wc s<w ^ m:=ut (Nat.pow_pos hw)
theorem yH {a:Nat->Nat} (ha:∀i,i<m->a i<w) (hM:∀k,k<m->∀i,i<m->M k (a i)=if k=i then 1 else 0) (hN:N<=R) (hR:R<w)
  {s s':Sx} {r c:Nat} (hv:Val m w N R M s) (hs:Step m w N R wc s s' r c):left m w N R M wc s'<left m w N R M wc s:=by
 have hv':Val m w N R M s':=by
  have:=hs.enters.lt
  exact hv.stepAt hR (by omega) (by omega) hs.leaves hs.at'
 obtain ⟨S,rr,cc,h0,h1⟩:=qE (p:=fun k=>∃S r c,S 0=s'/\Run m w N R M wc k S r c) ⟨fun _=>s',fun _=>0,fun _=>0,rfl,⟨fun n _=>hv',fun n hn=>by omega⟩⟩ (K:=w ^ m)
 have h2:Run m w N R M wc (left m w N R M wc s'+1) (fun n=>match n with | 0=>s | n+1=>S n) (fun n=>match n with | 0=>r | n+1=>rr n) (fun n=>match n with | 0=>c | n+1=>cc n):=by
  refine ⟨fun n hn=>?_,fun n hn=>?_⟩
  ·cases n with
   | zero=>exact hv
   | succ n=>exact h1.val n (by have:n+1<=left m w N R M wc s'+1:=hn;unfold left at this;omega)
  ·cases n with
   | zero =>
    show Step m w N R wc s (S 0) r c
    rw[h0];exact hs
   | succ n=>exact h1.step n (by have:n+1<left m w N R M wc s'+1:=hn;unfold left at this;omega)
 have h3:=h2.short ha hM hN hR
 exact t7 h3 ⟨_,_,_,rfl,h2⟩
end
end Dn
end
end Go.Proofs.YtfknoaclabfdlaaGreat
