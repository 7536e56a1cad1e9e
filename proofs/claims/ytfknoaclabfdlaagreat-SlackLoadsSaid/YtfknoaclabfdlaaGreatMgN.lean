/- r15: what its functions answer (printed by a program), and that they do; part 3. r15: what its functions answer (printed by a program), and that they do; part 4. Plain lemmas for what functions answer: loops, machine numbers, lists. Names: both programs know the same ones. Fractions: rational numbers, and the pairs of numbers that stand for them. Fractions: what 'Make', 'Valid', 'Mul', 'Floor', 'Ceil' of package ratio answer. Fractions: products of two words, 'Mul', 'Floor', 'Ceil' of package ratio. Fractions of the reference: numbers of two words, their greatest common divisors and quotients. Fractions of the reference: 'Div', 'Made', 'Make', 'Times', 'Floor', 'Ceil'. Numbers of 128 bits: sums, differences, comparisons; the length of a number. The quotient of a number of 128 bits by one of 64. Fractions: 'Add' of package ratio. Loops over lists: searches and tests of all elements. Fractions: 'Add', 'Valid', 'All' of the reference. Fractions: 'Sub' and 'Cmp' of both. Loops over the elements of a list, as recursions over it. Programs: both programs know the same valid ones. Systems: both programs know the same valid ones. Sums of integers, and determinants. Tables of the simplex method: integers with a common denominator, as determinants of columns. Steps of the simplex method by the rule of least indices: they never come back to a basis. Steps of the simplex method come to an end: a measure. -/
import Derived.Laws.StructEq
import Derived.Test.YtfknoaclabfdlaaGreatMgM

namespace Go.Proofs.YtfknoaclabfdlaaGreat
noncomputable section
open Tryz Dn Dn.Sh
set_option maxRecDepth 100000
def wU (lp:Lp) (_:Jn) (x0:(List Int)×List ((List Int)×Int×Int)):Option (List Int) :=
 lp (List Int×Int×PUnit) (List Int) (fun (again:List Int×Int×PUnit->Option (List Int)) (x:List Int×Int×PUnit)=>bif decide (x.2.1<(↑x0.2.length:Int)) then bif inB x.2.1 x0.2.length then bif dZ (List.length x.1+1) 8 then again (x.1++[(x0.2.getD x.2.1.toNat ([],0,(0 : Int))).2.2],IntKind.wrap .i64 (x.2.1+1),PUnit.unit) else none else none else some x.1) ([],0,PUnit.unit)
def oT (x0:(List Int)×List ((List Int)×Int×Int)):Option (List Int):=wU lpK jnK x0
abbrev t55:=((List Int)×List ((List Int)×Int×Int))->Option (List Int)
def AD (_:Lp) (_:Jn) (dn:t73) (lV:Ta) (x0:Int×Int):Option Int :=
 aa (dn 0) fun (t:Int×Int)=>aa (lV x0 t) fun (t:Int)=>some t
def jf (x0:Int×Int):Option Int:=AD lpK jnK dn lV x0
abbrev t56:=(Int×Int)->Option (Int)
def yn (lp:Lp) (_:Jn) (jf:t56) (x0:(List Int)×List ((List Int)×Int×Int)) (x1:List (Int×Int)):Option Bool :=
 lp (Int×PUnit) Bool (fun (again:Int×PUnit->Option Bool) (x:Int×PUnit) =>
 let v6:Bool:=inB x.1 x1.length;
 let v7:Bool:=inB x.1 x0.2.length;
 let v8:Bool:=decide ((x0.2.getD x.1.toNat ([],0,0)).2.1=1);
 let v9:Bool:=decide ((x0.2.getD x.1.toNat ([],0,0)).2.1=2);
 let v10:Bool:=!v8;
 let v11:Bool:=v10||v8;bif decide (x.1<(↑x1.length:Int)) then bif v7 then bif v11&&(v11&&(v10||v6)) then bif v11 then bif v11 then aa (bif v8 then jf (x1.getD x.1.toNat (0,0)) else some 0) fun (t:Int) =>
 let v13:Bool:=bif v8 then decide (t>0) else false;
 let v14:Bool:=!v13;
 let v15:Bool:=!v14;
 let v16:Bool:=v14&&v9;
 let v17:Bool:=!v16;
 let v18:Bool:=v15||v14;
 let v19:Bool:=v17||v16;bif v11 then bif v11 then bif v18 then bif v18&&(v18&&(v15||v7)) then bif v18 then bif v18 then bif v18 then bif v18 then bif v19&&(v19&&(v17 || v6)) then bif v19 then bif v19 then aa (bif v16 then jf (x1.getD x.1.toNat (0,0)) else some 0) fun (t:Int)=>bif v19 then bif (v15 || v18)&&(v15||(!v9||(v15||v16))) then bif v13||v14 then bif bif v13 then true else bif v9 then decide (t<0) else false then some false else again (IntKind.wrap IntKind.i64 (x.1+1),PUnit.unit) else none else none else none else none else none else none else none else none else none else none else none else none else none else none else none else none else none else none else some true) (0,PUnit.unit)
def oM (x0:(List Int)×List ((List Int)×Int×Int)) (x1:List (Int×Int)):Option Bool:=yn lpK jnK jf x0 x1
abbrev t57:=((List Int)×List ((List Int)×Int×Int))->(List (Int×Int))->Option (Bool)
def wl (_:Lp) (_:Jn) (lR:t54) (qA:t53) (oT:t55) (jf:t56) (oM:t57) (x0:(List Int)×List ((List Int)×Int×Int)) (x1:List (Int×Int)):Option (Bool×Int×Unit) :=
 bif decide (0<=(↑x0.1.length:Int))&&dZ (Int.toNat (↑x0.1.length:Int)) 8 then aa (qA x0 x1 (List.replicate (Int.toNat (↑x0.1.length:Int)) 0)) fun (t:Bool×Int×PUnit) =>
 let v5:Bool:=!t.1||t.1;bif !decide (t.2.1=0) then some (false,t.2.1,PUnit.unit) else aa (oT x0) fun (t_1:List Int)=>aa (lR t_1 x1) fun (t_2:(Int×Int)×Int×PUnit)=>bif !decide (t_2.2.1=0) then some (false,t_2.2.1,PUnit.unit) else bif v5 then aa (bif t.1 then jf t_2.1 else some 0) fun (t_3:Int) =>
 let v9:Bool:=bif t.1 then decide (t_3>0) else false;
 let v10:Bool:=!v9||v9;bif v5 then bif v5 then bif v10&&v10 then aa (bif v9 then oM x0 x1 else some false) fun (t:Bool)=>bif v10 then some (bif v9 then t else false,0,PUnit.unit) else none else none else none else none else none else none
def fu (x0:(List Int)×List ((List Int)×Int×Int)) (x1:List (Int×Int)):Option (Bool×Int×Unit):=wl lpK jnK lR qA oT jf oM x0 x1
abbrev t18:=((List Int)×List ((List Int)×Int×Int))->(List (Int×Int))->Option (Bool×Int×Unit)
def k18 (fu:t18):Ctr:=⟨[T32,(.sl T49)],[],[],.tup [.bool,i64],fun x _ _=>fu x.1 x.2.1⟩
def jY (_:Lp) (_:Jn) (aU:t11) (bf:t12) (aK:t9) (be:t10) (bn:t13) (jm:t14) (aV:t15) (cQ:t16) (lU:t17) (fu:t18) (x0:(List (ByteArray×Int))×List (ByteArray×(List (ByteArray×Int×Int×Int))×Bool)) (x1:List (Int×Int)):Option Bool :=
 aa aK fun (t:Bool)=>bif !t then some false else aa (be x0 x1) fun (t:Bool)=>bif !t then some true else aa (aU x0) fun (t:(List Int×List (List Int×Int×Int))×Int×PUnit)=>aa (bf x0 x1) fun (t_1:Bool×Int×PUnit) =>
 let v8:Bool:=!t_1.1;
 let v9:Bool:=!v8||v8;
 let v10:Bool:=decide (t_1.2.1=1);aa (bn x0) fun (t_2:Bool)=>bif !t_2 then aa (jm t.1 ([],[])) fun (t_3:Bool) =>
 let v13:Bool:=!t_3||t_3;
 let v14:Bool:=bif t_3 then decide (t.2.1=1) else false;
 let v15:Bool:=bif v14 then v8 else false;
 let v16:Bool:=!v14||v14;
 let v17:Bool:=!v15||v15;bif v13 then bif v13 then bif v16 then bif v16 then bif v17 then bif v17 then some (bif v15 then v10 else false) else none else none else none else none else none else none else aa (cQ x0) fun (t_3:List Int)=>aa (aV x0 t_3) fun (t_4:List Int×List (List Int×Int×Int))=>aa (jm t.1 t_4) fun (t_5:Bool) =>
 let v15:Bool:=!t_5;
 let v16:Bool:=!v15;bif !v16||v16 then bif v15||v16 then bif bif v15 then true else !decide (t.2.1=0) then some false else aa (lU x1) fun (t:Bool)=>bif !t then bif v9 then bif v9 then some (bif v8 then v10 else false) else none else none else bif !decide ((↑x1.length:Int)=(↑x0.1.length:Int)) then bif v9 then bif v9 then some (bif v8 then decide (t_1.2.1=3) else false) else none else none else aa (fu t_4 x1) fun (t:Bool×Int×PUnit) =>
 let v19:Bool:=decide (t_1.1=t.1);
 let v20:Bool:=!v19||v19;bif v20&&v20 then bif v20 then some (bif v19 then decide (t_1.2.1=t.2.1) else false) else none else none else none else none
def rP (x0:(List (ByteArray×Int))×List (ByteArray×(List (ByteArray×Int×Int×Int))×Bool)) (x1:List (Int×Int)):Option Bool:=jY lpK jnK aU bf aK be bn jm aV cQ lU fu x0 x1
def c3:Ctr:=⟨[T25,(.sl T49)],[],[],.one .bool,fun x _ _=>rP x.1 x.2.1⟩
theorem e3 (lp:Lp) (jn:Jn) (aU:t11) (bf:t12) (aK:t9) (be:t10) (bn:t13) (jm:t14) (aV:t15) (cQ:t16) (lU:t17) (fu:t18):∀(x:TsS c3.as) (F:TsF c3.fs) (y:TsS c3.cs),jY lp jn aU bf aK be bn jm aV cQ lU fu x.1 x.2.1=cn lp jn (cx [(18,k18 fu),(17,⟨[(.sl T49)],[],[],.one .bool,fun x _ _=>lU x.1⟩),(16,k16 cQ),(15,k15 aV),(14,⟨[T32,T32],[],[],.one .bool,fun x _ _=>jm x.1 x.2.1⟩),(13,k13 bn),(10,k10 be),(9,k9 aK),(12,k12 bf),(11,k11 aU)] [(134,bJ)]) ao 4 3 f3 c3 x F y:=fun x F y=>by kernel_rfl
def AE (_:Lp) (_:Jn) (x0:Int):Option Int :=
 some (if IntKind.wrap .i64 (0 - x0)>x0 then IntKind.wrap .i64 (0 - x0) else x0)
def mn (x0:Int):Option Int:=AE lpK jnK x0
abbrev UI:=(Int)->Option (Int)
def vY (lp:Lp) (_:Jn) (mn:UI) (x0:(List Int)×List ((List Int)×Int×Int)):Option (List Int) :=
 lp (Int×Int×PUnit) (List Int) (fun (again:Int×Int×PUnit->Option (List Int)) (x:Int×Int×PUnit)=>bif decide (x.2.1<(↑x0.1.length:Int)) then bif inB x.2.1 x0.1.length then aa (mn (x0.1.getD x.2.1.toNat 0)) fun (t:Int)=>again (IntKind.wrap .i64 (x.1+t),IntKind.wrap IntKind.i64 (x.2.1+1),PUnit.unit) else none else lp (List Int×Int×PUnit) (List Int) (fun (again:List Int×Int×PUnit->Option (List Int)) (x:List Int×Int × PUnit) =>
 let v7:Bool:=inB x.2.1 x0.2.length;
 let v8:List Int×Int×Int:=x0.2.getD x.2.1.toNat ([],0,0);bif decide (x.2.1<(↑x0.2.length:Int)) then bif v7 then aa (mn v8.2.2) fun (t:Int)=>lp (Int×Int×PUnit) (List Int) (fun (again_1:Int×Int×PUnit->Option (List Int)) (x_1:Int×Int×PUnit)=>bif decide (x_1.2.1 < (↑x0.1.length:Int)) then bif v7 then bif inB x_1.2.1 v8.1.length then aa (mn (v8.1.getD x_1.2.1.toNat 0)) fun (t:Int) => again_1 (IntKind.wrap .i64 (x_1.1+t),IntKind.wrap .i64 (x_1.2.1+1),PUnit.unit) else none else none else bif dZ (List.length x.1+1) (8 : Nat) then again (x.1++[x_1.1],IntKind.wrap .i64 (x.2.1+1),PUnit.unit) else none) (IntKind.wrap .i64 (1+t),0,PUnit.unit) else none else some x.1) ([x.1],0,PUnit.unit)) (1,0,PUnit.unit)
def gX (x0:(List Int)×List ((List Int)×Int×Int)):Option (List Int):=vY lpK jnK mn x0
abbrev T8:=((List Int)×List ((List Int)×Int×Int))->Option (List Int)
def wb (lp:Lp) (_:Jn) (x0:List Int) (x1:Int):Option (Int×Bool×Unit) :=
 lp (Int×Int×PUnit) (Int×Bool×PUnit) (fun (again:Int×Int×PUnit->Option (Int×Bool×PUnit)) (x:Int×Int×PUnit) =>
 let v6:Bool:=inB x.2.1 x0.length;bif decide (x.2.1<(↑x0.length:Int)) then bif v6 then bif nzB x.1 then bif decide (x0.getD x.2.1.toNat (0 : Int)>IntKind.wrap .i64 (Int.tdiv x1 x.1)) then some (0,false,PUnit.unit) else bif v6 then again (IntKind.wrap .i64 (x.1*x0.getD x.2.1.toNat 0),IntKind.wrap .i64 (x.2.1+1),PUnit.unit) else none else none else none else some (x.1,true,PUnit.unit)) (1,0,PUnit.unit)
def gW (x0:List Int) (x1:Int):Option (Int×Bool×Unit):=wb lpK jnK x0 x1
abbrev TJ:=(List Int)->(Int)->Option (Int×Bool×Unit)
def BC (lp:Lp) (_:Jn) (gX:T8) (gW:TJ) (x0:(List Int)×List ((List Int)×Int×Int)):Option Bool :=
 aa (gX x0) fun (t:List Int)=>aa (gW t 17592186044416) fun (t_1:Int×Bool×PUnit) =>
 let v5:Bool:=!t_1.2.1;
 let v6:Int:=IntKind.wrap .i64 (Int.tdiv 144115188075855872 t_1.1);
 let v7:Bool:=v5||t_1.2.1;lp (Int×Int×PUnit) Bool (fun (again:Int×Int×PUnit->Option Bool) (x:Int×Int×PUnit)=>bif decide (x.2.1<(↑t.length:Int)) then bif inB x.2.1 t.length then again (if t.getD x.2.1.toNat 0>x.1 then t.getD x.2.1.toNat 0 else x.1,IntKind.wrap IntKind.i64 (x.2.1+1),PUnit.unit) else none else bif v7&&(v5||nzB t_1.1) then bif v7&&v7 then bif v7 then some (bif t_1.2.1 then decide (x.1<=v6) else false) else none else none else none) (0,0,PUnit.unit)
def kl (x0:(List Int)×List ((List Int)×Int×Int)):Option Bool:=BC lpK jnK gX gW x0
abbrev t63:=((List Int)×List ((List Int)×Int×Int))->Option (Bool)
def BE (_:Lp) (_:Jn) (aV:t15) (cQ:t16) (kl:t63) (x0:(List (ByteArray×Int))×List (ByteArray×(List (ByteArray×Int×Int×Int))×Bool)):Option Bool :=
 aa (cQ x0) fun (t:List Int)=>aa (aV x0 t) fun (t:List Int×List (List Int×Int×Int))=>aa (kl t) fun (t:Bool)=>some t
def kg (x0:(List (ByteArray×Int))×List (ByteArray×(List (ByteArray×Int×Int×Int))×Bool)):Option Bool:=BE lpK jnK aV cQ kl x0
abbrev t23:=((List (ByteArray×Int))×List (ByteArray×(List (ByteArray×Int×Int×Int))×Bool))->Option (Bool)
def BQ (_:Lp) (_:Jn) (x0:(List (ByteArray×Int))×List (ByteArray×(List (ByteArray×Int×Int×Int))×Bool)) (x1:Int) (x2:Int):Option (List Int) :=
 bif decide (0<=(↑x0.2.length:Int))&&dZ (Int.toNat (↑x0.2.length:Int)) 8 then bif inB x1 (Int.toNat (↑x0.2.length:Int)) then bif Nat.ble (Nat.succ x1.toNat) (Int.toNat (↑x0.2.length:Int)) then some (List.set (List.replicate (Int.toNat (↑x0.2.length:Int)) 0) x1.toNat x2) else none else none else none
def gM (x0:(List (ByteArray×Int))×List (ByteArray×(List (ByteArray×Int×Int×Int))×Bool)) (x1:Int) (x2:Int):Option (List Int):=BQ lpK jnK x0 x1 x2
abbrev t64:=((List (ByteArray×Int))×List (ByteArray×(List (ByteArray×Int×Int×Int))×Bool))->(Int)->(Int)->Option (List Int)
def wj (_:Lp) (_:Jn) (aV:t15) (kl:t63) (gM:t64) (x0:(List (ByteArray×Int))×List (ByteArray×(List (ByteArray×Int×Int×Int))×Bool)):Option Bool :=
 aa (gM x0 0 1) fun (t:List Int)=>aa (aV x0 t) fun (t:List Int×List (List Int×Int×Int))=>aa (kl t) fun (t:Bool)=>some t
def gZ (x0:(List (ByteArray×Int))×List (ByteArray×(List (ByteArray×Int×Int×Int))×Bool)):Option Bool:=wj lpK jnK aV kl gM x0
abbrev t24:=((List (ByteArray×Int))×List (ByteArray×(List (ByteArray×Int×Int×Int))×Bool))->Option (Bool)
def yO (_:Lp) (_:Jn) (gX:T8) (gW:TJ) (x0:(List Int)×List ((List Int)×Int×Int)):Option Bool :=
 aa (gX x0) fun (t:List Int)=>aa (gW t 536870912) fun (t:Int×Bool×PUnit)=>some t.2.1
def qt (x0:(List Int)×List ((List Int)×Int×Int)):Option Bool:=yO lpK jnK gX gW x0
abbrev t65:=((List Int)×List ((List Int)×Int×Int))->Option (Bool)
def yZ (_:Lp) (_:Jn) (aV:t15) (cQ:t16) (qt:t65) (x0:(List (ByteArray×Int))×List (ByteArray×(List (ByteArray×Int×Int×Int))×Bool)):Option Bool :=
 aa (cQ x0) fun (t:List Int)=>aa (aV x0 t) fun (t:List Int×List (List Int×Int×Int))=>aa (qt t) fun (t:Bool)=>some t
def ju (x0:(List (ByteArray×Int))×List (ByteArray×(List (ByteArray×Int×Int×Int))×Bool)):Option Bool:=yZ lpK jnK aV cQ qt x0
abbrev t25:=((List (ByteArray×Int))×List (ByteArray×(List (ByteArray×Int×Int×Int))×Bool))->Option (Bool)
def yM (lp:Lp) (_:Jn) (x0:List Nat×List (Option (List Int))) (x1:List Int) (x2:Int) (x3:Int) (x4:Int) (x5:Int):Option ((List Nat×List (Option (List Int)))×(List Int)×Int×Int×Unit) :=
 bif inB x4 x0.1.length then bif Nat.ble (Nat.succ x4.toNat) x0.1.length then bif inB x5 (List.length (ah x0.2 (x0.1.getD x4.toNat 0))) then bif Nat.ble (Nat.succ x5.toNat) (List.length (ah x0.2 (x0.1.getD x4.toNat 0))) then lp (Int×(List Nat×List (Option (List Int)))×PUnit) ((List Nat × List (Option (List Int)))×List Int×Int×Int×PUnit) (fun (again:Int×(List Nat×List (Option (List Int)))×PUnit->Option ((List Nat×List (Option (List Int)))×List Int × Int×Int×PUnit)) (x:Int×(List Nat×List (Option (List Int)))×PUnit) =>
 let v10:Int:=IntKind.wrap .i64 (x.1+1);
 let v11:(List Nat×List (Option (List Int)))×PUnit:=(x.2.1,PUnit.unit);bif decide (x.1<(↑x.2.1.1.length:Int)) then bif inB x.1 x.2.1.1.length then bif Nat.ble (Nat.succ x.1.toNat) x.2.1.1.length then bif inB x5 (List.length (ah x.2.1.2 (x.2.1.1.getD x.1.toNat (0 : Nat)))) then bif Nat.ble (Nat.succ x5.toNat) (List.length (ah x.2.1.2 (x.2.1.1.getD x.1.toNat 0))) then bif decide (x.1=x4) then again (v10, v11) else lp (Int×(List Nat×List (Option (List Int)))×PUnit) ((List Nat×List (Option (List Int)))×List Int×Int×Int×PUnit) (fun (again_1:Int×(List Nat×List (Option (List Int)))×PUnit->Option ((List Nat×List (Option (List Int)))×List Int×Int×Int×PUnit)) (x_1:Int×(List Nat×List (Option (List Int)))×PUnit) =>
 let v14:Bool:=inB x.1 x_1.2.1.1.length;
 let v15:Bool:=Nat.ble (Nat.succ x.1.toNat) x_1.2.1.1.length;bif v14 then bif v15 then bif eM x_1.2.1.2 (x_1.2.1.1.getD x.1.toNat (0 : Nat)) then bif decide (x_1.1<(↑(List.length (ah x_1.2.1.2 (x_1.2.1.1.getD x.1.toNat 0))):Int)) then bif v14 then bif v15 then bif v14 then bif v15 then bif inB x_1.1 (List.length (ah x_1.2.1.2 (x_1.2.1.1.getD x.1.toNat 0))) then bif Nat.ble (Nat.succ x_1.1.toNat) (List.length (ah x_1.2.1.2 (x_1.2.1.1.getD x.1.toNat 0))) then bif inB x4 x_1.2.1.1.length then bif Nat.ble (Nat.succ x4.toNat) x_1.2.1.1.length then bif inB x_1.1 (List.length (ah x_1.2.1.2 (x_1.2.1.1.getD x4.toNat 0))) then bif Nat.ble (Nat.succ x_1.1.toNat) (List.length (ah x_1.2.1.2 (x_1.2.1.1.getD x4.toNat 0))) then bif nzB x2 then bif inB x_1.1 (List.length (ah x_1.2.1.2 (x_1.2.1.1.getD x.1.toNat 0))) then bif Nat.ble (Nat.succ x_1.1.toNat) (List.length (ah x_1.2.1.2 (x_1.2.1.1.getD x.1.toNat (0 : Nat)))) then again_1 (IntKind.wrap .i64 (x_1.1+1),(x_1.2.1.1,x_1.2.1.2.set (x_1.2.1.1.getD x.1.toNat 0) (some (List.set (ah x_1.2.1.2 (x_1.2.1.1.getD x.1.toNat 0)) x_1.1.toNat (IntKind.wrap .i64 (Int.tdiv (IntKind.wrap .i64 (IntKind.wrap IntKind.i64 (List.getD (ah x_1.2.1.2 (x_1.2.1.1.getD x.1.toNat 0)) x_1.1.toNat 0*List.getD (ah x0.2 (x0.1.getD x4.toNat 0)) x5.toNat 0) - IntKind.wrap .i64 (List.getD (ah x.2.1.2 (x.2.1.1.getD x.1.toNat 0)) x5.toNat 0 * List.getD (ah x_1.2.1.2 (x_1.2.1.1.getD x4.toNat 0)) x_1.1.toNat 0))) x2))))),PUnit.unit) else none else none else none else none else none else none else none else none else none else none else none else none else none else again (v10,x_1.2.1,PUnit.unit) else none else none else none) (0,v11) else none else none else none else none else bif inB x4 x1.length then bif Nat.ble (Nat.succ x4.toNat) x1.length then some (x.2.1,x1.set x4.toNat x5,List.getD (ah x0.2 (x0.1.getD x4.toNat 0)) x5.toNat 0,x3,PUnit.unit) else none else none) (0,x0,PUnit.unit) else none else none else none else none
def iw (x0:List Nat×List (Option (List Int))) (x1:List Int) (x2:Int) (x3:Int) (x4:Int) (x5:Int):Option ((List Nat×List (Option (List Int)))×(List Int)×Int×Int×Unit):=yM lpK jnK x0 x1 x2 x3 x4 x5
abbrev Sa:=(List Nat×List (Option (List Int)))->(List Int)->(Int)->(Int)->(Int)->(Int)->Option ((List Nat×List (Option (List Int)))×(List Int)×Int×Int×Unit)
def C9 (lp:Lp) (_:Jn) (iw:Sa) (x0:List Nat×List (Option (List Int))) (x1:List Int) (x2:Int) (x3:Int):Option ((List Nat×List (Option (List Int)))×(List Int)×Int×Int×Bool×Unit) :=
 
 let v6:Int:=IntKind.wrap .i64 ((↑x0.1.length:Int) - 1);lp ((List Nat×List (Option (List Int)))×List Int×Int×Int×(List Nat×List (Option (List Int)))×List Int×Int×Int×PUnit) ((List Nat×List (Option (List Int)))×List Int×Int×Int×Bool×PUnit) (fun (again:(List Nat×List (Option (List Int)))×List Int×Int × Int×(List Nat×List (Option (List Int)))×List Int×Int×Int×PUnit->Option ((List Nat×List (Option (List Int)))×List Int×Int×Int×Bool×PUnit)) (x:(List Nat × List (Option (List Int)))×List Int×Int×Int×(List Nat×List (Option (List Int)))×List Int×Int×Int×PUnit)=>lp (Int×PUnit) ((List Nat×List (Option (List Int))) × List Int×Int×Int×Bool×PUnit) (fun (again_1:Int×PUnit->Option ((List Nat×List (Option (List Int)))×List Int×Int×Int×Bool×PUnit)) (x_1:Int×PUnit) =>
 let v11:Bool:=decide (x_1.1<x.2.2.2.1);
 let v12:Bool:=!v11;
 let v13:Bool:=v12||v11;bif v13 then bif v13&&(v13&&(v12||inB v6 x.1.1.length)) then bif v13&&(v12||Nat.ble (Nat.succ v6.toNat) x.1.1.length) then bif v13&&(v13&&(v12||inB x_1.1 (List.length (ah x.1.2 (x.1.1.getD v6.toNat 0))))) then bif v13&&(v12||Nat.ble (Nat.succ x_1.1.toNat) (List.length (ah x.1.2 (x.1.1.getD v6.toNat 0)))) then bif v13 then bif v13 then bif bif v11 then decide (List.getD (ah x.1.2 (x.1.1.getD v6.toNat 0)) x_1.1.toNat 0>=0) else false then again_1 (IntKind.wrap .i64 (x_1.1+1),PUnit.unit) else bif decide (x_1.1=x.2.2.2.1) then some (x.1,x.2.1,x.2.2.1,x.2.2.2.1,true,PUnit.unit) else bif inB 0 x.1.1.length then bif Nat.ble 1 x.1.1.length then bif eM x.1.2 (x.1.1.getD 0 0) then lp (Int×Int×PUnit) ((List Nat×List (Option (List Int)))×List Int×Int×Int × Bool×PUnit) (fun (again_2:Int×Int×PUnit->Option ((List Nat×List (Option (List Int)))×List Int×Int×Int×Bool×PUnit)) (x_2:Int×Int×PUnit) =>
 let v16:Int×PUnit:=(IntKind.wrap .i64 (x_2.2.1+1),PUnit.unit);
 let v17:Bool:=decide (x_2.1<0);
 let v18:Bool:=inB x_2.1 x.1.1.length;
 let v19:Bool:=Nat.ble (Nat.succ x_2.1.toNat) x.1.1.length;
 let v20:Bool:=inB x_2.2.1 x.1.1.length;
 let v21:Bool:=Nat.ble (Nat.succ x_2.2.1.toNat) x.1.1.length;bif decide (x_2.2.1<v6) then bif v20 then bif v21 then bif inB x_1.1 (List.length (ah x.1.2 (x.1.1.getD x_2.2.1.toNat 0))) then bif Nat.ble (Nat.succ x_1.1.toNat) (List.length (ah x.1.2 (x.1.1.getD x_2.2.1.toNat 0))) then bif decide (List.getD (ah x.1.2 (x.1.1.getD x_2.2.1.toNat 0)) x_1.1.toNat 0<=0) then again_2 (x_2.1,v16) else bif v17 then again_2 (x_2.2.1,v16) else bif v20 then bif v21 then bif inB (IntKind.wrap .i64 ((↑(List.length (ah x.1.2 (x.1.1.getD (0 : Nat) 0))):Int) - 1)) (List.length (ah x.1.2 (x.1.1.getD x_2.2.1.toNat 0))) then bif Nat.ble (Nat.succ (Int.toNat (IntKind.wrap IntKind.i64 ((↑(List.length (ah x.1.2 (x.1.1.getD 0 0))):Int) - 1)))) (List.length (ah x.1.2 (x.1.1.getD x_2.2.1.toNat 0))) then bif v18 then bif v19 then bif inB x_1.1 (List.length (ah x.1.2 (x.1.1.getD x_2.1.toNat 0))) then bif Nat.ble (Nat.succ x_1.1.toNat) (List.length (ah x.1.2 (x.1.1.getD x_2.1.toNat 0))) then bif v18 then bif v19 then bif inB (IntKind.wrap .i64 ((↑(List.length (ah x.1.2 (x.1.1.getD 0 0))):Int) - 1)) (List.length (ah x.1.2 (x.1.1.getD x_2.1.toNat 0))) then bif Nat.ble (Nat.succ (Int.toNat (IntKind.wrap .i64 ((↑(List.length (ah x.1.2 (x.1.1.getD 0 0))):Int) - 1)))) (List.length (ah x.1.2 (x.1.1.getD x_2.1.toNat 0))) then bif v20 then bif v21 then bif inB x_1.1 (List.length (ah x.1.2 (x.1.1.getD x_2.2.1.toNat 0))) then bif Nat.ble (Nat.succ x_1.1.toNat) (List.length (ah x.1.2 (x.1.1.getD x_2.2.1.toNat 0))) then bif (!!decide (IntKind.wrap .i64 (List.getD (ah x.1.2 (x.1.1.getD x_2.2.1.toNat 0)) (Int.toNat (IntKind.wrap .i64 ((↑(List.length (ah x.1.2 (x.1.1.getD 0 0))) : Int) - 1))) 0*List.getD (ah x.1.2 (x.1.1.getD x_2.1.toNat 0)) x_1.1.toNat 0)<IntKind.wrap .i64 (List.getD (ah x.1.2 (x.1.1.getD x_2.1.toNat 0)) (Int.toNat (IntKind.wrap .i64 ((↑(List.length (ah x.1.2 (x.1.1.getD 0 0))):Int) - 1))) 0*List.getD (ah x.1.2 (x.1.1.getD x_2.2.1.toNat 0)) x_1.1.toNat 0))||!decide (IntKind.wrap .i64 (List.getD (ah x.1.2 (x.1.1.getD x_2.2.1.toNat 0)) (Int.toNat (IntKind.wrap .i64 ((↑(List.length (ah x.1.2 (x.1.1.getD 0 0))):Int) - 1))) 0*List.getD (ah x.1.2 (x.1.1.getD x_2.1.toNat 0)) x_1.1.toNat 0)<IntKind.wrap .i64 (List.getD (ah x.1.2 (x.1.1.getD x_2.1.toNat 0)) (Int.toNat (IntKind.wrap .i64 ((↑(List.length (ah x.1.2 (x.1.1.getD 0 (0 : Nat)))):Int) - 1))) 0*List.getD (ah x.1.2 (x.1.1.getD x_2.2.1.toNat 0)) x_1.1.toNat 0)))&&(!!decide (IntKind.wrap IntKind.i64 (List.getD (ah x.1.2 (x.1.1.getD x_2.2.1.toNat 0)) (Int.toNat (IntKind.wrap .i64 ((↑(List.length (ah x.1.2 (x.1.1.getD 0 0))):Int) - 1))) 0*List.getD (ah x.1.2 (x.1.1.getD x_2.1.toNat 0)) x_1.1.toNat 0)<IntKind.wrap IntKind.i64 (List.getD (ah x.1.2 (x.1.1.getD x_2.1.toNat 0)) (Int.toNat (IntKind.wrap .i64 ((↑(List.length (ah x.1.2 (x.1.1.getD (0 : Nat) 0))):Int) - 1))) 0*List.getD (ah x.1.2 (x.1.1.getD x_2.2.1.toNat 0)) x_1.1.toNat 0))||!decide (IntKind.wrap .i64 (List.getD (ah x.1.2 (x.1.1.getD x_2.2.1.toNat 0)) (Int.toNat (IntKind.wrap .i64 ((↑(List.length (ah x.1.2 (x.1.1.getD 0 0))):Int) - 1))) 0*List.getD (ah x.1.2 (x.1.1.getD x_2.1.toNat 0)) x_1.1.toNat (0 : Int))<IntKind.wrap .i64 (List.getD (ah x.1.2 (x.1.1.getD x_2.1.toNat 0)) (Int.toNat (IntKind.wrap .i64 ((↑(List.length (ah x.1.2 (x.1.1.getD 0 0))):Int) - 1))) 0*List.getD (ah x.1.2 (x.1.1.getD x_2.2.1.toNat 0)) x_1.1.toNat (0 : Int)))) then bif !!decide (IntKind.wrap .i64 (List.getD (ah x.1.2 (x.1.1.getD x_2.2.1.toNat 0)) (Int.toNat (IntKind.wrap .i64 ((↑(List.length (ah x.1.2 (x.1.1.getD 0 0))):Int) - 1))) 0*List.getD (ah x.1.2 (x.1.1.getD x_2.1.toNat (0 : Nat))) x_1.1.toNat 0)<IntKind.wrap .i64 (List.getD (ah x.1.2 (x.1.1.getD x_2.1.toNat 0)) (Int.toNat (IntKind.wrap .i64 ((↑(List.length (ah x.1.2 (x.1.1.getD 0 0))):Int) - 1))) 0*List.getD (ah x.1.2 (x.1.1.getD x_2.2.1.toNat (0 : Nat))) x_1.1.toNat 0))||!decide (IntKind.wrap .i64 (List.getD (ah x.1.2 (x.1.1.getD x_2.2.1.toNat 0)) (Int.toNat (IntKind.wrap IntKind.i64 ((↑(List.length (ah x.1.2 (x.1.1.getD 0 0))):Int) - 1))) 0*List.getD (ah x.1.2 (x.1.1.getD x_2.1.toNat 0)) x_1.1.toNat 0)<IntKind.wrap .i64 (List.getD (ah x.1.2 (x.1.1.getD x_2.1.toNat 0)) (Int.toNat (IntKind.wrap IntKind.i64 ((↑(List.length (ah x.1.2 (x.1.1.getD 0 0))):Int) - 1))) 0*List.getD (ah x.1.2 (x.1.1.getD x_2.2.1.toNat 0)) x_1.1.toNat 0)) then bif !(!decide (IntKind.wrap .i64 (List.getD (ah x.1.2 (x.1.1.getD x_2.2.1.toNat 0)) (Int.toNat (IntKind.wrap .i64 ((↑(List.length (ah x.1.2 (x.1.1.getD 0 0))):Int) - 1))) 0*List.getD (ah x.1.2 (x.1.1.getD x_2.1.toNat 0)) x_1.1.toNat 0)<IntKind.wrap .i64 (List.getD (ah x.1.2 (x.1.1.getD x_2.1.toNat 0)) (Int.toNat (IntKind.wrap .i64 ((↑(List.length (ah x.1.2 (x.1.1.getD 0 0))):Int) - 1))) 0*List.getD (ah x.1.2 (x.1.1.getD x_2.2.1.toNat 0)) x_1.1.toNat 0))&&decide (IntKind.wrap .i64 (List.getD (ah x.1.2 (x.1.1.getD x_2.2.1.toNat 0)) (Int.toNat (IntKind.wrap .i64 ((↑(List.length (ah x.1.2 (x.1.1.getD 0 0))):Int) - 1))) 0*List.getD (ah x.1.2 (x.1.1.getD x_2.1.toNat 0)) x_1.1.toNat 0)=IntKind.wrap .i64 (List.getD (ah x.1.2 (x.1.1.getD x_2.1.toNat (0 : Nat))) (Int.toNat (IntKind.wrap .i64 ((↑(List.length (ah x.1.2 (x.1.1.getD 0 0))):Int) - 1))) 0*List.getD (ah x.1.2 (x.1.1.getD x_2.2.1.toNat 0)) x_1.1.toNat 0)))||!decide (IntKind.wrap .i64 (List.getD (ah x.1.2 (x.1.1.getD x_2.2.1.toNat 0)) (Int.toNat (IntKind.wrap .i64 ((↑(List.length (ah x.1.2 (x.1.1.getD 0 0))):Int) - 1))) 0*List.getD (ah x.1.2 (x.1.1.getD x_2.1.toNat 0)) x_1.1.toNat 0)<IntKind.wrap .i64 (List.getD (ah x.1.2 (x.1.1.getD x_2.1.toNat 0)) (Int.toNat (IntKind.wrap .i64 ((↑(List.length (ah x.1.2 (x.1.1.getD 0 0))):Int) - 1))) 0*List.getD (ah x.1.2 (x.1.1.getD x_2.2.1.toNat 0)) x_1.1.toNat 0))&&decide (IntKind.wrap .i64 (List.getD (ah x.1.2 (x.1.1.getD x_2.2.1.toNat 0)) (Int.toNat (IntKind.wrap .i64 ((↑(List.length (ah x.1.2 (x.1.1.getD 0 0))):Int) - 1))) 0 * List.getD (ah x.1.2 (x.1.1.getD x_2.1.toNat 0)) x_1.1.toNat 0)=IntKind.wrap .i64 (List.getD (ah x.1.2 (x.1.1.getD x_2.1.toNat 0)) (Int.toNat (IntKind.wrap .i64 ((↑(List.length (ah x.1.2 (x.1.1.getD 0 0))):Int) - 1))) 0 * List.getD (ah x.1.2 (x.1.1.getD x_2.2.1.toNat 0)) x_1.1.toNat 0)) then bif (!(!decide (IntKind.wrap .i64 (List.getD (ah x.1.2 (x.1.1.getD x_2.2.1.toNat 0)) (Int.toNat (IntKind.wrap .i64 ((↑(List.length (ah x.1.2 (x.1.1.getD 0 0))) : Int) - 1))) 0*List.getD (ah x.1.2 (x.1.1.getD x_2.1.toNat 0)) x_1.1.toNat 0)<IntKind.wrap .i64 (List.getD (ah x.1.2 (x.1.1.getD x_2.1.toNat 0)) (Int.toNat (IntKind.wrap .i64 ((↑(List.length (ah x.1.2 (x.1.1.getD 0 0))):Int) - 1))) 0*List.getD (ah x.1.2 (x.1.1.getD x_2.2.1.toNat 0)) x_1.1.toNat 0))&&decide (IntKind.wrap .i64 (List.getD (ah x.1.2 (x.1.1.getD x_2.2.1.toNat 0)) (Int.toNat (IntKind.wrap .i64 ((↑(List.length (ah x.1.2 (x.1.1.getD 0 0))):Int) - 1))) 0*List.getD (ah x.1.2 (x.1.1.getD x_2.1.toNat 0)) x_1.1.toNat 0)=IntKind.wrap .i64 (List.getD (ah x.1.2 (x.1.1.getD x_2.1.toNat 0)) (Int.toNat (IntKind.wrap .i64 ((↑(List.length (ah x.1.2 (x.1.1.getD 0 (0 : Nat)))):Int) - 1))) 0*List.getD (ah x.1.2 (x.1.1.getD x_2.2.1.toNat 0)) x_1.1.toNat 0)))||!decide (IntKind.wrap IntKind.i64 (List.getD (ah x.1.2 (x.1.1.getD x_2.2.1.toNat 0)) (Int.toNat (IntKind.wrap .i64 ((↑(List.length (ah x.1.2 (x.1.1.getD 0 0))):Int) - 1))) 0*List.getD (ah x.1.2 (x.1.1.getD x_2.1.toNat 0)) x_1.1.toNat 0)<IntKind.wrap IntKind.i64 (List.getD (ah x.1.2 (x.1.1.getD x_2.1.toNat 0)) (Int.toNat (IntKind.wrap .i64 ((↑(List.length (ah x.1.2 (x.1.1.getD (0 : Nat) 0))):Int) - 1))) 0*List.getD (ah x.1.2 (x.1.1.getD x_2.2.1.toNat 0)) x_1.1.toNat 0))&&decide (IntKind.wrap .i64 (List.getD (ah x.1.2 (x.1.1.getD x_2.2.1.toNat 0)) (Int.toNat (IntKind.wrap .i64 ((↑(List.length (ah x.1.2 (x.1.1.getD 0 0))):Int) - 1))) 0*List.getD (ah x.1.2 (x.1.1.getD x_2.1.toNat 0)) x_1.1.toNat (0 : Int))=IntKind.wrap .i64 (List.getD (ah x.1.2 (x.1.1.getD x_2.1.toNat 0)) (Int.toNat (IntKind.wrap .i64 ((↑(List.length (ah x.1.2 (x.1.1.getD 0 0))):Int) - 1))) 0*List.getD (ah x.1.2 (x.1.1.getD x_2.2.1.toNat 0)) x_1.1.toNat (0 : Int))))&&((!(!decide (IntKind.wrap .i64 (List.getD (ah x.1.2 (x.1.1.getD x_2.2.1.toNat 0)) (Int.toNat (IntKind.wrap .i64 ((↑(List.length (ah x.1.2 (x.1.1.getD 0 0))):Int) - 1))) 0*List.getD (ah x.1.2 (x.1.1.getD x_2.1.toNat 0)) x_1.1.toNat 0)<IntKind.wrap .i64 (List.getD (ah x.1.2 (x.1.1.getD x_2.1.toNat 0)) (Int.toNat (IntKind.wrap .i64 ((↑(List.length (ah x.1.2 (x.1.1.getD 0 0))):Int) - 1))) 0*List.getD (ah x.1.2 (x.1.1.getD x_2.2.1.toNat 0)) x_1.1.toNat 0))&&decide (IntKind.wrap .i64 (List.getD (ah x.1.2 (x.1.1.getD x_2.2.1.toNat 0)) (Int.toNat (IntKind.wrap .i64 ((↑(List.length (ah x.1.2 (x.1.1.getD 0 0))):Int) - 1))) 0*List.getD (ah x.1.2 (x.1.1.getD x_2.1.toNat (0 : Nat))) x_1.1.toNat 0)=IntKind.wrap .i64 (List.getD (ah x.1.2 (x.1.1.getD x_2.1.toNat 0)) (Int.toNat (IntKind.wrap .i64 ((↑(List.length (ah x.1.2 (x.1.1.getD 0 0))):Int) - 1))) 0*List.getD (ah x.1.2 (x.1.1.getD x_2.2.1.toNat (0 : Nat))) x_1.1.toNat 0)))||!decide (IntKind.wrap .i64 (List.getD (ah x.1.2 (x.1.1.getD x_2.2.1.toNat 0)) (Int.toNat (IntKind.wrap IntKind.i64 ((↑(List.length (ah x.1.2 (x.1.1.getD 0 0))):Int) - 1))) 0*List.getD (ah x.1.2 (x.1.1.getD x_2.1.toNat 0)) x_1.1.toNat 0)<IntKind.wrap .i64 (List.getD (ah x.1.2 (x.1.1.getD x_2.1.toNat 0)) (Int.toNat (IntKind.wrap IntKind.i64 ((↑(List.length (ah x.1.2 (x.1.1.getD 0 0))):Int) - 1))) 0*List.getD (ah x.1.2 (x.1.1.getD x_2.2.1.toNat 0)) x_1.1.toNat 0))&&decide (IntKind.wrap .i64 (List.getD (ah x.1.2 (x.1.1.getD x_2.2.1.toNat 0)) (Int.toNat (IntKind.wrap .i64 ((↑(List.length (ah x.1.2 (x.1.1.getD 0 0))):Int) - 1))) 0*List.getD (ah x.1.2 (x.1.1.getD x_2.1.toNat 0)) x_1.1.toNat 0)=IntKind.wrap .i64 (List.getD (ah x.1.2 (x.1.1.getD x_2.1.toNat 0)) (Int.toNat (IntKind.wrap .i64 ((↑(List.length (ah x.1.2 (x.1.1.getD 0 0))):Int) - 1))) 0*List.getD (ah x.1.2 (x.1.1.getD x_2.2.1.toNat 0)) x_1.1.toNat 0)))&&(!(!decide (IntKind.wrap .i64 (List.getD (ah x.1.2 (x.1.1.getD x_2.2.1.toNat 0)) (Int.toNat (IntKind.wrap .i64 ((↑(List.length (ah x.1.2 (x.1.1.getD 0 0))):Int) - 1))) 0*List.getD (ah x.1.2 (x.1.1.getD x_2.1.toNat 0)) x_1.1.toNat 0)<IntKind.wrap .i64 (List.getD (ah x.1.2 (x.1.1.getD x_2.1.toNat 0)) (Int.toNat (IntKind.wrap .i64 ((↑(List.length (ah x.1.2 (x.1.1.getD 0 0))):Int) - 1))) 0*List.getD (ah x.1.2 (x.1.1.getD x_2.2.1.toNat 0)) x_1.1.toNat 0))&&decide (IntKind.wrap .i64 (List.getD (ah x.1.2 (x.1.1.getD x_2.2.1.toNat 0)) (Int.toNat (IntKind.wrap .i64 ((↑(List.length (ah x.1.2 (x.1.1.getD 0 0))):Int) - 1))) 0 * List.getD (ah x.1.2 (x.1.1.getD x_2.1.toNat 0)) x_1.1.toNat 0)=IntKind.wrap .i64 (List.getD (ah x.1.2 (x.1.1.getD x_2.1.toNat 0)) (Int.toNat (IntKind.wrap .i64 ((↑(List.length (ah x.1.2 (x.1.1.getD 0 0))):Int) - 1))) 0 * List.getD (ah x.1.2 (x.1.1.getD x_2.2.1.toNat 0)) x_1.1.toNat 0)))||inB x_2.2.1 x.2.1.length)) then bif (!(!decide (IntKind.wrap .i64 (List.getD (ah x.1.2 (x.1.1.getD x_2.2.1.toNat 0)) (Int.toNat (IntKind.wrap .i64 ((↑(List.length (ah x.1.2 (x.1.1.getD 0 0))):Int) - 1))) 0*List.getD (ah x.1.2 (x.1.1.getD x_2.1.toNat 0)) x_1.1.toNat (0 : Int))<IntKind.wrap .i64 (List.getD (ah x.1.2 (x.1.1.getD x_2.1.toNat 0)) (Int.toNat (IntKind.wrap .i64 ((↑(List.length (ah x.1.2 (x.1.1.getD 0 0))):Int) - 1))) 0*List.getD (ah x.1.2 (x.1.1.getD x_2.2.1.toNat 0)) x_1.1.toNat (0 : Int)))&&decide (IntKind.wrap .i64 (List.getD (ah x.1.2 (x.1.1.getD x_2.2.1.toNat 0)) (Int.toNat (IntKind.wrap .i64 ((↑(List.length (ah x.1.2 (x.1.1.getD 0 0))):Int) - 1))) 0*List.getD (ah x.1.2 (x.1.1.getD x_2.1.toNat 0)) x_1.1.toNat 0)=IntKind.wrap .i64 (List.getD (ah x.1.2 (x.1.1.getD x_2.1.toNat 0)) (Int.toNat (IntKind.wrap .i64 ((↑(List.length (ah x.1.2 (x.1.1.getD 0 0))):Int) - 1))) 0*List.getD (ah x.1.2 (x.1.1.getD x_2.2.1.toNat 0)) x_1.1.toNat 0)))||!decide (IntKind.wrap .i64 (List.getD (ah x.1.2 (x.1.1.getD x_2.2.1.toNat 0)) (Int.toNat (IntKind.wrap .i64 ((↑(List.length (ah x.1.2 (x.1.1.getD 0 0))):Int) - 1))) 0*List.getD (ah x.1.2 (x.1.1.getD x_2.1.toNat (0 : Nat))) x_1.1.toNat 0)<IntKind.wrap .i64 (List.getD (ah x.1.2 (x.1.1.getD x_2.1.toNat 0)) (Int.toNat (IntKind.wrap .i64 ((↑(List.length (ah x.1.2 (x.1.1.getD 0 0))):Int) - 1))) 0*List.getD (ah x.1.2 (x.1.1.getD x_2.2.1.toNat (0 : Nat))) x_1.1.toNat 0))&&decide (IntKind.wrap .i64 (List.getD (ah x.1.2 (x.1.1.getD x_2.2.1.toNat 0)) (Int.toNat (IntKind.wrap IntKind.i64 ((↑(List.length (ah x.1.2 (x.1.1.getD 0 0))):Int) - 1))) 0*List.getD (ah x.1.2 (x.1.1.getD x_2.1.toNat 0)) x_1.1.toNat 0)=IntKind.wrap .i64 (List.getD (ah x.1.2 (x.1.1.getD x_2.1.toNat 0)) (Int.toNat (IntKind.wrap IntKind.i64 ((↑(List.length (ah x.1.2 (x.1.1.getD 0 0))):Int) - 1))) 0*List.getD (ah x.1.2 (x.1.1.getD x_2.2.1.toNat 0)) x_1.1.toNat 0)))&&(!(!decide (IntKind.wrap .i64 (List.getD (ah x.1.2 (x.1.1.getD x_2.2.1.toNat 0)) (Int.toNat (IntKind.wrap .i64 ((↑(List.length (ah x.1.2 (x.1.1.getD 0 0))):Int) - 1))) 0*List.getD (ah x.1.2 (x.1.1.getD x_2.1.toNat 0)) x_1.1.toNat 0)<IntKind.wrap .i64 (List.getD (ah x.1.2 (x.1.1.getD x_2.1.toNat 0)) (Int.toNat (IntKind.wrap .i64 ((↑(List.length (ah x.1.2 (x.1.1.getD 0 0))):Int) - 1))) 0*List.getD (ah x.1.2 (x.1.1.getD x_2.2.1.toNat 0)) x_1.1.toNat 0))&&decide (IntKind.wrap .i64 (List.getD (ah x.1.2 (x.1.1.getD x_2.2.1.toNat 0)) (Int.toNat (IntKind.wrap .i64 ((↑(List.length (ah x.1.2 (x.1.1.getD 0 0))):Int) - 1))) 0*List.getD (ah x.1.2 (x.1.1.getD x_2.1.toNat 0)) x_1.1.toNat 0)=IntKind.wrap .i64 (List.getD (ah x.1.2 (x.1.1.getD x_2.1.toNat (0 : Nat))) (Int.toNat (IntKind.wrap .i64 ((↑(List.length (ah x.1.2 (x.1.1.getD 0 0))):Int) - 1))) 0*List.getD (ah x.1.2 (x.1.1.getD x_2.2.1.toNat 0)) x_1.1.toNat 0)))||Nat.ble (Nat.succ x_2.2.1.toNat) x.2.1.length) then bif !(!decide (IntKind.wrap .i64 (List.getD (ah x.1.2 (x.1.1.getD x_2.2.1.toNat 0)) (Int.toNat (IntKind.wrap .i64 ((↑(List.length (ah x.1.2 (x.1.1.getD 0 0))):Int) - 1))) 0*List.getD (ah x.1.2 (x.1.1.getD x_2.1.toNat 0)) x_1.1.toNat (0 : Int))<IntKind.wrap .i64 (List.getD (ah x.1.2 (x.1.1.getD x_2.1.toNat 0)) (Int.toNat (IntKind.wrap .i64 ((↑(List.length (ah x.1.2 (x.1.1.getD 0 0))):Int) - 1))) 0*List.getD (ah x.1.2 (x.1.1.getD x_2.2.1.toNat 0)) x_1.1.toNat (0 : Int)))&&decide (IntKind.wrap .i64 (List.getD (ah x.1.2 (x.1.1.getD x_2.2.1.toNat 0)) (Int.toNat (IntKind.wrap .i64 ((↑(List.length (ah x.1.2 (x.1.1.getD 0 0))):Int) - 1))) 0*List.getD (ah x.1.2 (x.1.1.getD x_2.1.toNat 0)) x_1.1.toNat 0)=IntKind.wrap .i64 (List.getD (ah x.1.2 (x.1.1.getD x_2.1.toNat 0)) (Int.toNat (IntKind.wrap .i64 ((↑(List.length (ah x.1.2 (x.1.1.getD 0 0))):Int) - 1))) 0*List.getD (ah x.1.2 (x.1.1.getD x_2.2.1.toNat 0)) x_1.1.toNat 0)))||!decide (IntKind.wrap .i64 (List.getD (ah x.1.2 (x.1.1.getD x_2.2.1.toNat 0)) (Int.toNat (IntKind.wrap .i64 ((↑(List.length (ah x.1.2 (x.1.1.getD 0 0))):Int) - 1))) 0*List.getD (ah x.1.2 (x.1.1.getD x_2.1.toNat (0 : Nat))) x_1.1.toNat 0)<IntKind.wrap .i64 (List.getD (ah x.1.2 (x.1.1.getD x_2.1.toNat 0)) (Int.toNat (IntKind.wrap .i64 ((↑(List.length (ah x.1.2 (x.1.1.getD 0 0))):Int) - 1))) 0*List.getD (ah x.1.2 (x.1.1.getD x_2.2.1.toNat (0 : Nat))) x_1.1.toNat 0))&&decide (IntKind.wrap .i64 (List.getD (ah x.1.2 (x.1.1.getD x_2.2.1.toNat 0)) (Int.toNat (IntKind.wrap IntKind.i64 ((↑(List.length (ah x.1.2 (x.1.1.getD 0 0))):Int) - 1))) 0*List.getD (ah x.1.2 (x.1.1.getD x_2.1.toNat 0)) x_1.1.toNat 0)=IntKind.wrap .i64 (List.getD (ah x.1.2 (x.1.1.getD x_2.1.toNat 0)) (Int.toNat (IntKind.wrap IntKind.i64 ((↑(List.length (ah x.1.2 (x.1.1.getD 0 0))):Int) - 1))) 0*List.getD (ah x.1.2 (x.1.1.getD x_2.2.1.toNat 0)) x_1.1.toNat 0)) then bif (!(!decide (IntKind.wrap .i64 (List.getD (ah x.1.2 (x.1.1.getD x_2.2.1.toNat (0 : Nat))) (Int.toNat (IntKind.wrap .i64 ((↑(List.length (ah x.1.2 (x.1.1.getD 0 0))):Int) - 1))) 0*List.getD (ah x.1.2 (x.1.1.getD x_2.1.toNat 0)) x_1.1.toNat 0)<IntKind.wrap .i64 (List.getD (ah x.1.2 (x.1.1.getD x_2.1.toNat (0 : Nat))) (Int.toNat (IntKind.wrap .i64 ((↑(List.length (ah x.1.2 (x.1.1.getD 0 0))):Int) - 1))) 0*List.getD (ah x.1.2 (x.1.1.getD x_2.2.1.toNat 0)) x_1.1.toNat 0))&&decide (IntKind.wrap .i64 (List.getD (ah x.1.2 (x.1.1.getD x_2.2.1.toNat 0)) (Int.toNat (IntKind.wrap .i64 ((↑(List.length (ah x.1.2 (x.1.1.getD 0 0))):Int) - 1))) 0*List.getD (ah x.1.2 (x.1.1.getD x_2.1.toNat 0)) x_1.1.toNat 0)=IntKind.wrap .i64 (List.getD (ah x.1.2 (x.1.1.getD x_2.1.toNat 0)) (Int.toNat (IntKind.wrap .i64 ((↑(List.length (ah x.1.2 (x.1.1.getD 0 0))):Int) - 1))) 0*List.getD (ah x.1.2 (x.1.1.getD x_2.2.1.toNat 0)) x_1.1.toNat 0)))||!decide (IntKind.wrap .i64 (List.getD (ah x.1.2 (x.1.1.getD x_2.2.1.toNat 0)) (Int.toNat (IntKind.wrap .i64 ((↑(List.length (ah x.1.2 (x.1.1.getD 0 0))):Int) - 1))) 0 * List.getD (ah x.1.2 (x.1.1.getD x_2.1.toNat 0)) x_1.1.toNat 0)<IntKind.wrap .i64 (List.getD (ah x.1.2 (x.1.1.getD x_2.1.toNat 0)) (Int.toNat (IntKind.wrap .i64 ((↑(List.length (ah x.1.2 (x.1.1.getD 0 0))):Int) - 1))) 0 * List.getD (ah x.1.2 (x.1.1.getD x_2.2.1.toNat 0)) x_1.1.toNat 0))&&decide (IntKind.wrap .i64 (List.getD (ah x.1.2 (x.1.1.getD x_2.2.1.toNat 0)) (Int.toNat (IntKind.wrap .i64 ((↑(List.length (ah x.1.2 (x.1.1.getD 0 0))):Int) - (1 : Int)))) 0*List.getD (ah x.1.2 (x.1.1.getD x_2.1.toNat 0)) x_1.1.toNat 0)=IntKind.wrap .i64 (List.getD (ah x.1.2 (x.1.1.getD x_2.1.toNat 0)) (Int.toNat (IntKind.wrap .i64 ((↑(List.length (ah x.1.2 (x.1.1.getD 0 0))):Int) - (1 : Int)))) 0*List.getD (ah x.1.2 (x.1.1.getD x_2.2.1.toNat 0)) x_1.1.toNat 0)))&&((!(!decide (IntKind.wrap .i64 (List.getD (ah x.1.2 (x.1.1.getD x_2.2.1.toNat 0)) (Int.toNat (IntKind.wrap .i64 ((↑(List.length (ah x.1.2 (x.1.1.getD 0 0))):Int) - 1))) 0*List.getD (ah x.1.2 (x.1.1.getD x_2.1.toNat 0)) x_1.1.toNat 0)<IntKind.wrap .i64 (List.getD (ah x.1.2 (x.1.1.getD x_2.1.toNat 0)) (Int.toNat (IntKind.wrap .i64 ((↑(List.length (ah x.1.2 (x.1.1.getD 0 (0 : Nat)))):Int) - 1))) 0*List.getD (ah x.1.2 (x.1.1.getD x_2.2.1.toNat 0)) x_1.1.toNat 0))&&decide (IntKind.wrap IntKind.i64 (List.getD (ah x.1.2 (x.1.1.getD x_2.2.1.toNat 0)) (Int.toNat (IntKind.wrap .i64 ((↑(List.length (ah x.1.2 (x.1.1.getD 0 0))):Int) - 1))) 0*List.getD (ah x.1.2 (x.1.1.getD x_2.1.toNat 0)) x_1.1.toNat 0)=IntKind.wrap IntKind.i64 (List.getD (ah x.1.2 (x.1.1.getD x_2.1.toNat 0)) (Int.toNat (IntKind.wrap .i64 ((↑(List.length (ah x.1.2 (x.1.1.getD (0 : Nat) 0))):Int) - 1))) 0*List.getD (ah x.1.2 (x.1.1.getD x_2.2.1.toNat 0)) x_1.1.toNat 0)))||!decide (IntKind.wrap .i64 (List.getD (ah x.1.2 (x.1.1.getD x_2.2.1.toNat 0)) (Int.toNat (IntKind.wrap .i64 ((↑(List.length (ah x.1.2 (x.1.1.getD 0 0))):Int) - 1))) 0*List.getD (ah x.1.2 (x.1.1.getD x_2.1.toNat 0)) x_1.1.toNat (0 : Int))<IntKind.wrap .i64 (List.getD (ah x.1.2 (x.1.1.getD x_2.1.toNat 0)) (Int.toNat (IntKind.wrap .i64 ((↑(List.length (ah x.1.2 (x.1.1.getD 0 0))):Int) - 1))) 0*List.getD (ah x.1.2 (x.1.1.getD x_2.2.1.toNat 0)) x_1.1.toNat (0 : Int)))&&decide (IntKind.wrap .i64 (List.getD (ah x.1.2 (x.1.1.getD x_2.2.1.toNat 0)) (Int.toNat (IntKind.wrap .i64 ((↑(List.length (ah x.1.2 (x.1.1.getD 0 0))):Int) - 1))) 0*List.getD (ah x.1.2 (x.1.1.getD x_2.1.toNat 0)) x_1.1.toNat 0)=IntKind.wrap .i64 (List.getD (ah x.1.2 (x.1.1.getD x_2.1.toNat 0)) (Int.toNat (IntKind.wrap .i64 ((↑(List.length (ah x.1.2 (x.1.1.getD 0 0))):Int) - 1))) 0*List.getD (ah x.1.2 (x.1.1.getD x_2.2.1.toNat 0)) x_1.1.toNat 0)))&&(!(!decide (IntKind.wrap .i64 (List.getD (ah x.1.2 (x.1.1.getD x_2.2.1.toNat 0)) (Int.toNat (IntKind.wrap .i64 ((↑(List.length (ah x.1.2 (x.1.1.getD 0 0))):Int) - 1))) 0*List.getD (ah x.1.2 (x.1.1.getD x_2.1.toNat (0 : Nat))) x_1.1.toNat 0)<IntKind.wrap .i64 (List.getD (ah x.1.2 (x.1.1.getD x_2.1.toNat 0)) (Int.toNat (IntKind.wrap .i64 ((↑(List.length (ah x.1.2 (x.1.1.getD 0 0))):Int) - 1))) 0*List.getD (ah x.1.2 (x.1.1.getD x_2.2.1.toNat (0 : Nat))) x_1.1.toNat 0))&&decide (IntKind.wrap .i64 (List.getD (ah x.1.2 (x.1.1.getD x_2.2.1.toNat 0)) (Int.toNat (IntKind.wrap IntKind.i64 ((↑(List.length (ah x.1.2 (x.1.1.getD 0 0))):Int) - 1))) 0*List.getD (ah x.1.2 (x.1.1.getD x_2.1.toNat 0)) x_1.1.toNat 0)=IntKind.wrap .i64 (List.getD (ah x.1.2 (x.1.1.getD x_2.1.toNat 0)) (Int.toNat (IntKind.wrap IntKind.i64 ((↑(List.length (ah x.1.2 (x.1.1.getD 0 0))):Int) - 1))) 0*List.getD (ah x.1.2 (x.1.1.getD x_2.2.1.toNat 0)) x_1.1.toNat 0)))||inB x_2.1 x.2.1.length)) then bif (!(!decide (IntKind.wrap .i64 (List.getD (ah x.1.2 (x.1.1.getD x_2.2.1.toNat 0)) (Int.toNat (IntKind.wrap .i64 ((↑(List.length (ah x.1.2 (x.1.1.getD 0 0))):Int) - 1))) (0 : Int)*List.getD (ah x.1.2 (x.1.1.getD x_2.1.toNat 0)) x_1.1.toNat 0)<IntKind.wrap .i64 (List.getD (ah x.1.2 (x.1.1.getD x_2.1.toNat 0)) (Int.toNat (IntKind.wrap .i64 ((↑(List.length (ah x.1.2 (x.1.1.getD 0 0))):Int) - 1))) (0 : Int)*List.getD (ah x.1.2 (x.1.1.getD x_2.2.1.toNat 0)) x_1.1.toNat 0))&&decide (IntKind.wrap .i64 (List.getD (ah x.1.2 (x.1.1.getD x_2.2.1.toNat 0)) (Int.toNat (IntKind.wrap .i64 ((↑(List.length (ah x.1.2 (x.1.1.getD 0 0))):Int) - (1 : Int)))) 0*List.getD (ah x.1.2 (x.1.1.getD x_2.1.toNat 0)) x_1.1.toNat 0)=IntKind.wrap .i64 (List.getD (ah x.1.2 (x.1.1.getD x_2.1.toNat 0)) (Int.toNat (IntKind.wrap .i64 ((↑(List.length (ah x.1.2 (x.1.1.getD 0 0))):Int) - (1 : Int)))) 0*List.getD (ah x.1.2 (x.1.1.getD x_2.2.1.toNat 0)) x_1.1.toNat 0)))||!decide (IntKind.wrap .i64 (List.getD (ah x.1.2 (x.1.1.getD x_2.2.1.toNat 0)) (Int.toNat (IntKind.wrap .i64 ((↑(List.length (ah x.1.2 (x.1.1.getD 0 0))) : Int) - 1))) 0*List.getD (ah x.1.2 (x.1.1.getD x_2.1.toNat 0)) x_1.1.toNat 0)<IntKind.wrap .i64 (List.getD (ah x.1.2 (x.1.1.getD x_2.1.toNat 0)) (Int.toNat (IntKind.wrap .i64 ((↑(List.length (ah x.1.2 (x.1.1.getD 0 0))) : Int) - 1))) 0*List.getD (ah x.1.2 (x.1.1.getD x_2.2.1.toNat 0)) x_1.1.toNat 0))&&decide (IntKind.wrap .i64 (List.getD (ah x.1.2 (x.1.1.getD x_2.2.1.toNat 0)) (Int.toNat (IntKind.wrap .i64 ((↑(List.length (ah x.1.2 (x.1.1.getD 0 0))):Int) - 1))) 0*List.getD (ah x.1.2 (x.1.1.getD x_2.1.toNat 0)) x_1.1.toNat 0)=IntKind.wrap .i64 (List.getD (ah x.1.2 (x.1.1.getD x_2.1.toNat 0)) (Int.toNat (IntKind.wrap .i64 ((↑(List.length (ah x.1.2 (x.1.1.getD 0 (0 : Nat)))):Int) - 1))) 0*List.getD (ah x.1.2 (x.1.1.getD x_2.2.1.toNat 0)) x_1.1.toNat 0)))&&(!(!decide (IntKind.wrap IntKind.i64 (List.getD (ah x.1.2 (x.1.1.getD x_2.2.1.toNat 0)) (Int.toNat (IntKind.wrap .i64 ((↑(List.length (ah x.1.2 (x.1.1.getD 0 0))):Int) - 1))) 0*List.getD (ah x.1.2 (x.1.1.getD x_2.1.toNat 0)) x_1.1.toNat 0)<IntKind.wrap IntKind.i64 (List.getD (ah x.1.2 (x.1.1.getD x_2.1.toNat 0)) (Int.toNat (IntKind.wrap .i64 ((↑(List.length (ah x.1.2 (x.1.1.getD (0 : Nat) 0))):Int) - 1))) 0*List.getD (ah x.1.2 (x.1.1.getD x_2.2.1.toNat 0)) x_1.1.toNat 0))&&decide (IntKind.wrap .i64 (List.getD (ah x.1.2 (x.1.1.getD x_2.2.1.toNat 0)) (Int.toNat (IntKind.wrap .i64 ((↑(List.length (ah x.1.2 (x.1.1.getD 0 0))):Int) - 1))) 0*List.getD (ah x.1.2 (x.1.1.getD x_2.1.toNat 0)) x_1.1.toNat (0 : Int))=IntKind.wrap .i64 (List.getD (ah x.1.2 (x.1.1.getD x_2.1.toNat 0)) (Int.toNat (IntKind.wrap .i64 ((↑(List.length (ah x.1.2 (x.1.1.getD 0 0))):Int) - 1))) 0*List.getD (ah x.1.2 (x.1.1.getD x_2.2.1.toNat 0)) x_1.1.toNat (0 : Int))))||Nat.ble (Nat.succ x_2.1.toNat) x.2.1.length) then bif (!(!decide (IntKind.wrap .i64 (List.getD (ah x.1.2 (x.1.1.getD x_2.2.1.toNat 0)) (Int.toNat (IntKind.wrap .i64 ((↑(List.length (ah x.1.2 (x.1.1.getD 0 0))):Int) - 1))) 0*List.getD (ah x.1.2 (x.1.1.getD x_2.1.toNat 0)) x_1.1.toNat 0)<IntKind.wrap .i64 (List.getD (ah x.1.2 (x.1.1.getD x_2.1.toNat 0)) (Int.toNat (IntKind.wrap .i64 ((↑(List.length (ah x.1.2 (x.1.1.getD 0 0))):Int) - 1))) 0*List.getD (ah x.1.2 (x.1.1.getD x_2.2.1.toNat 0)) x_1.1.toNat 0))&&decide (IntKind.wrap .i64 (List.getD (ah x.1.2 (x.1.1.getD x_2.2.1.toNat 0)) (Int.toNat (IntKind.wrap .i64 ((↑(List.length (ah x.1.2 (x.1.1.getD 0 0))):Int) - 1))) 0 * List.getD (ah x.1.2 (x.1.1.getD x_2.1.toNat 0)) x_1.1.toNat 0)=IntKind.wrap .i64 (List.getD (ah x.1.2 (x.1.1.getD x_2.1.toNat 0)) (Int.toNat (IntKind.wrap .i64 ((↑(List.length (ah x.1.2 (x.1.1.getD 0 0))):Int) - 1))) 0 * List.getD (ah x.1.2 (x.1.1.getD x_2.2.1.toNat 0)) x_1.1.toNat 0)))||!decide (IntKind.wrap .i64 (List.getD (ah x.1.2 (x.1.1.getD x_2.2.1.toNat 0)) (Int.toNat (IntKind.wrap .i64 ((↑(List.length (ah x.1.2 (x.1.1.getD 0 0))):Int) - (1 : Int)))) 0*List.getD (ah x.1.2 (x.1.1.getD x_2.1.toNat 0)) x_1.1.toNat 0)<IntKind.wrap .i64 (List.getD (ah x.1.2 (x.1.1.getD x_2.1.toNat 0)) (Int.toNat (IntKind.wrap .i64 ((↑(List.length (ah x.1.2 (x.1.1.getD 0 0))):Int) - (1 : Int)))) 0*List.getD (ah x.1.2 (x.1.1.getD x_2.2.1.toNat 0)) x_1.1.toNat 0))&&decide (IntKind.wrap .i64 (List.getD (ah x.1.2 (x.1.1.getD x_2.2.1.toNat 0)) (Int.toNat (IntKind.wrap .i64 ((↑(List.length (ah x.1.2 (x.1.1.getD 0 0))) : Int) - 1))) 0*List.getD (ah x.1.2 (x.1.1.getD x_2.1.toNat 0)) x_1.1.toNat 0)=IntKind.wrap .i64 (List.getD (ah x.1.2 (x.1.1.getD x_2.1.toNat 0)) (Int.toNat (IntKind.wrap .i64 ((↑(List.length (ah x.1.2 (x.1.1.getD 0 0))) : Int) - 1))) 0*List.getD (ah x.1.2 (x.1.1.getD x_2.2.1.toNat 0)) x_1.1.toNat 0)))&&(!(!decide (IntKind.wrap IntKind.i64 (List.getD (ah x.1.2 (x.1.1.getD x_2.2.1.toNat 0)) (Int.toNat (IntKind.wrap .i64 ((↑(List.length (ah x.1.2 (x.1.1.getD 0 0))):Int) - 1))) 0*List.getD (ah x.1.2 (x.1.1.getD x_2.1.toNat 0)) x_1.1.toNat 0)<IntKind.wrap IntKind.i64 (List.getD (ah x.1.2 (x.1.1.getD x_2.1.toNat 0)) (Int.toNat (IntKind.wrap .i64 ((↑(List.length (ah x.1.2 (x.1.1.getD (0 : Nat) 0))):Int) - 1))) 0*List.getD (ah x.1.2 (x.1.1.getD x_2.2.1.toNat 0)) x_1.1.toNat 0))&&decide (IntKind.wrap .i64 (List.getD (ah x.1.2 (x.1.1.getD x_2.2.1.toNat 0)) (Int.toNat (IntKind.wrap .i64 ((↑(List.length (ah x.1.2 (x.1.1.getD 0 0))):Int) - 1))) 0*List.getD (ah x.1.2 (x.1.1.getD x_2.1.toNat 0)) x_1.1.toNat (0 : Int))=IntKind.wrap .i64 (List.getD (ah x.1.2 (x.1.1.getD x_2.1.toNat 0)) (Int.toNat (IntKind.wrap .i64 ((↑(List.length (ah x.1.2 (x.1.1.getD 0 0))):Int) - 1))) 0*List.getD (ah x.1.2 (x.1.1.getD x_2.2.1.toNat 0)) x_1.1.toNat (0 : Int))))||!decide (IntKind.wrap .i64 (List.getD (ah x.1.2 (x.1.1.getD x_2.2.1.toNat 0)) (Int.toNat (IntKind.wrap .i64 ((↑(List.length (ah x.1.2 (x.1.1.getD 0 0))):Int) - 1))) 0*List.getD (ah x.1.2 (x.1.1.getD x_2.1.toNat 0)) x_1.1.toNat 0)<IntKind.wrap .i64 (List.getD (ah x.1.2 (x.1.1.getD x_2.1.toNat 0)) (Int.toNat (IntKind.wrap .i64 ((↑(List.length (ah x.1.2 (x.1.1.getD 0 0))):Int) - 1))) 0*List.getD (ah x.1.2 (x.1.1.getD x_2.2.1.toNat 0)) x_1.1.toNat 0))&&decide (IntKind.wrap .i64 (List.getD (ah x.1.2 (x.1.1.getD x_2.2.1.toNat 0)) (Int.toNat (IntKind.wrap .i64 ((↑(List.length (ah x.1.2 (x.1.1.getD 0 0))):Int) - 1))) 0*List.getD (ah x.1.2 (x.1.1.getD x_2.1.toNat (0 : Nat))) x_1.1.toNat 0)=IntKind.wrap .i64 (List.getD (ah x.1.2 (x.1.1.getD x_2.1.toNat 0)) (Int.toNat (IntKind.wrap .i64 ((↑(List.length (ah x.1.2 (x.1.1.getD 0 0))):Int) - 1))) 0*List.getD (ah x.1.2 (x.1.1.getD x_2.2.1.toNat (0 : Nat))) x_1.1.toNat 0))) then bif (!!decide (IntKind.wrap .i64 (List.getD (ah x.1.2 (x.1.1.getD x_2.2.1.toNat 0)) (Int.toNat (IntKind.wrap .i64 ((↑(List.length (ah x.1.2 (x.1.1.getD 0 0))):Int) - 1))) 0*List.getD (ah x.1.2 (x.1.1.getD x_2.1.toNat 0)) x_1.1.toNat 0)<IntKind.wrap .i64 (List.getD (ah x.1.2 (x.1.1.getD x_2.1.toNat 0)) (Int.toNat (IntKind.wrap .i64 ((↑(List.length (ah x.1.2 (x.1.1.getD 0 0))):Int) - 1))) 0*List.getD (ah x.1.2 (x.1.1.getD x_2.2.1.toNat 0)) x_1.1.toNat 0))||(!!decide (IntKind.wrap .i64 (List.getD (ah x.1.2 (x.1.1.getD x_2.2.1.toNat (0 : Nat))) (Int.toNat (IntKind.wrap .i64 ((↑(List.length (ah x.1.2 (x.1.1.getD 0 0))):Int) - 1))) 0*List.getD (ah x.1.2 (x.1.1.getD x_2.1.toNat 0)) x_1.1.toNat 0)<IntKind.wrap .i64 (List.getD (ah x.1.2 (x.1.1.getD x_2.1.toNat (0 : Nat))) (Int.toNat (IntKind.wrap .i64 ((↑(List.length (ah x.1.2 (x.1.1.getD 0 0))):Int) - 1))) 0*List.getD (ah x.1.2 (x.1.1.getD x_2.2.1.toNat 0)) x_1.1.toNat 0))||!decide (IntKind.wrap .i64 (List.getD (ah x.1.2 (x.1.1.getD x_2.2.1.toNat 0)) (Int.toNat (IntKind.wrap .i64 ((↑(List.length (ah x.1.2 (x.1.1.getD 0 0))):Int) - 1))) 0*List.getD (ah x.1.2 (x.1.1.getD x_2.1.toNat 0)) x_1.1.toNat 0)<IntKind.wrap .i64 (List.getD (ah x.1.2 (x.1.1.getD x_2.1.toNat 0)) (Int.toNat (IntKind.wrap .i64 ((↑(List.length (ah x.1.2 (x.1.1.getD 0 0))):Int) - 1))) 0*List.getD (ah x.1.2 (x.1.1.getD x_2.2.1.toNat 0)) x_1.1.toNat 0))))&&(!!decide (IntKind.wrap .i64 (List.getD (ah x.1.2 (x.1.1.getD x_2.2.1.toNat 0)) (Int.toNat (IntKind.wrap .i64 ((↑(List.length (ah x.1.2 (x.1.1.getD 0 0))):Int) - 1))) (0 : Int)*List.getD (ah x.1.2 (x.1.1.getD x_2.1.toNat 0)) x_1.1.toNat 0)<IntKind.wrap .i64 (List.getD (ah x.1.2 (x.1.1.getD x_2.1.toNat 0)) (Int.toNat (IntKind.wrap .i64 ((↑(List.length (ah x.1.2 (x.1.1.getD 0 0))):Int) - 1))) (0 : Int)*List.getD (ah x.1.2 (x.1.1.getD x_2.2.1.toNat 0)) x_1.1.toNat 0))||(!decide (IntKind.wrap .i64 (List.getD (ah x.1.2 (x.1.1.getD x_2.2.1.toNat 0)) (Int.toNat (IntKind.wrap .i64 ((↑(List.length (ah x.1.2 (x.1.1.getD 0 0))) : Int) - 1))) 0*List.getD (ah x.1.2 (x.1.1.getD x_2.1.toNat 0)) x_1.1.toNat 0)=IntKind.wrap .i64 (List.getD (ah x.1.2 (x.1.1.getD x_2.1.toNat 0)) (Int.toNat (IntKind.wrap .i64 ((↑(List.length (ah x.1.2 (x.1.1.getD 0 0))):Int) - 1))) 0*List.getD (ah x.1.2 (x.1.1.getD x_2.2.1.toNat 0)) x_1.1.toNat 0))||(!!decide (IntKind.wrap .i64 (List.getD (ah x.1.2 (x.1.1.getD x_2.2.1.toNat 0)) (Int.toNat (IntKind.wrap .i64 ((↑(List.length (ah x.1.2 (x.1.1.getD 0 0))):Int) - 1))) 0*List.getD (ah x.1.2 (x.1.1.getD x_2.1.toNat 0)) x_1.1.toNat 0)<IntKind.wrap .i64 (List.getD (ah x.1.2 (x.1.1.getD x_2.1.toNat 0)) (Int.toNat (IntKind.wrap .i64 ((↑(List.length (ah x.1.2 (x.1.1.getD 0 (0 : Nat)))):Int) - 1))) 0*List.getD (ah x.1.2 (x.1.1.getD x_2.2.1.toNat 0)) x_1.1.toNat 0))||!decide (IntKind.wrap IntKind.i64 (List.getD (ah x.1.2 (x.1.1.getD x_2.2.1.toNat 0)) (Int.toNat (IntKind.wrap .i64 ((↑(List.length (ah x.1.2 (x.1.1.getD 0 0))):Int) - 1))) 0*List.getD (ah x.1.2 (x.1.1.getD x_2.1.toNat 0)) x_1.1.toNat 0)<IntKind.wrap IntKind.i64 (List.getD (ah x.1.2 (x.1.1.getD x_2.1.toNat 0)) (Int.toNat (IntKind.wrap .i64 ((↑(List.length (ah x.1.2 (x.1.1.getD (0 : Nat) 0))):Int) - 1))) 0*List.getD (ah x.1.2 (x.1.1.getD x_2.2.1.toNat 0)) x_1.1.toNat 0))&&decide (IntKind.wrap .i64 (List.getD (ah x.1.2 (x.1.1.getD x_2.2.1.toNat 0)) (Int.toNat (IntKind.wrap .i64 ((↑(List.length (ah x.1.2 (x.1.1.getD 0 0))):Int) - 1))) 0*List.getD (ah x.1.2 (x.1.1.getD x_2.1.toNat 0)) x_1.1.toNat (0 : Int))=IntKind.wrap .i64 (List.getD (ah x.1.2 (x.1.1.getD x_2.1.toNat 0)) (Int.toNat (IntKind.wrap .i64 ((↑(List.length (ah x.1.2 (x.1.1.getD 0 0))):Int) - 1))) 0*List.getD (ah x.1.2 (x.1.1.getD x_2.2.1.toNat 0)) x_1.1.toNat (0 : Int)))))) then bif decide (IntKind.wrap .i64 (List.getD (ah x.1.2 (x.1.1.getD x_2.2.1.toNat 0)) (Int.toNat (IntKind.wrap .i64 ((↑(List.length (ah x.1.2 (x.1.1.getD 0 0))):Int) - 1))) 0*List.getD (ah x.1.2 (x.1.1.getD x_2.1.toNat (0 : Nat))) x_1.1.toNat 0)<IntKind.wrap .i64 (List.getD (ah x.1.2 (x.1.1.getD x_2.1.toNat 0)) (Int.toNat (IntKind.wrap .i64 ((↑(List.length (ah x.1.2 (x.1.1.getD 0 0))):Int) - 1))) 0*List.getD (ah x.1.2 (x.1.1.getD x_2.2.1.toNat (0 : Nat))) x_1.1.toNat 0))||!decide (IntKind.wrap .i64 (List.getD (ah x.1.2 (x.1.1.getD x_2.2.1.toNat 0)) (Int.toNat (IntKind.wrap IntKind.i64 ((↑(List.length (ah x.1.2 (x.1.1.getD 0 0))):Int) - 1))) 0*List.getD (ah x.1.2 (x.1.1.getD x_2.1.toNat 0)) x_1.1.toNat 0)<IntKind.wrap .i64 (List.getD (ah x.1.2 (x.1.1.getD x_2.1.toNat 0)) (Int.toNat (IntKind.wrap IntKind.i64 ((↑(List.length (ah x.1.2 (x.1.1.getD 0 0))):Int) - 1))) 0*List.getD (ah x.1.2 (x.1.1.getD x_2.2.1.toNat 0)) x_1.1.toNat 0)) then bif bif decide (IntKind.wrap .i64 (List.getD (ah x.1.2 (x.1.1.getD x_2.2.1.toNat (0 : Nat))) (Int.toNat (IntKind.wrap .i64 ((↑(List.length (ah x.1.2 (x.1.1.getD 0 0))):Int) - 1))) 0*List.getD (ah x.1.2 (x.1.1.getD x_2.1.toNat 0)) x_1.1.toNat 0)<IntKind.wrap .i64 (List.getD (ah x.1.2 (x.1.1.getD x_2.1.toNat (0 : Nat))) (Int.toNat (IntKind.wrap .i64 ((↑(List.length (ah x.1.2 (x.1.1.getD 0 0))):Int) - 1))) 0*List.getD (ah x.1.2 (x.1.1.getD x_2.2.1.toNat 0)) x_1.1.toNat 0)) then true else bif decide (IntKind.wrap .i64 (List.getD (ah x.1.2 (x.1.1.getD x_2.2.1.toNat 0)) (Int.toNat (IntKind.wrap .i64 ((↑(List.length (ah x.1.2 (x.1.1.getD 0 0))):Int) - 1))) (0 : Int)*List.getD (ah x.1.2 (x.1.1.getD x_2.1.toNat 0)) x_1.1.toNat 0)=IntKind.wrap .i64 (List.getD (ah x.1.2 (x.1.1.getD x_2.1.toNat 0)) (Int.toNat (IntKind.wrap .i64 ((↑(List.length (ah x.1.2 (x.1.1.getD 0 0))):Int) - 1))) (0 : Int)*List.getD (ah x.1.2 (x.1.1.getD x_2.2.1.toNat 0)) x_1.1.toNat 0)) then decide (x.2.1.getD x_2.2.1.toNat (0 : Int)<x.2.1.getD x_2.1.toNat 0) else false then again_2 (x_2.2.1,v16) else again_2 (x_2.1,v16) else none else none else none else none else none else none else none else none else none else none else none else none else none else none else none else none else none else none else none else none else none else none else none else none else none else none else none else none else none else none else none else bif v17 then some (x.1,x.2.1,x.2.2.1,x.2.2.2.1,false,PUnit.unit) else aa (iw x.1 x.2.1 x.2.2.1 x.2.2.2.1 x_2.1 x_1.1) fun (y:(List Nat×List (Option (List Int)))×List Int×Int×Int×PUnit)=>again (y.1,y.2.1, y.2.2.1,y.2.2.2.1,x.2.2.2.2.1,x.2.2.2.2.2.1,x.2.2.2.2.2.2.1,x.2.2.2.2.2.2.2.1,PUnit.unit)) ((-1),(0 : Int),PUnit.unit) else none else none else none else none else none else none else none else none else none else none) (0,PUnit.unit)) (x0,x1,x2,x3,([],[]),[],0, 0,PUnit.unit)
def rF (x0:List Nat×List (Option (List Int))) (x1:List Int) (x2:Int) (x3:Int):Option ((List Nat×List (Option (List Int)))×(List Int)×Int×Int×Bool×Unit):=C9 lpK jnK iw x0 x1 x2 x3
abbrev t66:=(List Nat×List (Option (List Int)))->(List Int)->(Int)->(Int)->Option ((List Nat×List (Option (List Int)))×(List Int)×Int×Int×Bool×Unit)
def yK (lp:Lp) (jn:Jn) (x0:(List Int)×List ((List Int)×Int×Int)):Option ((List Nat×List (Option (List Int)))×(List Int)×Int×Int×Unit) :=
 
 let v3:Int:=IntKind.wrap .i64 ((↑x0.1.length:Int)+(↑x0.2.length:Int));
 let v4:Int:=IntKind.wrap .i64 ((↑x0.1.length:Int)+IntKind.wrap .i64 (2*(↑x0.2.length:Int)));
 let v5:List Int×PUnit:=(List.replicate (Int.toNat (IntKind.wrap .i64 (v4+1))) 0,PUnit.unit);
 let v6:Bool:=decide (0<=IntKind.wrap .i64 (v4+1))&&dZ (Int.toNat (IntKind.wrap .i64 (v4+1))) 8;bif v6 then lp (Int×(List Nat × List (Option (List Int)))×List Int×Int×Int×List Int×PUnit) ((List Nat×List (Option (List Int)))×List Int×Int×Int×PUnit) (fun (again:Int×(List Nat×List (Option (List Int)))×List Int×Int×Int×List Int×PUnit->Option ((List Nat×List (Option (List Int)))×List Int×Int×Int×PUnit)) (x:Int×(List Nat×List (Option (List Int)))×List Int×Int×Int×List Int×PUnit) =>
 let v9:Int:=IntKind.wrap .i64 (v3+x.1);
 let v10:Bool:=inB x.1 x0.2.length;
 let v11:Int:=IntKind.wrap .i64 ((↑x0.1.length:Int)+x.1);
 let v12:List Int×Int×Int:=x0.2.getD x.1.toNat ([],0,0);
 let v13:Bool:=dZ (List.length x.2.1.1+1) 24;
 let v14:List Nat:=x.2.1.1++[List.length x.2.1.2+0];bif decide (x.1<(↑x0.2.length:Int)) then bif v6 then bif v10 then lp (Int×List Int × PUnit) ((List Nat×List (Option (List Int)))×List Int×Int×Int×PUnit) (fun (again_1:Int×List Int×PUnit->Option ((List Nat×List (Option (List Int)))×List Int×Int × Int×PUnit)) (x_1:Int×List Int×PUnit)=>bif decide (x_1.1<(↑v12.1.length:Int)) then bif inB x_1.1 v12.1.length then bif inB x_1.1 x_1.2.1.length then bif Nat.ble (Nat.succ x_1.1.toNat) x_1.2.1.length then again_1 (IntKind.wrap .i64 (x_1.1+1),x_1.2.1.set x_1.1.toNat (v12.1.getD x_1.1.toNat 0),PUnit.unit) else none else none else none else bif v10 then jn (List Int×PUnit) ((List Nat×List (Option (List Int))) × List Int×Int×Int×PUnit) (fun (x_2:List Int×PUnit)=>bif v10 then jn (List Int×PUnit) ((List Nat×List (Option (List Int)))×List Int×Int×Int×PUnit) (fun (x_3:List Int×PUnit) =>
 let v19:List Int×PUnit:=(x_3.1.set v4.toNat v12.2.2,PUnit.unit);bif v10 then bif inB v4 x_3.1.length then bif Nat.ble (Nat.succ v4.toNat) x_3.1.length then bif v10 then jn (List Int×PUnit) ((List Nat×List (Option (List Int)))×List Int×Int×Int×PUnit) (fun (x_4:List Int×PUnit)=>lp (Int×List Int × PUnit) ((List Nat×List (Option (List Int)))×List Int×Int×Int×PUnit) (fun (again_2:Int×List Int×PUnit->Option ((List Nat×List (Option (List Int)))×List Int×Int × Int×PUnit)) (x_5:Int×List Int×PUnit) =>
 let v23:Bool:=inB x_5.1 x_5.2.1.length;
 let v24:Bool:=Nat.ble (Nat.succ x_5.1.toNat) x_5.2.1.length;bif decide (x_5.1<(↑x_4.1.length:Int)) then bif v23 then bif v24 then bif inB x_5.1 x_4.1.length then bif Nat.ble (Nat.succ x_5.1.toNat) x_4.1.length then bif v23 then bif v24 then again_2 (IntKind.wrap .i64 (x_5.1+1), x_5.2.1.set x_5.1.toNat (IntKind.wrap .i64 (x_5.2.1.getD x_5.1.toNat 0 - x_4.1.getD x_5.1.toNat 0)),PUnit.unit) else none else none else none else none else none else none else bif inB v9 x_4.1.length then bif Nat.ble (Nat.succ v9.toNat) x_4.1.length then bif v13 then bif dZ (List.length x.2.2.1+1) 8 then again (IntKind.wrap .i64 (x.1+1),(v14,x.2.1.2++[some (x_4.1.set v9.toNat (1 : Int))]),x.2.2.1++[v9],x.2.2.2.1,x.2.2.2.2.1,x_5.2.1,PUnit.unit) else none else none else none else none) (0,x.2.2.2.2.2.1, PUnit.unit)) fun (j:List Int×PUnit->Option ((List Nat×List (Option (List Int)))×List Int×Int×Int×PUnit))=>bif decide (v12.2.2<0) then lp (Int×List Int × PUnit) ((List Nat×List (Option (List Int)))×List Int×Int×Int×PUnit) (fun (again:Int×List Int×PUnit->Option ((List Nat×List (Option (List Int)))×List Int×Int×Int × PUnit)) (x:Int×List Int×PUnit) =>
 let v23:Bool:=inB x.1 x.2.1.length;
 let v24:Bool:=Nat.ble (Nat.succ x.1.toNat) x.2.1.length;bif decide (x.1<(↑x.2.1.length:Int)) then bif v23 then bif v24 then bif v23 then bif v24 then again (IntKind.wrap .i64 (x.1+1),x.2.1.set x.1.toNat (IntKind.wrap .i64 (0 - x.2.1.getD x.1.toNat 0)), PUnit.unit) else none else none else none else none else j (x.2.1,PUnit.unit)) (0,v19) else j v19 else none else none else none else none) fun (j:List Int×PUnit -> Option ((List Nat×List (Option (List Int)))×List Int×Int×Int×PUnit))=>bif decide (v12.2.1=2) then bif inB v11 x_2.1.length then bif Nat.ble (Nat.succ v11.toNat) x_2.1.length then j (x_2.1.set v11.toNat (-1),PUnit.unit) else none else none else j (x_2.1,PUnit.unit) else none) fun (j:List Int × PUnit->Option ((List Nat×List (Option (List Int)))×List Int×Int×Int×PUnit))=>bif decide (v12.2.1=1) then bif inB v11 x_1.2.1.length then bif Nat.ble (Nat.succ v11.toNat) x_1.2.1.length then j (x_1.2.1.set v11.toNat 1,PUnit.unit) else none else none else j (x_1.2.1,PUnit.unit) else none) (0,v5) else none else none else bif v13 then some ((v14,x.2.1.2++[some x.2.2.2.2.2.1]),x.2.2.1,x.2.2.2.1,x.2.2.2.2.1, PUnit.unit) else none) (0,([],[]),[],1,v3,v5) else none
def qO (x0:(List Int)×List ((List Int)×Int×Int)):Option ((List Nat×List (Option (List Int)))×(List Int)×Int×Int×Unit):=yK lpK jnK x0
abbrev t67:=((List Int)×List ((List Int)×Int×Int))->Option ((List Nat×List (Option (List Int)))×(List Int)×Int×Int×Unit)
def Cm (lp:Lp) (_:Jn) (iw:Sa) (x0:List Nat×List (Option (List Int))) (x1:List Int) (x2:Int) (x3:Int):Option ((List Nat×List (Option (List Int)))×(List Int)×Int×Int×Unit) :=
 lp (Int×(List Nat×List (Option (List Int)))×List Int×Int×Int×PUnit) ((List Nat×List (Option (List Int)))×List Int×Int×Int×PUnit) (fun (again:Int×(List Nat×List (Option (List Int)))×List Int×Int×Int×PUnit->Option ((List Nat×List (Option (List Int)))×List Int×Int×Int×PUnit)) (x:Int×(List Nat×List (Option (List Int))) × List Int×Int×Int×PUnit) =>
 let v8:Int:=IntKind.wrap .i64 (x.1+1);
 let v9:Bool:=inB x.1 x.2.1.1.length;
 let v10:Bool:=Nat.ble (Nat.succ x.1.toNat) x.2.1.1.length;
 let v11:(List Nat×List (Option (List Int)))×List Int×Int×Int×PUnit:=(x.2.1,x.2.2.1,x.2.2.2.1,x.2.2.2.2.1,PUnit.unit);bif decide (x.1 < (↑x.2.2.1.length:Int)) then bif inB x.1 x.2.2.1.length then bif Nat.ble (Nat.succ x.1.toNat) x.2.2.1.length then bif decide (x.2.2.1.getD x.1.toNat 0<x.2.2.2.2.1) then again (v8,v11) else lp (Int×PUnit) ((List Nat×List (Option (List Int)))×List Int×Int×Int×PUnit) (fun (again_1:Int×PUnit->Option ((List Nat×List (Option (List Int)))×List Int×Int×Int×PUnit)) (x_1:Int×PUnit) =>
 let v14:Bool:=decide (x_1.1<x.2.2.2.2.1);
 let v15:Bool:=!v14;
 let v16:Bool:=v15||v14;bif v16 then bif v16&&(v16&&(v15||v9)) then bif v16&&(v15||v10) then bif v16&&(v16&&(v15||inB x_1.1 (List.length (ah x.2.1.2 (x.2.1.1.getD x.1.toNat 0))))) then bif v16&&(v15||Nat.ble (Nat.succ x_1.1.toNat) (List.length (ah x.2.1.2 (x.2.1.1.getD x.1.toNat 0)))) then bif v16 then bif v16 then bif bif v14 then decide (List.getD (ah x.2.1.2 (x.2.1.1.getD x.1.toNat 0)) x_1.1.toNat 0=0) else false then again_1 (IntKind.wrap .i64 (x_1.1+1),PUnit.unit) else bif decide (x_1.1=x.2.2.2.2.1) then again (v8, v11) else bif v9 then bif v10 then bif inB x_1.1 (List.length (ah x.2.1.2 (x.2.1.1.getD x.1.toNat 0))) then bif Nat.ble (Nat.succ x_1.1.toNat) (List.length (ah x.2.1.2 (x.2.1.1.getD x.1.toNat 0))) then bif decide (List.getD (ah x.2.1.2 (x.2.1.1.getD x.1.toNat 0)) x_1.1.toNat 0<0) then lp (Int×(List Nat×List (Option (List Int)))×PUnit) ((List Nat×List (Option (List Int)))×List Int×Int×Int × PUnit) (fun (again_2:Int×(List Nat×List (Option (List Int)))×PUnit->Option ((List Nat×List (Option (List Int)))×List Int×Int×Int×PUnit)) (x_2:Int×(List Nat × List (Option (List Int)))×PUnit) =>
 let v19:Bool:=inB x.1 x_2.2.1.1.length;
 let v20:Bool:=Nat.ble (Nat.succ x.1.toNat) x_2.2.1.1.length;bif v19 then bif v20 then bif eM x_2.2.1.2 (x_2.2.1.1.getD x.1.toNat (0 : Nat)) then bif decide (x_2.1<(↑(List.length (ah x_2.2.1.2 (x_2.2.1.1.getD x.1.toNat 0))):Int)) then bif v19 then bif v20 then bif v19 then bif v20 then bif inB x_2.1 (List.length (ah x_2.2.1.2 (x_2.2.1.1.getD x.1.toNat 0))) then bif Nat.ble (Nat.succ x_2.1.toNat) (List.length (ah x_2.2.1.2 (x_2.2.1.1.getD x.1.toNat 0))) then bif inB x_2.1 (List.length (ah x_2.2.1.2 (x_2.2.1.1.getD x.1.toNat (0 : Nat)))) then bif Nat.ble (Nat.succ x_2.1.toNat) (List.length (ah x_2.2.1.2 (x_2.2.1.1.getD x.1.toNat 0))) then again_2 (IntKind.wrap IntKind.i64 (x_2.1+1),(x_2.2.1.1,x_2.2.1.2.set (x_2.2.1.1.getD x.1.toNat 0) (some (List.set (ah x_2.2.1.2 (x_2.2.1.1.getD x.1.toNat 0)) x_2.1.toNat (IntKind.wrap .i64 (0 - List.getD (ah x_2.2.1.2 (x_2.2.1.1.getD x.1.toNat (0 : Nat))) x_2.1.toNat 0))))),PUnit.unit) else none else none else none else none else none else none else none else none else aa (iw x_2.2.1 x.2.2.1 x.2.2.2.1 x.2.2.2.2.1 x.1 x_1.1) fun (y:(List Nat×List (Option (List Int)))×List Int×Int×Int×PUnit)=>again (v8,y.1,y.2.1, y.2.2.1,y.2.2.2.1,PUnit.unit) else none else none else none) (0,x.2.1,PUnit.unit) else aa (iw x.2.1 x.2.2.1 x.2.2.2.1 x.2.2.2.2.1 x.1 x_1.1) fun (y:(List Nat×List (Option (List Int)))×List Int×Int×Int×PUnit)=>again (v8,y.1,y.2.1,y.2.2.1,y.2.2.2.1, PUnit.unit) else none else none else none else none else none else none else none else none else none else none else none) (0,PUnit.unit) else none else none else some v11) ((0 : Int),x0,x1,x2,x3,PUnit.unit)
def uK (x0:List Nat×List (Option (List Int))) (x1:List Int) (x2:Int) (x3:Int):Option ((List Nat×List (Option (List Int)))×(List Int)×Int×Int×Unit):=Cm lpK jnK iw x0 x1 x2 x3
abbrev t68:=(List Nat×List (Option (List Int)))->(List Int)->(Int)->(Int)->Option ((List Nat×List (Option (List Int)))×(List Int)×Int×Int×Unit)
def BR (_:Lp) (_:Jn) (ba:Fl) (fG:Qx) (x0:Int) (x1:Int):Option ((Int×Int)×Int×Unit) :=
 aa (ba x0) fun (t:Int)=>aa (ba x1) fun (t_1:Int)=>aa (fG (0,t) (!decide (decide (x0<0)=decide (x1<0))) (0, t_1)) fun (t:(Int×Int)×Int×PUnit)=>some (t.1,t.2.1,PUnit.unit)
def tn (x0:Int) (x1:Int):Option ((Int×Int)×Int×Unit):=BR lpK jnK ba fG x0 x1
abbrev t70:=(Int)->(Int)->Option ((Int×Int)×Int×Unit)
def yX (lp:Lp) (_:Jn) (tn:t70) (rF:t66) (qO:t67) (uK:t68) (x0:(List Int)×List ((List Int)×Int×Int)):Option ((Int×Int)×Int×Unit) :=
 aa (qO x0) fun (y:(List Nat×List (Option (List Int)))×List Int×Int×Int×PUnit)=>aa (rF y.1 y.2.1 y.2.2.1 y.2.2.2.1) fun (y:(List Nat × List (Option (List Int)))×List Int×Int×Int×Bool×PUnit) =>
 let v5:Int:=IntKind.wrap .i64 ((↑y.1.1.length:Int) - 1);bif inB 0 y.1.1.length then bif Nat.ble 1 y.1.1.length then bif eM y.1.2 (y.1.1.getD 0 0) then bif inB v5 y.1.1.length then bif Nat.ble (Nat.succ v5.toNat) y.1.1.length then bif inB (IntKind.wrap .i64 ((↑(List.length (ah y.1.2 (y.1.1.getD 0 0))):Int) - 1)) (List.length (ah y.1.2 (y.1.1.getD v5.toNat 0))) then bif Nat.ble (Nat.succ (Int.toNat (IntKind.wrap .i64 ((↑(List.length (ah y.1.2 (y.1.1.getD 0 0))):Int) - 1)))) (List.length (ah y.1.2 (y.1.1.getD v5.toNat 0))) then bif decide (List.getD (ah y.1.2 (y.1.1.getD v5.toNat 0)) (Int.toNat (IntKind.wrap .i64 ((↑(List.length (ah y.1.2 (y.1.1.getD 0 0))):Int) - 1))) 0<0) then some ((0,0),(22 : Int),PUnit.unit) else aa (uK y.1 y.2.1 y.2.2.1 y.2.2.2.1) fun (y_1:(List Nat×List (Option (List Int)))×List Int×Int×Int×PUnit)=>bif decide (0<=IntKind.wrap .i64 (IntKind.wrap .i64 ((↑(List.length (ah y.1.2 (y.1.1.getD 0 0))):Int) - 1)+1))&&dZ (Int.toNat (IntKind.wrap .i64 (IntKind.wrap .i64 ((↑(List.length (ah y.1.2 (y.1.1.getD 0 0))):Int) - 1)+1))) 8 then lp (Int×List Int×PUnit) ((Int×Int)×Int×PUnit) (fun (again:Int×List Int×PUnit->Option ((Int×Int)×Int×PUnit)) (x:Int×List Int×PUnit)=>bif decide (x.1 < (↑x0.1.length:Int)) then bif inB x.1 x0.1.length then bif inB x.1 x.2.1.length then bif Nat.ble (Nat.succ x.1.toNat) x.2.1.length then again (IntKind.wrap .i64 (x.1+1),x.2.1.set x.1.toNat (x0.1.getD x.1.toNat 0),PUnit.unit) else none else none else none else lp (Int×(List Nat×List (Option (List Int)))×PUnit) ((Int×Int)×Int×PUnit) (fun (again:Int×(List Nat×List (Option (List Int)))×PUnit->Option ((Int×Int)×Int × PUnit)) (x_1:Int×(List Nat×List (Option (List Int)))×PUnit)=>bif decide (x_1.1<=IntKind.wrap .i64 ((↑(List.length (ah y.1.2 (y.1.1.getD 0 (0 : Nat)))):Int) - 1)) then bif inB x_1.1 x.2.1.length then bif Nat.ble (Nat.succ x_1.1.toNat) x.2.1.length then lp (Int×Int×PUnit) ((Int × Int)×Int×PUnit) (fun (again_1:Int×Int×PUnit->Option ((Int×Int)×Int×PUnit)) (x_2:Int×Int×PUnit) =>
 let v13:Int:=y_1.2.1.getD x_2.2.1.toNat 0;bif decide (x_2.2.1<v5) then bif inB x_2.2.1 y_1.2.1.length then bif Nat.ble (Nat.succ x_2.2.1.toNat) y_1.2.1.length then bif inB v13 x.2.1.length then bif Nat.ble (Nat.succ v13.toNat) x.2.1.length then bif inB x_2.2.1 x_1.2.1.1.length then bif Nat.ble (Nat.succ x_2.2.1.toNat) x_1.2.1.1.length then bif inB x_1.1 (List.length (ah x_1.2.1.2 (x_1.2.1.1.getD x_2.2.1.toNat 0))) then bif Nat.ble (Nat.succ x_1.1.toNat) (List.length (ah x_1.2.1.2 (x_1.2.1.1.getD x_2.2.1.toNat 0))) then again_1 (IntKind.wrap .i64 (x_2.1 - IntKind.wrap .i64 (x.2.1.getD v13.toNat 0*List.getD (ah x_1.2.1.2 (x_1.2.1.1.getD x_2.2.1.toNat 0)) x_1.1.toNat 0)),IntKind.wrap .i64 (x_2.2.1+1),PUnit.unit) else none else none else none else none else none else none else none else none else bif inB v5 x_1.2.1.1.length then bif Nat.ble (Nat.succ v5.toNat) x_1.2.1.1.length then bif inB x_1.1 (List.length (ah x_1.2.1.2 (x_1.2.1.1.getD v5.toNat 0))) then bif Nat.ble (Nat.succ x_1.1.toNat) (List.length (ah x_1.2.1.2 (x_1.2.1.1.getD v5.toNat 0))) then again (IntKind.wrap .i64 (x_1.1+1),(x_1.2.1.1,x_1.2.1.2.set (x_1.2.1.1.getD v5.toNat 0) (some (List.set (ah x_1.2.1.2 (x_1.2.1.1.getD v5.toNat 0)) x_1.1.toNat x_2.1))),PUnit.unit) else none else none else none else none) (IntKind.wrap .i64 (x.2.1.getD x_1.1.toNat 0*y_1.2.2.1),0,PUnit.unit) else none else none else aa (rF x_1.2.1 y_1.2.1 y_1.2.2.1 y_1.2.2.2.1) fun (y_2:(List Nat×List (Option (List Int)))×List Int×Int×Int×Bool×PUnit)=>bif !y_2.2.2.2.2.1 then some ((0,0),21,PUnit.unit) else bif inB v5 y_2.1.1.length then bif Nat.ble (Nat.succ v5.toNat) y_2.1.1.length then bif inB (IntKind.wrap .i64 ((↑(List.length (ah y.1.2 (y.1.1.getD 0 0))):Int) - 1)) (List.length (ah y_2.1.2 (y_2.1.1.getD v5.toNat 0))) then bif Nat.ble (Nat.succ (Int.toNat (IntKind.wrap .i64 ((↑(List.length (ah y.1.2 (y.1.1.getD 0 0))):Int) - (1 : Int))))) (List.length (ah y_2.1.2 (y_2.1.1.getD v5.toNat 0))) then aa (tn (IntKind.wrap .i64 (0 - List.getD (ah y_2.1.2 (y_2.1.1.getD v5.toNat 0)) (Int.toNat (IntKind.wrap .i64 ((↑(List.length (ah y.1.2 (y.1.1.getD 0 0))):Int) - 1))) 0)) y_2.2.2.1) fun (t:(Int×Int)×Int×PUnit)=>some (t.1,t.2.1,PUnit.unit) else none else none else none else none) (0,y_1.1,PUnit.unit)) ((0 : Int),List.replicate (Int.toNat (IntKind.wrap .i64 (IntKind.wrap .i64 ((↑(List.length (ah y.1.2 (y.1.1.getD 0 0))):Int) - 1)+(1 : Int)))) 0,PUnit.unit) else none else none else none else none else none else none else none else none
def dM (x0:(List Int)×List ((List Int)×Int×Int)):Option ((Int×Int)×Int×Unit):=yX lpK jnK tn rF qO uK x0
abbrev t26:=((List Int)×List ((List Int)×Int×Int))->Option ((Int×Int)×Int×Unit)
def k26 (dM:t26):Ctr:=⟨[T32],[],[],.tup [T49,i64],fun x _ _=>dM x.1⟩
def nj (_:Lp) (_:Jn) (aw:t72) (x0:Int×Int):Option Bool :=
 aa (aw x0) fun (t:Bool)=>some !t
def fA (x0:Int×Int):Option Bool:=nj lpK jnK aw x0
abbrev t71:=(Int×Int)->Option (Bool)
def c71:Ctr:=⟨[T49],[],[],.one .bool,fun x _ _=>fA x.1⟩
theorem e71 (lp:Lp) (jn:Jn) (aw:t72):∀(x:TsS c71.as) (F:TsF c71.fs) (y:TsS c71.cs),nj lp jn aw x.1=cn lp jn (cx [(72,k72 aw)] [(134,bJ)]) ao 4 71 f71 c71 x F y:=fun x F y=>by kernel_rfl
theorem VS:c71.ok prog 71:=Ctr.of_den (au (ai (bV) (by kernel_rfl) H2)) aW (hl:=ao) (d:=4) func71 rfl (by decide) (e71 lpK jnK aw)
def qg (lp:Lp) (_:Jn) (aj:t32) (bh:t35) (fA:t71) (x0:List (Int×Int)):Option ((Int×Int)×Int×Unit) :=
 aa (aj x0 fun (x:(Int×Int)×PUnit)=>fA x.1) fun (t:Bool)=>bif t then some ((0,0),1,PUnit.unit) else bif decide ((↑x0.length:Int)>1000) then some ((0,0),4,PUnit.unit) else lp (Int×(Int×Int)×(Int×Int)×PUnit) ((Int×Int)×Int×PUnit) (fun (again:Int×(Int×Int)×(Int×Int)×PUnit->Option ((Int×Int)×Int×PUnit)) (x:Int×(Int×Int)×(Int×Int)×PUnit)=>bif decide (x.1<(↑x0.length:Int)) then bif inB x.1 x0.length then aa (bh x.2.2.1 (x0.getD x.1.toNat (0,0))) fun (t:(Int×Int)×Int×PUnit)=>bif !decide (t.2.1=0) then some ((0,0),t.2.1,PUnit.unit) else again (IntKind.wrap .i64 (x.1+1),x.2.1,t.1,PUnit.unit) else none else some (x.2.2.1,0,PUnit.unit)) (0,(0,0),(0,1),PUnit.unit)
def bo (x0:List (Int×Int)):Option ((Int×Int)×Int×Unit):=qg lpK jnK aj bh fA x0
abbrev t27:=(List (Int×Int))->Option ((Int×Int)×Int×Unit)
def k27 (bo:t27):Ctr:=⟨[(.sl T49)],[],[],.tup [T49,i64],fun x _ _=>bo x.1⟩
def c27:Ctr:=k27 bo
theorem e27 (lp:Lp) (jn:Jn) (aj:t32) (bh:t35) (fA:t71):∀(x:TsS c27.as) (F:TsF c27.fs) (y:TsS c27.cs),qg lp jn aj bh fA x.1=cn lp jn (cx [(71,⟨[T49],[],[],.one .bool,fun x _ _=>fA x.1⟩),(35,k35 bh),(32,k32 aj)] [(134,bJ)]) ao 4 27 f27 c27 x F y:=fun x F y=>by kernel_rfl
theorem UL:c27.ok prog 27:=Ctr.of_den (au (ai (ai (ai (bV) (by kernel_rfl) QS) (by kernel_rfl) RB) (by kernel_rfl) VS)) aW (hl:=ao) (d:=4) func27 rfl (by decide) (e27 lpK jnK aj bh fA)
def yR (lp:Lp) (_:Jn) (dn:t73) (aV:t15) (gM:t64) (dM:t26) (x0:(List (ByteArray×Int))×List (ByteArray×(List (ByteArray×Int×Int×Int))×Bool)):Option ((List ByteArray)×Int×Unit) :=
 lp (List ByteArray×Int×PUnit) (List ByteArray×Int×PUnit) (fun (again:List ByteArray×Int×PUnit->Option (List ByteArray×Int×PUnit)) (x:List ByteArray×Int×PUnit) =>
 let v5:Int×PUnit:=(IntKind.wrap .i64 (x.2.1+1),PUnit.unit);bif decide (x.2.1<(↑x0.2.length:Int)) then aa (gM x0 x.2.1 (-1 : Int)) fun (t:List Int)=>aa (aV x0 t) fun (t:List Int×List (List Int×Int×Int))=>aa (dM t) fun (t:(Int×Int)×Int×PUnit) =>
 let v9:Bool:=decide (t.2.1=0);
 let v10:Bool:=!v9||v9;bif decide (t.2.1=22) then some ([],t.2.1,PUnit.unit) else aa (bif v9 then dn 0 else some (0,0)) fun (t_1:Int×Int)=>bif v10&&v10 then bif v10 then bif bif v9 then decide (t.1.1=t_1.1)&&(decide (t.1.2=t_1.2)&&true) else false then bif inB x.2.1 x0.2.length then bif dZ (List.length x.1+1) 16 then again (x.1++[(x0.2.getD x.2.1.toNat ({ data:={ toList:=[] } },[], false)).1],v5) else none else none else again (x.1,v5) else none else none else some (x.1,0,PUnit.unit)) ([],0,PUnit.unit)
def jq (x0:(List (ByteArray×Int))×List (ByteArray×(List (ByteArray×Int×Int×Int))×Bool)):Option ((List ByteArray)×Int×Unit):=yR lpK jnK dn aV gM dM x0
abbrev t28:=((List (ByteArray×Int))×List (ByteArray×(List (ByteArray×Int×Int×Int))×Bool))->Option ((List ByteArray)×Int×Unit)
def jE (lp:Lp) (_:Jn) (x0:List ByteArray) (x1:List ByteArray):Option Bool :=
 bif !decide ((↑x0.length:Int)=(↑x1.length:Int)) then some false else lp (Int×PUnit) Bool (fun (again:Int×PUnit->Option Bool) (x:Int×PUnit)=>bif decide (x.1<(↑x0.length:Int)) then bif inB x.1 x0.length then bif inB x.1 x1.length then bif !List.beq (ByteArray.toList (x0.getD x.1.toNat { data :={ toList:=[] } })) (ByteArray.toList (x1.getD x.1.toNat { data:={ toList:=[] } })) then some false else again (IntKind.wrap .i64 (x.1+1), PUnit.unit) else none else none else some true) (0,PUnit.unit)
def aR (x0:List ByteArray) (x1:List ByteArray):Option Bool:=jE lpK jnK x0 x1
abbrev t29:=(List ByteArray)->(List ByteArray)->Option (Bool)
def k29 (aR:t29):Ctr:=⟨[(.sl .str),(.sl .str)],[],[],.one .bool,fun x _ _=>aR x.1 x.2.1⟩
def c29:Ctr:=k29 aR
theorem e29 (lp:Lp) (jn:Jn):∀(x:TsS c29.as) (F:TsF c29.fs) (y:TsS c29.cs),jE lp jn x.1 x.2.1=cn lp jn (cx [] [(134,bJ)]) ao 4 29 f29 c29 x F y:=fun x F y=>by kernel_rfl
theorem VB:c29.ok prog 29:=Ctr.of_den (au (bV)) aW (hl:=ao) (d:=4) func29 rfl (by decide) (e29 lpK jnK)
def yY (_:Lp) (_:Jn) (aV:t15) (gM:t64) (dM:t26) (x0:(List (ByteArray×Int))×List (ByteArray×(List (ByteArray×Int×Int×Int))×Bool)) (x1:Int):Option ((Int×Int)×Int×Unit) :=
 aa (gM x0 x1 1) fun (t:List Int)=>aa (aV x0 t) fun (t:List Int×List (List Int×Int×Int))=>aa (dM t) fun (t:(Int×Int)×Int × PUnit)=>some (t.1,t.2.1,PUnit.unit)
def jt (x0:(List (ByteArray×Int))×List (ByteArray×(List (ByteArray×Int×Int×Int))×Bool)) (x1:Int):Option ((Int×Int)×Int×Unit):=yY lpK jnK aV gM dM x0 x1
abbrev t30:=((List (ByteArray×Int))×List (ByteArray×(List (ByteArray×Int×Int×Int))×Bool))->(Int)->Option ((Int×Int)×Int×Unit)
def mc (_:Lp) (jn:Jn) (aE:t19) (cm:t20) (aF:t21) (aK:t9) (be:t10) (bN:t22) (bn:t13) (aV:t15) (cQ:t16) (kg:t23) (gZ:t24) (ju:t25) (dM:t26) (bo:t27) (jq:t28) (aR:t29) (jt:t30) (x0:(List (ByteArray×Int))×List (ByteArray×(List (ByteArray×Int×Int×Int))×Bool)) (x1:ByteArray):Option Bool :=
 aa aK fun (t:Bool)=>bif !t then some false else aa (be x0 []) fun (t:Bool) =>
 let v6:Bool:=!t;
 let v7:Bool:=!v6;
 let v8:Bool:=!v7||v7;bif v8 then bif v8 then bif v6||v7 then bif bif v6 then true else decide ((↑(ByteArray.size x1):Int)>60) then some true else aa (aE x0) fun (t:List (Int×Int)×Int×PUnit) =>
 let v10:Bool:=decide (t.2.1=0);
 let v11:Bool:=!v10;
 let v12:Bool:=decide ((↑t.1.length:Int)=0);
 let v13:Bool:=!v12;
 let v14:Bool:=bif v12 then decide (t.2.1=1) else false;
 let v15:Bool:=v13||v12;
 let v16:Bool:=!v14||v14;aa (cm x0 x1) fun (t_1:(Int×Int)×Int×PUnit) =>
 let v18:Bool:=decide (t_1.1.1=0)&&(decide (t_1.1.2=0)&&true);
 let v19:Bool:=!v18;
 let v20:Bool:=bif v14 then v18 else false;
 let v21:Bool:=bif v20 then decide (t_1.2.1=1) else false;
 let v22:Bool:=!v20||v20;
 let v23:Bool:=!v21||v21;aa (aF x0) fun (t_2:List ByteArray×Int×PUnit) =>
 let v25:Bool:=decide ((↑t_2.1.length:Int)=0);
 let v26:Bool:=bif v21 then v25 else false;
 let v27:Bool:=bif v25 then decide (t_2.2.1=5) else false;
 let v28:Bool:=!v27;
 let v29:Bool:=!v25||v25;
 let v30:Bool:=!v26||v26;
 let v31:Bool:=v28||v27;aa (bn x0) fun (t_3:Bool)=>bif !t_3 then bif v15 then bif v15 then bif v16&&v16 then bif v16 then bif v22 then bif v22 then bif v23 then bif v23 then bif v23 then bif v30 then bif v30 then some (bif v26 then decide (t_2.2.1=1) else false) else none else none else none else none else none else none else none else none else none else none else none else aa (bN x0 x1) fun (t_4:Int) =>
 let v34:Bool:=decide (t_4<0);
 let v35:Bool:=!v34;
 let v36:Bool:=v34&&!v19;
 let v37:Bool:=v27&&v35;
 let v38:Bool:=!v37;
 let v39:Bool:=v37&&v18;
 let v40:Bool:=v35||v34;
 let v41:Bool:=v38||v37;bif v40&&v40 then bif v40 then bif !v36||v36 then bif (v35||v40)&&(v35||(v19||(v35||v36))) then bif v40 then bif bif v34 then bif v19 then true else !decide (t_1.2.1=9) else false then some false else aa (kg x0) fun (t_5:Bool) =>
 let v43:Bool:=!t_5;
 let v44:Bool:=!v43;
 let v45:Bool:=v43&&!v13;
 let v46:Bool:=v44||v43;bif v46 then bif v46 then bif v46 then bif !v45||v45 then bif (v44||v46)&&(v44||(v13||(v44||v45))) then bif v46 then bif bif v43 then bif v13 then true else !decide (t.2.1=5) else false then some false else aa (gZ x0) fun (t_6:Bool)=>bif !t_6 then bif v29 then bif v29 then bif v31 then bif v31 then bif v41&&v41 then bif v41 then bif !v39||v39 then bif (v38||v41)&&(v38||(v19||(v38||v39))) then bif (v28||v31)&&(v28||(v34||(v28||v37))) then bif v31 then some (bif v27 then bif v34 then true else bif v18 then decide (t_1.2.1=5) else false else false) else none else none else none else none else none else none else none else none else none else none else aa (ju x0) fun (t_7:Bool)=>bif !t_7 then some true else aa (cQ x0) fun (t_8:List Int)=>aa (aV x0 t_8) fun (t_9 : List Int×List (List Int×Int×Int))=>aa (dM t_9) fun (t_10:(Int×Int)×Int×PUnit) =>
 let v52:Bool:=!decide (t.2.1=t_10.2.1);
 let v53:Bool:=!v52;
 let v54:Bool:=!v53;
 let v55:Bool:=v53&&v11;
 let v56:Bool:=v54||v53;
 let v57:Bool:=!v55||v55;bif v56 then bif v56 then bif v57 then bif v57 then bif (v54||v56)&&(v54||(!v11||(v54||v55))) then bif v52||v53 then bif bif v52 then true else bif v11 then v13 else false then some false else jn PUnit Bool (fun (_:PUnit)=>aa (jq x0) fun (t:List ByteArray×Int×PUnit)=>aa (aR t_2.1 t.1) fun (t_11:Bool) =>
 let v61:Bool:=!t_11;
 let v62:Bool:=!v61;
 let v63:Bool:=!v62||v62;bif v63&&v63 then bif v61||v62 then bif bif v61 then true else !decide (t_2.2.1=t.2.1) then some false else bif v34 then some true else aa (jt x0 t_4) fun (t:(Int×Int)×Int×PUnit) =>
 let v65:Bool:=decide (t_1.1.1=t.1.1)&&(decide (t_1.1.2=t.1.2)&&true);
 let v66:Bool:=!v65||v65;bif v66&&v66 then bif v66 then some (bif v65 then decide (t_1.2.1=t.2.1) else false) else none else none else none else none) fun (j:PUnit -> Option Bool)=>bif v10 then aa (bo t.1) fun (t_11:(Int×Int)×Int×PUnit) =>
 let v60:Bool:=!decide (t_11.2.1=0);
 let v61:Bool:=!v60;
 let v62:Bool:=!v61||v61;
 let v63:Bool:=bif v60 then true else !(decide (t_11.1.1=t_10.1.1)&&(decide (t_11.1.2=t_10.1.2)&&true));
 let v64:Bool:=!v63;
 let v65:Bool:=!v64||v64;bif v62&&v62 then bif v60||v61 then bif v65 then bif v65 then bif v65 then bif v65&&v65 then bif v63||v64 then bif bif v63 then true else !decide ((↑t.1.length:Int)=(↑x0.2.length:Int)) then some false else j PUnit.unit else none else none else none else none else none else none else none else j PUnit.unit else none else none else none else none else none else none else none else none else none else none else none else none else none else none else none else none else none else none else none else none
def uO (x0:(List (ByteArray×Int))×List (ByteArray×(List (ByteArray×Int×Int×Int))×Bool)) (x1:ByteArray):Option Bool:=mc lpK jnK aE cm aF aK be bN bn aV cQ kg gZ ju dM bo jq aR jt x0 x1
def c4:Ctr:=⟨[T25,.str],[],[],.one .bool,fun x _ _=>uO x.1 x.2.1⟩
theorem e4 (lp:Lp) (jn:Jn) (aE:t19) (cm:t20) (aF:t21) (aK:t9) (be:t10) (bN:t22) (bn:t13) (aV:t15) (cQ:t16) (kg:t23) (gZ:t24) (ju:t25) (dM:t26) (bo:t27) (jq:t28) (aR:t29) (jt:t30):∀(x:TsS c4.as) (F:TsF c4.fs) (y:TsS c4.cs),mc lp jn aE cm aF aK be bN bn aV cQ kg gZ ju dM bo jq aR jt x.1 x.2.1=cn lp jn (cx [(30,⟨[T25,i64],[],[],.tup [T49,i64],fun x _ _=>jt x.1 x.2.1⟩),(29,k29 aR),(28,⟨[T25],[],[],.tup [(.sl .str),i64],fun x _ _=>jq x.1⟩),(27,k27 bo),(26,k26 dM),(25,⟨[T25],[],[],.one .bool,fun x _ _=>ju x.1⟩),(24,⟨[T25],[],[],.one .bool,fun x _ _=>gZ x.1⟩),(23,⟨[T25],[],[],.one .bool,fun x _ _=>kg x.1⟩),(16,k16 cQ),(15,k15 aV),(13,k13 bn),(22,k22 bN),(10,k10 be),(9,k9 aK),(21,k21 aF),(20,k20 cm),(19,k19 aE)] [(134,bJ)]) ao 4 4 f4 c4 x F y:=fun x F y=>by kernel_rfl
def pv (lp:Lp) (_:Jn) (x0:(List (ByteArray×Int))×List (ByteArray×(List (ByteArray×Int×Int×Int))×Bool)):Option ((List (ByteArray×Int))×List (ByteArray×(List (ByteArray×Int×Int×Int))×Bool)) :=
 
 let v3:List (ByteArray×List (ByteArray×Int×Int×Int)×Bool):=[];bif dZ (0+List.length x0.1) 24 then lp (Int×List (ByteArray×Int)×List (ByteArray × List (ByteArray×Int×Int×Int)×Bool)×PUnit) (List (ByteArray×Int)×List (ByteArray×List (ByteArray×Int×Int×Int)×Bool)) (fun (again:Int×List (ByteArray×Int) × List (ByteArray×List (ByteArray×Int×Int×Int)×Bool)×PUnit->Option (List (ByteArray×Int)×List (ByteArray×List (ByteArray×Int×Int×Int)×Bool))) (x:Int×List (ByteArray×Int)×List (ByteArray×List (ByteArray×Int×Int×Int)×Bool)×PUnit) =>
 let v6:ByteArray×List (ByteArray×Int×Int×Int)×Bool:=x0.2.getD x.1.toNat ({ data:={ toList:=[] } },[],false);bif decide (x.1<(↑x0.2.length : Int)) then bif inB x.1 x0.2.length then bif dZ (0+List.length v6.2.1) 40 then bif dZ (List.length x.2.2.1+1) 48 then again (IntKind.wrap .i64 (x.1+1),x.2.1,x.2.2.1++v6 ::v3,PUnit.unit) else none else none else none else some (x.2.1,x.2.2.1)) (0,x0.1, v3,PUnit.unit) else none
def dk (x0:(List (ByteArray×Int))×List (ByteArray×(List (ByteArray×Int×Int×Int))×Bool)):Option ((List (ByteArray×Int))×List (ByteArray×(List (ByteArray×Int×Int×Int))×Bool)):=pv lpK jnK x0
abbrev t31:=((List (ByteArray×Int))×List (ByteArray×(List (ByteArray×Int×Int×Int))×Bool))->Option ((List (ByteArray×Int))×List (ByteArray×(List (ByteArray×Int×Int×Int))×Bool))
set_option maxRecDepth 100000
def iz (_:Lp) (_:Jn) (bF:t34) (x0:Int×Int):Option Bool :=
 aa (bF 0) fun (t:Int×Int)=>some !(decide (x0.1=t.1)&&(decide (x0.2=t.2)&&true))
def br (x0:Int×Int):Option Bool:=iz lpK jnK bF x0
abbrev t33:=(Int×Int)->Option (Bool)
def c33:Ctr:=⟨[T49],[],[],.one .bool,fun x _ _=>br x.1⟩
theorem e33 (lp:Lp) (jn:Jn) (bF:t34):∀(x:TsS c33.as) (F:TsF c33.fs) (y:TsS c33.cs),iz lp jn bF x.1=cn lp jn (cx [(34,k34 bF)] [(134,bJ)]) ao 4 33 f33 c33 x F y:=fun x F y=>by kernel_rfl
theorem Uv:c33.ok prog 33:=Ctr.of_den (au (ai (bV) (by kernel_rfl) QY)) aW (hl:=ao) (d:=4) func33 rfl (by decide) (e33 lpK jnK bF)
def mB (lp:Lp) (jn:Jn) (aj:t32) (bh:t35) (aE:t19) (aF:t21) (aK:t9) (be:t10) (bn:t13) (bo:t27) (aR:t29) (dk:t31) (br:t33) (x0:(List (ByteArray×Int))×List (ByteArray×(List (ByteArray×Int×Int×Int))×Bool)):Option Bool :=
 aa aK fun (t:Bool)=>bif !t then some false else aa (be x0 []) fun (t:Bool) =>
 let v5:Bool:=!t;
 let v6:Bool:=!v5;
 let v7:Bool:=!v6||v6;bif v7 then aa (bif v6 then bn x0 else some false) fun (t:Bool)=>bif v7 then bif v5||v6 then bif bif v5 then true else !t then some true else aa (dk x0) fun (t:List (ByteArray×Int)×List (ByteArray×List (ByteArray×Int×Int×Int)×Bool))=>aa (dk x0) fun (t_1:List (ByteArray×Int)×List (ByteArray×List (ByteArray×Int×Int×Int)×Bool))=>lp (Int×PUnit) Bool (fun (again:Int×PUnit->Option Bool) (x:Int×PUnit)=>bif decide (x.1<(↑x0.1.length:Int)) then bif inB x.1 t.1.length then none else none else aa (aE t) fun (t:List (Int×Int)×Int×PUnit) =>
 let v14:Bool:=!decide (t.2.1=0);
 let v15:Bool:=!v14;
 let v16:Bool:=!v15||v15;
 let v17:Bool:=bif v14 then true else !decide ((↑t.1.length:Int)=(↑x0.2.length:Int));
 let v18:Bool:=!v17;jn PUnit Bool (fun (_:PUnit)=>aa (aE x0) fun (t:List (Int×Int)×Int×PUnit) =>
 let v21:Bool:=decide (t.2.1=5);
 let v22:Bool:=!v21;
 let v23:Bool:=!decide (t.2.1=0);
 let v24:Bool:=!v23;aa (aE t_1) fun (t_2:List (Int×Int)×Int×PUnit) =>
 let v26:Bool:=bif v21 then true else decide (t_2.2.1=5);
 let v27:Bool:=!v26;
 let v28:Bool:=decide (t.2.1=t_2.2.1);
 let v29:Bool:=!v28||v28;bif !v22||v22 then bif v21||v22 then bif !v27||v27 then bif v26||v27 then bif bif v26 then true else decide (t_2.2.1=1) then some true else bif !v24||v24 then bif v23||v24 then bif bif v23 then true else !decide (t_2.2.1=0) then bif v29 then bif v29 then some (bif v28 then decide (t.2.1=(22 : Int)) else false) else none else none else aa (bo t.1) fun (t:(Int×Int)×Int×PUnit) =>
 let v31:Bool:=!decide (t.2.1=0);
 let v32:Bool:=!v31;aa (bo t_2.1) fun (t_3:(Int×Int)×Int×PUnit) =>
 let v34:Bool:=bif v31 then true else !decide (t_3.2.1=0);
 let v35:Bool:=!v34;aa (bh t.1 t.1) fun (t:(Int×Int)×Int×PUnit) =>
 let v37:Bool:=bif v34 then true else !decide (t.2.1=0);
 let v38:Bool:=!v37;
 let v39:Bool:=!v38||v38;bif !v32||v32 then bif v31||v32 then bif !v35||v35 then bif v34||v35 then bif v39&&v39 then bif v37||v38 then bif bif v37 then true else !(decide (t_3.1.1=t.1.1)&&(decide (t_3.1.2=t.1.2)&&true)) then some false else aa (aF x0) fun (t:List ByteArray×Int×PUnit) =>
 let v41:Bool:=!decide (t.2.1=0);
 let v42:Bool:=!v41;aa (aF t_1) fun (t_4:List ByteArray×Int×PUnit) =>
 let v44:Bool:=bif v41 then true else !decide (t_4.2.1=0);
 let v45:Bool:=!v44;
 let v46:Bool:=!v45||v45;bif !v42||v42 then bif v41||v42 then bif v46&&v46 then aa (bif v45 then aR t.1 t_4.1 else some false) fun (t:Bool)=>bif v44 || v45 then some (bif v44 then true else t) else none else none else none else none else none else none else none else none else none else none else none else none else none else none else none else none) fun (j:PUnit->Option Bool)=>bif !decide (t.2.1=5) then bif v16 then bif v16 then bif v16 then bif v16&&v16 then bif v14||v15 then bif !v18||v18 then aa (bif v18 then aj t.1 fun (x:(Int×Int)×PUnit)=>br x.1 else some false) fun (t:Bool)=>bif v17||v18 then bif bif v17 then true else t then some false else j PUnit.unit else none else none else none else none else none else none else none else j PUnit.unit) (0,PUnit.unit) else none else none else none
def uF (x0:(List (ByteArray×Int))×List (ByteArray×(List (ByteArray×Int×Int×Int))×Bool)):Option Bool:=mB lpK jnK aj bh aE aF aK be bn bo aR dk br x0
def c5:Ctr:=⟨[T25],[],[],.one .bool,fun x _ _=>uF x.1⟩
theorem e5 (lp:Lp) (jn:Jn) (aj:t32) (bh:t35) (aE:t19) (aF:t21) (aK:t9) (be:t10) (bn:t13) (bo:t27) (aR:t29) (dk:t31) (br:t33):∀(x:TsS c5.as) (F:TsF c5.fs) (y:TsS c5.cs),mB lp jn aj bh aE aF aK be bn bo aR dk br x.1=cn lp jn (cx [(33,⟨[T49],[],[],.one .bool,fun x _ _=>br x.1⟩),(31,⟨[T25],[],[],.one T25,fun x _ _=>dk x.1⟩),(29,k29 aR),(27,k27 bo),(13,k13 bn),(10,k10 be),(9,k9 aK),(21,k21 aF),(19,k19 aE),(35,k35 bh),(32,k32 aj)] [(134,bJ)]) ao 4 5 f5 c5 x F y:=fun x F y=>by kernel_rfl
def vg (lp:Lp) (jn:Jn) (bD:t91) (df:N0) (cf:OY) (bu:OW) (aH:Pd) (bg:PP) (x0:(List Int)×List ((List Int)×Int×Int)):Option ((List (Int×Int))×Int×Unit) :=
 aa (bD x0) fun (t:Bool)=>bif !t then some ([],1,PUnit.unit) else aa (df x0) fun (t:Bool)=>bif !t then some ([],5,PUnit.unit) else lp (Int×Int×PUnit) (List (Int×Int)×Int×PUnit) (fun (again:Int×Int×PUnit->Option (List (Int×Int)×Int×PUnit)) (x:Int×Int×PUnit) =>
 let v7:Int×PUnit:=(IntKind.wrap .i64 (x.2.1+1),PUnit.unit);
 let v8:Int:=IntKind.wrap .i64 ((↑x0.1.length:Int)+x.1);bif decide (x.2.1<(↑x0.2.length:Int)) then bif inB x.2.1 x0.2.length then bif !decide ((x0.2.getD x.2.1.toNat ([],0,0)).2.1=3) then again (IntKind.wrap .i64 (x.1+1),v7) else again (x.1, v7) else none else aa (cf x0.1) fun (t:List Int)=>lp (Int×Int×(List Nat×List (Option (List Int)))×Int×List Int×List Int×List Int×Int×Int × PUnit) (List (Int×Int)×Int×PUnit) (fun (again:Int×Int×(List Nat×List (Option (List Int)))×Int×List Int×List Int×List Int×Int×Int×PUnit->Option (List (Int × Int)×Int×PUnit)) (x:Int×Int×(List Nat×List (Option (List Int)))×Int×List Int×List Int×List Int×Int×Int×PUnit) =>
 let v12:Int:=IntKind.wrap .i64 (x.1+1);
 let v13:List Int×Int×Int:=x0.2.getD x.2.1.toNat ([],0,0);
 let v14:List Int:=List.replicate (Int.toNat (IntKind.wrap .i64 (x.2.2.2.2.2.2.2.2.1+1))) 0;
 let v15:Bool:=inB x.1 (Int.toNat (IntKind.wrap .i64 (x.2.2.2.2.2.2.2.2.1+1)));
 let v16:Bool:=Nat.ble (Nat.succ x.1.toNat) (Int.toNat (IntKind.wrap .i64 (x.2.2.2.2.2.2.2.2.1+1)));
 let v17:Int:=IntKind.wrap .i64 (x.2.2.2.2.2.2.2.1+x.2.1);
 let v18:List Int:=List.take (Int.toNat (IntKind.wrap .i64 (x.2.2.2.2.2.2.2.2.1+1))) v13.1;
 let v19:List Int:=List.set (List.take 0 v14++v18++List.drop (0+List.length v18) v14) x.2.2.2.2.2.2.2.2.1.toNat v13.2.2;bif decide (x.2.1<(↑x0.2.length:Int)) then bif inB x.2.1 x0.2.length then bif decide (0<=IntKind.wrap .i64 (x.2.2.2.2.2.2.2.2.1+(1 : Int)))&&dZ (Int.toNat (IntKind.wrap .i64 (x.2.2.2.2.2.2.2.2.1+1))) 8 then bif inB x.2.2.2.2.2.2.2.2.1 (Int.toNat (IntKind.wrap .i64 (x.2.2.2.2.2.2.2.2.1+1))) then bif Nat.ble (Nat.succ x.2.2.2.2.2.2.2.2.1.toNat) (Int.toNat (IntKind.wrap IntKind.i64 (x.2.2.2.2.2.2.2.2.1+1))) then jn (Int×List Int×PUnit) (List (Int×Int)×Int×PUnit) (fun (x_1:Int×List Int×PUnit) =>
 let v21:List Int×PUnit:=(x_1.2.1,PUnit.unit);jn (Int×List Int×PUnit) (List (Int×Int)×Int×PUnit) (fun (x_2:Int×List Int×PUnit)=>bif inB v17 x_2.2.1.length then bif Nat.ble (Nat.succ v17.toNat) x_2.2.1.length then bif dZ (List.length x.2.2.1.1+1) 24 then bif dZ (List.length x.2.2.2.2.2.1+1) 8 then bif dZ (List.length x.2.2.2.2.1+1) 8 then again (x_1.1,IntKind.wrap .i64 (x.2.1+(1 : Int)),(x.2.2.1.1++[List.length x.2.2.1.2+0],x.2.2.1.2++[some (x_2.2.1.set v17.toNat 1)]),x.2.2.2.1, x.2.2.2.2.1++[v17],x.2.2.2.2.2.1++[x_2.1],x.2.2.2.2.2.2.1,x.2.2.2.2.2.2.2.1,x.2.2.2.2.2.2.2.2.1, PUnit.unit) else none else none else none else none else none) fun (j:Int×List Int×PUnit->Option (List (Int×Int)×Int×PUnit))=>bif decide (v13.2.2<0) then lp (Int×List Int×PUnit) (List (Int×Int)×Int×PUnit) (fun (again:Int×List Int×PUnit->Option (List (Int×Int)×Int×PUnit)) (x:Int×List Int×PUnit) =>
 let v25:Bool:=inB x.1 x.2.1.length;
 let v26:Bool:=Nat.ble (Nat.succ x.1.toNat) x.2.1.length;bif decide (x.1<(↑x_1.2.1.length:Int)) then bif v25 then bif v26 then bif v25 then bif v26 then again (IntKind.wrap .i64 (x.1+1),x.2.1.set x.1.toNat (IntKind.wrap .i64 (0 - x.2.1.getD x.1.toNat 0)), PUnit.unit) else none else none else none else none else j ((-1),x.2.1,PUnit.unit)) (0,v21) else j (1,v21)) fun (j:Int×List Int×PUnit->Option (List (Int×Int)×Int×PUnit))=>bif decide (v13.2.1=1) then bif v15 then bif v16 then j (v12,v19.set x.1.toNat 1,PUnit.unit) else none else none else jn (Int×List Int×PUnit) (List (Int×Int)×Int×PUnit) (fun (x:Int×List Int×PUnit)=>j (x.1,x.2.1,PUnit.unit)) fun (j:Int×List Int×PUnit->Option (List (Int × Int)×Int×PUnit))=>bif decide (v13.2.1=2) then bif v15 then bif v16 then j (v12,v19.set x.1.toNat (-1),PUnit.unit) else none else none else j (x.1,v19,PUnit.unit) else none else none else none else none else aa (bu x.2.2.1 x.2.2.2.1 x.2.2.2.2.1 x.2.2.2.2.2.1 x.2.2.2.2.2.2.1 x.2.2.2.2.2.2.2.1 x.2.2.2.2.2.2.2.2.1) fun (y:(List Nat×List (Option (List Int)))×Int×List Int×List Int×List Int×Int×Int×Bool×PUnit)=>bif y.2.2.2.2.2.2.2.1 then some ([],12,PUnit.unit) else lp (List (Int×Int)×Int×PUnit) (List (Int×Int)×Int×PUnit) (fun (again:List (Int×Int)×Int×PUnit->Option (List (Int×Int)×Int×PUnit)) (x:List (Int×Int)×Int×PUnit)=>bif decide (x.2.1<(↑x0.2.length:Int)) then bif inB x.2.1 y.2.2.2.1.length then bif Nat.ble (Nat.succ x.2.1.toNat) y.2.2.2.1.length then aa (bif List.all y.1.1 fun (x:Nat) =>eM y.1.2 x then aH (List.map (fun (x:Nat)=>ah y.1.2 x) y.1.1,y.2.1,y.2.2.1,y.2.2.2.1,y.2.2.2.2.1, y.2.2.2.2.2.1,y.2.2.2.2.2.2.1) (IntKind.wrap .i64 (y.2.2.2.2.2.1+x.2.1)) else none) fun (t:Int)=>aa (bif List.all y.1.1 fun (x:Nat)=>eM y.1.2 x then bg (List.map (fun (x:Nat)=>ah y.1.2 x) y.1.1,y.2.1,y.2.2.1,y.2.2.2.1,y.2.2.2.2.1, y.2.2.2.2.2.1,y.2.2.2.2.2.2.1) (IntKind.wrap .i64 (y.2.2.2.1.getD x.2.1.toNat 0*t)) else none) fun (t:Int×Int) => bif dZ (List.length x.1+1) 16 then again (x.1++[t],IntKind.wrap .i64 (x.2.1+1),PUnit.unit) else none else none else none else some (x.1,0,PUnit.unit)) ([],0,PUnit.unit)) ((↑x0.1.length:Int),0,([],[]),1,[],[],t,v8,IntKind.wrap .i64 (v8+(↑x0.2.length:Int)),PUnit.unit)) (0,0,PUnit.unit)
def mD (x0:(List Int)×List ((List Int)×Int×Int)):Option ((List (Int×Int))×Int×Unit):=vg lpK jnK bD df cf bu aH bg x0
abbrev t83:=((List Int)×List ((List Int)×Int×Int))->Option ((List (Int×Int))×Int×Unit)
def wX (_:Lp) (_:Jn) (aU:t11) (mD:t83) (x0:(List (ByteArray×Int))×List (ByteArray×(List (ByteArray×Int×Int×Int))×Bool)):Option ((List (Int×Int))×Int×Unit) :=
 aa (aU x0) fun (t:(List Int×List (List Int×Int×Int))×Int×PUnit)=>bif !decide (t.2.1=0) then some ([],t.2.1,PUnit.unit) else aa (mD t.1) fun (t:List (Int×Int)×Int×PUnit)=>some (t.1,t.2.1,PUnit.unit)
def dq (x0:(List (ByteArray×Int))×List (ByteArray×(List (ByteArray×Int×Int×Int))×Bool)):Option ((List (Int×Int))×Int×Unit):=wX lpK jnK aU mD x0
abbrev t36:=((List (ByteArray×Int))×List (ByteArray×(List (ByteArray×Int×Int×Int))×Bool))->Option ((List (Int×Int))×Int×Unit)
def k36 (dq:t36):Ctr:=⟨[T25],[],[],.tup [(.sl T49),i64],fun x _ _=>dq x.1⟩
def tW (_:Lp) (_:Jn) (aw:t72) (x0:Int×Int):Option Bool :=
 aa (aw x0) fun (t:Bool)=>some !t
def kY (x0:Int×Int):Option Bool:=tW lpK jnK aw x0
abbrev Vw:=(Int×Int)->Option (Bool)
def wa (_:Lp) (_:Jn) (ct:t87) (aj:t32) (kY:Vw) (x0:(List (ByteArray×Int))×List (ByteArray×(List (ByteArray×Int×Int×Int))×Bool)) (x1:List (Int×Int)):Option ((List (List Int))×Int×Unit) :=
 aa (ct x0) fun (t:List (List Int)×Int×PUnit)=>bif !decide (t.2.1=0) then some ([],t.2.1,PUnit.unit) else aa (aj x1 fun (x : (Int×Int)×PUnit)=>kY x.1) fun (t_1:Bool)=>bif t_1 then some ([],1,PUnit.unit) else bif !decide ((↑x1.length:Int)=(↑x0.2.length : Int)) then some ([],3,PUnit.unit) else some (t.1,0,PUnit.unit)
def nA (x0:(List (ByteArray×Int))×List (ByteArray×(List (ByteArray×Int×Int×Int))×Bool)) (x1:List (Int×Int)):Option ((List (List Int))×Int×Unit):=wa lpK jnK ct aj kY x0 x1
abbrev Vj:=((List (ByteArray×Int))×List (ByteArray×(List (ByteArray×Int×Int×Int))×Bool))->(List (Int×Int))->Option ((List (List Int))×Int×Unit)
def AH (_:Lp) (_:Jn) (x0:Int):Option (Int×Int) :=
 some (x0,1)
def jh (x0:Int):Option (Int×Int):=AH lpK jnK x0
abbrev Sd:=(Int)->Option (Int×Int)
def xF (_:Lp) (_:Jn) (bh:t35) (fC:NJ) (jh:Sd) (x0:Int×Int) (x1:Int) (x2:Int×Int):Option ((Int×Int)×Int×Unit) :=
 aa (jh x1) fun (t:Int×Int)=>aa (fC t x2) fun (t:(Int×Int)×Int×PUnit)=>bif !decide (t.2.1=0) then some ((0,0),t.2.1, PUnit.unit) else aa (bh x0 t.1) fun (t:(Int×Int)×Int×PUnit)=>some (t.1,t.2.1,PUnit.unit)
def oG (x0:Int×Int) (x1:Int) (x2:Int×Int):Option ((Int×Int)×Int×Unit):=xF lpK jnK bh fC jh x0 x1 x2
abbrev UG:=(Int×Int)->(Int)->(Int×Int)->Option ((Int×Int)×Int×Unit)
def Dm (_:Lp) (_:Jn) (aw:t72) (bh:t35) (x0:Int×Int) (x1:Int×Int):Option ((Int×Int)×Int×Unit) :=
 aa (aw x0) fun (t:Bool) =>
 let v5:Bool:=!t;
 let v6:Bool:=!v5;
 let v7:Bool:=!v6||v6;bif v7 then aa (bif v6 then aw x1 else some false) fun (t:Bool)=>bif v7 then bif v5||v6 then bif bif v5 then true else !t then some (((0 : Int),0),1,PUnit.unit) else aa (bh x0 (IntKind.wrap .i64 (0 - x1.1),x1.2)) fun (t:(Int×Int)×Int×PUnit)=>some (t.1,t.2.1, PUnit.unit) else none else none else none
def vi (x0:Int×Int) (x1:Int×Int):Option ((Int×Int)×Int×Unit):=Dm lpK jnK aw bh x0 x1
abbrev UO:=(Int×Int)->(Int×Int)->Option ((Int×Int)×Int×Unit)
def rM (lp:Lp) (_:Jn) (nA:Vj) (jh:Sd) (oG:UG) (vi:UO) (x0:(List (ByteArray×Int))×List (ByteArray×(List (ByteArray×Int×Int×Int))×Bool)) (x1:List (Int×Int)):Option ((List (Int×Int))×Int×Unit) :=
 aa (nA x0 x1) fun (t:List (List Int)×Int×PUnit)=>bif !decide (t.2.1=0) then some ([],t.2.1,PUnit.unit) else lp (List (Int×Int)×Int×Int × PUnit) (List (Int×Int)×Int×PUnit) (fun (again:List (Int×Int)×Int×Int×PUnit->Option (List (Int×Int)×Int×PUnit)) (x:List (Int×Int)×Int×Int×PUnit) =>
 let v7:List Int:=t.1.getD x.2.2.1.toNat [];bif decide (x.2.2.1<(↑t.1.length:Int)) then aa (jh 0) fun (t_1:Int×Int)=>lp (Int×(Int×Int)×PUnit) (List (Int×Int)×Int×PUnit) (fun (again_1:Int×(Int×Int)×PUnit->Option (List (Int×Int)×Int×PUnit)) (x_1:Int×(Int×Int)×PUnit) => bif decide (x_1.1<(↑x1.length:Int)) then bif inB x.2.2.1 t.1.length then bif inB x_1.1 v7.length then bif inB x_1.1 x1.length then aa (oG x_1.2.1 (v7.getD x_1.1.toNat 0) (x1.getD x_1.1.toNat (0,0))) fun (t:(Int×Int)×Int×PUnit) =>
 let v12:Bool:=!decide (t.2.1=0);bif v12 then bif v12 then some ([],t.2.1,PUnit.unit) else some (x.1,0,PUnit.unit) else again_1 (IntKind.wrap IntKind.i64 (x_1.1+1),t.1,PUnit.unit) else none else none else none else bif inB x.2.2.1 x0.1.length then aa (jh (x0.1.getD x.2.2.1.toNat ({ data:={ toList:=[] } },0)).2) fun (t:Int×Int)=>aa (vi t x_1.2.1) fun (t:(Int×Int)×Int×PUnit) =>
 let v13:Bool:=!decide (t.2.1=0);bif v13 then bif v13 then some ([],t.2.1,PUnit.unit) else some (x.1,0,PUnit.unit) else bif dZ (List.length x.1 + 1) 16 then again (x.1++[t.1],t.2.1,IntKind.wrap .i64 (x.2.2.1+1),PUnit.unit) else none else none) (0,t_1,PUnit.unit) else bif !decide (x.2.1=0) then some ([],x.2.1,PUnit.unit) else some (x.1,0,PUnit.unit)) ([],0,0,PUnit.unit)
def jz (x0:(List (ByteArray×Int))×List (ByteArray×(List (ByteArray×Int×Int×Int))×Bool)) (x1:List (Int×Int)):Option ((List (Int×Int))×Int×Unit):=rM lpK jnK nA jh oG vi x0 x1
abbrev t84:=((List (ByteArray×Int))×List (ByteArray×(List (ByteArray×Int×Int×Int))×Bool))->(List (Int×Int))->Option ((List (Int×Int))×Int×Unit)
def tU (_:Lp) (_:Jn) (x0:Int×Int):Option Bool :=
 some !decide (x0.1=0)
def kZ (x0:Int×Int):Option Bool:=tU lpK jnK x0
abbrev t85:=(Int×Int)->Option (Bool)
def wg (_:Lp) (_:Jn) (aj:t32) (jz:t84) (kZ:t85) (x0:(List (ByteArray×Int))×List (ByteArray×(List (ByteArray×Int×Int×Int))×Bool)) (x1:List (Int×Int)):Option (Bool×Int×Unit) :=
 aa (jz x0 x1) fun (t:List (Int×Int)×Int×PUnit)=>bif !decide (t.2.1=0) then some (false,t.2.1,PUnit.unit) else aa (aj t.1 fun (x:(Int×Int)×PUnit)=>kZ x.1) fun (t:Bool)=>some (!t,0,PUnit.unit)
def cU (x0:(List (ByteArray×Int))×List (ByteArray×(List (ByteArray×Int×Int×Int))×Bool)) (x1:List (Int×Int)):Option (Bool×Int×Unit):=wg lpK jnK aj jz kZ x0 x1
abbrev t37:=((List (ByteArray×Int))×List (ByteArray×(List (ByteArray×Int×Int×Int))×Bool))->(List (Int×Int))->Option (Bool×Int×Unit)
def k37 (cU:t37):Ctr:=⟨[T25,(.sl T49)],[],[],.tup [.bool,i64],fun x _ _=>cU x.1 x.2.1⟩
def uU (lp:Lp) (_:Jn) (x0:List (Int×Int)):Option Bool :=
 lp (Int×PUnit) Bool (fun (again:Int×PUnit->Option Bool) (x:Int×PUnit)=>bif decide (x.1<(↑x0.length:Int)) then bif inB x.1 x0.length then bif decide ((x0.getD x.1.toNat (0,0)).1<0) then some false else again (IntKind.wrap .i64 (x.1+1),PUnit.unit) else none else some true) (0,PUnit.unit)
def cI (x0:List (Int×Int)):Option Bool:=uU lpK jnK x0
abbrev t38:=(List (Int×Int))->Option (Bool)
def k38 (cI:t38):Ctr:=⟨[(.sl T49)],[],[],.one .bool,fun x _ _=>cI x.1⟩
def mz (_:Lp) (_:Jn) (bf:t12) (aE:t19) (aK:t9) (be:t10) (dq:t36) (cU:t37) (cI:t38) (x0:(List (ByteArray×Int))×List (ByteArray×(List (ByteArray×Int×Int×Int))×Bool)):Option Bool :=
 aa aK fun (t:Bool)=>bif !t then some false else aa (be x0 []) fun (t:Bool)=>bif !t then some true else aa (aE x0) fun (t:List (Int×Int)×Int × PUnit) =>
 let v6:Bool:=decide (t.2.1=1);
 let v7:Bool:=decide ((↑t.1.length:Int)=0);
 let v8:Bool:=!v7||v7;aa (dq x0) fun (t_1:List (Int×Int)×Int×PUnit) =>
 let v10:Bool:=bif v7 then decide (t_1.2.1=0) else false;
 let v11:Bool:=decide ((↑t_1.1.length:Int)=0);
 let v12:Bool:=bif v7 then decide (t_1.2.1=t.2.1) else false;
 let v13:Bool:=!v10||v10;
 let v14:Bool:=bif v12 then v11 else false;
 let v15:Bool:=!v14;
 let v16:Bool:=v14&&!v6;
 let v17:Bool:=!v12||v12;
 let v18:Bool:=v15||v14;bif decide (t.2.1=0) then aa (cU x0 t.1) fun (t_2:Bool×Int×PUnit)=>aa (cI t.1) fun (t:Bool) =>
 let v21:Bool:=!t||t;
 let v22:Bool:=bif t then decide (t_2.2.1=0) else false;
 let v23:Bool:=bif v22 then t_2.1 else false;
 let v24:Bool:=bif v23 then decide (t_1.2.1=12) else false;
 let v25:Bool:=!v23||v23;
 let v26:Bool:=!v24||v24;bif v21 then bif v21 then bif !v22||v22 then bif v25 then bif v25 then bif v26 then bif v26 then bif v26 then some (bif v24 then v11 else false) else none else none else none else none else none else none else none else none else bif decide (t.2.1=22) then aa (bf x0 t_1.1) fun (t:Bool×Int×PUnit) =>
 let v20:Bool:=bif v10 then decide (t.2.1=0) else false;bif v8 then bif v8 then bif v13 then bif v13 then bif !v20||v20 then some (bif v20 then t.1 else false) else none else none else none else none else none else bif v8&&v8 then bif v8 then bif v17 then bif v17 then bif v17 then bif v18 then bif v18 then bif !v16||v16 then bif (v15||v18) && (v15||(v6||(v15||v16))) then bif v18 then some (bif v14 then bif v6 then true else decide (t.2.1=5) else false) else none else none else none else none else none else none else none else none else none else none
def vc (x0:(List (ByteArray×Int))×List (ByteArray×(List (ByteArray×Int×Int×Int))×Bool)):Option Bool:=mz lpK jnK bf aE aK be dq cU cI x0
def c6:Ctr:=⟨[T25],[],[],.one .bool,fun x _ _=>vc x.1⟩
theorem e6 (lp:Lp) (jn:Jn) (bf:t12) (aE:t19) (aK:t9) (be:t10) (dq:t36) (cU:t37) (cI:t38):∀(x:TsS c6.as) (F:TsF c6.fs) (y:TsS c6.cs),mz lp jn bf aE aK be dq cU cI x.1=cn lp jn (cx [(38,k38 cI),(37,k37 cU),(36,k36 dq),(10,k10 be),(9,k9 aK),(19,k19 aE),(12,k12 bf)] [(134,bJ)]) ao 4 6 f6 c6 x F y:=fun x F y=>by kernel_rfl
def tP (lp:Lp) (_:Jn) (x0:List ByteArray) (x1:ByteArray):Option Int :=
 lp (Int×PUnit) Int (fun (again:Int×PUnit->Option Int) (x:Int×PUnit)=>bif decide (x.1<(↑x0.length:Int)) then bif inB x.1 x0.length then bif List.beq (ByteArray.toList x1) (ByteArray.toList (x0.getD x.1.toNat { data:={ toList:=[] } })) then some x.1 else again (IntKind.wrap .i64 (x.1+1), PUnit.unit) else none else some (-1)) (0,PUnit.unit)
def lc (x0:List ByteArray) (x1:ByteArray):Option Int:=tP lpK jnK x0 x1
abbrev t86:=(List ByteArray)->(ByteArray)->Option (Int)
def qd (_:Lp) (_:Jn) (lc:t86) (x0:List ByteArray) (x1:ByteArray):Option Bool :=
 aa (lc x0 x1) fun (t:Int)=>some (decide (t>=0))
def dC (x0:List ByteArray) (x1:ByteArray):Option Bool:=qd lpK jnK lc x0 x1
abbrev t40:=(List ByteArray)->(ByteArray)->Option (Bool)
def k40 (dC:t40):Ctr:=⟨[(.sl .str),.str],[],[],.one .bool,fun x _ _=>dC x.1 x.2.1⟩
def ln (lp:Lp) (jn:Jn) (eh:t39) (bf:t12) (aE:t19) (cm:t20) (aF:t21) (aK:t9) (be:t10) (bo:t27) (dq:t36) (cU:t37) (cI:t38) (dC:t40) (x0:(List (ByteArray×Int))×List (ByteArray×(List (ByteArray×Int×Int×Int))×Bool)) (x1:List (Int×Int)) (x2:List (Int×Int)):Option Bool :=
 aa aK fun (t:Bool)=>bif !t then some false else aa (be x0 x1) fun (t:Bool) =>
 let v7:Bool:=!t;
 let v8:Bool:=!v7;
 let v9:Bool:=!v8||v8;bif v9 then bif v9 then bif v7||v8 then bif bif v7 then true else decide ((↑x2.length:Int)>10) then some true else aa (cU x0 x1) fun (t:Bool×Int×PUnit) =>
 let v11:Bool:=!decide (t.2.1=0);
 let v12:Bool:=!v11;
 let v13:Bool:=bif v11 then true else !t.1;
 let v14:Bool:=!v13;
 let v15:Bool:=!v14||v14;bif !v12||v12 then bif v11||v12 then bif v15 then aa (bif v14 then cI x1 else some false) fun (t:Bool)=>bif v15 then bif v13||v14 then bif bif v13 then true else !t then some true else aa (bf x0 x2) fun (t:Bool×Int×PUnit) =>
 let v18:Bool:=decide (t.2.1=0);bif !v18||v18 then bif bif v18 then t.1 else false then some false else aa (dq x0) fun (t:List (Int×Int)×Int × PUnit) =>
 let v20:Bool:=!decide (t.2.1=12);
 let v21:Bool:=!v20||v20;bif v21 then bif v21 then bif bif v20 then !decide (t.2.1=5) else false then some false else aa (aE x0) fun (t:List (Int×Int) × Int×PUnit)=>bif !decide (t.2.1=0) then some (decide (t.2.1=5)) else aa (bo x1) fun (t_1:(Int×Int)×Int×PUnit) =>
 let v24:Bool:=decide (t_1.2.1=0);
 let v25:Bool:=!v24||v24;aa (bo t.1) fun (t:(Int×Int)×Int×PUnit)=>bif v25 then bif v25 then jn PUnit Bool (fun (_:PUnit)=>aa (aF x0) fun (t : List ByteArray×Int×PUnit) =>
 let v29:Bool:=decide (t.2.1=0);
 let v30:Bool:=!v29||v29;lp (Int×PUnit) Bool (fun (again:Int×PUnit->Option Bool) (x:Int×PUnit) =>
 let v33:Bool:=inB x.1 x1.length;bif decide (x.1<(↑x0.2.length:Int)) then bif inB x.1 x0.2.length then aa (cm x0 (x0.2.getD x.1.toNat ({ data:={ toList:=[] } },[],false)).1) fun (t_2:(Int×Int)×Int×PUnit) =>
 let v35:Bool:=!decide (t_2.2.1=0);
 let v36:Bool:=!v35;bif decide (t_2.2.1=5) then again (IntKind.wrap .i64 (x.1+1),PUnit.unit) else bif v33 then aa (eh t_2.1 (x1.getD x.1.toNat (0,0))) fun (t_3:Int×Int×PUnit) =>
 let v38:Bool:=bif v35 then true else !decide (t_3.2.1=0);
 let v39:Bool:=!v38;bif !v36||v36 then bif v35||v36 then bif !v39||v39 then bif v38||v39 then bif bif v38 then true else decide (t_3.1>0) then some false else bif v30 then bif v30&&v30 then aa (bif v29 then dC t.1 (x0.2.getD x.1.toNat ({ data:={ toList:=[] } },[],false)).1 else some false) fun (t : Bool) =>
 let v41:Bool:=bif v29 then t else false;
 let v42:Bool:=!v41;
 let v43:Bool:=v42||v41;bif v30 then bif v43&&(v43&&(v42||v33)) then bif v43 then bif v43 then bif v43 then bif v43 then bif bif v41 then !decide ((x1.getD x.1.toNat (0,0)).1=0) else false then some false else again (IntKind.wrap .i64 (x.1+1),PUnit.unit) else none else none else none else none else none else none else none else none else none else none else none else none else none else none else some true) (0,PUnit.unit)) fun (j:PUnit->Option Bool)=>bif bif v24 then decide (t.2.1=0) else false then aa (eh t.1 t_1.1) fun (t:Int×Int×PUnit) =>
 let v29:Bool:=!decide (t.2.1=0);
 let v30:Bool:=!v29;bif !v30||v30 then bif v29||v30 then bif bif v29 then true else decide (t.1>0) then some false else j PUnit.unit else none else none else j PUnit.unit else none else none else none else none else none else none else none else none else none else none else none else none else none
def tu (x0:(List (ByteArray×Int))×List (ByteArray×(List (ByteArray×Int×Int×Int))×Bool)) (x1:List (Int×Int)) (x2:List (Int×Int)):Option Bool:=ln lpK jnK eh bf aE cm aF aK be bo dq cU cI dC x0 x1 x2
def c7:Ctr:=⟨[T25,(.sl T49),(.sl T49)],[],[],.one .bool,fun x _ _=>tu x.1 x.2.1 x.2.2.1⟩
theorem e7 (lp:Lp) (jn:Jn) (eh:t39) (bf:t12) (aE:t19) (cm:t20) (aF:t21) (aK:t9) (be:t10) (bo:t27) (dq:t36) (cU:t37) (cI:t38) (dC:t40):∀(x:TsS c7.as) (F:TsF c7.fs) (y:TsS c7.cs),ln lp jn eh bf aE cm aF aK be bo dq cU cI dC x.1 x.2.1 x.2.2.1=cn lp jn (cx [(40,k40 dC),(38,k38 cI),(37,k37 cU),(36,k36 dq),(27,k27 bo),(10,k10 be),(9,k9 aK),(21,k21 aF),(20,k20 cm),(19,k19 aE),(12,k12 bf),(39,k39 eh)] [(134,bJ)]) ao 4 7 f7 c7 x F y:=fun x F y=>by kernel_rfl
end
end Go.Proofs.YtfknoaclabfdlaaGreat

namespace Go.Proofs.YtfknoaclabfdlaaGreat
namespace Dn
section
variable {T R α σ:Type}
theorem af {t:T} {k:T->Option R}:aa (some t) k=k t:=rfl
theorem Dj {F:(α->Option R)->α->Option R} {g:α->Option R} (I:α->Prop) (μ:α->Nat)
  (h:∀x rec,I x->(∀y,I y->μ y<μ x->rec y=g y)->F rec x=g x):∀{n:Nat} {x:α},I x->μ x<n->jo F n x=g x
 | 0,x,_,hn=>by omega
 | n+1,x,hx,hn=>by
  rw[gG]
  exact h x _ hx fun y hy hlt=>Dj I μ h hy (by omega)
theorem jC {F:(α->Option R)->α->Option R} {g:α->Option R} (I:α->Prop) (μ:α->Nat)
  (h:∀x rec,I x->(∀y,I y->μ y<μ x->rec y=g y)->F rec x=g x) {x:α} (hx:I x) (hn:μ x<1180591620717411303424):lpK α R F x=g x:=Dj I μ h hx hn
theorem ux {j:α->Option R} {f:(α->Option R)->Option R}:jnK α R j f=f j:=rfl
theorem bi {x:Int} (h1: -9223372036854775808<=x) (h2:x<9223372036854775808):IntKind.wrap .i64 x=x:=by
 rw[IntKind.wrap_i64];omega
def upF (b:Nat->σ->(σ->Option R)->Option R) (f:σ->Option R):Nat->Nat->σ->Option R
 | 0,_,s=>f s
 | k+1,i,s=>b i s (upF b f k (i+1))
theorem Mj {F:(α->Option R)->α->Option R} (n:Nat) (hn:n<=1180591620717411303423) (enc:Nat->σ->α) (b:Nat->σ->(σ->Option R)->Option R) (f:σ->Option R)
  (hb:∀again (i:Nat) s,i<n->F again (enc i s)=b i s (fun s'=>again (enc (i+1) s'))) (hf:∀again s,F again (enc n s)=f s) (s:σ) :
  jo F K0 (enc 0 s)=upF b f n 0 s:=by
 have key:∀(k:Nat) (i:Nat) (m:Nat) (s:σ),i+k=n->k<m->jo F m (enc i s)=upF b f k i s:=by
  intro k
  induction k with
  | zero =>
   intro i m s h1 h2
   obtain ⟨m,rfl⟩:∃m',m=m'+1:=⟨m - 1,by omega⟩
   have:i=n:=by omega
   subst this
   simp only[gG,hf,upF]
  | succ k ih =>
   intro i m s h1 h2
   obtain ⟨m,rfl⟩:∃m',m=m'+1:=⟨m - 1,by omega⟩
   simp only[gG,upF]
   rw[hb _ _ _ (by omega)]
   congr 1
   funext s'
   exact ih (i+1) m s' (by omega) (by omega)
 exact key n 0 K0 s (by omega) (by unfold K0;omega)
theorem bw {i n:Nat}:inB (i:Int) n=decide (i<n):=by
 rw[Bool.eq_iff_iff,jO,decide_eq_true_iff];omega
theorem te {i:Int} {n:Nat} (h1:0<=i) (h2:i<n):inB i n=true:=jO.2 ⟨h1,h2⟩
theorem og {n:Int} (h:n≠0):nzB n=true:=BJ.2 h
theorem K9 {lo hi:Int} {n:Nat} (h1:0<=lo) (h2:lo<=hi) (h3:hi<=n):slB lo hi n=true:=rp.2 ⟨h1,h2,h3⟩
theorem fY {n k:Nat} (h:n*k<=140737488355328):dZ n k=true:=kL.2 h
theorem dw {n m:Nat} (h:n<=m):Nat.ble n m=true:=by rw[Nat.ble_eq];exact h
theorem cT0 {α:Sort _} {c:Bool} (h:c=true) (a b:α):cond c a b=a:=by subst h;rfl
theorem cT {α:Sort _} (a b:α):cond true a b=a:=cT0 (Eq.trans rfl rfl) a b
theorem cF0 {α:Sort _} {c:Bool} (h:c=false) (a b:α):cond c a b=b:=by subst h;rfl
theorem cF {α:Sort _} (a b:α):cond false a b=b:=cF0 (Eq.trans rfl rfl) a b
theorem fx {b:Bool}:(b||!b)=true:=by cases b<;>rfl
theorem aX {b:Bool}:(!b||b)=true:=by cases b<;>rfl
theorem jl {b:Bool} {c:Bool}:(bif b then c else false)=(b&&c):=by cases b<;>rfl
theorem II {b:Bool} {c:Bool}:(bif b then true else c)=(b||c):=by cases b<;>rfl
theorem O2 {a b:Int}:(if b>a then b else a)=max a b:=by omega
theorem bL {l:List α} {d:α} {i:Nat} (h:i<l.length):l.getD i d=l[i]:=by simp[List.getD,h]
end
end Dn
end Go.Proofs.YtfknoaclabfdlaaGreat

namespace Go.Proofs.YtfknoaclabfdlaaGreat
noncomputable section
open Tryz Dn Dn.Sh
theorem lL (a b:ByteArray):List.beq (ByteArray.toList a) (ByteArray.toList b)=decide (a=b):=by
 show (a.toList ==b.toList)=_
 rw[ByteArray.toList_eq,ByteArray.toList_eq,Bool.eq_iff_iff,decide_eq_true_iff,beq_iff_eq]
 exact ⟨fun h=>ByteArray.ext (Array.toList_inj.mp h),fun h=>by rw[h]⟩
theorem Ky {α R:Type} {F:(α->Option R)->α->Option R} (I:α->Prop) (μ:α->Nat) (h:∀x rec,I x->(∀y,I y->μ y<μ x->(rec y).isSome=true)->(F rec x).isSome=true) {x:α} (hx:I x) (hn:μ x<1180591620717411303424):(lpK α R F x).isSome=true:=by
 have key:∀n x,I x->μ x<n->(jo F n x).isSome=true:=by
  intro n
  induction n with
  | zero=>intro x _ h;omega
  | succ n ih =>
   intro x hx hn
   rw[gG]
   exact h x _ hx fun y hy hlt=>ih y hy (by omega)
 exact key _ x hx hn
theorem vB:bB=cB:=by
 funext c
 rfl
theorem EF:dU=fZ:=by
 funext c
 rfl
theorem qw (c:Int):∃b,bB c=some b:=by
 simp only[bB,ku,aX,fx,cond_true]
 cases decide (c>=97)<;>cases decide (c<=122)<;>cases decide (c>=65)<;>exact ⟨_,rfl⟩
theorem Fg (c:Int):∃b,dU c=some b:=by
 simp only[dU,lf,aX,cond_true]
 exact ⟨_,rfl⟩
theorem Ao {s:ByteArray} (h:s.size<=1000000):∃n,dF s=some n:=by
 rw[<-Option.isSome_iff_exists]
 simp only[dF,jF]
 refine Ky (I:=fun (x:Int×PUnit)=>0<=x.1/\x.1<=s.size) (μ:=fun (x:Int×PUnit)=>((s.size:Int) - x.1).toNat) (x:=((0:Int),PUnit.unit)) ?_ ⟨Int.le_refl _,by simp only;omega⟩ (by simp only;omega)
 rintro ⟨i,_⟩ rec ⟨h0,h1⟩ hrec
 simp only at h0 h1 ⊢
 by_cases hi:i<s.size
 ·rw[te h0 hi,z7 hi]
  obtain ⟨b,hb⟩:=qw (fi s i.toNat)
  obtain ⟨c,hc⟩:=Fg (fi s i.toNat)
  have hw:IntKind.wrap .i64 (i+1)=i+1:=bi (by omega) (by omega)
  have hr:=hrec (i+1,PUnit.unit) ⟨by simp only;omega,by simp only;omega⟩ (by simp only;omega)
  simp only[hb,hc,hw]
  cases b<;>cases c<;>cases decide (fi s i.toNat=95)<;>simp[af,hr]
 ·rw[z8 hi]
  simp[af]
theorem Ib (s:ByteArray):gb s 0=dF s:=by
 simp only[gb,pc,dF,jF,vB,EF]
def sr (s:ByteArray):Bool:=decide (0<s.size)&&(decide (s.size<=20)&&((bB (fi s 0)).getD false&&decide ((dF s).getD 0=(s.size:Int))))
theorem zW (s:ByteArray):s={ data:=#[] }↔s.size=0:=by
 constructor
 ·intro h;rw[h];rfl
 ·intro h
  apply ByteArray.ext
  exact Array.eq_empty_of_size_eq_zero h
theorem HR (s:ByteArray):dy s=some (sr s):=by
 simp only[dy,kn,lL,aX,Bool.and_self,cond_true]
 unfold sr
 by_cases h0:s.size=0
 ·have e:decide (s={ data:=#[] })=true:=z7 ((zW s).2 h0)
  simp[e,h0,af]
 ·have e:decide (s={ data:=#[] })=false:=z8 fun h=>h0 ((zW s).1 h)
  by_cases h1:s.size<=20
  ·obtain ⟨b,hb⟩:=qw (fi s 0)
   obtain ⟨n,hn⟩:=Ao (s:=s) (by omega)
   have h2:decide ((s.size:Int)<=20)=true:=z7 (by omega)
   rw[te (show (0:Int)<=0 by omega) (show (0:Int)<s.size by omega)]
   simp only[e,h2,hb,hn]
   cases b<;>simp[af,h1,show 0<s.size by omega]
  ·have h2:decide ((s.size:Int)<=20)=false:=z8 (by omega)
   simp[e,h2,h1,af]
theorem Az (s:ByteArray):eB s=some (sr s):=by
 simp only[eB,mw,aX,fx,cond_true]
 unfold sr
 by_cases h0:s.size=0
 ·simp[h0,af]
 ·have e:decide ((s.size:Int)=0)=false:=z8 (by omega)
  by_cases h1:s.size<=20
  ·obtain ⟨b,hb⟩:=qw (fi s 0)
   obtain ⟨n,hn⟩:=Ao (s:=s) (by omega)
   have h2:decide ((s.size:Int)>20)=false:=z8 (by omega)
   rw[te (show (0:Int)<=0 by omega) (show (0:Int)<s.size by omega),Ib]
   simp only[e,h2,<-vB,hb,hn]
   cases b<;>simp[af,h1,show 0<s.size by omega]
  ·have h2:decide ((s.size:Int)>20)=true:=z7 (by omega)
   simp[h2,h1,af]
end
end Go.Proofs.YtfknoaclabfdlaaGreat

namespace Go.Proofs.YtfknoaclabfdlaaGreat
namespace Dn
abbrev Fq:=Int×Int
def okF (a:Fq):Prop:=(1<=a.2/\a.2<=1152921504606846976)/\(-1152921504606846976<=a.1/\a.1<=1152921504606846976)/\Nat.gcd a.1.natAbs a.2.natAbs=1
instance (a:Fq):Decidable (okF a):=by unfold okF;infer_instance
def qv (a:Fq):Rat:=mkRat a.1 a.2.toNat
def fy (q:Rat):Prop:=q.num.natAbs<=1152921504606846976/\q.den<=1152921504606846976
instance (q:Rat):Decidable (fy q):=by unfold fy;infer_instance
def prQ (q:Rat):Fq:=(q.num,(q.den:Int))
def we (q:Rat):Fq×Int×Unit:=if fy q then (prQ q,0,()) else ((0,0),5,())
theorem Hf {a:Fq} (h:okF a):(qv a).num=a.1:=by
 obtain ⟨⟨h1,h2⟩,_,h3⟩:=h
 have h0:a.2.toNat≠0:=by omega
 have h4:Nat.gcd a.2.toNat a.1.natAbs=1:=by rw[Nat.gcd_comm,show a.2.toNat=a.2.natAbs by omega];exact h3
 rw[qv,Rat.num_mkRat,if_neg h0,h4]
 simp
theorem Gx {a:Fq} (h:okF a):((qv a).den:Int)=a.2:=by
 obtain ⟨⟨h1,h2⟩,_,h3⟩:=h
 have h0:a.2.toNat≠0:=by omega
 have h4:Nat.gcd a.2.toNat a.1.natAbs=1:=by rw[Nat.gcd_comm,show a.2.toNat=a.2.natAbs by omega];exact h3
 rw[qv,Rat.den_mkRat,if_neg h0,h4]
 simp;omega
theorem Lw {a:Fq} (h:okF a):prQ (qv a)=a:=by
 unfold prQ
 rw[Hf h,Gx h]
theorem BP (q:Rat):qv (prQ q)=q:=by
 unfold qv prQ
 simp only[z9]
 exact Rat.mkRat_self q
theorem wI {q:Rat} (h:fy q):okF (prQ q):=by
 obtain ⟨h1,h2⟩:=h
 have:=q.den_pos
 refine ⟨⟨?_,?_⟩,⟨?_,?_⟩,?_⟩
 ·simp only[prQ];omega
 ·simp only[prQ];omega
 ·simp only[prQ];omega
 ·simp only[prQ];omega
 ·simp only[prQ]
  rw[Int.natAbs_natCast]
  exact q.reduced
theorem KV {a:Fq} (h:okF a):fy (qv a):=by
 unfold fy
 have h1:=Hf h
 have h2:=Gx h
 obtain ⟨⟨_,_⟩,⟨_,_⟩,_⟩:=h
 rw[h1]
 omega
theorem Qy {a b:Fq} (ha:okF a) (hb:okF b) (h:qv a=qv b):a=b:=by
 rw[<-Lw ha,<-Lw hb,h]
theorem xz (q:Rat):(fy q/\we q=(prQ q,0,()))\/(¬ fy q/\we q=((0,0),5,())):=by
 unfold we
 by_cases h:fy q
 ·exact .inl ⟨h,by rw[if_pos h]⟩
 ·exact .inr ⟨h,by rw[if_neg h]⟩
theorem Oh {n:Int} (h1: -1152921504606846976<=n) (h2:n<=1152921504606846976):okF (n,1):=⟨⟨by simp,by simp⟩,⟨h1,h2⟩,by simp⟩
def sgn (s:Bool) (n:Nat):Int:=if s then -(n:Int) else n
theorem Ge {s:Bool} {n d:Nat} (hd:0<d) (hc:Nat.gcd n d=1):(mkRat (sgn s n) d).num=sgn s n/\(mkRat (sgn s n) d).den=d:=by
 have h0:d≠0:=by omega
 have ha:(sgn s n).natAbs=n:=by unfold sgn;split<;>simp
 have hg:Nat.gcd d (sgn s n).natAbs=1:=by rw[ha,Nat.gcd_comm];exact hc
 rw[Rat.num_mkRat,Rat.den_mkRat,if_neg h0,if_neg h0,hg]
 simp
theorem GN {s:Bool} {n d:Nat} (hd:0<d):mkRat (sgn s n) d=mkRat (sgn s (n / Nat.gcd n d)) (d / Nat.gcd n d)/\0<d / Nat.gcd n d/\Nat.gcd (n / Nat.gcd n d) (d / Nat.gcd n d)=1:=by
 have hg:0<Nat.gcd n d:=Nat.gcd_pos_of_pos_right _ hd
 have h1:n / Nat.gcd n d*Nat.gcd n d=n:=Nat.div_mul_cancel (Nat.gcd_dvd_left n d)
 have h2:d / Nat.gcd n d*Nat.gcd n d=d:=Nat.div_mul_cancel (Nat.gcd_dvd_right n d)
 refine ⟨?_,Nat.div_pos (Nat.le_of_dvd hd (Nat.gcd_dvd_right n d)) hg,Nat.gcd_div_gcd_div_gcd_of_pos_right hd⟩
 have h3:sgn s n=sgn s (n / Nat.gcd n d)*(Nat.gcd n d:Int):=by
  unfold sgn
  split
  ·rw[Int.neg_mul,<-Int.natCast_mul,h1]
  ·rw[<-Int.natCast_mul,h1]
 have h4:mkRat (sgn s n) d=mkRat (sgn s (n / Nat.gcd n d)*(Nat.gcd n d:Int)) (d / Nat.gcd n d*Nat.gcd n d):=by rw[<-h3,h2]
 rw[h4]
 exact Rat.mkRat_mul_right (by omega)
theorem Hm {s:Bool} {n d m e:Nat} (hd:0<d) (he:0<e) (h:n*e=m*d):mkRat (sgn s n) d=mkRat (sgn s m) e:=by
 rw[Rat.mkRat_eq_iff (by omega) (by omega)]
 unfold sgn
 split
 ·rw[Int.neg_mul,Int.neg_mul,<-Int.natCast_mul,<-Int.natCast_mul,h]
 ·rw[<-Int.natCast_mul,<-Int.natCast_mul,h]
theorem Gn {s:Bool} {n d:Nat} (hd:0<d) (hc:Nat.gcd n d=1):we (mkRat (sgn s n) d)=if n<=1152921504606846976/\d<=1152921504606846976 then ((sgn s n,(d:Int)),0,()) else ((0,0),5,()):=by
 obtain ⟨h1,h2⟩:=Ge (s:=s) hd hc
 have ha:(sgn s n).natAbs=n:=by unfold sgn;split<;>simp
 unfold we
 have e:fy (mkRat (sgn s n) d)↔n<=1152921504606846976/\d<=1152921504606846976:=by unfold fy;rw[h1,h2,ha]
 have e2:prQ (mkRat (sgn s n) d)=(sgn s n,(d:Int)):=by unfold prQ;rw[h1,h2]
 rw[e2]
 by_cases h:n<=1152921504606846976/\d<=1152921504606846976
 ·rw[if_pos h,if_pos (e.2 h)]
 ·rw[if_neg h,if_neg (fun hh=>h (e.1 hh))]
theorem qa (n:Int):n=sgn (decide (n<0)) n.natAbs:=by
 unfold sgn
 by_cases h:n<0
 ·simp[h];omega
 ·simp[h];omega
theorem Jg (s t:Bool):sgn s 0=sgn t 0:=by unfold sgn;cases s<;>cases t<;>rfl
end Dn
end Go.Proofs.YtfknoaclabfdlaaGreat

namespace Go.Proofs.YtfknoaclabfdlaaGreat
open Tryz Dn Dn.Sh
theorem bQ {x:Int} (h1:0<=x) (h2:x<18446744073709551616):IntKind.wrap .u64 x=x:=by
 rw[IntKind.wrap_u64];omega
theorem qY {x:Int} (h1: -9223372036854775808<=x) (h2:x<9223372036854775808):aL x=some (x.natAbs:Int):=by
 simp only[aL,ov]
 by_cases h:x<0
 ·simp only[h,decide_true,cond_true]
  rw[IntKind.wrap_u64,IntKind.wrap_u64]
  congr 1;omega
 ·simp only[h,decide_false,cond_false]
  rw[bQ (by omega) (by omega)]
  congr 1;omega
theorem BB (m n:Nat) (hn:n<18446744073709551616):bC (m:Int) (n:Int)=some ((Nat.gcd m n:Nat):Int):=by
 simp only[bC,qq]
 refine jC (g:=fun x=>some ((Nat.gcd x.1.toNat x.2.1.toNat:Nat):Int)) (I:=fun (x:Int×Int×PUnit)=>0<=x.1/\0<=x.2.1) (μ:=fun (x:Int×Int×PUnit)=>x.2.1.toNat) (x:=((m:Int),(n:Int),PUnit.unit)) ?_ ⟨Int.natCast_nonneg _,Int.natCast_nonneg _⟩ (by simp only;omega)
 rintro ⟨a,b,_⟩ rec ⟨h1,h2⟩ hrec
 simp only at h1 h2 ⊢
 by_cases hb:b=0
 ·subst hb
  simp only[decide_true,Bool.not_true,cond_false,Int.toNat_zero,Nat.gcd_zero_right]
  congr 1;omega
 ·rw[z8 hb,og hb,Int.tmod_eq_emod_of_nonneg h1]
  simp only[Bool.not_false,cT]
  have h3:0<=a % b:=Int.emod_nonneg _ hb
  have h4:a % b<b:=Int.emod_lt_of_pos _ (by omega)
  rw[hrec _ ⟨by simp only;omega,by simp only;omega⟩ (by simp only;omega)]
  simp only
  congr 2
  rw[Int.toNat_emod h1 h2,Nat.gcd_comm a.toNat,Nat.gcd_rec b.toNat a.toNat,Nat.gcd_comm]
theorem Al (s:Bool) (n d:Nat) (h1:n<18446744073709551616) (h2:d<18446744073709551616) :
  bm s (n:Int) (d:Int)=some (if n<=1152921504606846976/\d<=1152921504606846976 then ((sgn s n,(d:Int)),0,()) else ((0,0),5,())):=by
 simp only[bm,mG,aX,fx,cond_true]
 by_cases hn:n<=1152921504606846976
 ·by_cases hd:d<=1152921504606846976
  ·have e1:decide ((n:Int)>1152921504606846976)=false:=z8 (by omega)
   have e2:decide ((d:Int)>1152921504606846976)=false:=z8 (by omega)
   rw[bi (x:=(n:Int)) (by omega) (by omega),bi (x:=(d:Int)) (by omega) (by omega),bi (x:=0 - (n:Int)) (by omega) (by omega)]
   simp only[e1,e2,cond_false,hn,hd,and_self,if_true]
   cases s<;>simp[sgn]
  ·have e2:decide ((d:Int)>1152921504606846976)=true:=z7 (by omega)
   simp only[e2,II,Bool.or_true,cond_true,hd,and_false,if_false]
 ·have e1:decide ((n:Int)>1152921504606846976)=true:=z7 (by omega)
  simp only[e1,cond_true,hn,false_and,if_false]
def ED (n d:Int):Rat:=mkRat (sgn (decide (n<0) !=decide (d<0)) n.natAbs) d.natAbs
theorem AG {n d:Int} (hd:d≠0):ED n d=(n:Rat) / d:=by
 unfold ED
 rw[<-Rat.divInt_eq_div,show mkRat (sgn (decide (n<0) !=decide (d<0)) n.natAbs) d.natAbs=Rat.divInt (sgn (decide (n<0) !=decide (d<0)) n.natAbs) (d.natAbs:Int) from (Rat.divInt_ofNat _ _).symm]
 rw[Rat.divInt_eq_divInt_iff (by omega) hd]
 unfold sgn
 by_cases h1:n<0<;>by_cases h2:d<0
 ·rw[show ((n.natAbs:Nat):Int)= -n by omega,show ((d.natAbs:Nat):Int)= -d by omega]
  simp[h1,h2,Int.neg_mul,Int.mul_neg]
 ·rw[show ((n.natAbs:Nat):Int)= -n by omega,show ((d.natAbs:Nat):Int)=d by omega]
  simp[h1,h2]
 ·rw[show ((n.natAbs:Nat):Int)=n by omega,show ((d.natAbs:Nat):Int)= -d by omega]
  simp[h1,h2,Int.neg_mul,Int.mul_neg]
 ·rw[show ((n.natAbs:Nat):Int)=n by omega,show ((d.natAbs:Nat):Int)=d by omega]
  simp[h1,h2]
theorem mH (m n:Nat):Int.tdiv (m:Int) (n:Int)=((m / n:Nat):Int):=by
 rw[Int.tdiv_eq_ediv_of_nonneg (by omega)]
 rfl
theorem PQ {n d:Int} (h1: -9223372036854775808<=n) (h2:n<9223372036854775808) (h3: -9223372036854775808<=d) (h4:d<9223372036854775808) :
  fm n d=some (if d=0 then ((0,0),16,()) else we (ED n d)):=by
 simp only[fm,oy,aX,Bool.and_self,cond_true]
 by_cases hd:d=0
 ·simp only[hd,decide_true,cond_true,if_true]
 ·simp only[hd,decide_false,cond_false,if_false]
  rw[qY h1 h2,af,qY h3 h4,af,BB _ _ (by omega),af]
  have hg:0<Nat.gcd n.natAbs d.natAbs:=Nat.gcd_pos_of_pos_right _ (by omega)
  have a1:n.natAbs / Nat.gcd n.natAbs d.natAbs<=n.natAbs:=Nat.div_le_self _ _
  have a2:d.natAbs / Nat.gcd n.natAbs d.natAbs<=d.natAbs:=Nat.div_le_self _ _
  have hz:nzB ((Nat.gcd n.natAbs d.natAbs:Nat):Int)=true:=og (by omega)
  obtain ⟨m1,m2,m3⟩:=GN (s:=decide (n<0) !=decide (d<0)) (n:=n.natAbs) (d:=d.natAbs) (by omega)
  have hs:n=0->n.natAbs / Nat.gcd n.natAbs d.natAbs=0:=fun h=>by subst h;simp
  rw[hz,cond_true,cond_true,mH,mH]
  unfold ED
  rw[m1]
  generalize n.natAbs / Nat.gcd n.natAbs d.natAbs=p at *
  generalize d.natAbs / Nat.gcd n.natAbs d.natAbs=q at *
  rw[bQ (by omega) (by omega),bQ (by omega) (by omega),Al _ _ _ (by omega) (by omega),af,Gn m2 m3]
  have hs:sgn (bif !decide (n=0) then !decide (decide (n<0)=decide (d<0)) else false) p=sgn (decide (n<0) !=decide (d<0)) p:=by
   by_cases h0:n=0
   ·rw[hs h0]
    exact Jg _ _
   ·simp only[h0,decide_false,Bool.not_false,cond_true]
    cases decide (n<0)<;>cases decide (d<0)<;>rfl
  rw[hs]
theorem wY {a:Fq}:aw a=some (decide (okF a)):=by
 simp only[aw,np,aX,Bool.and_self,cond_true,jl]
 unfold okF
 by_cases h1:1<=a.2
 ·by_cases h2:a.2<=1152921504606846976
  ·by_cases h3: -1152921504606846976<=a.1
   ·by_cases h4:a.1<=1152921504606846976
    ·have e:IntKind.wrap .u64 a.2=((a.2.natAbs:Nat):Int):=by rw[bQ (by omega) (by omega)];omega
     simp only[ge_iff_le,h1,h2,h3,h4,decide_true,Bool.and_self,cond_true]
     rw[qY (by omega) (by omega),af,e,BB _ _ (by omega),af]
     congr 1
     rw[Bool.eq_iff_iff]
     simp only[Bool.true_and,decide_eq_true_eq,true_and]
     generalize Nat.gcd a.1.natAbs a.2.natAbs=g
     omega
    ·simp[af,h4]
   ·simp[af,h3]
  ·simp[af,h2]
 ·simp[af,h1]
theorem Br {x:Int} (h1:0<=x) (h2:x<18446744073709551616):((Nat.land (Int.toNat (x % Int.ofNat 18446744073709551616)) (Int.toNat ((4294967295:Int) % Int.ofNat 18446744073709551616)):Nat):Int)=x % 4294967296:=by
 have e1:x % Int.ofNat 18446744073709551616=x:=Int.emod_eq_of_lt h1 h2
 have e2:Int.toNat ((4294967295:Int) % Int.ofNat 18446744073709551616)=2 ^ 32 - 1:=by decide
 rw[e1,e2]
 have:Nat.land x.toNat (2 ^ 32 - 1)=x.toNat % 2 ^ 32:=Nat.and_two_pow_sub_one_eq_mod x.toNat 32
 rw[this]
 omega
def hl (n:Nat):Int×Int:=(((n / 18446744073709551616:Nat):Int),((n % 18446744073709551616:Nat):Int))
theorem RL {x y:Int} (x0:0<=x) (x1:x<18446744073709551616) (y0:0<=y) (y1:y<18446744073709551616):bW x y=some (x*y / 18446744073709551616,x*y % 18446744073709551616,()):=by
 have p32:(2:Int) ^ (32:Nat)=4294967296:=by decide
 simp only[bW,ox,p32,show decide ((0:Int)<=32)=true from rfl,cond_true]
 obtain ⟨a,b,ha,hb,hx⟩:∃a b,a=x / 4294967296/\b=x % 4294967296/\x=a*4294967296+b:=⟨_,_,rfl,rfl,by omega⟩
 obtain ⟨c,d,hc,hd,hy⟩:∃c d,c=y / 4294967296/\d=y % 4294967296/\y=c*4294967296+d:=⟨_,_,rfl,rfl,by omega⟩
 have fd:∀n:Int,Int.fdiv n 4294967296=n / 4294967296:=fun n=>Int.fdiv_eq_ediv_of_nonneg n (by omega)
 rw[Br x0 x1,Br y0 y1,<-hb,<-hd]
 simp only[fd,<-ha,<-hc]
 have a0:0<=a/\a<=4294967295:=by omega
 have b0:0<=b/\b<=4294967295:=by omega
 have c0:0<=c/\c<=4294967295:=by omega
 have d0:0<=d/\d<=4294967295:=by omega
 have mb:∀{m n:Int},0<=m/\m<=4294967295->0<=n/\n<=4294967295->0<=m*n/\m*n<=18446744065119617025:=fun {m n} hm hn=>⟨Int.mul_nonneg hm.1 hn.1,Int.le_trans (Int.mul_le_mul hm.2 hn.2 hn.1 (by omega)) (by decide)⟩
 have e1:=mb a0 c0
 have e2:=mb a0 d0
 have e3:=mb b0 c0
 have e4:=mb b0 d0
 have hxy:x*y=a*c*18446744073709551616+(a*d+b*c)*4294967296+b*d:=by rw[hx,hy];grind
 rw[IntKind.wrap_u64 (x*y)]
 rw[hxy]
 rw[bQ (x:=b) (by omega) (by omega),bQ (x:=d) (by omega) (by omega)]
 rw[bQ (x:=b*d) (by omega) (by omega),bQ (x:=a*d) (by omega) (by omega),bQ (x:=b*c) (by omega) (by omega),bQ (x:=a*c) (by omega) (by omega)]
 generalize b*d=bd at *
 generalize a*d=ad at *
 generalize b*c=bc at *
 generalize a*c=ac at *
 rw[bQ (x:=ad+bd / 4294967296) (by omega) (by omega)]
 generalize ht:ad+bd / 4294967296=t
 rw[Br (by omega) (by omega)]
 rw[bQ (x:=t % 4294967296) (by omega) (by omega)]
 rw[bQ (x:=t % 4294967296+bc) (by omega) (by omega),bQ (x:=ac+t / 4294967296) (by omega) (by omega)]
 rw[bQ (x:=ac+t / 4294967296+(t % 4294967296+bc) / 4294967296) (by omega) (by omega)]
 congr 1
 ext
 ·simp only;omega
 ·rfl
theorem sN {m n:Nat} (hm:m<18446744073709551616) (hn:n<18446744073709551616):aP (m:Int) (n:Int)=some (hl (m*n)):=by
 simp only[aP,lk]
 rw[RL (by omega) (by omega) (by omega) (by omega),af,<-Int.natCast_mul]
 rfl
theorem nO {n:Nat} (h:n<18446744073709551616):hl n=(0,(n:Int)):=by
 unfold hl
 rw[Nat.div_eq_of_lt h,Nat.mod_eq_of_lt h]
 rfl
theorem K8 {n:Nat} (h:¬ n<18446744073709551616):(hl n).1>0:=by
 unfold hl
 simp only
 omega
theorem oh {n d:Int} (h:0<=d):Int.fdiv n d=n / d:=Int.fdiv_eq_ediv_of_nonneg n h
theorem wz {n:Nat} (_:n<340282366920938463463374607431768211456):eL (hl n)=some (hl (n / 2)):=by
 simp only[eL,om,show decide ((0:Int)<=1)=true from rfl,show decide ((0:Int)<=63)=true from rfl,cond_true,show (2:Int) ^ (1:Nat)=2 from rfl,show (2:Int) ^ (63:Nat)=9223372036854775808 from rfl,IntKind.wrap_u64,oh (show (0:Int)<=2 by omega),hl]
 congr 1
 ext<;>simp only<;>omega
theorem O8 {a b:Nat}:cK (hl a) (hl b)=some (decide (a<b)):=by
 simp only[cK,oi]
 have e:decide (a<b)=(bif decide ((hl a).1<(hl b).1) then true else bif decide ((hl a).1=(hl b).1) then decide ((hl a).2<(hl b).2) else false):=by
  by_cases c1:(hl a).1<(hl b).1
  ·simp only[c1,decide_true,cond_true]
   simp only[hl] at c1
   exact z7 (by omega)
  ·by_cases c2:(hl a).1=(hl b).1
   ·rw[z8 c1,z7 c2,cond_true,cond_false]
    have e2:a<b↔(hl a).2<(hl b).2:=by
     simp only[hl] at c1 c2 ⊢
     omega
    rw[Bool.eq_iff_iff,decide_eq_true_iff,decide_eq_true_iff]
    exact e2
   ·simp only[c1,c2,decide_false,cond_false]
    simp only[hl] at c1 c2
    exact z8 (by omega)
 rw[e]
 cases decide ((hl a).1<(hl b).1)<;>cases decide ((hl a).1=(hl b).1)<;>rfl
theorem Eh {a b:Nat} (h:b<=a) (ha:a<340282366920938463463374607431768211456):cD (hl a) (hl b)=some (hl (a - b)):=by
 simp only[cD,ny]
 by_cases hc:(hl a).2<(hl b).2
 ·rw[z7 hc,cond_true]
  simp only[IntKind.wrap_u64,hl] at hc ⊢
  congr 1
  ext<;>simp only<;>omega
 ·rw[z8 hc,cond_false]
  simp only[IntKind.wrap_u64,hl] at hc ⊢
  congr 1
  ext<;>simp only<;>omega
theorem PO {m n:Nat} (h:m+n<340282366920938463463374607431768211456):ef (hl m) (hl n)=some (hl (m+n)):=by
 simp only[ef,px]
 by_cases hc:IntKind.wrap .u64 ((hl m).2+(hl n).2)<(hl m).2
 ·rw[z7 hc,cond_true]
  simp only[IntKind.wrap_u64,hl] at hc ⊢
  congr 1
  ext<;>simp only<;>omega
 ·rw[z8 hc,cond_false]
  simp only[IntKind.wrap_u64,hl] at hc ⊢
  congr 1
  ext<;>simp only<;>omega
theorem Vr {x:Int} (h1:0<=x) (h2:x<18446744073709551616):IntKind.wrap .u64 ((Nat.land (Int.toNat (x % Int.ofNat 18446744073709551616)) (Int.toNat ((1:Int) % Int.ofNat 18446744073709551616)):Nat):Int)=x % 2:=by
 have e1:x % Int.ofNat 18446744073709551616=x:=Int.emod_eq_of_lt h1 h2
 have e2:Int.toNat ((1:Int) % Int.ofNat 18446744073709551616)=2 ^ 1 - 1:=by decide
 rw[e1,e2]
 have:Nat.land x.toNat (2 ^ 1 - 1)=x.toNat % 2 ^ 1:=Nat.and_two_pow_sub_one_eq_mod x.toNat 1
 rw[this,IntKind.wrap_u64]
 omega
theorem B3 {n:Nat}:decide (IntKind.wrap .u64 ((Nat.land (Int.toNat ((hl n).2 % Int.ofNat 18446744073709551616)) (Int.toNat ((1:Int) % Int.ofNat 18446744073709551616)):Nat):Int)=0)=decide (n % 2=0):=by
 rw[Vr (by simp only[hl];omega) (by simp only[hl];omega)]
 rw[Bool.eq_iff_iff,decide_eq_true_iff,decide_eq_true_iff]
 simp only[hl]
 omega
theorem B5 {n:Nat} (_:n<340282366920938463463374607431768211456):(decide ((hl n).1=0)&&(decide ((hl n).2=0)&&true))=decide (n=0):=by
 rw[Bool.and_true,Bool.eq_iff_iff,z10,decide_eq_true_iff,decide_eq_true_iff,decide_eq_true_iff]
 simp only[hl]
 omega
def Dc (p:Int×Int):Nat:=p.1.toNat*18446744073709551616+p.2.toNat
theorem lH {n:Nat}:Dc (hl n)=n:=by
 simp only[Dc,hl];omega
theorem CF {a b:Nat} (ha:a % 2=0) (h:Nat.gcd a b % 2=1):Nat.gcd (a / 2) b=Nat.gcd a b:=by
 have h2:a / 2∣a:=Nat.div_dvd_of_dvd (Nat.dvd_of_mod_eq_zero ha)
 refine Nat.dvd_antisymm (Nat.dvd_gcd (Nat.dvd_trans (Nat.gcd_dvd_left _ _) h2) (Nat.gcd_dvd_right _ _)) (Nat.dvd_gcd ?_ (Nat.gcd_dvd_right _ _))
 have h3:Nat.gcd a b∣2*(a / 2):=by rw[show 2*(a / 2)=a by omega];exact Nat.gcd_dvd_left _ _
 refine Nat.Coprime.dvd_of_dvd_mul_left ?_ h3
 show Nat.gcd (Nat.gcd a b) 2=1
 rw[Nat.gcd_comm,Nat.gcd_rec,h]
 rfl
theorem rc {a:Nat} (h:2<=a):Nat.log2 (a / 2)+1=Nat.log2 a:=by
 conv=>rhs;rw[Nat.log2_def]
 rw[if_pos h]
theorem rz {a b:Nat} (h:a<=b):Nat.log2 a<=Nat.log2 b:=by
 by_cases ha:a=0
 ·subst ha;simp
 ·have hb:b≠0:=by omega
  rw[Nat.le_log2 hb]
  exact Nat.le_trans ((Nat.le_log2 ha).1 (Nat.le_refl _)) h
theorem Ln {a b:Nat} (ha:0<a) (h:2*a<=b):Nat.log2 a+1<=Nat.log2 b:=by
 have h1:=rc (a:=b) (by omega)
 have:=rz (show a<=b / 2 by omega)
 omega
theorem nI {a:Nat} (h:a<340282366920938463463374607431768211456):Nat.log2 a<=127:=by
 by_cases ha:a=0
 ·subst ha;simp
 ·have:Nat.log2 a<128:=(Nat.log2_lt ha).2 h
  omega
theorem RJ {A B:Nat} (hA:A<340282366920938463463374607431768211456) (hB0:0<B) (hB:B<340282366920938463463374607431768211456):eK (hl A) (hl B)=some (hl (Nat.gcd A B)):=by
 simp only[eK,pQ]
 rw[B5 hA]
 by_cases hA0:A=0
 ·rw[z7 hA0,cond_true,hA0,Nat.gcd_zero_left]
 rw[z8 hA0,cond_false]
 have hG:Nat.gcd A B<=B:=Nat.le_of_dvd hB0 (Nat.gcd_dvd_right A B)
 have hGdef:∃G,G=Nat.gcd A B:=⟨_,rfl⟩
 obtain ⟨G,hGd⟩:=hGdef
 rw[<-hGd]
 refine jC (g:=fun _=>some (hl G)) (I:=fun (x:Int×(Int×Int)×(Int×Int)×PUnit)=>∃t a b:Nat,x=((t:Int),hl a,hl b,⟨⟩)/\0<a/\a<340282366920938463463374607431768211456/\0<b/\b<340282366920938463463374607431768211456/\2 ^ t*Nat.gcd a b=G/\t+Nat.log2 a<=127)
  (μ:=fun (x:Int×(Int×Int)×(Int×Int)×PUnit)=>Nat.log2 (Dc x.2.1)) (x:=((0:Int),hl A,hl B,PUnit.unit)) ?_ ⟨0,A,B,rfl,by omega,hA,hB0,hB,by rw[hGd];simp,by have:=nI hA;omega⟩ (by simp only[lH];have:=nI hA;omega)
 rintro _ rec ⟨t,a,b,rfl,a0,a1,b0,b1,hg,ht⟩ hrec
 simp only[B3,aX,cond_true]
 by_cases hev:a % 2=0/\b % 2=0
 ·rw[z7 hev.1,cond_true,z7 hev.2,cond_true,wz a1,af,wz b1,af,bi (by omega) (by omega)]
  have hl2:=rc (a:=a) (by omega)
  refine hrec _ ⟨t+1,a / 2,b / 2,by rfl,by omega,by omega,by omega,by omega,?_,by omega⟩ (by simp only[lH];omega)
  rw[<-hg,Nat.pow_succ,Nat.mul_assoc,<-Nat.gcd_mul_left,show 2*(a / 2)=a by omega,show 2*(b / 2)=b by omega]
 have hodd:Nat.gcd a b % 2=1:=by
  rcases Nat.mod_two_eq_zero_or_one (Nat.gcd a b) with h | h
  ·exfalso
   have h2:=Nat.dvd_of_mod_eq_zero h
   exact hev ⟨Nat.mod_eq_zero_of_dvd (Nat.dvd_trans h2 (Nat.gcd_dvd_left a b)),Nat.mod_eq_zero_of_dvd (Nat.dvd_trans h2 (Nat.gcd_dvd_right a b))⟩
  ·exact h
 have hcond:(bif decide (a % 2=0) then decide (b % 2=0) else false)=false:=by
  rw[Bool.eq_false_iff]
  intro h
  by_cases h2:a % 2=0
  ·rw[z7 h2,cond_true,decide_eq_true_iff] at h
   exact hev ⟨h2,h⟩
  ·rw[z8 h2,cond_false] at h
   cases h
 rw[hcond,cond_false]
 clear hcond hrec
 generalize hgd:Nat.gcd a b=g at *
 refine jC (g:=fun _=>some (hl G)) (I:=fun (x:(Int×Int)×(Int×Int)×PUnit)=>∃a b:Nat,x=(hl a,hl b,⟨⟩)/\a<340282366920938463463374607431768211456/\0<b/\b<340282366920938463463374607431768211456/\Nat.gcd a b=g)
  (μ:=fun (x:(Int×Int)×(Int×Int)×PUnit)=>Nat.log2 (Dc x.1)+Nat.log2 (Dc x.2.1)+Dc x.1 % 2) (x:=(hl a,hl b,PUnit.unit)) ?_ ⟨a,b,rfl,a1,b0,b1,hgd⟩ (by simp only[lH];have:=nI a1;have:=nI b1;omega)
 clear hgd hev a0 a1 b0 b1
 rintro _ rec ⟨a,b,rfl,a1,b0,b1,hgd⟩ hrec
 simp only[B5 a1]
 by_cases ha0:a=0
 ·rw[z7 ha0,Bool.not_true,cond_false]
  have hbg:b=g:=by rw[<-hgd,ha0,Nat.gcd_zero_left]
  refine jC (g:=fun _=>some (hl G)) (I:=fun (x:Int×(Int×Int)×PUnit)=>∃t b:Nat,x=((t:Int),hl b,⟨⟩)/\0<b/\2 ^ t*b=G/\t<=127)
   (μ:=fun (x:Int×(Int×Int)×PUnit)=>x.1.toNat) (x:=((t:Int),hl b,PUnit.unit)) ?_ ⟨t,b,rfl,b0,by rw[hbg];exact hg,by omega⟩ (by simp only;omega)
  rintro _ rec ⟨t,b,rfl,b0,hg,ht⟩ hrec
  simp only
  by_cases ht0:t=0
  ·rw[z8 (by omega),cond_false,<-hg,ht0];simp
  ·rw[z7 (by omega),cond_true]
   obtain ⟨s,rfl⟩:∃s,t=s+1:=⟨t - 1,by omega⟩
   have h2:2 ^ s*(b+b)=G:=by rw[<-hg,Nat.pow_succ,Nat.mul_assoc];congr 1;omega
   have h3:b+b<=G:=by
    rw[<-h2]
    exact Nat.le_mul_of_pos_left _ (Nat.pow_pos (by omega))
   rw[PO (by omega),af,bi (by omega) (by omega)]
   exact hrec _ ⟨s,b+b,by simp only[Prod.mk.injEq,and_true];omega,by omega,h2,by omega⟩ (by simp only;omega)
 rw[z8 ha0,Bool.not_false,cond_true]
 refine jC (g:=fun _=>some (hl G)) (I:=fun (x:(Int×Int)×PUnit)=>∃c:Nat,x=(hl c,⟨⟩)/\0<c/\c<340282366920938463463374607431768211456/\Nat.gcd c b=g/\(c=a\/2*c<=a))
  (μ:=fun (x:(Int×Int)×PUnit)=>Nat.log2 (Dc x.1)) (x:=(hl a,PUnit.unit)) ?_ ⟨a,rfl,by omega,a1,hgd,.inl rfl⟩ (by simp only[lH];have:=nI a1;omega)
 rintro _ rec3 ⟨c,rfl,c0,c1,hgc,hca⟩ hrec3
 simp only[B3]
 by_cases hce:c % 2=0
 ·rw[z7 hce,cond_true,wz c1,af]
  have hl2:=rc (a:=c) (by omega)
  exact hrec3 _ ⟨c / 2,rfl,by omega,by omega,by rw[CF hce (by rw[hgc];exact hodd),hgc],.inr (by omega)⟩ (by simp only[lH];omega)
 rw[z8 hce,cond_false]
 clear hrec3
 refine jC (g:=fun _=>some (hl G)) (I:=fun (x:(Int×Int)×PUnit)=>∃d:Nat,x=(hl d,⟨⟩)/\0<d/\d<=b/\Nat.gcd c d=g)
  (μ:=fun (x:(Int×Int)×PUnit)=>Nat.log2 (Dc x.1)) (x:=(hl b,PUnit.unit)) ?_ ⟨b,rfl,b0,Nat.le_refl _,hgc⟩ (by simp only[lH];have:=nI b1;omega)
 rintro _ rec4 ⟨d,rfl,d0,d1,hgd'⟩ hrec4
 simp only[B3]
 by_cases hde:d % 2=0
 ·rw[z7 hde,cond_true,wz (by omega),af]
  have hl2:=rc (a:=d) (by omega)
  exact hrec4 _ ⟨d / 2,rfl,by omega,by omega,by rw[Nat.gcd_comm,CF hde (by rw[Nat.gcd_comm,hgd'];exact hodd),Nat.gcd_comm,hgd']⟩ (by simp only[lH];omega)
 rw[z8 hde,cond_false,O8,af]
 clear hrec4
 have lb:=rz d1
 have la:Nat.log2 c+1<=Nat.log2 a+a % 2:=by
  rcases hca with rfl | h
  ·omega
  ·have:=Ln c0 h;omega
 by_cases hlt:c<d
 ·rw[z7 hlt,cond_true,Eh (by omega) (by omega),af]
  have l1:=rz (show d - c<=d by omega)
  exact hrec _ ⟨d - c,c,rfl,by omega,c0,c1,by rw[Nat.gcd_sub_self_left (by omega),Nat.gcd_comm,hgd']⟩ (by simp only[lH];omega)
 ·rw[z8 hlt,cond_false,Eh (by omega) (by omega),af]
  have l1:=rz (show c - d<=c by omega)
  exact hrec _ ⟨c - d,d,rfl,by omega,d0,by omega,by rw[Nat.gcd_sub_self_left (by omega),hgd']⟩ (by simp only[lH];omega)
theorem Av {t b q r:Nat} (hr:r<b) (h:t=q*b+r):t / b=q/\t % b=r:=by
 subst h
 constructor
 ·rw[Nat.mul_comm,Nat.mul_add_div (by omega),Nat.div_eq_of_lt hr,Nat.add_zero]
 ·rw[Nat.mul_comm,Nat.mul_add_mod,Nat.mod_eq_of_lt hr]
theorem Cv {x:Int} (h1: -9223372036854775808<=x) (h2:x<9223372036854775808):ba x=some (x.natAbs:Int):=by
 simp only[ba,po]
 by_cases h:x<0
 ·simp only[h,decide_true,cond_true]
  rw[IntKind.wrap_u64,IntKind.wrap_u64]
  congr 1;omega
 ·simp only[h,decide_false,cond_false]
  rw[bQ (by omega) (by omega)]
  congr 1;omega
end Go.Proofs.YtfknoaclabfdlaaGreat

namespace Go.Proofs.YtfknoaclabfdlaaGreat
noncomputable section
open Tryz Dn Dn.Sh
theorem My {a b:Nat}:cP (hl a) (hl b)=some (decide (a<b)):=by
 simp only[cP,pa]
 have e:decide (a<b)=(bif decide ((hl a).1<(hl b).1) then true else bif decide ((hl a).1=(hl b).1) then decide ((hl a).2<(hl b).2) else false):=by
  by_cases c1:(hl a).1<(hl b).1
  ·simp only[c1,decide_true,cond_true]
   simp only[hl] at c1
   exact z7 (by omega)
  ·by_cases c2:(hl a).1=(hl b).1
   ·rw[z8 c1,z7 c2,cond_true,cond_false]
    have e2:a<b↔(hl a).2<(hl b).2:=by
     simp only[hl] at c1 c2 ⊢
     omega
    rw[Bool.eq_iff_iff,decide_eq_true_iff,decide_eq_true_iff]
    exact e2
   ·simp only[c1,c2,decide_false,cond_false]
    simp only[hl] at c1 c2
    exact z8 (by omega)
 rw[e]
 cases decide ((hl a).1<(hl b).1)<;>cases decide ((hl a).1=(hl b).1)<;>rfl
theorem uk {m n:Nat}:pN (hl m).2 (hl n).2 0=(((m % 18446744073709551616+n % 18446744073709551616) / 18446744073709551616:Nat):Int):=by
 simp only[pN,hl,z9,Int.toNat_zero,Nat.add_zero]
 rfl
theorem uo {m n:Nat}:nJ (hl m).2 (hl n).2 0=(((if m % 18446744073709551616<n % 18446744073709551616 then 1 else 0:Nat):Nat):Int):=by
 simp only[nJ,hl,z9,Int.toNat_zero,Nat.add_zero]
 cases h:Nat.blt (m % 18446744073709551616) (n % 18446744073709551616) with
 | true =>
  have h':m % 18446744073709551616<n % 18446744073709551616:=by simpa [Nat.blt_eq] using h
  rw[if_pos h'];rfl
 | false =>
  have h':¬ m % 18446744073709551616<n % 18446744073709551616:=by
   intro h2
   have:Nat.blt (m % 18446744073709551616) (n % 18446744073709551616)=true:=by simpa [Nat.blt_eq] using h2
   rw[this] at h;cases h
  rw[if_neg h'];rfl
theorem Ci {m n:Nat} (h:m+n<340282366920938463463374607431768211456):fH (hl m) (hl n)=some (hl (m+n)):=by
 simp only[fH,lG,uk]
 have c1:decide ((0:Int)<=(0:Int))=true:=rfl
 have c2:decide ((0:Int)<=(1:Int))=true:=rfl
 rw[c1,c2,z7 (show (0:Int)<=(((m % 18446744073709551616+n % 18446744073709551616) / 18446744073709551616:Nat):Int) by omega),z7 (show (((m % 18446744073709551616+n % 18446744073709551616) / 18446744073709551616:Nat):Int)<=1 by omega)]
 simp only[Bool.and_self,cT,Option.some.injEq,yT,hl,z9,Int.toNat_zero,Nat.add_zero,Prod.mk.injEq]
 constructor
 ·show ((_:Nat):Int)=((_:Nat):Int)
  omega
 ·show ((_:Nat):Int)=((_:Nat):Int)
  omega
theorem uE {m n:Nat} (h:n<=m) (hm:m<340282366920938463463374607431768211456):eF (hl m) (hl n)=some (hl (m - n)):=by
 simp only[eF,kF,uo]
 have c1:decide ((0:Int)<=(0:Int))=true:=rfl
 have c2:decide ((0:Int)<=(1:Int))=true:=rfl
 have hb:(if m % 18446744073709551616<n % 18446744073709551616 then 1 else 0:Nat)<=1:=by split<;>omega
 have hc:(if m % 18446744073709551616<n % 18446744073709551616 then 1 else 0:Nat)=1/\m % 18446744073709551616<n % 18446744073709551616\/(if m % 18446744073709551616<n % 18446744073709551616 then 1 else 0:Nat)=0/\¬ m % 18446744073709551616<n % 18446744073709551616:=by split<;>simp_all
 generalize (if m % 18446744073709551616<n % 18446744073709551616 then 1 else 0:Nat)=c at *
 rw[c1,c2,z7 (show (0:Int)<=(c:Int) by omega),z7 (show (c:Int)<=1 by omega)]
 simp only[Bool.and_self,cT,Option.some.injEq,uM,hl,z9,Int.toNat_zero,Nat.sub_zero,Prod.mk.injEq]
 constructor
 ·show ((_:Nat):Int)=((_:Nat):Int)
  omega
 ·show ((_:Nat):Int)=((_:Nat):Int)
  omega
def Pz (T:ByteArray) (a b:Int):Option Int :=
 bif decide (a>=(256:Int)) then bif decide ((0:Int)<=(8:Int)) then bif inB (IntKind.wrap .u8 (Int.fdiv a ((2:Int) ^ (8:Nat)))) (256:Nat) then
  some (IntKind.wrap .i64 (IntKind.wrap .i64 (b+(8:Int))+IntKind.wrap .i64 (fi T (Int.toNat (IntKind.wrap .u8 (Int.fdiv a ((2:Int) ^ (8:Nat)))))))) else none else none
 else bif inB (IntKind.wrap .u8 a) (256:Nat) then some (IntKind.wrap .i64 (b+IntKind.wrap .i64 (fi T (Int.toNat (IntKind.wrap .u8 a))))) else none
def Oe (T:ByteArray) (a b:Int):Option Int:=bif decide (a>=(65536:Int)) then bif decide ((0:Int)<=(16:Int)) then Pz T (Int.fdiv a ((2:Int) ^ (16:Nat))) (IntKind.wrap .i64 (b+(16:Int))) else none else Pz T a b
theorem Ht:∃T:ByteArray,(∀i,i<256->0<=fi T i/\fi T i<=8/\(0<i->i<2 ^ (fi T i).toNat/\2 ^ (fi T i).toNat<=2*i)) /\
  ∀x,gj x=bif decide (x>=(4294967296:Int)) then bif decide ((0:Int)<=(32:Int)) then Oe T (Int.fdiv x ((2:Int) ^ (32:Nat))) 32 else none else Oe T x 0 :=
 ⟨_,by decide +kernel,fun _=>rfl⟩
def yH (n L:Nat):Prop:=n<2 ^ L/\2 ^ L<=2*n
theorem qI {n k L:Nat} (h:yH (n / 2 ^ k) L):yH n (L+k):=by
 obtain ⟨h1,h2⟩:=h
 have hk:0<2 ^ k:=Nat.two_pow_pos k
 unfold yH
 rw[Nat.pow_add]
 constructor
 ·exact (Nat.div_lt_iff_lt_mul hk).1 h1
 ·have h3:n / 2 ^ k*2 ^ k<=n:=Nat.div_mul_le_self n _
  have h4:=Nat.mul_le_mul_right (2 ^ k) h2
  rw[Nat.mul_assoc] at h4
  omega
theorem Hj {x:Int} (h1:0<=x) (h2:x<256):IntKind.wrap .u8 x=x:=by
 rw[IntKind.wrap_u8];omega
theorem Mf {n:Nat} (h0:0<n) (h1:n<18446744073709551616):∃L:Nat,gj (n:Int)=some (L:Int)/\yH n L/\L<=64:=by
 obtain ⟨T,hT,hx⟩:=Ht
 have tab:∀i:Nat,0<i->i<256->∃L:Nat,fi T i=L/\L<=8/\yH i L:=fun i h2 h3=>by
  obtain ⟨a1,a2,a3⟩:=hT i h3
  exact ⟨(fi T i).toNat,by omega,by omega,a3 h2⟩
 have p8:(2:Int) ^ (8:Nat)=256:=by decide
 have p16:(2:Int) ^ (16:Nat)=65536:=by decide
 have p32:(2:Int) ^ (32:Nat)=4294967296:=by decide
 have stepT:∀a b:Nat,0<a->a<65536->b<=48->∃L:Nat,Pz T (a:Int) (b:Int)=some ((L+b:Nat):Int)/\yH a L/\L<=16:=fun a b ha hb hb2=>by
  unfold Pz
  by_cases h:a<256
  ·obtain ⟨L,e1,e2,e3⟩:=tab a ha h
   rw[z8 (show ¬ (a:Int)>=256 by omega),cond_false,Hj (by omega) (by omega),te (by omega) (by omega),cond_true,z9,e1,bi (x:=(L:Int)) (by omega) (by omega),bi (by omega) (by omega)]
   exact ⟨L,by congr 1;omega,e3,by omega⟩
  ·obtain ⟨L,e1,e2,e3⟩:=tab (a / 256) (by omega) (by omega)
   rw[z7 (show (a:Int)>=256 by omega),cond_true,show decide ((0:Int)<=8)=true from rfl,cond_true,p8,oh (by omega),Hj (by omega) (by omega),te (by omega) (by omega),cond_true,show ((a:Int) / 256).toNat=a / 256 by omega,e1,bi (x:=(L:Int)) (by omega) (by omega),bi (x:=(b:Int)+8) (by omega) (by omega),bi (by omega) (by omega)]
   exact ⟨L+8,by congr 1;omega,qI (k:=8) e3,by omega⟩
 have stepU:∀a b:Nat,0<a->a<4294967296->b<=32->∃L:Nat,Oe T (a:Int) (b:Int)=some ((L+b:Nat):Int)/\yH a L/\L<=32:=fun a b ha hb hb2=>by
  unfold Oe
  by_cases h:a<65536
  ·obtain ⟨L,e1,e2,e3⟩:=stepT a b ha h (by omega)
   rw[z8 (show ¬ (a:Int)>=65536 by omega),cond_false,e1]
   exact ⟨L,rfl,e2,by omega⟩
  ·obtain ⟨L,e1,e2,e3⟩:=stepT (a / 65536) (b+16) (by omega) (by omega) (by omega)
   rw[z7 (show (a:Int)>=65536 by omega),cond_true,show decide ((0:Int)<=16)=true from rfl,cond_true,p16,oh (by omega),bi (by omega) (by omega),show (a:Int) / 65536=((a / 65536:Nat):Int) by omega,show (b:Int)+16=((b+16:Nat):Int) by omega,e1]
   exact ⟨L+16,by congr 1;omega,qI (k:=16) e2,by omega⟩
 rw[hx]
 by_cases h:n<4294967296
 ·obtain ⟨L,e1,e2,e3⟩:=stepU n 0 h0 h (by omega)
  rw[z8 (show ¬ (n:Int)>=4294967296 by omega),cond_false]
  exact ⟨L,e1,e2,by omega⟩
 ·obtain ⟨L,e1,e2,e3⟩:=stepU (n / 4294967296) 32 (by omega) (by omega) (by omega)
  rw[z7 (show (n:Int)>=4294967296 by omega),cond_true,show decide ((0:Int)<=32)=true from rfl,cond_true,p32,oh (by omega),show (n:Int) / 4294967296=((n / 4294967296:Nat):Int) by omega]
  exact ⟨L+32,e1,qI (k:=32) e2,by omega⟩
theorem Fy {q r U u y1 y0:Int} (hq:q*y1+r=U) (_:0<=u) (hy:0<y1*4294967296+y0) (hge:(U*4294967296+u) / (y1*4294967296+y0)<=q) (ht:q*y0<=4294967296*r+u):q=(U*4294967296+u) / (y1*4294967296+y0):=by
 refine Int.le_antisymm (Int.le_ediv_of_mul_le hy ?_) hge
 rw[Int.mul_add,<-Int.mul_assoc]
 omega
theorem Ft {q r U u y1 y0:Int} (hq:q*y1+r=U) (hy:0<y1*4294967296+y0) (hU:U*4294967296+u<(y1*4294967296+y0)*4294967296) (ht:q>=4294967296\/q*y0>4294967296*r+u):(U*4294967296+u) / (y1*4294967296+y0)<=q - 1:=by
 have:(U*4294967296+u) / (y1*4294967296+y0)<q:=by
  refine Int.ediv_lt_of_lt_mul hy ?_
  rcases ht with ht | ht
  ·exact Int.lt_of_lt_of_le hU (by rw[Int.mul_comm q];exact Int.mul_le_mul_of_nonneg_left ht (by omega))
  ·rw[Int.mul_add,<-Int.mul_assoc]
   omega
 omega
theorem Ig {q r U u y1 y0:Int} (hq:q*y1+r=U) (hu:0<=u) (hy:0<y1*4294967296+y0) (h0:0<=y0/\y0<4294967296) (hge:(U*4294967296+u) / (y1*4294967296+y0)<=q - 1) (hr:r+y1>=4294967296) (hq2:1<=q/\q<=4294967297):q - 1=(U*4294967296+u) / (y1*4294967296+y0):=by
 refine Int.le_antisymm (Int.le_ediv_of_mul_le hy ?_) hge
 have e1:(q - 1)*y0<=4294967296*4294967295:=Int.mul_le_mul (by omega) (by omega) h0.1 (by omega)
 rw[Int.mul_add,<-Int.mul_assoc,Int.sub_mul q 1 y1,Int.one_mul]
 omega
theorem O0 {s:Nat} {a b:Nat} (h:b<2 ^ s):Nat.lor (a*2 ^ s) b=a*2 ^ s+b:=by
 have:=Nat.two_pow_add_eq_or_of_lt h a
 rw[Nat.mul_comm a]
 exact this.symm
theorem xn {α R:Type} {F:(α->Option R)->α->Option R} {J:Int->Option R} {U u y1 y0:Int} (enc:Int->Int->α) (dec:α->Int) (hdec:∀q r,dec (enc q r)=q)
  (hu:0<=u) (h0:0<=y0/\y0<4294967296) (h1:2147483648<=y1/\y1<4294967296) (hU0:0<=U) (hU:U*4294967296+u<(y1*4294967296+y0)*4294967296)
  (hF1:∀again q r,1<=q->q<=4294967297->0<=r->r<4294967296->(q>=4294967296\/q*y0>4294967296*r+u)->F again (enc q r)=bif decide (r+y1>=4294967296) then J (q - 1) else again (enc (q - 1) (r+y1)))
  (hF2:∀again q r,0<=q->q<4294967296->0<=r->r<4294967296->¬ q*y0>4294967296*r+u->F again (enc q r)=J q)
  {q r:Int} (hq:q*y1+r=U) (hq0:0<=q) (hq2:q<=4294967297) (hr0:0<=r) (hr1:r<4294967296) (hge:(U*4294967296+u) / (y1*4294967296+y0)<=q) :
  lpK α R F (enc q r)=J ((U*4294967296+u) / (y1*4294967296+y0)):=by
 have hD:0<=(U*4294967296+u) / (y1*4294967296+y0):=Int.ediv_nonneg (by omega) (by omega)
 refine jC (g:=fun _=>J ((U*4294967296+u) / (y1*4294967296+y0))) (I:=fun x=>∃q r,x=enc q r/\q*y1+r=U/\0<=q/\q<=4294967297/\0<=r/\r<4294967296/\(U*4294967296+u) / (y1*4294967296+y0)<=q) (μ:=fun x=>(dec x).toNat) ?_ ⟨q,r,rfl,hq,hq0,hq2,hr0,hr1,hge⟩ (by rw[hdec];omega)
 rintro _ rec ⟨q,r,rfl,hq,hq0,hq2,hr0,hr1,hge⟩ hrec
 have hy:0<y1*4294967296+y0:=by omega
 by_cases ht:q>=4294967296\/q*y0>4294967296*r+u
 ·have hl:=Ft hq hy hU ht
  rw[hF1 _ _ _ (by omega) hq2 hr0 hr1 ht]
  by_cases hr:r+y1>=4294967296
  ·rw[z7 hr,cond_true,Ig hq hu hy h0 hl hr ⟨by omega,hq2⟩]
  ·rw[z8 hr,cond_false]
   refine hrec _ ⟨q - 1,r+y1,rfl,?_,by omega,by omega,by omega,by omega,hl⟩ (by rw[hdec,hdec];omega)
   rw[Int.sub_mul,Int.one_mul];omega
 ·rw[not_or] at ht
  rw[hF2 _ _ _ hq0 (by omega) hr0 hr1 ht.2,<-Fy hq hu hy hge (by omega)]
theorem xB {U u y1 y0:Int} (hu:0<=u/\u<4294967296) (h0:0<=y0/\y0<4294967296) (h1:2147483648<=y1/\y1<4294967296) (hU0:0<=U) (hU:U<y1*4294967296+y0) :
  (U / y1)*y1+(U - U / y1*y1)=U/\0<=U / y1/\U / y1<=4294967297/\0<=U - U / y1*y1/\U - U / y1*y1<4294967296/\(U*4294967296+u) / (y1*4294967296+y0)<=U / y1:=by
 have e1:=Int.mul_ediv_add_emod U y1
 have e2:=Int.emod_nonneg U (show y1≠0 by omega)
 have e3:=Int.emod_lt_of_pos U (show 0<y1 by omega)
 rw[Int.mul_comm] at e1
 refine ⟨by omega,Int.ediv_nonneg hU0 (by omega),?_,by omega,by omega,?_⟩
 ·have:U / y1<4294967298:=Int.ediv_lt_of_lt_mul (by omega) (by omega)
  omega
 ·have:(U*4294967296+u) / (y1*4294967296+y0)<U / y1+1:=by
   refine Int.ediv_lt_of_lt_mul (by omega) ?_
   have hq:0<=U / y1:=Int.ediv_nonneg hU0 (by omega)
   have e4:0<=(U / y1+1)*y0:=Int.mul_nonneg (by omega) h0.1
   rw[Int.mul_add,<-Int.mul_assoc,Int.add_mul (U / y1) 1 y1,Int.one_mul]
   omega
  omega
def Px (_ _ Y u0 P q1 un:Int) (q:Int):Option (Int×Int×Unit):=some (IntKind.wrap .u64 (IntKind.wrap .u64 (q1*4294967296)+q),Int.fdiv (IntKind.wrap .u64 (IntKind.wrap .u64 (IntKind.wrap .u64 (un*4294967296)+u0) - IntKind.wrap .u64 (q*Y))) P,())
def dv2 (y1 y0 Y u0 P q1 un:Int):Option (Int×Int×Unit):=lpK (Int×Int×PUnit) (Int×Int×PUnit) (fun again x=>bif (bif decide (x.2.1>=4294967296) then true else decide (IntKind.wrap .u64 (x.2.1*y0)>IntKind.wrap .u64 (IntKind.wrap .u64 (4294967296*x.1)+u0))) then
 (bif decide (IntKind.wrap .u64 (x.1+y1)>=4294967296) then Px y1 y0 Y u0 P q1 un (IntKind.wrap .u64 (x.2.1 - 1)) else again (IntKind.wrap .u64 (x.1+y1),IntKind.wrap .u64 (x.2.1 - 1),PUnit.unit)) else Px y1 y0 Y u0 P q1 un x.2.1)
 (IntKind.wrap .u64 (un - IntKind.wrap .u64 (IntKind.wrap .u64 (Int.tdiv un y1)*y1)),IntKind.wrap .u64 (Int.tdiv un y1),PUnit.unit)
theorem RR {y1 y0 u0 P q1 un:Int} (hu:0<=u0/\u0<4294967296) (h0:0<=y0/\y0<4294967296) (h1:2147483648<=y1/\y1<4294967296) (hU0:0<=un) (hU:un<y1*4294967296+y0) :
  dv2 y1 y0 (y1*4294967296+y0) u0 P q1 un=Px y1 y0 (y1*4294967296+y0) u0 P q1 un ((un*4294967296+u0) / (y1*4294967296+y0)):=by
 obtain ⟨i1,i2,i3,i4,i5,i6⟩:=xB (U:=un) hu h0 h1 hU0 hU
 unfold dv2
 rw[Int.tdiv_eq_ediv_of_nonneg hU0]
 have hm:un / y1*y1<=un:=by omega
 have hm0:0<=un / y1*y1:=Int.mul_nonneg i2 (by omega)
 rw[bQ (x:=un / y1) i2 (by omega),bQ (x:=un / y1*y1) hm0 (by omega),bQ (x:=un - un / y1*y1) (by omega) (by omega)]
 refine xn (α:=Int×Int×PUnit) (enc:=fun q r=>(r,q,PUnit.unit)) (dec:=fun x=>x.2.1) (fun _ _=>rfl) hu.1 h0 h1 hU0 (by omega) ?_ ?_ i1 i2 i3 i4 i5 i6
 ·intro again q r g1 g2 g3 g4 g5
  have e1:0<=q*y0:=Int.mul_nonneg (by omega) h0.1
  have e2:q*y0<=4294967297*4294967295:=Int.mul_le_mul g2 (by omega) h0.1 (by omega)
  simp only
  rw[bQ (x:=q*y0) e1 (by omega),bQ (x:=4294967296*r) (by omega) (by omega),bQ (x:=4294967296*r+u0) (by omega) (by omega),bQ (x:=r+y1) (by omega) (by omega),bQ (x:=q - 1) (by omega) (by omega)]
  have e:(bif decide (q>=4294967296) then true else decide (q*y0>4294967296*r+u0))=true:=by
   rcases g5 with ht | ht
   ·rw[z7 ht];rfl
   ·rw[z7 ht];cases decide (q>=4294967296)<;>rfl
  rw[e,cT]
 ·intro again q r g1 g2 g3 g4 g5
  have e1:0<=q*y0:=Int.mul_nonneg (by omega) h0.1
  have e2:q*y0<=4294967297*4294967295:=Int.mul_le_mul (by omega) (by omega) h0.1 (by omega)
  simp only
  rw[bQ (x:=q*y0) e1 (by omega),bQ (x:=4294967296*r) (by omega) (by omega),bQ (x:=4294967296*r+u0) (by omega) (by omega)]
  rw[z8 (show ¬ q>=4294967296 by omega),z8 g5,cF,cF]
def ND (y1 y0 Y u1 u0 P U:Int) (q1:Int):Option (Int×Int×Unit):=dv2 y1 y0 Y u0 P q1 (IntKind.wrap .u64 (IntKind.wrap .u64 (IntKind.wrap .u64 (U*4294967296)+u1) - IntKind.wrap .u64 (q1*Y)))
def dv1 (y1 y0 Y u1 u0 P U:Int):Option (Int×Int×Unit):=lpK (Int×Int×PUnit) (Int×Int×PUnit) (fun again x=>bif (bif decide (x.1>=4294967296) then true else decide (IntKind.wrap .u64 (x.1*y0)>IntKind.wrap .u64 (IntKind.wrap .u64 (4294967296*x.2.1)+u1))) then
 (bif decide (IntKind.wrap .u64 (x.2.1+y1)>=4294967296) then ND y1 y0 Y u1 u0 P U (IntKind.wrap .u64 (x.1 - 1)) else again (IntKind.wrap .u64 (x.1 - 1),IntKind.wrap .u64 (x.2.1+y1),PUnit.unit)) else ND y1 y0 Y u1 u0 P U x.1)
 (IntKind.wrap .u64 (Int.tdiv U y1),IntKind.wrap .u64 (U - IntKind.wrap .u64 (IntKind.wrap .u64 (Int.tdiv U y1)*y1)),PUnit.unit)
theorem Q9 {y1 y0 u1 u0 P U:Int} (hu:0<=u1/\u1<4294967296) (h0:0<=y0/\y0<4294967296) (h1:2147483648<=y1/\y1<4294967296) (hU0:0<=U) (hU:U<y1*4294967296+y0) :
  dv1 y1 y0 (y1*4294967296+y0) u1 u0 P U=ND y1 y0 (y1*4294967296+y0) u1 u0 P U ((U*4294967296+u1) / (y1*4294967296+y0)):=by
 obtain ⟨i1,i2,i3,i4,i5,i6⟩:=xB (U:=U) hu h0 h1 hU0 hU
 unfold dv1
 rw[Int.tdiv_eq_ediv_of_nonneg hU0]
 have hm:U / y1*y1<=U:=by omega
 have hm0:0<=U / y1*y1:=Int.mul_nonneg i2 (by omega)
 rw[bQ (x:=U / y1) i2 (by omega),bQ (x:=U / y1*y1) hm0 (by omega),bQ (x:=U - U / y1*y1) (by omega) (by omega)]
 refine xn (α:=Int×Int×PUnit) (enc:=fun q r=>(q,r,PUnit.unit)) (dec:=fun x=>x.1) (fun _ _=>rfl) hu.1 h0 h1 hU0 (by omega) ?_ ?_ i1 i2 i3 i4 i5 i6
 ·intro again q r g1 g2 g3 g4 g5
  have e1:0<=q*y0:=Int.mul_nonneg (by omega) h0.1
  have e2:q*y0<=4294967297*4294967295:=Int.mul_le_mul g2 (by omega) h0.1 (by omega)
  simp only
  rw[bQ (x:=q*y0) e1 (by omega),bQ (x:=4294967296*r) (by omega) (by omega),bQ (x:=4294967296*r+u1) (by omega) (by omega),bQ (x:=r+y1) (by omega) (by omega),bQ (x:=q - 1) (by omega) (by omega)]
  have e:(bif decide (q>=4294967296) then true else decide (q*y0>4294967296*r+u1))=true:=by
   rcases g5 with ht | ht
   ·rw[z7 ht];rfl
   ·rw[z7 ht];cases decide (q>=4294967296)<;>rfl
  rw[e,cT]
 ·intro again q r g1 g2 g3 g4 g5
  have e1:0<=q*y0:=Int.mul_nonneg (by omega) h0.1
  have e2:q*y0<=4294967297*4294967295:=Int.mul_le_mul (by omega) (by omega) h0.1 (by omega)
  simp only
  rw[bQ (x:=q*y0) e1 (by omega),bQ (x:=4294967296*r) (by omega) (by omega),bQ (x:=4294967296*r+u1) (by omega) (by omega)]
  rw[z8 (show ¬ q>=4294967296 by omega),z8 g5,cF,cF]
theorem SD {U W Y P:Nat} (hY:9223372036854775808<=Y) (hY2:Y<18446744073709551616) (hW:W<18446744073709551616) (hU:U<Y) :
  dv1 ((Y:Int) / 4294967296) ((Y:Int) % 4294967296) (Y:Int) ((W:Int) / 4294967296) ((W:Int) % 4294967296) (P:Int) (U:Int)=some ((((U*18446744073709551616+W) / Y:Nat):Int),(((U*18446744073709551616+W) % Y / P:Nat):Int),()):=by
 have eY:(Y:Int) / 4294967296*4294967296+(Y:Int) % 4294967296=Y:=by omega
 have h1:=Q9 (y1:=(Y:Int) / 4294967296) (y0:=(Y:Int) % 4294967296) (u1:=(W:Int) / 4294967296) (u0:=(W:Int) % 4294967296) (P:=(P:Int)) (U:=(U:Int)) (by omega) (by omega) (by omega) (by omega) (by omega)
 rw[eY] at h1
 rw[h1]
 unfold ND
 obtain ⟨A,hA⟩:∃A:Nat,A=U*4294967296+W / 4294967296:=⟨_,rfl⟩
 have hAi:(U:Int)*4294967296+(W:Int) / 4294967296=(A:Int):=by omega
 rw[hAi]
 have hq1:A / Y<4294967296:=(Nat.div_lt_iff_lt_mul (by omega)).2 (by omega)
 have d1:=Nat.div_add_mod A Y
 have d2:=Nat.mod_lt A (show Y>0 by omega)
 rw[show (A:Int) / (Y:Int)=((A / Y:Nat):Int) from rfl]
 have hun:IntKind.wrap .u64 (IntKind.wrap .u64 (IntKind.wrap .u64 ((U:Int)*4294967296)+(W:Int) / 4294967296) - IntKind.wrap .u64 (((A / Y:Nat):Int)*(Y:Int)))=((A % Y:Nat):Int):=by
  rw[<-Int.natCast_mul,Nat.mul_comm (A / Y)]
  generalize A / Y=q1 at *
  generalize Y*q1=m at *
  rw[IntKind.wrap_u64,IntKind.wrap_u64,IntKind.wrap_u64,IntKind.wrap_u64]
  omega
 rw[hun]
 have h2:=RR (y1:=(Y:Int) / 4294967296) (y0:=(Y:Int) % 4294967296) (u0:=(W:Int) % 4294967296) (P:=(P:Int)) (q1:=((A / Y:Nat):Int)) (un:=((A % Y:Nat):Int)) (by omega) (by omega) (by omega) (by omega) (by omega)
 rw[eY] at h2
 rw[h2]
 unfold Px
 obtain ⟨B,hB⟩:∃B:Nat,B=A % Y*4294967296+W % 4294967296:=⟨_,rfl⟩
 have hBi:((A % Y:Nat):Int)*4294967296+(W:Int) % 4294967296=(B:Int):=by omega
 rw[hBi,show (B:Int) / (Y:Int)=((B / Y:Nat):Int) from rfl]
 have hq0:B / Y<4294967296:=(Nat.div_lt_iff_lt_mul (by omega)).2 (by omega)
 have d3:=Nat.div_add_mod B Y
 have d4:=Nat.mod_lt B (show Y>0 by omega)
 have hN:U*18446744073709551616+W=(A / Y*4294967296+B / Y)*Y+B % Y:=by
  rw[Nat.add_mul,Nat.mul_right_comm,Nat.mul_comm (A / Y),Nat.mul_comm (B / Y)]
  omega
 obtain ⟨n1,n2⟩:=Av d4 hN
 rw[n1,n2]
 have hrest:IntKind.wrap .u64 (IntKind.wrap .u64 (IntKind.wrap .u64 (((A % Y:Nat):Int)*4294967296)+(W:Int) % 4294967296) - IntKind.wrap .u64 (((B / Y:Nat):Int)*(Y:Int)))=((B % Y:Nat):Int):=by
  rw[<-Int.natCast_mul,Nat.mul_comm (B / Y)]
  generalize B / Y=q0 at *
  generalize Y*q0=m at *
  generalize A % Y=r1 at *
  rw[IntKind.wrap_u64,IntKind.wrap_u64,IntKind.wrap_u64,IntKind.wrap_u64]
  omega
 rw[hrest,oh (by omega)]
 generalize A / Y=q1 at *
 generalize B / Y=q0 at *
 rw[bQ (x:=(q1:Int)*4294967296) (by omega) (by omega),bQ (by omega) (by omega)]
 rfl
theorem CC (m n:Nat):Int.tmod (m:Int) (n:Int)=((m % n:Nat):Int):=by
 rw[Int.tmod_eq_emod_of_nonneg (by omega)]
 rfl
theorem jnT {α R:Type} (j:α->Option R) (f:(α->Option R)->Option R):jnK α R j f=f j:=Eq.trans rfl rfl
theorem D8 {h l y:Nat} (hy:h<y) (hy2:y<18446744073709551616) (hl0:l<18446744073709551616):cZ (h:Int) (l:Int) (y:Int)=some ((((h*18446744073709551616+l) / y:Nat):Int),(((h*18446744073709551616+l) % y:Nat):Int),()):=by
 simp only[cZ,oI,jnT]
 rw[z8 (show ¬ (y:Int)=0 by omega),cF,z8 (show ¬ (y:Int)<=(h:Int) by omega),cF]
 have hz:nzB (y:Int)=true:=og (by omega)
 by_cases h0:h=0
 ·subst h0
  rw[z7 (show ((0:Nat):Int)=0 from rfl),cT,hz,cT,cT,mH,CC,Nat.zero_mul,Nat.zero_add]
  have:=Nat.div_le_self l y
  generalize l / y=d at *
  rw[bQ (by omega) (by omega)]
 ·rw[z8 (show ¬ (h:Int)=0 by omega),cF]
  obtain ⟨L,e1,⟨e2,e3⟩,e4⟩:=Mf (n:=y) (by omega) hy2
  simp only[cM,ia,e1,af]
  rw[bi (x:=64 - (L:Int)) (by omega) (by omega)]
  obtain ⟨s,hs⟩:∃s:Nat,L+s=64:=⟨64 - L,by omega⟩
  have w1:IntKind.wrap .u64 (64 - (L:Int))=(s:Int):=by rw[bQ (by omega) (by omega)];omega
  have w2:IntKind.wrap .u64 (64 - (s:Int))=(L:Int):=by rw[bQ (by omega) (by omega)];omega
  have p2:∀k:Nat,(2:Int) ^ k=((2 ^ k:Nat):Int):=fun k=>by rw[Int.natCast_pow];rfl
  have p32:(2:Int) ^ (32:Nat)=4294967296:=by decide
  simp only[w1,w2,z9,Nat.min_eq_left (show s<=64 by omega),Nat.min_eq_left (show L<=64 by omega),p32]
  simp only[p2]
  have hPQ:2 ^ s*2 ^ L=18446744073709551616:=by rw[<-Nat.pow_add,show s+L=64 by omega]
  have hP:0<2 ^ s:=Nat.two_pow_pos s
  have hQ:0<2 ^ L:=Nat.two_pow_pos L
  have hYlt:y*2 ^ s<18446744073709551616:=by rw[<-hPQ,Nat.mul_comm (2 ^ s)];exact Nat.mul_lt_mul_of_pos_right e2 hP
  have hYge:9223372036854775808<=y*2 ^ s:=by
   have:=Nat.mul_le_mul_right (2 ^ s) e3
   rw[Nat.mul_comm (2 ^ L),hPQ,Nat.mul_assoc] at this
   omega
  have hhP:h*2 ^ s+2 ^ s<=y*2 ^ s:=by rw[<-Nat.succ_mul];exact Nat.mul_le_mul_right _ hy
  have hlQ:l / 2 ^ L<2 ^ s:=by rw[Nat.div_lt_iff_lt_mul hQ,hPQ];exact hl0
  have hlor:IntKind.wrap .u64 ((Nat.lor (Int.toNat (IntKind.wrap .u64 ((h:Int)*((2 ^ s:Nat):Int)) % Int.ofNat 18446744073709551616)) (Int.toNat (Int.fdiv (l:Int) ((2 ^ L:Nat):Int) % Int.ofNat 18446744073709551616)):Nat):Int)=((h*2 ^ s+l / 2 ^ L:Nat):Int):=by
   have a1:IntKind.wrap .u64 ((h:Int)*((2 ^ s:Nat):Int))=((h*2 ^ s:Nat):Int):=by rw[<-Int.natCast_mul,bQ (by omega) (by omega)]
   have a2:Int.fdiv (l:Int) ((2 ^ L:Nat):Int)=((l / 2 ^ L:Nat):Int):=by rw[oh (by omega)];rfl
   have a3:∀n:Nat,n<18446744073709551616->Int.toNat ((n:Int) % Int.ofNat 18446744073709551616)=n:=fun n hn=>by
    rw[show Int.ofNat 18446744073709551616=(18446744073709551616:Int) from rfl];omega
   rw[a1,a2,a3 (h*2 ^ s) (by omega),a3 (l / 2 ^ L) (by omega),O0 hlQ]
   exact bQ (Int.natCast_nonneg _) (by
    have h5:h*2 ^ s+l / 2 ^ L<18446744073709551616:=by omega
    exact Int.ofNat_lt.2 h5)
  have hlo:IntKind.wrap .u64 ((l:Int)*((2 ^ s:Nat):Int))=((l % 2 ^ L*2 ^ s:Nat):Int):=by
   rw[<-Int.natCast_mul,IntKind.wrap_u64]
   have a1:l*2 ^ s=(l / 2 ^ L)*18446744073709551616+l % 2 ^ L*2 ^ s:=by
    rw[<-hPQ,Nat.mul_comm (2 ^ s),<-Nat.mul_assoc,<-Nat.add_mul,Nat.mul_comm (l / 2 ^ L),Nat.div_add_mod]
   have a2:l % 2 ^ L*2 ^ s<18446744073709551616:=by rw[<-hPQ,Nat.mul_comm (2 ^ s)];exact Nat.mul_lt_mul_of_pos_right (Nat.mod_lt _ hQ) hP
   rw[a1]
   generalize l / 2 ^ L=A at *
   generalize l % 2 ^ L*2 ^ s=B at *
   omega
  have hlolt:l % 2 ^ L*2 ^ s<18446744073709551616:=by rw[<-hPQ,Nat.mul_comm (2 ^ s)];exact Nat.mul_lt_mul_of_pos_right (Nat.mod_lt _ hQ) hP
  have hN:(h*18446744073709551616+l)*2 ^ s=(h*2 ^ s+l / 2 ^ L)*18446744073709551616+l % 2 ^ L*2 ^ s:=by
   have a1:l*2 ^ s=(l / 2 ^ L)*18446744073709551616+l % 2 ^ L*2 ^ s:=by
    rw[<-hPQ,Nat.mul_comm (2 ^ s),<-Nat.mul_assoc,<-Nat.add_mul,Nat.mul_comm (l / 2 ^ L),Nat.div_add_mod]
   rw[Nat.add_mul,a1,Nat.add_mul,Nat.mul_right_comm]
   omega
  have hY:IntKind.wrap .u64 ((y:Int)*((2 ^ s:Nat):Int))=((y*2 ^ s:Nat):Int):=by rw[<-Int.natCast_mul,bQ (by omega) (by omega)]
  have hdiv:(h*18446744073709551616+l) / y=((h*2 ^ s+l / 2 ^ L)*18446744073709551616+l % 2 ^ L*2 ^ s) / (y*2 ^ s):=by rw[<-hN,Nat.mul_div_mul_right _ _ hP]
  have hmod:((h*18446744073709551616+l) % y)*2 ^ s=((h*2 ^ s+l / 2 ^ L)*18446744073709551616+l % 2 ^ L*2 ^ s) % (y*2 ^ s):=by rw[<-hN,Nat.mul_mod_mul_right]
  rw[hlor,hlo,hY]
  have hU:h*2 ^ s+l / 2 ^ L<y*2 ^ s:=by omega
  have hm:(h*18446744073709551616+l) % y=((h*2 ^ s+l / 2 ^ L)*18446744073709551616+l % 2 ^ L*2 ^ s) % (y*2 ^ s) / 2 ^ s:=by rw[<-hmod,Nat.mul_div_cancel _ hP]
  rw[hdiv,hm]
  generalize h*2 ^ s+l / 2 ^ L=U at *
  generalize l % 2 ^ L*2 ^ s=W at *
  generalize y*2 ^ s=Y at *
  generalize 2 ^ s=P at *
  clear e2 e3 e1 hlor hlo hN hdiv hmod hm hlQ hPQ hhP hY
  have hdv:=SD (P:=P) hYge hYlt hlolt hU
  rw[<-hdv]
  have c1:decide ((0:Int)<=(s:Int))=true:=z7 (by omega)
  have c2:decide ((0:Int)<=(L:Int))=true:=z7 (by omega)
  have c3:decide ((0:Int)<=(32:Int))=true:=rfl
  have c4:nzB ((Y:Int) / 4294967296)=true:=og (by omega)
  have m1:∀n:Nat,n<18446744073709551616->IntKind.wrap .u64 ((Nat.land (Int.toNat ((n:Int) % Int.ofNat 18446744073709551616)) (Int.toNat ((4294967295:Int) % Int.ofNat 18446744073709551616)):Nat):Int)=(n:Int) % 4294967296:=fun n hn=>by
   rw[Br (by omega) (by omega),bQ (by omega) (by omega)]
  simp only[oh (show (0:Int)<=4294967296 by omega),c1,c2,c3,c4,m1 Y hYlt,m1 W hlolt,fx,Bool.not_not,Bool.and_self,cT]
  rfl
end
end Go.Proofs.YtfknoaclabfdlaaGreat

namespace Go.Proofs.YtfknoaclabfdlaaGreat
open Tryz Dn Dn.Sh
theorem GY {n b:Nat} (hb0:0<b) (hb:b<18446744073709551616) (hn:n<340282366920938463463374607431768211456):eg (hl n) (b:Int)=some (hl (n / b),((n % b:Nat):Int),()):=by
 have hz:nzB (b:Int)=true:=og (by omega)
 obtain ⟨h,l,hh,hl',hnn⟩:∃h l:Nat,h=n / 18446744073709551616/\l=n % 18446744073709551616/\n=h*18446744073709551616+l:=⟨_,_,rfl,rfl,by omega⟩
 have e:hl n=((h:Int),(l:Int)):=by unfold hl;rw[hh,hl']
 rw[e]
 simp only[eg,oQ]
 rw[hz,CC,D8 (Nat.mod_lt h hb0) hb (by omega),af]
 have d1:=Nat.div_add_mod h b
 have d2:=Nat.mod_lt h hb0
 obtain ⟨A,hA⟩:∃A,A=h % b*18446744073709551616+l:=⟨_,rfl⟩
 rw[<-hA]
 have d3:=Nat.div_add_mod A b
 have d4:=Nat.mod_lt A hb0
 have d5:A / b<18446744073709551616:=(Nat.div_lt_iff_lt_mul hb0).2 (by
  have:(h % b+1)*18446744073709551616<=b*18446744073709551616:=Nat.mul_le_mul_right _ d2
  rw[Nat.mul_comm 18446744073709551616 b]
  omega)
 have hN:n=(h / b*18446744073709551616+A / b)*b+A % b:=by
  have e1:(h / b*18446744073709551616+A / b)*b=b*(h / b)*18446744073709551616+b*(A / b):=by grind
  rw[e1,hnn]
  generalize b*(h / b)=x at *
  generalize b*(A / b)=y at *
  generalize A % b=r at *
  generalize h % b=r1 at *
  clear e hz hb0 hb hn hh hl' hnn d5 e1
  omega
 obtain ⟨n1,n2⟩:=Av d4 hN
 rw[n1,n2,mH]
 have d6:h / b<18446744073709551616:=Nat.lt_of_le_of_lt (Nat.div_le_self h b) (by omega)
 generalize h / b=x at *
 generalize A / b=y at *
 rw[bQ (x:=(x:Int)) (by omega) (by omega)]
 unfold hl
 rw[show (x*18446744073709551616+y) / 18446744073709551616=x by omega,show (x*18446744073709551616+y) % 18446744073709551616=y by omega]
 rfl
theorem GB {na nb:Int} {da A B:Nat} (ha:Nat.gcd na.natAbs da=1) (hA:A∣da) (hAB:Nat.gcd A B=1):Nat.gcd (na*B+nb*A).natAbs A=1:=by
 have d1:=Nat.gcd_dvd_left (na*B+nb*A).natAbs A
 have d2:=Nat.gcd_dvd_right (na*B+nb*A).natAbs A
 generalize Nat.gcd (na*B+nb*A).natAbs A=d at *
 have e1:(d:Int)∣na*B+nb*A:=Int.ofNat_dvd_left.2 d1
 have e2:(d:Int)∣nb*A:=Int.dvd_mul_of_dvd_right (Int.ofNat_dvd.2 d2)
 have e3:(d:Int)∣na*B:=(Int.dvd_iff_dvd_of_dvd_add e1).2 e2
 have e4:d∣na.natAbs*B:=by
  have:=Int.ofNat_dvd_left.1 e3
  rwa [Int.natAbs_mul,Int.natAbs_natCast] at this
 have e5:Nat.Coprime d na.natAbs:=(Nat.Coprime.coprime_dvd_right (Nat.dvd_trans d2 hA) ha).symm
 have e6:d∣B:=Nat.Coprime.dvd_of_dvd_mul_left e5 e4
 have e7:=Nat.dvd_gcd d2 e6
 rw[hAB] at e7
 exact Nat.dvd_one.1 e7
theorem H1 {na nb:Int} {da db g A B:Nat} (ha:Nat.gcd na.natAbs da=1) (hb:Nat.gcd nb.natAbs db=1) (h1:da=A*g) (h2:db=B*g) (hAB:Nat.gcd A B=1) (hg:0<g) (hA:0<A) (hB:0<B) {c:Nat} (hc:c=Nat.gcd g (na*B+nb*A).natAbs) :
  mkRat na da+mkRat nb db=mkRat (na*B+nb*A) (A*db)/\Nat.gcd ((na*B+nb*A).natAbs / c) (A*(db / c))=1/\0<c/\c∣(na*B+nb*A).natAbs/\c∣db:=by
 have hc0:0<c:=by rw[hc];exact Nat.gcd_pos_of_pos_left _ hg
 have k1:Nat.gcd (na*B+nb*A).natAbs A=1:=GB ha ⟨g,h1⟩ hAB
 have k2:Nat.gcd (na*B+nb*A).natAbs B=1:=by
  rw[Int.add_comm]
  exact GB hb ⟨g,h2⟩ (by rw[Nat.gcd_comm];exact hAB)
 have c1:c∣(na*B+nb*A).natAbs:=by rw[hc];exact Nat.gcd_dvd_right _ _
 have c2:c∣g:=by rw[hc];exact Nat.gcd_dvd_left _ _
 refine ⟨?_,?_,hc0,c1,by rw[h2];exact Nat.dvd_trans c2 (Nat.dvd_mul_left g B)⟩
 ·have p1:0<A*g:=Nat.mul_pos hA hg
  have p2:0<B*g:=Nat.mul_pos hB hg
  have p3:0<A*(B*g):=Nat.mul_pos hA p2
  rw[Rat.mkRat_add_mkRat _ _ (by omega) (by omega),h1,h2,Rat.mkRat_eq_iff (Nat.ne_of_gt (Nat.mul_pos p1 p2)) (by omega)]
  simp only[Int.natCast_mul]
  grind
 ·have c3:Nat.gcd ((na*B+nb*A).natAbs / c) (g / c)=1:=by
   rw[hc,Nat.gcd_comm]
   exact Nat.gcd_div_gcd_div_gcd_of_pos_left hg
  have hdb:db / c=B*(g / c):=by rw[h2,Nat.mul_div_assoc _ c2]
  have dv:(na*B+nb*A).natAbs / c∣(na*B+nb*A).natAbs:=Nat.div_dvd_of_dvd c1
  rw[hdb]
  exact Nat.Coprime.mul_right (Nat.Coprime.coprime_dvd_left dv k1) (Nat.Coprime.mul_right (Nat.Coprime.coprime_dvd_left dv k2) c3)
theorem MF {a b:Fq} (ha:okF a) (hb:okF b):bh a b=some (we (qv a+qv b)):=by
 obtain ⟨na,da'⟩:=a
 obtain ⟨nb,db'⟩:=b
 have ha':=ha
 have hb':=hb
 unfold okF at ha' hb'
 simp only at ha' hb'
 obtain ⟨⟨a1,a2⟩,⟨a3,a4⟩,a5⟩:=ha'
 obtain ⟨⟨b1,b2⟩,⟨b3,b4⟩,b5⟩:=hb'
 obtain ⟨da,rfl⟩:∃da:Nat,da'=da:=⟨da'.toNat,by omega⟩
 obtain ⟨db,rfl⟩:∃db:Nat,db'=db:=⟨db'.toNat,by omega⟩
 rw[Int.natAbs_natCast] at a5 b5
 simp only[bh,qE,wY,z7 ha,z7 hb,af,Bool.not_true,Bool.not_false,Bool.or_true,cT,cF,jnT]
 rw[bQ (x:=(da:Int)) (by omega) (by omega),bQ (x:=(db:Int)) (by omega) (by omega),BB _ _ (by omega),af,qY (by omega) (by omega),af,qY (by omega) (by omega)]
 have hg:0<Nat.gcd da db:=Nat.gcd_pos_of_pos_left _ (by omega)
 have hgl:Nat.gcd da db<=da:=Nat.gcd_le_left _ (by omega)
 obtain ⟨A,hA⟩:∃A,A=da / Nat.gcd da db:=⟨_,rfl⟩
 obtain ⟨B,hB⟩:∃B,B=db / Nat.gcd da db:=⟨_,rfl⟩
 have hAg:da=A*Nat.gcd da db:=by rw[hA,Nat.div_mul_cancel (Nat.gcd_dvd_left _ _)]
 have hBg:db=B*Nat.gcd da db:=by rw[hB,Nat.div_mul_cancel (Nat.gcd_dvd_right _ _)]
 have hAB:Nat.gcd A B=1:=by rw[hA,hB];exact Nat.gcd_div_gcd_div_gcd_of_pos_left (by omega)
 have hA0:0<A:=by rw[hA];exact Nat.div_pos (Nat.gcd_le_left _ (by omega)) hg
 have hB0:0<B:=by rw[hB];exact Nat.div_pos (Nat.gcd_le_right _ (by omega)) hg
 have hAl:A<=da:=by rw[hA];exact Nat.div_le_self _ _
 have hBl:B<=db:=by rw[hB];exact Nat.div_le_self _ _
 have hz:nzB ((Nat.gcd da db:Nat):Int)=true:=og (by omega)
 rw[hz,cT,mH,mH,<-hA,<-hB,bQ (x:=(A:Int)) (by omega) (by omega),bQ (x:=(B:Int)) (by omega) (by omega)]
 have x1:na.natAbs*B<=1152921504606846976*1152921504606846976:=Nat.mul_le_mul (by omega) (by omega)
 have y1:nb.natAbs*A<=1152921504606846976*1152921504606846976:=Nat.mul_le_mul (by omega) (by omega)
 rw[sN (by omega) (by omega),af,af,cT,sN (by omega) (by omega),af]
 have hsum:=H1 (na:=na) (nb:=nb) a5 b5 hAg hBg hAB hg hA0 hB0 rfl
 generalize Nat.gcd da db=g at *
 have hv:qv (na,(da:Int))+qv (nb,(db:Int))=mkRat na da+mkRat nb db:=rfl
 rw[hv,hsum.1]
 simp only[fx,Bool.not_not,cT]
 have tail:∀(s:Bool) (N:Nat),N<=2658455991569831745807614120560689152->sgn s N=na*B+nb*A->(bif decide ((hl N).1=0)&&(decide ((hl N).2=0)&&true) then some (((0:Int),(1:Int)),(0:Int),PUnit.unit) else
   aa (eg (hl N) (g:Int)) fun t_5=>aa (bC (g:Int) t_5.2.1) fun t_1=>aa (eg (hl N) t_1) fun t_6=>bif nzB t_1 then aa (aP (A:Int) (IntKind.wrap .u64 (Int.tdiv (db:Int) t_1))) fun t =>
    bif bif decide (t_6.1.1>0) then true else decide (t.1>0) then some (((0:Int),(0:Int)),(5:Int),PUnit.unit) else aa (bm s t_6.1.2 t.2) fun t=>some (t.1,t.2.1,PUnit.unit) else none)=some (we (mkRat (na*B+nb*A) (A*db))):=by
  intro s N hN hs
  have hNT:(na*B+nb*A).natAbs=N:=by rw[<-hs];unfold sgn;split<;>simp
  rw[hNT] at hsum
  rw[B5 (by omega)]
  by_cases h0:N=0
  ·rw[z7 h0,cT,<-hs,h0,show sgn s 0=0 by unfold sgn;cases s<;>rfl,Rat.zero_mkRat]
   rfl
  ·obtain ⟨c,hc⟩:∃c,c=Nat.gcd g N:=⟨_,rfl⟩
   rw[<-hc] at hsum
   obtain ⟨_,s2,s3,s4,s5⟩:=hsum
   have hcg:c<=g:=by rw[hc];exact Nat.gcd_le_left _ hg
   rw[z8 h0,cF,GY hg (by omega) (by omega),af,BB _ _ (by have:=Nat.mod_lt N hg;generalize N % g=w at *;omega),af,Nat.gcd_comm,<-Nat.gcd_rec,<-hc,GY s3 (by omega) (by omega),af,og (by omega),cT,mH]
   have hdc:db / c<=db:=Nat.div_le_self _ _
   have hdc0:0<db / c:=Nat.div_pos (Nat.le_of_dvd (by omega) s5) s3
   rw[bQ (by omega) (by generalize db / c=w at *;omega),sN (by omega) (by generalize db / c=w at *;omega),af]
   have hNc:N / c<=N:=Nat.div_le_self _ _
   have hval:mkRat (na*B+nb*A) (A*db)=mkRat (sgn s (N / c)) (A*(db / c)):=by
    rw[<-hs]
    refine Hm (Nat.mul_pos hA0 (by omega)) (Nat.mul_pos hA0 hdc0) ?_
    obtain ⟨x,rfl⟩:=s4
    obtain ⟨y,rfl⟩:=s5
    rw[Nat.mul_div_cancel_left _ s3,Nat.mul_div_cancel_left _ s3]
    grind
   rw[hval,Gn (Nat.mul_pos hA0 hdc0) s2]
   have hden:A*(db / c)<=1152921504606846976*1152921504606846976:=Nat.mul_le_mul (by omega) (by omega)
   generalize N / c=n at *
   generalize A*(db / c)=d at *
   by_cases hn:n<18446744073709551616
   ·by_cases hd:d<18446744073709551616
    ·rw[nO hn,nO hd]
     simp only
     rw[show decide ((0:Int)>0)=false from rfl,cF,cF,Al _ _ _ hn hd,af]
    ·rw[nO hn]
     simp only
     rw[show decide ((0:Int)>0)=false from rfl,z7 (K8 hd),cF,cT,if_neg (by omega)]
   ·rw[z7 (K8 hn),cT,cT,if_neg (by omega)]
 have sx:∀{n:Int} {s:Bool},s=decide (n<0)->n=sgn s n.natAbs:=fun {n s} h=>by rw[h];exact qa n
 by_cases hsg:decide (na<0)=decide (nb<0)
 ·rw[z7 hsg,cT,Ci (by omega),af]
  refine tail _ _ (by omega) ?_
  have e1:na=sgn (decide (na<0)) na.natAbs:=qa na
  have e2:nb=sgn (decide (na<0)) nb.natAbs:=by rw[hsg];exact qa nb
  generalize na.natAbs=m at *
  generalize nb.natAbs=n at *
  generalize decide (na<0)=s at *
  rw[e1,e2]
  unfold sgn
  cases s
  ·simp only[Bool.false_eq_true,if_false]
   rw[Int.natCast_add,Int.natCast_mul,Int.natCast_mul]
  ·simp only[if_true]
   rw[Int.natCast_add,Int.natCast_mul,Int.natCast_mul]
   grind
 ·have e1:na=sgn (decide (na<0)) na.natAbs:=qa na
  have e2:nb=sgn (!decide (na<0)) nb.natAbs:=by
   have:(!decide (na<0))=decide (nb<0):=by
    clear tail sx hsum hv ha hb
    revert hsg
    cases decide (na<0)<;>cases decide (nb<0)<;>simp
   rw[this];exact qa nb
  rw[z8 hsg,cF,My,af]
  by_cases hlt:na.natAbs*B<nb.natAbs*A
  ·rw[z7 hlt,cT,uE (by omega) (by omega),af]
   refine tail _ _ (by omega) ?_
   generalize na.natAbs=m at *
   generalize nb.natAbs=n at *
   generalize decide (na<0)=s at *
   rw[e1,e2]
   have e3:(((n*A - m*B:Nat)):Int)=(n:Int)*A - (m:Int)*B:=by rw[Int.ofNat_sub (Nat.le_of_lt hlt),Int.natCast_mul,Int.natCast_mul]
   unfold sgn
   cases s
   ·simp only[Bool.false_eq_true,if_false,Bool.not_false,if_true]
    grind
   ·simp only[if_true,Bool.not_true,Bool.false_eq_true,if_false]
    grind
  ·rw[z8 hlt,cF,uE (by omega) (by omega),af]
   refine tail _ _ (by omega) ?_
   generalize na.natAbs=m at *
   generalize nb.natAbs=n at *
   generalize decide (na<0)=s at *
   rw[e1,e2]
   have e3:(((m*B - n*A:Nat)):Int)=(m:Int)*B - (n:Int)*A:=by rw[Int.ofNat_sub (Nat.not_lt.1 hlt),Int.natCast_mul,Int.natCast_mul]
   unfold sgn
   cases s
   ·simp only[Bool.false_eq_true,if_false,Bool.not_false,if_true]
    grind
   ·simp only[if_true,Bool.not_true,Bool.false_eq_true,if_false]
    grind
end Go.Proofs.YtfknoaclabfdlaaGreat

namespace Go.Proofs.YtfknoaclabfdlaaGreat
namespace Dn
theorem nn {σ α R:Type} {F:(α->Option R)->α->Option R} (n:Nat) (hn:n<=1180591620717411303423) (enc:Nat->σ->α) (b:Nat->σ->(σ->Option R)->Option R) (f:σ->Option R)
  (hb:∀again (i:Nat) s,i<n->F again (enc i s)=b i s (fun s'=>again (enc (i+1) s'))) (hf:∀again s,F again (enc n s)=f s) (s:σ) :
  lpK α R F (enc 0 s)=upF b f n 0 s:=Mj n hn enc b f hb hf s
def iY {α:Type} (p:α->Bool):List α->Int->Int
 | [],_=> -1
 | a ::l,i=>bif p a then i else iY p l (i+1)
theorem yI {α:Type} {p:α->Bool}:∀{l:List α} {i:Int},0<=i->(iY p l i<0↔∀a ∈ l,p a=false)
 | [],i,h=>by simp[iY]
 | a ::l,i,h=>by
  unfold iY
  cases hp:p a with
  | true=>simp only[cond_true,List.mem_cons,forall_eq_or_imp,hp];simp;omega
  | false=>simp only[cond_false,List.mem_cons,forall_eq_or_imp,hp,true_and];exact yI (by omega)
theorem IR {α:Type} {p:α->Bool} {l:List α} {d:α} {i:Nat} (h:i<l.length):iY p (l.drop i) i=bif p (l.getD i d) then (i:Int) else iY p (l.drop (i+1)) ((i:Int)+1):=by
 rw[List.drop_eq_getElem_cons h,bL h]
 rfl
theorem G4 {α:Type} {p:α->Bool} {d:α}:∀{l:List α} {i:Int},0<=i->0<=iY p l i->i<=iY p l i/\iY p l i<i+l.length/\p (l.getD (iY p l i - i).toNat d)=true
 | [],i,_,h=>by simp[iY] at h
 | a ::l,i,hi,h=>by
  unfold iY at h ⊢
  cases hp:p a with
  | true=>simp[hp];omega
  | false =>
   rw[hp,cond_false] at h
   obtain ⟨h1,h2,h3⟩:=G4 (d:=d) (show 0<=i+1 by omega) h
   rw[cond_false]
   refine ⟨by omega,by simp only[List.length_cons];omega,?_⟩
   have e:(iY p l (i+1) - i).toNat=(iY p l (i+1) - (i+1)).toNat+1:=by omega
   rw[e,List.getD_cons_succ]
   exact h3
theorem oS {α:Type} {f:(α×Unit)->Option Bool} {d:α} {p:α->Bool} {l:List α} (hl:l.length<=1000000) (h:∀a,a ∈ l->f (a,())=some (p a)) :
  lpK (Int×PUnit) Int (fun (again:Int×PUnit->Option Int) (x:Int×PUnit)=>bif decide (x.1<(↑(List.length l):Int)) then bif inB x.1 (List.length l) then aa (f
   (List.getD l (Int.toNat x.1) d,PUnit.unit)) fun (t:Bool)=>bif t then some x.1 else again
   (IntKind.wrap .i64 (x.1+(1:Int)),PUnit.unit) else none else some (-1:Int)) ((0:Int),PUnit.unit)=some (iY p l 0):=by
 refine jC (g:=fun _=>some (iY p l 0)) (I:=fun (x:Int×PUnit)=>0<=x.1/\x.1<=l.length/\iY p (l.drop x.1.toNat) x.1=iY p l 0) (μ:=fun (x:Int×PUnit)=>((l.length:Int) - x.1).toNat) ?_ ⟨by simp,by simp only;omega,rfl⟩ (by simp only;omega)
 rintro ⟨i,_⟩ rec ⟨h0,h1,h2⟩ hrec
 simp only at h0 h1 h2 ⊢
 by_cases hi:i<l.length
 ·obtain ⟨n,rfl⟩:∃n:Nat,i=n:=⟨i.toNat,by omega⟩
  rw[z7 hi,cond_true,te h0 hi,cond_true,z9,h _ (by rw[bL (by omega)];exact List.getElem_mem (by omega)),af,bi (by omega) (by omega)]
  rw[z9,IR (d:=d) (by omega)] at h2
  cases hp:p (l.getD n d) with
  | true=>rw[hp,cond_true] at h2;rw[cond_true,h2]
  | false=>rw[hp,cond_false] at h2;rw[cond_false];exact hrec _ ⟨by simp only;omega,by simp only;omega,h2⟩ (by simp only;omega)
 ·rw[z8 hi,cond_false]
  have e:i.toNat=l.length:=by omega
  rw[e,List.drop_length] at h2
  rw[<-h2]
  rfl
theorem zl {α:Type} {p:α->Bool} {d:α} {l:List α} (hl:l.length<=1000000) :
  lpK (Int×PUnit) Int (fun (again:Int×PUnit->Option Int) (x:Int×PUnit)=>bif decide (x.1<(↑(List.length l):Int)) then bif inB x.1 (List.length l) then bif p
   (List.getD l (Int.toNat x.1) d) then some x.1 else again
   (IntKind.wrap .i64 (x.1+(1:Int)),PUnit.unit) else none else some (-1:Int)) ((0:Int),PUnit.unit)=some (iY p l 0) :=
 oS (f:=fun a=>some (p a.1)) hl fun _ _=>rfl
theorem mM {R σ:Type} {b:Nat->σ->(σ->Option R)->Option R} {f:σ->Option R} {p:Nat->Bool} {r:Option R} {s:σ} (n:Nat) (hb:∀i (k:σ->Option R),i<n->b i s k=bif p i then k s else r) :
  ∀(k i:Nat),i+k<=n->upF b f k i s=bif (List.range' i k).all p then f s else r
 | 0,i,_=>rfl
 | k+1,i,h=>by
  simp only[upF,hb i _ (by omega),List.range'_succ,List.all_cons]
  cases hp:p i with
  | true=>exact mM n hb k (i+1) (by omega)
  | false=>rfl
end Dn
end Go.Proofs.YtfknoaclabfdlaaGreat

namespace Go.Proofs.YtfknoaclabfdlaaGreat
open Tryz Dn Dn.Sh
theorem QW {n:Nat} (h:n<18446744073709551616):(decide ((hl n).1=0)&&(decide ((hl n).2=1)&&true))=decide (n=1):=by
 rw[nO h]
 simp only[decide_true,Bool.true_and,Bool.and_true]
 rw[Bool.eq_iff_iff,decide_eq_true_eq,decide_eq_true_eq]
 omega
theorem H0 {a:Fq}:du a=some (decide (okF a)):=by
 simp only[du,nh,aX,fx,cT]
 by_cases h1:a.2<1
 ·rw[z7 h1]
  simp only[cT]
  rw[z8 (by unfold okF;omega)]
 ·rw[z8 h1]
  by_cases h2:a.2>1152921504606846976
  ·rw[z7 h2]
   simp only[cT,cF]
   rw[z8 (by unfold okF;omega)]
  ·rw[z8 h2]
   by_cases h3:a.1< -1152921504606846976
   ·rw[z7 h3]
    simp only[cT,cF]
    rw[z8 (by unfold okF;omega)]
   ·rw[z8 h3]
    by_cases h4:a.1>1152921504606846976
    ·rw[z7 h4]
     simp only[cT,cF]
     rw[z8 (by unfold okF;omega)]
    ·rw[z8 h4]
     simp only[cF]
     have hg:Nat.gcd a.1.natAbs a.2.natAbs<=a.2.natAbs:=Nat.gcd_le_right _ (by omega)
     rw[Cv (by omega) (by omega),af,Cv (by omega) (by omega),af,<-nO (show a.1.natAbs<18446744073709551616 by omega),<-nO (show a.2.natAbs<18446744073709551616 by omega),RJ (by omega) (by omega) (by omega),af,QW (by generalize Nat.gcd a.1.natAbs a.2.natAbs=g at *;omega)]
     congr 1
     rw[Bool.eq_iff_iff,decide_eq_true_eq,decide_eq_true_eq]
     unfold okF
     generalize Nat.gcd a.1.natAbs a.2.natAbs=g at *
     omega
end Go.Proofs.YtfknoaclabfdlaaGreat

namespace Go.Proofs.YtfknoaclabfdlaaGreat
namespace Dn
end Dn
end Go.Proofs.YtfknoaclabfdlaaGreat

namespace Go.Proofs.YtfknoaclabfdlaaGreat
open Tryz Dn Dn.Sh
abbrev Rw:=List Int×Int×Int
abbrev Pg:=List Int×List Rw
abbrev rw0:Rw:=([],(0:Int),(0:Int))
def inC (n:Int):Bool:=decide (-1048576<=n/\n<=1048576)
def inR (n:Int):Bool:=decide (-1073741824<=n/\n<=1073741824)
def vW (n:Nat) (r:Rw):Bool:=decide (r.1.length=n)&&(decide (1<=r.2.1/\r.2.1<=3)&&(inR r.2.2&&r.1.all inC))
def LQ (p:Pg):Bool:=decide (1<=p.1.length/\p.1.length<=12/\p.2.length<=6)
def AL (p:Pg):Bool:=LQ p&&(p.1.all inC&&p.2.all (vW p.1.length))
theorem BL {α:Type} {p:α->Bool} {l:List α}:decide (iY p l 0>=0)=l.any p:=by
 have:=yI (p:=p) (l:=l) (i:=0) (by omega)
 rw[Bool.eq_iff_iff,decide_eq_true_iff,List.any_eq_true]
 constructor
 ·intro h1
  by_cases h2:∃a ∈ l,p a=true
  ·exact h2
  ·have:iY p l 0<0:=this.2 fun a ha=>by
    cases e:p a with
    | false=>rfl
    | true=>exact (h2 ⟨a,ha,e⟩).elim
   omega
 ·rintro ⟨a,ha,h3⟩
  by_cases h2:iY p l 0<0
  ·rw[this.1 h2 a ha] at h3;cases h3
  ·omega
theorem PN {α:Type} {p:α->Bool} {l:List α}:(l.any fun a=>!p a)=!l.all p:=by
 induction l with
 | nil=>rfl
 | cons a l ih=>simp[ih,Bool.not_and]
theorem vj {α:Type} {p:α->Bool} {l:List α} (d:α):(List.range' 0 l.length).all (fun i=>p (l.getD i d))=l.all p:=by
 rw[Bool.eq_iff_iff,List.all_eq_true,List.all_eq_true]
 constructor
 ·intro h a ha
  obtain ⟨i,hi,rfl⟩:=List.getElem_of_mem ha
  have:=h i (List.mem_range'.2 ⟨i,hi,by omega⟩)
  rwa [bL hi] at this
 ·intro h i hi
  obtain ⟨k,hk,rfl⟩:=List.mem_range'.1 hi
  rw[bL (by omega)]
  exact h _ (List.getElem_mem _)
theorem FX {f:(Int×Unit)->Option Bool} {p:Int->Bool} {l:List Int} (hl:l.length<=1000000) (h:∀a,a ∈ l->f (a,())=some (p a)):aY l f=some (l.any p):=by
 have h1:bK l f=some (iY p l 0):=by
  unfold bK gK
  exact oS (f:=f) (d:=(0:Int)) hl h
 simp only[aY,fL,h1,af,BL]
theorem M1 (n m:Int) (h0:0<=m) (h1:m<=1099511627776):ci n m=some (!decide (-m<=n/\n<=m)):=by
 have hw:IntKind.wrap .i64 (0 - m)= -m:=by rw[bi (by omega) (by omega)];omega
 simp only[ci,iR,hw,aX,fx,Bool.and_self,cT]
 by_cases g1:n< -m
 ·rw[z7 g1,z8 (show ¬ (-m<=n/\n<=m) by omega)];rfl
 ·rw[z8 g1]
  by_cases g2:n>m
  ·rw[z7 g2,z8 (show ¬ (-m<=n/\n<=m) by omega)];rfl
  ·rw[z8 g2,z7 (show (-m<=n/\n<=m) by omega)];rfl
theorem U6 (n:Int):ci n 1048576=some (!inC n):=M1 n _ (by omega) (by omega)
theorem Uc (n:Int):ci n 1073741824=some (!inR n):=M1 n _ (by omega) (by omega)
theorem zc (p:Pg):bD p=some (AL p):=by
 obtain ⟨c,rs⟩:=p
 simp only[bD,lh,di,jL,aX,fx,Bool.and_self,cT,AL,LQ]
 by_cases g1:(c.length:Int)<1
 ·rw[z7 g1,z8 (show ¬ (1<=c.length/\c.length<=12/\rs.length<=6) by omega)]
  rfl
 ·rw[z8 g1]
  by_cases g2:(c.length:Int)>12
  ·rw[z7 g2,z8 (show ¬ (1<=c.length/\c.length<=12/\rs.length<=6) by omega)]
   rfl
  ·rw[z8 g2]
   by_cases g3:(rs.length:Int)>6
   ·rw[z7 g3,z8 (show ¬ (1<=c.length/\c.length<=12/\rs.length<=6) by omega)]
    rfl
   ·rw[z8 g3,z7 (show (1<=c.length/\c.length<=12/\rs.length<=6) by omega)]
    have hc:∀l:List Int,l.length<=1000000->aY l (fun x=>ci x.1 1048576)=some (!l.all inC):=fun l hl=>by
     rw[<-PN]
     exact FX hl fun a _=>U6 a
    simp only[cF,cT,Bool.not_false,af,hc c (by omega),Bool.true_and]
    cases hcc:c.all inC with
    | false=>rfl
    | true =>
     simp only[Bool.not_true,cF,Bool.true_and]
     refine (nn (α:=Int×PUnit) rs.length (by omega) (fun i (_:Unit)=>((i:Int),PUnit.unit)) (fun i s k=>bif vW c.length (rs.getD i rw0) then k s else some false) (fun _=>some true) ?_ ?_ ()).trans ?_
     ·intro again i _ hi
      have hw:IntKind.wrap .i64 ((i:Int)+1)=((i+1:Nat):Int):=by rw[bi (by omega) (by omega)];rfl
      simp only[bw,z7 hi,z7 (show (i:Int)<rs.length by omega),cT,z9,hw]
      obtain ⟨a,k,b,e⟩:∃a k b,List.getD rs i rw0=(a,k,b):=⟨_,_,_,rfl⟩
      simp only[e,vW,Uc,z7 (show (i:Int)>=0 by omega)]
      by_cases q1:a.length=c.length
      ·have hca:=hc a (by omega)
       simp only[z7 (show (a.length:Int)=c.length by omega),z7 q1,Bool.not_true,Bool.not_false,cT,cF,af,hca,Bool.true_and]
       by_cases q2:k<1
       ·simp only[z7 q2,z8 (show ¬ (1<=k/\k<=3) by omega)]
        cases a.all inC<;>simp[af]
       ·by_cases q3:k>3
        ·simp only[z8 q2,z7 q3,z8 (show ¬ (1<=k/\k<=3) by omega)]
         cases a.all inC<;>simp[af]
        ·simp only[z8 q2,z8 q3,z7 (show (1<=k/\k<=3) by omega)]
         cases h1:a.all inC<;>cases h2:inR b<;>simp[af,h2]
      ·simp only[z8 (show ¬ (a.length:Int)=c.length by omega),z8 q1]
       simp[af]
     ·intro again _
      simp
     ·refine (mM (p:=fun i=>vW c.length (rs.getD i rw0)) (r:=some false) rs.length (fun _ _ _=>rfl) rs.length 0 (by omega)).trans ?_
      rw[vj (p:=vW c.length) (l:=rs) rw0]
      cases rs.all (vW c.length)<;>rfl
end Go.Proofs.YtfknoaclabfdlaaGreat

namespace Go.Proofs.YtfknoaclabfdlaaGreat
noncomputable section
open Tryz Dn Dn.Sh
abbrev Bk:=ByteArray×Int
abbrev Hd:=ByteArray×Int×Int×Int
abbrev Rp:=ByteArray×List Hd×Bool
abbrev Sy:=List Bk×List Rp
abbrev bk0:Bk:=({ data:={ toList:=[] } },(0:Int))
abbrev hd0:Hd:=({ data:={ toList:=[] } },(0:Int),(0:Int),(0:Int))
abbrev rp0:Rp:=({ data:={ toList:=[] } },[],false)
theorem Bq {σ R:Type} {b:Nat->σ->(σ->Option R)->Option R} {f:σ->Option R} {q:Nat->Bool} {g:Nat->σ->σ} {r:Option R} (n:Nat) (hb:∀i s (k:σ->Option R),i<n->b i s k=bif q i then k (g i s) else r) :
  ∀(k i:Nat) (s:σ),i+k<=n->upF b f k i s=bif (List.range' i k).all q then f ((List.range' i k).foldl (fun s i=>g i s) s) else r
 | 0,i,s,_=>rfl
 | k+1,i,s,h=>by
  simp only[upF,hb i s _ (by omega),List.range'_succ,List.all_cons,List.foldl_cons]
  cases hp:q i with
  | true=>exact Bq n hb k (i+1) _ (by omega)
  | false=>rfl
theorem uV {α R:Type} {p:α->Bool} {d:α} {l:List α} {yes no:Option R} {F:(Int×PUnit->Option R)->Int×PUnit->Option R} (hl:l.length<=1000000)
  (hb:∀again (i:Nat),i<l.length->F again ((i:Int),PUnit.unit)=bif p (l.getD i d) then again (((i+1:Nat):Int),PUnit.unit) else no) (hf:∀again,F again ((l.length:Int),PUnit.unit)=yes) :
  lpK (Int×PUnit) R F ((0:Int),PUnit.unit)=bif l.all p then yes else no:=by
 refine (nn (α:=Int×PUnit) l.length (by omega) (fun i (_:Unit)=>((i:Int),PUnit.unit)) (fun i s k=>bif p (l.getD i d) then k s else no) (fun _=>yes) ?_ ?_ ()).trans ?_
 ·intro again i _ hi
  exact hb again i hi
 ·intro again _
  exact hf again
 ·rw[mM l.length (fun i k _=>rfl) l.length 0 (by omega),vj]
theorem zo (x y:ByteArray):∀m:List (ByteArray×Bool),iH str Sh.bool x false (pO str Sh.bool y true m)=(decide (x=y)||iH str Sh.bool x false m)
 | []=>by
  simp only[pO,iH,lq]
  cases decide (x=y)<;>rfl
 | z ::m=>by
  cases h1:decide (y=z.1) with
  | true =>
   have e:=z12 h1
   simp only[pO,lq,h1,cT,iH]
   rw[e]
   cases decide (x=z.1)<;>rfl
  | false =>
   simp only[pO,lq,h1,cF,iH,zo x y m]
   cases h2:decide (x=z.1) with
   | false=>rfl
   | true =>
    have h3:decide (x=y)=false:=z8 fun e=>of_decide_eq_false h1 (by rw[<-e];exact z12 h2)
    rw[h3]
    rfl
def nX (x:ByteArray) (l:List ByteArray):Bool:=l.any fun y=>decide (x=y)
theorem Ej {x:ByteArray} {l:List ByteArray}:nX x l=true↔x ∈ l:=by
 unfold nX
 rw[List.any_eq_true]
 constructor
 ·rintro ⟨y,h1,h2⟩;rw[z12 h2];exact h1
 ·intro h;exact ⟨x,h,z7 rfl⟩
theorem tQ {x:ByteArray} {l:List ByteArray}:nX x l=false↔x ∉ l:=by rw[<-Ej,Bool.not_eq_true]
def wW (l:List ByteArray):List (ByteArray×Bool):=l.foldl (fun m x=>pO str Sh.bool x true m) []
theorem yt (x:ByteArray):∀(l:List ByteArray) (m:List (ByteArray×Bool)),iH str Sh.bool x false (l.foldl (fun m x=>pO str Sh.bool x true m) m)=(nX x l||iH str Sh.bool x false m)
 | [],m=>rfl
 | y ::l,m=>by
  rw[List.foldl_cons,yt x l,zo,<-Bool.or_assoc]
  congr 1
  unfold nX
  rw[List.any_cons,Bool.or_comm]
theorem zZ (x:ByteArray) (l:List ByteArray):iH str Sh.bool x false (wW l)=nX x l:=by
 unfold wW
 rw[yt]
 exact Bool.or_false _
theorem wQ (x:ByteArray) (l:List ByteArray):pO str Sh.bool x true (wW l)=wW (l++[x]):=by
 unfold wW
 rw[List.foldl_append]
 rfl
theorem ve {α:Type} {l:List α} {i:Nat} (d:α) (h:i<l.length):l.take i++[l.getD i d]=l.take (i+1):=by
 rw[bL h,List.take_succ_eq_append_getElem h]
theorem nV {α β:Type} {f:α->β} {l:List α} {d:α} {i:Nat} (h:i<l.length) (e:β):(l.map f).getD i e=f (l.getD i d):=by
 rw[bL (by rw[List.length_map];exact h),bL h,List.getElem_map]
theorem sX {α:Type} {p:α->Bool} (d:α):∀{l:List α} {i:Nat} {k:Int},i<l.length->p (l.getD i d)=true->(iY p l k=k+i↔∀a ∈ l.take i,p a=false)
 | a ::l,0,k,_,hp=>by
  rw[List.getD_cons_zero] at hp
  unfold iY
  rw[hp,cT]
  simp
 | a ::l,i+1,k,h,hp=>by
  rw[List.getD_cons_succ] at hp
  unfold iY
  rw[List.take_succ_cons]
  cases ha:p a with
  | true =>
   rw[cT]
   constructor
   ·intro e;omega
   ·intro e;have:=e a (by simp);rw[ha] at this;cases this
  | false =>
   rw[cF]
   have:=sX d (l:=l) (i:=i) (k:=k+1) (by simpa using h) hp
   rw[show k+((i+1:Nat):Int)=k+1+i by omega,this]
   simp[ha]
def fbI (s:Sy) (n:ByteArray):Int:=iY (fun b:Bk=>decide (b.1=n)) s.1 0
def frI (s:Sy) (n:ByteArray):Int:=iY (fun r:Rp=>decide (r.1=n)) s.2 0
theorem B8 (s:Sy) (n:ByteArray) (hl:s.1.length<=1000000):ce s n=some (fbI s n):=by
 simp only[ce,mj,eA,ki,lL]
 unfold bZ gI
 exact congrArg (fun m:Option Int=>aa m fun t=>some t) (oS (f:=fun x:Bk×Unit=>some (decide (x.1.1=n))) (p:=fun b:Bk=>decide (b.1=n)) (d:=bk0) hl (fun a _=>rfl))
theorem Aj (s:Sy) (n:ByteArray) (hl:s.1.length<=1000000):bq s n=some (fbI s n):=by
 simp only[bq,jA,lL]
 exact zl (p:=fun b:Bk=>decide (b.1=n)) (d:=bk0) hl
theorem Hk (s:Sy) (n:ByteArray) (hl:s.2.length<=1000000):bN s n=some (frI s n):=by
 simp only[bN,ky,lL]
 exact zl (p:=fun r:Rp=>decide (r.1=n)) (d:=rp0) hl
def oO (n a b:Int):Bool:=decide (n>=a)&&decide (n<=b)
theorem xk (n a b:Int):bA n a b=some (oO n a b):=by
 simp only[bA,kD,aX,Bool.and_self,cT,jl,oO]
def pt (f:Int×Int):Bool:=decide (okF f)&&(decide (f.1>=f.2)&&decide (f.1<=100))
theorem Jv (f:Int×Int):eu f=some (pt f):=by
 simp only[eu,kX,wY,af,aX,Bool.and_self,cT,jl,pt,Bool.and_assoc]
theorem HH (f:Int×Int):dD f=some (pt f):=by
 simp only[dD,jR,H0,af,aX,Bool.and_self,cT,jl,pt,Bool.and_assoc]
def oV (s:ByteArray):Bool:=decide (s={ data:=#[] })
def kU (s:Sy) (h:Hd) (e:Bool):Bool:=(bif e then decide (h.2.2.1=1)&&decide (h.2.2.2=1) else pt h.2.2) &&
 (bif oV h.1 then decide (h.2.1=0) else !decide (fbI s h.1<0)&&(bif e then decide (h.2.1=1)||decide (h.2.1= -1) else decide (h.2.1=2)||(decide (h.2.1=0)||decide (h.2.1= -2))))
theorem MY (s:Sy) (h:Hd) (e:Bool) (hl:s.1.length<=1000000):dW s h e=some (kU s h e):=by
 obtain ⟨b,p,n,d⟩:=h
 simp only[dW,mu,Jv,B8 s _ hl,lL,kU,oV,af]
 generalize decide (fbI s b<0)=g1
 generalize decide (b={ data:=#[] })=g2
 generalize pt (n,d)=g3
 generalize decide (p=0)=p0
 generalize decide (p=1)=p1
 generalize decide (p= -1)=p2
 generalize decide (p=2)=p3
 generalize decide (p= -2)=p4
 generalize decide (n=1)=g4
 generalize decide (d=1)=g5
 cases e with
 | false =>
  cases g3;· rfl
  cases g2;case true=>rfl
  cases g1;case true=>rfl
  cases p3<;>cases p0<;>cases p4<;>rfl
 | true =>
  cases g4;· rfl
  cases g5;· rfl
  cases g2;case true=>rfl
  cases g1;case true=>rfl
  cases p1<;>cases p2<;>rfl
theorem OA (n:Int):dn n=some (n,1):=id rfl
theorem Hn (s:Sy) (h:Hd) (e:Bool) (hl:s.1.length<=1000000):fh s h e=some (kU s h e):=by
 obtain ⟨b,p,n,d⟩:=h
 have hL:decide (n=1)=true->decide (d=1)=true->pt (n,d)=true:=fun h1 h2=>by
  have e1:=z12 h1
  have e2:=z12 h2
  subst e1;subst e2
  unfold pt
  rw[z7 (Oh (by omega) (by omega))]
  rfl
 simp only[fh,ow,HH,Aj s _ hl,lL,kU,oV,af,OA]
 generalize decide (fbI s b<0)=g1
 generalize decide (b={ data:=#[] })=g2
 generalize pt (n,d)=g3 at hL
 generalize decide (p=0)=p0
 generalize decide (p=1)=p1
 generalize decide (p= -1)=p2
 generalize decide (p=2)=p3
 generalize decide (p= -2)=p4
 cases e with
 | false =>
  cases g3;· rfl
  cases g2;case true=>rfl
  cases g1;case true=>rfl
  cases p3<;>cases p0<;>cases p4<;>rfl
 | true =>
  simp only[cT,af]
  generalize decide (n=1)=g4 at hL
  generalize decide (d=1)=g5 at hL
  cases g4;· rfl
  cases g5;· rfl
  rw[hL rfl rfl]
  cases g2;case true=>rfl
  cases g1;case true=>rfl
  cases p1<;>cases p2<;>rfl
def pA (s:Sy) (r:Rp):Bool:=decide (2<=r.2.1.length/\r.2.1.length<=10)&&((List.range' 0 r.2.1.length).all (fun i=>kU s (r.2.1.getD i hd0) (decide (i=0)||decide (i=r.2.1.length - 1))) &&
 (!r.2.2||oV (r.2.1.getD (r.2.1.length - 1) hd0).1))
theorem KF (s:Sy) (r:Rp) (hl:s.1.length<=1000000):eO s r=some (pA s r):=by
 obtain ⟨nm,hs,ha⟩:=r
 have hh:=fun h e=>MY s h e hl
 simp only[eO,md,xk,hh,af,pA,lL]
 by_cases h2:2<=hs.length/\hs.length<=10
 ·have e:oO (hs.length:Int) 2 10=true:=by
   unfold oO
   rw[z7 (show (hs.length:Int)>=2 by omega),z7 (show (hs.length:Int)<=10 by omega)];rfl
  have hw0:IntKind.wrap .i64 ((hs.length:Int) - 1)=((hs.length - 1:Nat):Int):=by rw[bi (by omega) (by omega)];omega
  rw[e,z7 h2]
  simp only[Bool.not_true,cF,Bool.true_and,hw0]
  refine (nn (α:=Int×PUnit) hs.length (by omega) (fun i (_:Unit)=>((i:Int),PUnit.unit)) (fun i t k=>bif kU s (hs.getD i hd0) (decide (i=0)||decide (i=hs.length - 1)) then k t else some false) (fun _=>some (!ha||oV (hs.getD (hs.length - 1) hd0).1)) ?_ ?_ ()).trans ?_
  ·intro again i _ hi
   have hw:IntKind.wrap .i64 ((i:Int)+1)=((i+1:Nat):Int):=by rw[bi (by omega) (by omega)];rfl
   have e0:decide ((i:Int)=0)=decide (i=0):=decide_eq_decide.2 (by omega)
   have e1:decide ((i:Int)=((hs.length - 1:Nat):Int))=decide (i=hs.length - 1):=decide_eq_decide.2 (by omega)
   simp only[bw,z7 hi,z7 (show (i:Int)<hs.length by omega),cT,z9,hw,e0,e1,aX,fx,Bool.and_self]
   have e3:(bif decide (i=0) then true else decide (i=hs.length - 1))=(decide (i=0)||decide (i=hs.length - 1)):=by cases decide (i=0)<;>rfl
   rw[e3]
   cases kU s (hs.getD i hd0) (decide (i=0)||decide (i=hs.length - 1))<;>rfl
  ·intro again _
   simp only[z8 (show ¬ (hs.length:Int)<hs.length by omega),cF,bw,z7 (show hs.length - 1<hs.length by omega),z9,oV]
   generalize decide ((List.getD hs (hs.length - 1) hd0).1={ data:=#[] })=g
   cases ha<;>rfl
  ·rw[mM hs.length (fun i k _=>rfl) hs.length 0 (by omega)]
   cases (List.range' 0 hs.length).all fun i=>kU s (hs.getD i hd0) (decide (i=0)||decide (i=hs.length - 1))<;>rfl
 ·have e:oO (hs.length:Int) 2 10=false:=by
   unfold oO
   by_cases g:(hs.length:Int)>=2
   ·rw[z7 g,z8 (show ¬ (hs.length:Int)<=10 by omega)];rfl
   ·rw[z8 g];rfl
  rw[e,z8 h2]
  rfl
theorem HF (s:Sy) (r:Rp) (hl:s.1.length<=1000000):gk s r=some (pA s r):=by
 obtain ⟨nm,hs,ha⟩:=r
 have hh:=fun h e=>Hn s h e hl
 simp only[gk,ou,hh,af,pA,lL]
 by_cases h2:2<=hs.length/\hs.length<=10
 ·have hw0:IntKind.wrap .i64 ((hs.length:Int) - 1)=((hs.length - 1:Nat):Int):=by rw[bi (by omega) (by omega)];omega
  rw[z7 h2,z8 (show ¬ (hs.length:Int)<2 by omega),z8 (show ¬ (hs.length:Int)>10 by omega)]
  simp only[Bool.not_true,Bool.not_false,Bool.or_true,cT,cF,Bool.true_and,hw0]
  refine (nn (α:=Int×PUnit) hs.length (by omega) (fun i (_:Unit)=>((i:Int),PUnit.unit)) (fun i t k=>bif kU s (hs.getD i hd0) (decide (i=0)||decide (i=hs.length - 1)) then k t else some false) (fun _=>some (!ha||oV (hs.getD (hs.length - 1) hd0).1)) ?_ ?_ ()).trans ?_
  ·intro again i _ hi
   have hw:IntKind.wrap .i64 ((i:Int)+1)=((i+1:Nat):Int):=by rw[bi (by omega) (by omega)];rfl
   have e0:decide ((i:Int)=0)=decide (i=0):=decide_eq_decide.2 (by omega)
   have e1:decide ((i:Int)=((hs.length - 1:Nat):Int))=decide (i=hs.length - 1):=decide_eq_decide.2 (by omega)
   simp only[bw,z7 hi,z7 (show (i:Int)<hs.length by omega),cT,z9,hw,e0,e1,aX,fx,Bool.and_self]
   have e3:(bif decide (i=0) then true else decide (i=hs.length - 1))=(decide (i=0)||decide (i=hs.length - 1)):=by cases decide (i=0)<;>rfl
   rw[e3]
   cases kU s (hs.getD i hd0) (decide (i=0)||decide (i=hs.length - 1))<;>rfl
  ·intro again _
   simp only[z8 (show ¬ (hs.length:Int)<hs.length by omega),cF,bw,z7 (show hs.length - 1<hs.length by omega),z9,oV]
   generalize decide ((List.getD hs (hs.length - 1) hd0).1={ data:=#[] })=g
   cases ha<;>rfl
  ·rw[mM hs.length (fun i k _=>rfl) hs.length 0 (by omega)]
   cases (List.range' 0 hs.length).all fun i=>kU s (hs.getD i hd0) (decide (i=0)||decide (i=hs.length - 1))<;>rfl
 ·rw[z8 h2]
  by_cases g:(hs.length:Int)<2
  ·rw[z7 g];rfl
  ·rw[z8 g,z7 (show (hs.length:Int)>10 by omega)];rfl
def mA (s:Sy) (i:Nat):Bool:=sr (s.1.getD i bk0).1&&(!nX (s.1.getD i bk0).1 ((s.1.map (·.fst)).take i)&&oO (s.1.getD i bk0).2 0 16777216)
def gN (s:Sy) (i:Nat):Bool:=sr (s.2.getD i rp0).1&&(!nX (s.2.getD i rp0).1 (s.1.map (·.fst)++(s.2.map (·.fst)).take i)&&pA s (s.2.getD i rp0))
def uq (rs:List Rp):Int:=(List.range' 0 rs.length).foldl (fun h i=>bif (rs.getD i rp0).2.2 then IntKind.wrap .i64 (h+1) else h) 0
def fq (s:Sy):Bool:=decide (1<=s.1.length/\s.1.length<=6/\1<=s.2.length/\s.2.length<=6)&&((List.range' 0 s.1.length).all (mA s)&&((List.range' 0 s.2.length).all (gN s)&&decide (uq s.2<=1)))
theorem tT (s:Sy):aI s=some (fq s):=by
 obtain ⟨bs,rs⟩:=s
 simp only[aI,li,xk,HR,af,fq]
 by_cases h1:1<=bs.length/\bs.length<=6
 ·have e1:oO (bs.length:Int) 1 6=true:=by
   unfold oO
   rw[z7 (show (bs.length:Int)>=1 by omega),z7 (show (bs.length:Int)<=6 by omega)];rfl
  by_cases h2:1<=rs.length/\rs.length<=6
  ·have e2:oO (rs.length:Int) 1 6=true:=by
    unfold oO
    rw[z7 (show (rs.length:Int)>=1 by omega),z7 (show (rs.length:Int)<=6 by omega)];rfl
   have hr:=fun r=>KF (bs,rs) r (show bs.length<=1000000 by omega)
   simp only[e1,e2,hr,af,Bool.not_true,Bool.not_false,Bool.or_true,cT,cF,z7 (show 1<=bs.length/\bs.length<=6/\1<=rs.length/\rs.length<=6 by omega),Bool.true_and]
   refine (nn (α:=Int×List (ByteArray×Bool)×PUnit) bs.length (by omega) (fun i (_:Unit)=>((i:Int),wW ((bs.map (·.fst)).take i),PUnit.unit)) (fun i t k=>bif mA (bs,rs) i then k t else some false)
    (fun _=>some ((List.range' 0 rs.length).all (gN (bs,rs))&&decide (uq rs<=1))) ?_ ?_ ()).trans ?_
   ·intro again i _ hi
    have hw:IntKind.wrap .i64 ((i:Int)+1)=((i+1:Nat):Int):=by rw[bi (by omega) (by omega)];rfl
    have hn:(bs.map (·.fst)).take (i+1)=(bs.map (·.fst)).take i++[(bs.getD i bk0).1]:=by
     rw[<-ve (d:=bk0.1) (by rw[List.length_map];exact hi),nV (d:=bk0) hi]
    simp only[bw,z7 hi,z7 (show (i:Int)<bs.length by omega),cT,z9,hw,zZ,wQ,<-hn,mA,aX,Bool.and_self]
    generalize nX (List.getD bs i bk0).1 ((bs.map (·.fst)).take i)=g1
    generalize oO (List.getD bs i bk0).2 0 16777216=g2
    cases sr (List.getD bs i bk0).1<;>cases g1<;>cases g2<;>rfl
   ·intro again _
    simp only[z8 (show ¬ (bs.length:Int)<bs.length by omega),cF]
    refine (nn (α:=Int×Int×List (ByteArray×Bool)×PUnit) rs.length (by omega) (fun i (h:Int)=>(h,(i:Int),wW (bs.map (·.fst)++(rs.map (·.fst)).take i),PUnit.unit)) (fun i t k=>bif gN (bs,rs) i then k (bif (rs.getD i rp0).2.2 then IntKind.wrap .i64 (t+1) else t) else some false)
     (fun h=>some (decide (h<=1))) ?_ ?_ 0 |>Eq.trans (by rw[List.take_zero,List.append_nil,List.take_of_length_le (by rw[List.length_map];omega)];rfl)).trans ?_
    ·intro again i t hi
     have hw:IntKind.wrap .i64 ((i:Int)+1)=((i+1:Nat):Int):=by rw[bi (by omega) (by omega)];rfl
     have hn:bs.map (·.fst)++(rs.map (·.fst)).take (i+1)=bs.map (·.fst)++(rs.map (·.fst)).take i++[(rs.getD i rp0).1]:=by
      rw[<-ve (d:=rp0.1) (by rw[List.length_map];exact hi),nV (d:=rp0) hi,List.append_assoc]
     simp only[bw,z7 hi,z7 (show (i:Int)<rs.length by omega),cT,z9,hw,zZ,wQ,<-hn,gN,aX,Bool.and_self]
     generalize nX (List.getD rs i rp0).1 (bs.map (·.fst)++(rs.map (·.fst)).take i)=g1
     generalize pA (bs,rs) (List.getD rs i rp0)=g2
     cases sr (List.getD rs i rp0).1<;>cases g1<;>cases g2<;>cases (List.getD rs i rp0).2.2<;>rfl
    ·intro again t
     simp only[z8 (show ¬ (rs.length:Int)<rs.length by omega),cF]
    ·rw[Bq (q:=gN (bs,rs)) (g:=fun i t=>bif (rs.getD i rp0).2.2 then IntKind.wrap .i64 (t+1) else t) rs.length (fun i s k _=>rfl) rs.length 0 _ (by omega)]
     unfold uq
     cases (List.range' 0 rs.length).all (gN (bs,rs))<;>rfl
   ·rw[mM bs.length (fun i k _=>rfl) bs.length 0 (by omega)]
    cases (List.range' 0 bs.length).all (mA (bs,rs))<;>rfl
  ·have e2:oO (rs.length:Int) 1 6=false:=by
    unfold oO
    by_cases g:(rs.length:Int)>=1
    ·rw[z7 g,z8 (show ¬ (rs.length:Int)<=6 by omega)];rfl
    ·rw[z8 g];rfl
   rw[e1,e2,z8 (show ¬ (1<=bs.length/\bs.length<=6/\1<=rs.length/\rs.length<=6) by omega)]
   rfl
 ·have e1:oO (bs.length:Int) 1 6=false:=by
   unfold oO
   by_cases g:(bs.length:Int)>=1
   ·rw[z7 g,z8 (show ¬ (bs.length:Int)<=6 by omega)];rfl
   ·rw[z8 g];rfl
  rw[e1,z8 (show ¬ (1<=bs.length/\bs.length<=6/\1<=rs.length/\rs.length<=6) by omega)]
  rfl
theorem Lf (s:Sy):bn s=some (fq s):=by
 obtain ⟨bs,rs⟩:=s
 simp only[bn,ni,Az,af,fq]
 by_cases h0:1<=bs.length/\bs.length<=6/\1<=rs.length/\rs.length<=6
 ·have hr:=fun r=>HF (bs,rs) r (show bs.length<=1000000 by omega)
  have hfb:=fun n=>Aj (bs,rs) n (show bs.length<=1000000 by omega)
  have hfr:=fun n=>Hk (bs,rs) n (show rs.length<=1000000 by omega)
  rw[z7 h0,z8 (show ¬ (bs.length:Int)<1 by omega),z8 (show ¬ (bs.length:Int)>6 by omega),z8 (show ¬ (rs.length:Int)<1 by omega),z8 (show ¬ (rs.length:Int)>6 by omega)]
  simp only[hr,hfb,hfr,Bool.not_true,Bool.not_false,Bool.or_true,cT,cF,Bool.true_and]
  refine (nn (α:=Int×PUnit) bs.length (by omega) (fun i (_:Unit)=>((i:Int),PUnit.unit)) (fun i t k=>bif mA (bs,rs) i then k t else some false)
   (fun _=>some ((List.range' 0 rs.length).all (gN (bs,rs))&&decide (uq rs<=1))) ?_ ?_ ()).trans ?_
  ·intro again i _ hi
   have hw:IntKind.wrap .i64 ((i:Int)+1)=((i+1:Nat):Int):=by rw[bi (by omega) (by omega)];rfl
   have hi1:decide (fbI (bs,rs) (bs.getD i bk0).1=(i:Int))=!nX (bs.getD i bk0).1 ((bs.map (·.fst)).take i):=by
    have:=sX (p:=fun b:Bk=>decide (b.1=(bs.getD i bk0).1)) bk0 (l:=bs) (i:=i) (k:=0) hi (z7 rfl)
    rw[Bool.eq_iff_iff,Bool.not_eq_true',decide_eq_true_iff,tQ,<-List.map_take]
    unfold fbI
    rw[Int.zero_add] at this
    rw[this,List.mem_map]
    constructor
    ·rintro h ⟨a,ha,he⟩
     exact of_decide_eq_false (h a ha) he
    ·intro h a ha
     exact z8 fun he=>h ⟨a,ha,he⟩
   simp only[bw,z7 hi,z7 (show (i:Int)<bs.length by omega),cT,z9,hw,mA,oO]
   generalize hg:nX (List.getD bs i bk0).1 ((bs.map (·.fst)).take i)=g1 at hi1
   have hlt:decide ((List.getD bs i bk0).2<0)=!decide ((List.getD bs i bk0).2>=0):=by
    rw[Bool.eq_iff_iff,Bool.not_eq_true',decide_eq_true_iff,decide_eq_false_iff_not];omega
   have hgt:decide ((List.getD bs i bk0).2>16777216)=!decide ((List.getD bs i bk0).2<=16777216):=by
    rw[Bool.eq_iff_iff,Bool.not_eq_true',decide_eq_true_iff,decide_eq_false_iff_not];omega
   rw[hlt,hgt]
   generalize decide ((List.getD bs i bk0).2>=0)=g2
   generalize decide ((List.getD bs i bk0).2<=16777216)=g3
   cases sr (List.getD bs i bk0).1 with
   | false=>rfl
   | true =>
    simp only[Bool.not_true,Bool.not_false,Bool.or_true,Bool.and_self,cT,af,hi1]
    cases g1<;>cases g2<;>cases g3<;>rfl
  ·intro again _
   simp only[z8 (show ¬ (bs.length:Int)<bs.length by omega),cF]
   refine (nn (α:=Int×Int×PUnit) rs.length (by omega) (fun i (h:Int)=>(h,(i:Int),PUnit.unit)) (fun i t k=>bif gN (bs,rs) i then k (bif (rs.getD i rp0).2.2 then IntKind.wrap .i64 (t+1) else t) else some false)
    (fun h=>some (decide (h<=1))) ?_ ?_ 0).trans ?_
   ·intro again i t hi
    have hw:IntKind.wrap .i64 ((i:Int)+1)=((i+1:Nat):Int):=by rw[bi (by omega) (by omega)];rfl
    have hi1:decide (frI (bs,rs) (rs.getD i rp0).1=(i:Int))=!nX (rs.getD i rp0).1 ((rs.map (·.fst)).take i):=by
     have:=sX (p:=fun b:Rp=>decide (b.1=(rs.getD i rp0).1)) rp0 (l:=rs) (i:=i) (k:=0) hi (z7 rfl)
     rw[Bool.eq_iff_iff,Bool.not_eq_true',decide_eq_true_iff,tQ,<-List.map_take]
     unfold frI
     rw[Int.zero_add] at this
     rw[this,List.mem_map]
     constructor
     ·rintro h ⟨a,ha,he⟩
      exact of_decide_eq_false (h a ha) he
     ·intro h a ha
      exact z8 fun he=>h ⟨a,ha,he⟩
    have hi2:decide (fbI (bs,rs) (rs.getD i rp0).1>=0)=nX (rs.getD i rp0).1 (bs.map (·.fst)):=by
     unfold fbI
     rw[BL,Bool.eq_iff_iff,List.any_eq_true,Ej,List.mem_map]
     constructor
     ·rintro ⟨a,ha,he⟩;exact ⟨a,ha,z12 he⟩
     ·rintro ⟨a,ha,he⟩;exact ⟨a,ha,z7 he⟩
    have hm:nX (rs.getD i rp0).1 (bs.map (·.fst)++(rs.map (·.fst)).take i)=(nX (rs.getD i rp0).1 (bs.map (·.fst))||nX (rs.getD i rp0).1 ((rs.map (·.fst)).take i)):=by
     unfold nX
     rw[List.any_append]
    simp only[bw,z7 hi,z7 (show (i:Int)<rs.length by omega),cT,z9,hw,gN,hm]
    generalize nX (List.getD rs i rp0).1 (bs.map (·.fst))=g1 at hi2
    generalize nX (List.getD rs i rp0).1 ((rs.map (·.fst)).take i)=g2 at hi1
    generalize pA (bs,rs) (List.getD rs i rp0)=g3
    generalize sr (List.getD rs i rp0).1=g4
    generalize (List.getD rs i rp0).2.2=g5
    cases g4 with
    | false=>rfl
    | true =>
     simp only[Bool.not_true,Bool.not_false,Bool.or_true,Bool.and_self,cT,cF,af,hi1]
     cases g2 with
     | true=>cases g1<;>rfl
     | false =>
      simp only[Bool.not_true,Bool.not_false,Bool.or_true,Bool.or_false,cT,cF,af,hi2]
      cases g1<;>cases g3<;>cases g5<;>rfl
   ·intro again t
    simp only[z8 (show ¬ (rs.length:Int)<rs.length by omega),cF]
   ·rw[Bq (q:=gN (bs,rs)) (g:=fun i t=>bif (rs.getD i rp0).2.2 then IntKind.wrap .i64 (t+1) else t) rs.length (fun i s k _=>rfl) rs.length 0 _ (by omega)]
    unfold uq
    cases (List.range' 0 rs.length).all (gN (bs,rs))<;>rfl
  ·rw[mM bs.length (fun i k _=>rfl) bs.length 0 (by omega)]
   cases (List.range' 0 bs.length).all (mA (bs,rs))<;>rfl
 ·rw[z8 h0]
  by_cases g1:(bs.length:Int)<1
  ·rw[z7 g1];rfl
  ·rw[z8 g1]
   by_cases g2:(bs.length:Int)>6
   ·rw[z7 g2];rfl
   ·rw[z8 g2]
    by_cases g3:(rs.length:Int)<1
    ·rw[z7 g3];rfl
    ·rw[z8 g3,z7 (show (rs.length:Int)>6 by omega)];rfl
end
end Go.Proofs.YtfknoaclabfdlaaGreat

namespace Go.Proofs.YtfknoaclabfdlaaGreat
namespace Dn
def ab (x:Int):Int:=(x.natAbs:Int)
theorem cR (x:Int):0<=ab x:=by unfold ab;omega
theorem Rb (x y:Int):ab (x+y)<=ab x+ab y:=by unfold ab;omega
theorem zd {x b:Int}:ab x<=b↔ -b<=x/\x<=b:=by unfold ab;omega
theorem qj (x y:Int):ab (x*y)=ab x*ab y:=by
 unfold ab
 rw[Int.natAbs_mul]
 rfl
def sz:Nat->(Nat->Int)->Int
 | 0,_=>0
 | n+1,f=>sz n f+f n
theorem bE:∀{n:Nat} {f g:Nat->Int},(∀i,i<n->f i=g i)->sz n f=sz n g
 | 0,_,_,_=>rfl
 | n+1,f,g,h=>by
  simp only[sz]
  rw[bE (n:=n) fun i hi=>h i (by omega),h n (by omega)]
theorem nl:∀{n:Nat} {f g:Nat->Int},sz n (fun i=>f i+g i)=sz n f+sz n g
 | 0,_,_=>rfl
 | n+1,f,g=>by
  simp only[sz]
  rw[nl]
  omega
theorem gd:∀{n:Nat} {c:Int} {f:Nat->Int},sz n (fun i=>c*f i)=c*sz n f
 | 0,c,_=>by simp[sz]
 | n+1,c,f=>by
  simp only[sz]
  rw[gd,Int.mul_add]
theorem Bn {n:Nat} {c:Int} {f:Nat->Int}:sz n (fun i=>f i*c)=sz n f*c:=by
 rw[Int.mul_comm,<-gd]
 exact bE fun i _=>Int.mul_comm _ _
theorem gt:∀{n:Nat} {f:Nat->Int},(∀i,i<n->f i=0)->sz n f=0
 | 0,_,_=>rfl
 | n+1,f,h=>by
  simp only[sz]
  rw[gt fun i hi=>h i (by omega),h n (by omega)]
  rfl
theorem Rl {n:Nat} {f:Nat->Int}:sz n (fun i=> - f i)= - sz n f:=by
 have:sz n (fun i=> - f i)=sz n (fun i=>(-1)*f i):=bE fun i _=>by omega
 rw[this,gd]
 omega
theorem xd {n:Nat} {f g:Nat->Int}:sz n (fun i=>f i - g i)=sz n f - sz n g:=by
 have:sz n (fun i=>f i - g i)=sz n (fun i=>f i+ - g i):=bE fun i _=>by omega
 rw[this,nl,Rl]
 omega
theorem eQ:∀{n:Nat} {f:Nat->Int} {k:Nat},k<n->(∀i,i<n->i≠k->f i=0)->sz n f=f k
 | n+1,f,k,hk,h=>by
  simp only[sz]
  by_cases e:k=n
  ·subst e
   rw[gt fun i hi=>h i (by omega) (by omega)]
   omega
  ·rw[eQ (k:=k) (by omega) fun i hi hne=>h i (by omega) hne,h n (by omega) (fun e'=>e e'.symm)]
   omega
theorem ER {n:Nat} {f:Nat->Int} {k l:Nat} (hk:k<n) (hl:l<n) (hkl:k≠l) (h:∀i,i<n->i≠k->i≠l->f i=0):sz n f=f k+f l:=by
 have e:sz n f=sz n (fun i=>(if i=k then f k else 0)+(if i=l then f l else 0)):=bE fun i hi=>by
  by_cases h1:i=k
  ·subst h1;rw[if_pos rfl,if_neg hkl];omega
  ·by_cases h2:i=l
   ·subst h2;rw[if_neg h1,if_pos rfl];omega
   ·rw[if_neg h1,if_neg h2,h i hi h1 h2];rfl
 rw[e,nl,eQ hk (f:=fun i=>if i=k then f k else 0) (fun i _ hne=>if_neg hne),eQ hl (f:=fun i=>if i=l then f l else 0) (fun i _ hne=>if_neg hne)]
 simp
theorem tK:∀{m n:Nat} {f:Nat->Nat->Int},sz m (fun i=>sz n (fun j=>f i j))=sz n (fun j=>sz m (fun i=>f i j))
 | 0,n,f=>by
  simp only[sz]
  exact (gt fun _ _=>rfl).symm
 | m+1,n,f=>by
  simp only[sz]
  rw[tK,nl]
theorem qx:∀{n:Nat} {f g:Nat->Int},(∀i,i<n->f i<=g i)->sz n f<=sz n g
 | 0,_,_,_=>Int.le_refl _
 | n+1,f,g,h=>by
  simp only[sz]
  have:=qx (n:=n) fun i hi=>h i (by omega)
  have:=h n (by omega)
  omega
theorem iI {n:Nat} {f:Nat->Int} (h:∀i,i<n->0<=f i):0<=sz n f:=by
 have:=qx (n:=n) (f:=fun _=>0) (g:=f) h
 rwa [gt fun _ _=>rfl] at this
theorem EP:∀{n:Nat} {f:Nat->Int},ab (sz n f)<=sz n (fun i=>ab (f i))
 | 0,_=>by simp[sz,ab]
 | n+1,f=>by
  simp only[sz]
  have:=EP (n:=n) (f:=f)
  have:=Rb (sz n f) (f n)
  omega
def skip (k j:Nat):Nat:=if j<k then j else j+1
def sgd (k:Nat):Int:=if k % 2=0 then 1 else -1
theorem Ke (k:Nat):sgd (k+1)= - sgd k:=by
 unfold sgd
 split<;>split<;>omega
theorem Pw (k:Nat) (x:Int):ab (sgd k*x)=ab x:=by
 unfold sgd ab
 split<;>omega
def kK (A:Nat->Nat->Int) (k:Nat):Nat->Nat->Int:=fun i j=>A (i+1) (skip k j)
def det:Nat->(Nat->Nat->Int)->Int
 | 0,_=>1
 | n+1,A=>sz (n+1) fun k=>sgd k*A 0 k*det n (kK A k)
def cd (A:Nat->Nat->Int) (c:Nat) (v:Nat->Int):Nat->Nat->Int:=fun i j=>if j=c then v i else A i j
theorem iK:∀{n:Nat} {A B:Nat->Nat->Int},(∀i j,i<n->j<n->A i j=B i j)->det n A=det n B
 | 0,_,_,_=>rfl
 | n+1,A,B,h=>by
  simp only[det]
  refine bE fun k hk=>?_
  rw[h 0 k (by omega) hk,iK (A:=kK A k) (B:=kK B k) fun i j hi hj=>h (i+1) (skip k j) (by omega) (by unfold skip;split<;>omega)]
theorem pJ {A:Nat->Nat->Int} {k:Nat} {v:Nat->Int}:kK (cd A k v) k=kK A k:=by
 funext i j
 unfold kK cd
 rw[if_neg]
 unfold skip
 split<;>omega
def EJ (k c:Nat):Nat:=if c<k then c else c - 1
theorem mf {A:Nat->Nat->Int} {k c:Nat} {v:Nat->Int} (h:k≠c):kK (cd A c v) k=cd (kK A k) (EJ k c) (fun i=>v (i+1)):=by
 funext i j
 unfold kK cd skip EJ
 by_cases h1:j<k<;>by_cases h2:c<k
 ·simp only[h1,h2,if_true]
 ·simp only[h1,h2,if_true,if_false]
  rw[if_neg (by omega),if_neg (by omega)]
 ·simp only[h1,h2,if_true,if_false]
  rw[if_neg (by omega),if_neg (by omega)]
 ·simp only[h1,h2,if_false]
  by_cases h3:j+1=c
  ·rw[if_pos h3,if_pos (by omega)]
  ·rw[if_neg h3,if_neg (by omega)]
theorem nc:∀{n:Nat} {A:Nat->Nat->Int} {c:Nat} {u v:Nat->Int},c<n->det n (cd A c fun i=>u i+v i)=det n (cd A c u)+det n (cd A c v)
 | n+1,A,c,u,v,hc=>by
  simp only[det]
  rw[<-nl]
  refine bE fun k hk=>?_
  by_cases h:k=c
  ·subst h
   simp only[pJ]
   have e:∀v:Nat->Int,cd A k v 0 k=v 0:=fun v=>by simp[cd]
   rw[e,e,e,Int.mul_add,Int.add_mul]
  ·have e:∀v:Nat->Int,cd A c v 0 k=A 0 k:=fun v=>by simp[cd,h]
   rw[mf h,mf h,mf h,e,e,e,nc (u:=fun i=>u (i+1)) (v:=fun i=>v (i+1)) (by unfold EJ;split<;>omega),Int.mul_add]
theorem nW:∀{n:Nat} {A:Nat->Nat->Int} {c:Nat} {x:Int} {u:Nat->Int},c<n->det n (cd A c fun i=>x*u i)=x*det n (cd A c u)
 | n+1,A,c,x,u,hc=>by
  simp only[det]
  rw[<-gd]
  refine bE fun k hk=>?_
  by_cases h:k=c
  ·subst h
   simp only[pJ]
   have e:∀v:Nat->Int,cd A k v 0 k=v 0:=fun v=>by simp[cd]
   rw[e,e]
   simp only[Int.mul_assoc,Int.mul_left_comm]
  ·have e:∀v:Nat->Int,cd A c v 0 k=A 0 k:=fun v=>by simp[cd,h]
   rw[mf h,mf h,e,e,nW (u:=fun i=>u (i+1)) (by unfold EJ;split<;>omega)]
   simp only[Int.mul_assoc,Int.mul_left_comm]
theorem KC {n:Nat} {A:Nat->Nat->Int} {c:Nat} (hc:c<n):det n (cd A c fun _=>0)=0:=by
 have:=nW (n:=n) (A:=A) (x:=0) (u:=fun _=>0) hc
 simpa using this
theorem tN {n:Nat} {A:Nat->Nat->Int} {c:Nat} (hc:c<n):∀{m:Nat} {x:Nat->Int} {u:Nat->Nat->Int},det n (cd A c fun i=>sz m fun l=>x l*u l i)=sz m fun l=>x l*det n (cd A c (u l))
 | 0,x,u=>by simp only[sz];exact KC hc
 | m+1,x,u=>by
  simp only[sz]
  rw[nc hc,nW hc,tN hc]
theorem Bp:∀{n:Nat} {A:Nat->Nat->Int} {c:Nat},c+1<n->(∀i,i<n->A i c=A i (c+1))->det n A=0
 | n+1,A,c,hc,h=>by
  simp only[det]
  rw[ER (k:=c) (l:=c+1) (by omega) hc (by omega) fun k hk h1 h2=>?_]
  ·have e:det n (kK A c)=det n (kK A (c+1)):=by
    refine iK fun i j hi hj=>?_
    unfold kK skip
    by_cases h1:j<c
    ·rw[if_pos h1,if_pos (by omega)]
    ·by_cases h2:j=c
     ·subst h2
      rw[if_neg h1,if_pos (by omega)]
      exact (h (i+1) (by omega)).symm
     ·rw[if_neg h1,if_neg (by omega)]
   rw[e,Ke,h 0 (by omega)]
   simp only[Int.neg_mul]
   omega
  ·have e:det n (kK A k)=0:=by
    refine Bp (c:=EJ k c) ?_ fun i hi=>?_
    ·unfold EJ;split<;>omega
    ·unfold kK skip EJ
     by_cases h3:c<k
     ·simp only[h3,if_true]
      rw[if_pos (by omega)]
      exact h (i+1) (by omega)
     ·simp only[h3,if_false]
      rw[if_neg (by omega),if_neg (by omega),show c - 1+1=c by omega]
      exact h (i+1) (by omega)
   rw[e,Int.mul_zero]
theorem oa (A:Nat->Nat->Int) (c:Nat):cd A c (fun i=>A i c)=A:=by
 funext i j
 unfold cd
 split
 ·rename_i h;rw[h]
 ·rfl
theorem eI {A:Nat->Nat->Int} {c e:Nat} {u v:Nat->Int} (h:c≠e):cd (cd A c u) e v=cd (cd A e v) c u:=by
 funext i j
 unfold cd
 by_cases h1:j=c<;>by_cases h2:j=e
 ·omega
 ·simp[h1,h]
 ·simp[h2,Ne.symm h]
 ·simp[h1,h2]
theorem A5 {n:Nat} {A:Nat->Nat->Int} {c:Nat} {u v:Nat->Int} (hc:c+1<n):det n (cd (cd A c u) (c+1) v)= - det n (cd (cd A c v) (c+1) u):=by
 have h0:∀w:Nat->Int,det n (cd (cd A c w) (c+1) w)=0:=fun w=>Bp hc fun i _=>by simp[cd]
 have h1:=h0 fun i=>u i+v i
 rw[nc hc,eI (by omega),eI (u:=fun i=>u i+v i) (by omega),nc (by omega),nc (by omega),eI (c:=c+1) (by omega),eI (c:=c+1) (v:=v) (by omega),eI (c:=c+1) (u:=v) (v:=u) (by omega),eI (c:=c+1) (u:=v) (v:=v) (by omega),h0,h0] at h1
 omega
theorem EE:∀{k:Nat} {n:Nat} {A:Nat->Nat->Int} {c:Nat},c+k+1<n->(∀i,i<n->A i c=A i (c+k+1))->det n A=0
 | 0,n,A,c,hc,h=>Bp hc h
 | k+1,n,A,c,hc,h=>by
  have e:A=cd (cd A (c+k+1) fun i=>A i (c+k+1)) (c+k+1+1) fun i=>A i (c+k+1+1):=by
   rw[oa,oa]
  rw[e,A5 (by omega)]
  have:det n (cd (cd A (c+k+1) fun i=>A i (c+k+1+1)) (c+k+1+1) fun i=>A i (c+k+1))=0:=by
   refine EE (k:=k) (c:=c) (by omega) fun i hi=>?_
   simp only[cd]
   rw[if_neg (by omega),if_neg (by omega),if_neg (by omega)]
   simp only[if_true]
   exact h i hi
  rw[this]
  rfl
theorem lv {n:Nat} {A:Nat->Nat->Int} {a b:Nat} (ha:a<n) (hb:b<n) (hab:a≠b) (h:∀i,i<n->A i a=A i b):det n A=0:=by
 by_cases hlt:a<b
 ·obtain ⟨k,rfl⟩:∃k,b=a+k+1:=⟨b - a - 1,by omega⟩
  exact EE hb h
 ·obtain ⟨k,rfl⟩:∃k,a=b+k+1:=⟨a - b - 1,by omega⟩
  exact EE ha fun i hi=>(h i hi).symm
theorem D2 {n:Nat} {A:Nat->Nat->Int} {a b:Nat} {u v:Nat->Int} (ha:a<n) (hb:b<n) (hab:a≠b):det n (cd (cd A a u) b v)= - det n (cd (cd A a v) b u):=by
 have h0:∀w:Nat->Int,det n (cd (cd A a w) b w)=0:=fun w=>lv ha hb hab fun i _=>by simp[cd]
 have h1:=h0 fun i=>u i+v i
 rw[nc hb,eI hab,eI (u:=fun i=>u i+v i) hab,nc ha,nc ha,eI (c:=b) (Ne.symm hab),eI (c:=b) (v:=v) (Ne.symm hab),eI (c:=b) (u:=v) (v:=u) (Ne.symm hab),eI (c:=b) (u:=v) (v:=v) (Ne.symm hab),h0,h0] at h1
 omega
def pz:Nat->(Nat->Int)->Int
 | 0,_=>1
 | n+1,f=>f 0*pz n fun i=>f (i+1)
theorem uG:∀{n:Nat} {f:Nat->Int},(∀i,i<n->0<=f i)->0<=pz n f
 | 0,_,_=>by simp[pz]
 | n+1,f,h=>Int.mul_nonneg (h 0 (by omega)) (uG fun i hi=>h (i+1) (by omega))
theorem MG:∀{n:Nat} {f g:Nat->Int},(∀i,i<n->0<=f i/\f i<=g i)->pz n f<=pz n g
 | 0,_,_,_=>Int.le_refl _
 | n+1,f,g,h=>by
  simp only[pz]
  have h1:=MG (n:=n) (f:=fun i=>f (i+1)) (g:=fun i=>g (i+1)) fun i hi=>h (i+1) (by omega)
  have h2:=h 0 (by omega)
  have h3:=uG (n:=n) (f:=fun i=>f (i+1)) fun i hi=>(h (i+1) (by omega)).1
  exact Int.mul_le_mul h2.2 h1 h3 (Int.le_trans h2.1 h2.2)
theorem Gj:∀{n k:Nat} {f:Nat->Int},k<=n->sz n (fun j=>f (skip k j))+f k=sz (n+1) f
 | 0,k,f,hk=>by
  have:k=0:=by omega
  subst this
  simp[sz]
 | n+1,k,f,hk=>by
  by_cases h:k=n+1
  ·subst h
   have e:=bE (n:=n+1) (f:=fun j=>f (skip (n+1) j)) (g:=f) fun j hj=>by simp[skip,hj]
   rw[e]
   rfl
  ·have:=Gj (n:=n) (k:=k) (f:=f) (by omega)
   simp only[sz] at this ⊢
   have e:f (skip k n)=f (n+1):=by unfold skip;rw[if_neg (by omega)]
   rw[e]
   omega
theorem zM:∀{n:Nat} {A:Nat->Nat->Int},ab (det n A)<=pz n fun i=>sz n fun j=>ab (A i j)
 | 0,A=>by simp[det,pz,ab]
 | n+1,A=>by
  simp only[det,pz]
  refine Int.le_trans EP ?_
  have hP:0<=pz n fun i=>sz (n+1) fun j=>ab (A (i+1) j):=uG fun i _=>iI fun j _=>cR _
  refine Int.le_trans (qx (g:=fun k=>ab (A 0 k)*pz n fun i=>sz (n+1) fun j=>ab (A (i+1) j)) fun k hk=>?_) (by rw[Bn];exact Int.le_refl _)
  rw[Int.mul_assoc,Pw,qj]
  refine Int.mul_le_mul_of_nonneg_left (Int.le_trans zM (MG fun i hi=>⟨iI fun j _=>cR _,?_⟩)) (cR _)
  have:=Gj (n:=n) (k:=k) (f:=fun j=>ab (A (i+1) j)) (by omega)
  have h0:=cR (A (i+1) k)
  simp only[kK]
  omega
def upd (β:Nat->Nat) (r c:Nat):Nat->Nat:=fun k=>if k=r then c else β k
def fg (M:Nat->Nat->Int) (γ:Nat->Nat):Nat->Nat->Int:=fun i k=>M i (γ k)
def dc (m:Nat) (M:Nat->Nat->Int) (γ:Nat->Nat):Int:=det m (fg M γ)
theorem mo (M:Nat->Nat->Int) (β:Nat->Nat) (r c:Nat):fg M (upd β r c)=cd (fg M β) r (fun i=>M i c):=by
 funext i k
 unfold fg upd cd
 split<;>rfl
theorem PF (β:Nat->Nat) (r c e:Nat):upd (upd β r c) r e=upd β r e:=by
 funext k
 unfold upd
 split<;>rfl
theorem Je (β:Nat->Nat) (r:Nat):upd β r (β r)=β:=by
 funext k
 unfold upd
 split
 ·rename_i h;rw[h]
 ·rfl
structure Tb (m w:Nat) (M T:Nat->Nat->Int) (d:Int) (β:Nat->Nat):Prop where
 dpos:0<d
 lt:∀i,i<m->β i<w
 co:∀k,k<m->∀j,j<w->d*M k j=sz m fun i=>T i j*M k (β i)
 cr:∃σ:Int,σ*σ=1/\d=σ*dc m M β/\∀i,i<m->∀j,j<w->T i j=σ*dc m M (upd β i j)
section
variable {m w:Nat} {M T:Nat->Nat->Int} {d:Int} {β:Nat->Nat}
theorem BU {i k:Nat} (hi:i<m) (hk:k<m) (h:i≠k):dc m M (upd β i (β k))=0:=by
 refine lv hi hk h fun l _=>?_
 unfold fg upd
 rw[if_pos rfl,if_neg (Ne.symm h)]
theorem Tb.basis (h:Tb m w M T d β) {i:Nat} (hi:i<m):T i (β i)=d:=by
 obtain ⟨σ,_,h2,h3⟩:=h.cr
 rw[h3 i hi _ (h.lt i hi),Je,<-h2]
theorem Tb.other (h:Tb m w M T d β) {i k:Nat} (hi:i<m) (hk:k<m) (hik:i≠k):T i (β k)=0:=by
 obtain ⟨σ,_,h2,h3⟩:=h.cr
 rw[h3 i hi _ (h.lt k hk),BU hi hk hik,Int.mul_zero]
theorem Tb.inj (h:Tb m w M T d β) {i k:Nat} (hi:i<m) (hk:k<m) (hb:β i=β k):i=k:=by
 by_cases e:i=k
 ·exact e
 ·have h1:=h.other hi hk e
  rw[<-hb,h.basis hi] at h1
  have:=h.dpos
  omega
theorem Md (h:Tb m w M T d β) {r i c j:Nat} (hr:r<m) (hi:i<m) (hri:r≠i) (hc:c<w) (hj:j<w) :
  d*d*dc m M (upd (upd β r c) i j)=(T r c*T i j - T i c*T r j)*dc m M β:=by
 obtain ⟨B,hB⟩:∃B,B=fg M β:=⟨_,rfl⟩
 have e1:d*d*dc m M (upd (upd β r c) i j)=det m (cd (cd B r fun q=>d*M q c) i fun q=>d*M q j):=by
  have a1:=nW (n:=m) (A:=cd B r fun q=>d*M q c) (c:=i) (x:=d) (u:=fun q=>M q j) hi
  have a2:=nW (n:=m) (A:=cd B i fun q=>M q j) (c:=r) (x:=d) (u:=fun q=>M q c) hr
  unfold dc
  rw[mo,mo,<-hB,a1,eI (u:=fun q=>d*M q c) hri,a2,eI (u:=fun q=>M q c) hri,Int.mul_assoc]
 have e2:det m (cd (cd B r fun q=>d*M q c) i fun q=>d*M q j)=det m (cd (cd B r fun q=>sz m fun k=>T k c*B q k) i fun q=>sz m fun l=>T l j*B q l):=by
  refine iK fun p q hp hq=>?_
  unfold cd
  rw[hB]
  split
  ·exact h.co p hp j hj
  ·split
   ·exact h.co p hp c hc
   ·rfl
 rw[e1,e2,tN hi (x:=fun l=>T l j) (u:=fun l q=>B q l)]
 have e3:∀l,det m (cd (cd B r fun q=>sz m fun k=>T k c*B q k) i fun q=>B q l)=sz m fun k=>T k c*det m (cd (cd B i fun q=>B q l) r fun q=>B q k):=fun l=>by
  rw[eI hri,tN hr (x:=fun k=>T k c) (u:=fun k q=>B q k)]
 have z1:∀k l,k<m->k≠r->k≠i->det m (cd (cd B i fun q=>B q l) r fun q=>B q k)=0:=fun k l hk h1 h2 =>
  lv hr hk h1.symm fun q _=>by simp[cd,h1,h2]
 have z2:∀k l,l<m->l≠r->l≠i->det m (cd (cd B i fun q=>B q l) r fun q=>B q k)=0:=fun k l hl h1 h2 =>
  lv hi hl h2.symm fun q _=>by simp[cd,h1,h2,hri.symm]
 have z3:det m (cd (cd B i fun q=>B q r) r fun q=>B q r)=0:=lv hi hr hri.symm fun q _=>by simp[cd,hri.symm]
 have z4:det m (cd (cd B i fun q=>B q i) r fun q=>B q i)=0:=lv hi hr hri.symm fun q _=>by simp[cd,hri.symm]
 have z5:det m (cd (cd B i fun q=>B q i) r fun q=>B q r)=det m B:=by
  rw[oa,oa]
 have z6:det m (cd (cd B i fun q=>B q r) r fun q=>B q i)= - det m B:=by
  rw[D2 hi hr hri.symm,z5]
 have e4:∀l,l<m->(sz m fun k=>T k c*det m (cd (cd B i fun q=>B q l) r fun q=>B q k))=T r c*det m (cd (cd B i fun q=>B q l) r fun q=>B q r)+T i c*det m (cd (cd B i fun q=>B q l) r fun q=>B q i):=fun l _ =>
  ER hr hi hri fun k hk h1 h2=>by rw[z1 k l hk h1 h2,Int.mul_zero]
 rw[bE (g:=fun l=>T l j*(T r c*det m (cd (cd B i fun q=>B q l) r fun q=>B q r)+T i c*det m (cd (cd B i fun q=>B q l) r fun q=>B q i))) fun l hl=>by rw[e3 l,e4 l hl]]
 rw[ER hr hi hri fun l hl h1 h2=>by rw[z2 r l hl h1 h2,z2 i l hl h1 h2];simp]
 rw[z3,z4,z5,z6]
 have:dc m M β=det m B:=by rw[hB];rfl
 rw[this]
 grind
def piv (T:Nat->Nat->Int) (d:Int) (r c i j:Nat):Int:=(T r c*T i j - T i c*T r j) / d
theorem jr (h:Tb m w M T d β) {r i c j:Nat} (hr:r<m) (hi:i<m) (hri:r≠i) (hc:c<w) (hj:j<w):d*piv T d r c i j=T r c*T i j - T i c*T r j:=by
 obtain ⟨σ,h1,h2,_⟩:=h.cr
 have h3:=Md h hr hi hri hc hj
 have hd:=h.dpos
 have h4:dc m M β=σ*d:=by rw[h2,<-Int.mul_assoc,h1,Int.one_mul]
 rw[h4] at h3
 have h5:d*(d*dc m M (upd (upd β r c) i j))=d*((T r c*T i j - T i c*T r j)*σ):=by
  rw[<-Int.mul_assoc,h3]
  grind
 have h6:=Int.eq_of_mul_eq_mul_left (by omega) h5
 have h7:T r c*T i j - T i c*T r j=d*(σ*dc m M (upd (upd β r c) i j)):=by
  have:(T r c*T i j - T i c*T r j)*σ*σ=d*dc m M (upd (upd β r c) i j)*σ:=by rw[h6]
  rw[Int.mul_assoc,h1,Int.mul_one] at this
  rw[this]
  grind
 unfold piv
 rw[h7,Int.mul_ediv_cancel_left _ (by omega)]
theorem Qz (h:Tb m w M T d β) {σ:Int} (h1:σ*σ=1) (h2:d=σ*dc m M β) {r i c j:Nat} (hr:r<m) (hi:i<m) (hri:r≠i) (hc:c<w) (hj:j<w):piv T d r c i j=σ*dc m M (upd (upd β r c) i j):=by
 have h3:=Md h hr hi hri hc hj
 have hd:=h.dpos
 have h4:dc m M β=σ*d:=by rw[h2,<-Int.mul_assoc,h1,Int.one_mul]
 have h5:=jr h hr hi hri hc hj
 rw[h4,<-h5] at h3
 have h6:(d*d)*dc m M (upd (upd β r c) i j)=(d*d)*(piv T d r c i j*σ):=by rw[h3];grind
 have h7:=Int.eq_of_mul_eq_mul_left (Int.ne_of_gt (Int.mul_pos hd hd)) h6
 rw[h7]
 grind
def sg (x:Int):Int:=if x<0 then -1 else 1
theorem FF (x:Int):sg x*sg x=1:=by unfold sg;split<;>rfl
theorem K1 {x:Int} (h:x≠0):0<sg x*x:=by unfold sg;split<;>omega
def nk (T:Nat->Nat->Int) (d:Int) (r c:Nat):Nat->Nat->Int:=fun i j=>sg (T r c)*(if i=r then T r j else piv T d r c i j)
theorem Tb.step (h:Tb m w M T d β) {r c:Nat} (hr:r<m) (hc:c<w) (he:T r c≠0):Tb m w M (nk T d r c) (sg (T r c)*T r c) (upd β r c):=by
 have hd:=h.dpos
 refine ⟨K1 he,fun i hi=>?_,fun k hk j hj=>?_,?_⟩
 ·unfold upd
  split
  ·exact hc
  ·exact h.lt i hi
 ·have h1:∀i,i<m->d*((if i=r then T r j else piv T d r c i j)*M k (upd β r c i))=(T r c*(T i j*M k (β i)) - T r j*(T i c*M k (β i)))+(if i=r then d*(T r j*M k c) else 0):=fun i hi=>by
   unfold upd
   by_cases e:i=r
   ·subst e
    simp only[if_true]
    grind
   ·simp only[e,if_false,Int.add_zero]
    rw[<-Int.mul_assoc,jr h hr hi (Ne.symm e) hc hj]
    grind
  have h2:d*(sz m fun i=>(if i=r then T r j else piv T d r c i j)*M k (upd β r c i))=d*(T r c*M k j):=by
   rw[<-gd,bE h1,nl,xd,gd,gd,<-h.co k hk j hj,<-h.co k hk c hc,eQ hr fun i _ hne=>if_neg hne,if_pos rfl]
   grind
  have h3:=Int.eq_of_mul_eq_mul_left (by omega) h2
  have h4:(sz m fun i=>nk T d r c i j*M k (upd β r c i))=sg (T r c)*sz m fun i=>(if i=r then T r j else piv T d r c i j)*M k (upd β r c i):=by
   rw[<-gd]
   exact bE fun i _=>by unfold nk;rw[Int.mul_assoc]
  rw[h4,h3,Int.mul_assoc]
 ·obtain ⟨σ,h1,h2,h3⟩:=h.cr
  refine ⟨sg (T r c)*σ,?_,?_,fun i hi j hj=>?_⟩
  ·have:=FF (T r c)
   grind
  ·rw[h3 r hr c hc]
   grind
  ·unfold nk
   by_cases e:i=r
   ·subst e
    rw[if_pos rfl,h3 i hi j hj,PF]
    grind
   ·rw[if_neg e,Qz h h1 h2 hr hi (Ne.symm e) hc hj]
    grind
theorem He:∀n:Nat,det n (fun i k=>if i=k then 1 else 0)=1
 | 0=>rfl
 | n+1=>by
  simp only[det]
  rw[eQ (k:=0) (by omega) fun k _ hk=>by rw[if_neg (Ne.symm hk)];simp]
  have:det n (kK (fun i k=>if i=k then 1 else 0) 0)=det n (fun i k=>if i=k then 1 else 0):=iK fun i j _ _=>by
   unfold kK skip
   simp
  rw[this,He n]
  simp[sgd]
theorem Tb.first {a:Nat->Nat} (ha:∀i,i<m->a i<w) (hM:∀k,k<m->∀i,i<m->M k (a i)=if k=i then 1 else 0):Tb m w M M 1 a:=by
 have h1:dc m M a=1:=by
  unfold dc
  rw[<-He m]
  exact iK fun i j hi hj=>hM i hi j hj
 refine ⟨by omega,ha,fun k hk j hj=>?_,1,by omega,by rw[h1];rfl,fun i hi j hj=>?_⟩
 ·rw[eQ hk fun i hi hne=>by rw[hM k hk i hi,if_neg (Ne.symm hne),Int.mul_zero],hM k hk k hk,if_pos rfl]
  omega
 ·unfold dc
  rw[mo]
  have e:det m (cd (fg M a) i fun q=>M q j)=det m (cd (fg M a) i fun q=>sz m fun k=>M k j*fg M a q k):=by
   refine iK fun p q hp hq=>?_
   unfold cd
   split
   ·show M p j=sz m fun k=>M k j*fg M a p k
    rw[eQ hp fun k hk hne=>by unfold fg;rw[hM p hp k hk,if_neg (Ne.symm hne),Int.mul_zero]]
    unfold fg
    rw[hM p hp p hp,if_pos rfl]
    omega
   ·rfl
  rw[e,tN hi (x:=fun k=>M k j) (u:=fun k q=>fg M a q k),eQ hi fun k hk hne=>by
   rw[lv hi hk (Ne.symm hne) fun q _=>by simp[cd,hne],Int.mul_zero],oa]
  have:det m (fg M a)=1:=h1
  rw[this]
  omega
theorem Tb.rows (h:Tb m w M T d β) {a:Nat->Nat} (ha:∀i,i<m->a i<w) (hM:∀k,k<m->∀i,i<m->M k (a i)=if k=i then 1 else 0) {i j:Nat} (hi:i<m) (hj:j<w):T i j=sz m fun k=>T i (a k)*M k j:=by
 obtain ⟨σ,h1,h2,h3⟩:=h.cr
 rw[h3 i hi j hj]
 have e:dc m M (upd β i j)=sz m fun k=>M k j*dc m M (upd β i (a k)):=by
  unfold dc
  rw[mo]
  have e:det m (cd (fg M β) i fun q=>M q j)=det m (cd (fg M β) i fun q=>sz m fun k=>M k j*M q (a k)):=by
   refine iK fun p q hp hq=>?_
   unfold cd
   split
   ·show M p j=sz m fun k=>M k j*M p (a k)
    rw[eQ hp fun k hk hne=>by rw[hM p hp k hk,if_neg (Ne.symm hne),Int.mul_zero],hM p hp p hp,if_pos rfl]
    omega
   ·rfl
  rw[e,tN hi (x:=fun k=>M k j) (u:=fun k q=>M q (a k))]
  exact bE fun k _=>by rw[mo]
 rw[e,<-gd]
 exact bE fun k hk=>by rw[h3 i hi _ (ha k hk)];grind
theorem Tb.bound (h:Tb m w M T d β) {i j:Nat} (hi:i<m) (hj:j<w):ab (T i j)=ab (dc m M (upd β i j)):=by
 obtain ⟨σ,h1,_,h3⟩:=h.cr
 rw[h3 i hi j hj,qj]
 have h4:ab σ*ab σ=1:=by rw[<-qj,h1];rfl
 have h5:ab σ=1:=by
  have h6:=cR σ
  by_cases h7:ab σ<=1
  ·have:ab σ≠0:=fun e=>by rw[e] at h4;simp at h4
   omega
  ·exfalso
   have:2*2<=ab σ*ab σ:=Int.mul_le_mul (by omega) (by omega) (by omega) h6
   omega
 rw[h5,Int.one_mul]
end
structure Sx where
 T:Nat->Nat->Int
 d:Int
 β:Nat->Nat
def zr (m:Nat) (wc:Nat->Int) (S:Sx) (j:Nat):Int:=wc j*S.d - sz m fun i=>wc (S.β i)*S.T i j
structure Leaves (m R:Nat) (S:Sx) (c r:Nat):Prop where
 lt:r<m
 pos:0<S.T r c
 le:∀i,i<m->0<S.T i c->S.T r R*S.T i c<=S.T i R*S.T r c
 tie:∀i,i<m->0<S.T i c->S.T r R*S.T i c=S.T i R*S.T r c->S.β r<=S.β i
structure Enters (m N:Nat) (wc:Nat->Int) (S:Sx) (c:Nat):Prop where
 lt:c<N
 neg:zr m wc S c<0
 least:∀j,j<c->0<=zr m wc S j
structure StepAt (m w:Nat) (S S':Sx) (r c:Nat):Prop where
 T:∀i j,i<m->j<w->S'.T i j=if i=r then S.T r j else piv S.T S.d r c i j
 d:S'.d=S.T r c
 β:∀i,i<m->S'.β i=upd S.β r c i
structure Step (m w N R:Nat) (wc:Nat->Int) (S S':Sx) (r c:Nat):Prop where
 enters:Enters m N wc S c
 leaves:Leaves m R S c r
 at':StepAt m w S S' r c
structure Val (m w N R:Nat) (M:Nat->Nat->Int) (S:Sx):Prop where
 tb:Tb m w M S.T S.d S.β
 feas:∀i,i<m->0<=S.T i R
 ne:∀i,i<m->S.β i≠R
section
variable {m w N R:Nat} {M:Nat->Nat->Int} {wc:Nat->Int}
theorem tz {β β':Nat->Nat} (h:∀i,i<m->β' i=β i):dc m M β'=dc m M β:=iK fun i j _ hj=>by unfold fg;rw[h j hj]
theorem Tb.congr {T T':Nat->Nat->Int} {d:Int} {β β':Nat->Nat} (h:Tb m w M T d β) (hT:∀i j,i<m->j<w->T' i j=T i j) (hβ:∀i,i<m->β' i=β i):Tb m w M T' d β':=by
 refine ⟨h.dpos,fun i hi=>by rw[hβ i hi];exact h.lt i hi,fun k hk j hj=>?_,?_⟩
 ·rw[h.co k hk j hj]
  exact bE fun i hi=>by rw[hT i j hi hj,hβ i hi]
 ·obtain ⟨σ,h1,h2,h3⟩:=h.cr
  refine ⟨σ,h1,by rw[tz hβ];exact h2,fun i hi j hj=>?_⟩
  rw[hT i j hi hj,h3 i hi j hj]
  congr 1
  exact (tz fun k hk=>by unfold upd;rw[hβ k hk]).symm
theorem Val.stepAt {S S':Sx} (h:Val m w N R M S) (hR:R<w) {r c:Nat} (hc:c<w) (hcR:c≠R) (hl:Leaves m R S c r) (hs:StepAt m w S S' r c):Val m w N R M S':=by
 have hr:=hl.lt
 have e1:sg (S.T r c)=1:=by unfold sg;rw[if_neg (by have:=hl.pos;omega)]
 have h1:=h.tb.step hr hc (by have:=hl.pos;omega)
 have h2:=h1.congr (T':=S'.T) (β':=S'.β) (fun i j hi hj=>by rw[hs.T i j hi hj];unfold nk;rw[e1,Int.one_mul]) hs.β
 rw[e1,Int.one_mul,<-hs.d] at h2
 refine ⟨h2,fun i hi=>?_,fun i hi=>?_⟩
 ·rw[hs.T i R hi hR]
  split
  ·exact h.feas r hr
  ·rename_i hne
   have h3:=jr h.tb hr hi (Ne.symm hne) hc hR
   have h4:=h.tb.dpos
   have h5:=hl.pos
   have h6:0<=S.T r c*S.T i R - S.T i c*S.T r R:=by
    by_cases h7:0<S.T i c
    ·have:=hl.le i hi h7
     have e1:=Int.mul_comm (S.T r R) (S.T i c)
     have e2:=Int.mul_comm (S.T i R) (S.T r c)
     omega
    ·have h8:0<=S.T r c*S.T i R:=Int.mul_nonneg (by omega) (h.feas i hi)
     have h9:0<= -S.T i c*S.T r R:=Int.mul_nonneg (by omega) (h.feas r hr)
     rw[Int.neg_mul] at h9
     omega
   rw[<-h3] at h6
   exact Int.nonneg_of_mul_nonneg_right h6 h4
 ·rw[hs.β i hi]
  unfold upd
  split
  ·exact hcR
  ·exact h.ne i hi
theorem Et {S:Sx} (h:Tb m w M S.T S.d S.β) {i:Nat} (hi:i<m):zr m wc S (S.β i)=0:=by
 unfold zr
 rw[eQ hi fun k hk hne=>by rw[h.other hk hi hne,Int.mul_zero],h.basis hi]
 omega
theorem uj {S:Sx} (h:Tb m w M S.T S.d S.β) {a:Nat->Nat} (ha:∀i,i<m->a i<w) (hM:∀k,k<m->∀i,i<m->M k (a i)=if k=i then 1 else 0) {j:Nat} (hj:j<w) :
  zr m wc S j=wc j*S.d - sz m fun k=>(sz m fun i=>wc (S.β i)*S.T i (a k))*M k j:=by
 unfold zr
 congr 1
 rw[bE (g:=fun i=>sz m fun k=>wc (S.β i)*S.T i (a k)*M k j) fun i hi=>by
  rw[h.rows ha hM hi hj,<-gd]
  exact bE fun k _=>by rw[Int.mul_assoc]]
 rw[tK]
 exact bE fun k _=>Bn
theorem NV {S S':Sx} (h:Tb m w M S.T S.d S.β) {r c j:Nat} (hr:r<m) (hc:c<w) (hj:j<w) (hs:StepAt m w S S' r c):S.d*zr m wc S' j=S.T r c*zr m wc S j - zr m wc S c*S.T r j:=by
 have h1:∀i,i<m->S.d*(wc (S'.β i)*S'.T i j)=(S.T r c*(wc (S.β i)*S.T i j) - S.T r j*(wc (S.β i)*S.T i c))+(if i=r then S.d*(wc c*S.T r j) else 0):=fun i hi=>by
  rw[hs.β i hi,hs.T i j hi hj]
  unfold upd
  by_cases e:i=r
  ·subst e
   simp only[if_true]
   grind
  ·simp only[e,if_false,Int.add_zero]
   have:=jr h hr hi (Ne.symm e) hc hj
   grind
 have h2:S.d*(sz m fun i=>wc (S'.β i)*S'.T i j)=S.T r c*(sz m fun i=>wc (S.β i)*S.T i j) - S.T r j*(sz m fun i=>wc (S.β i)*S.T i c)+S.d*(wc c*S.T r j):=by
  rw[<-gd,bE h1,nl,xd,gd,gd,eQ hr fun i _ hne=>if_neg hne,if_pos rfl]
 unfold zr
 rw[Int.mul_sub,h2,hs.d]
 grind
theorem Rr {S S':Sx} (h:Tb m w M S.T S.d S.β) (h':Tb m w M S'.T S'.d S'.β) {a:Nat->Nat} (ha:∀i,i<m->a i<w) (hM:∀k,k<m->∀i,i<m->M k (a i)=if k=i then 1 else 0) {s:Nat} (hs:s<w) :
  S.d*zr m wc S' s=S'.d*zr m wc S s+sz m fun i=>S.T i s*zr m wc S' (S.β i):=by
 have e1:=uj (wc:=wc) h' ha hM hs
 have e2:∀i,i<m->S.T i s*zr m wc S' (S.β i)=S'.d*(wc (S.β i)*S.T i s) - sz m fun k=>(sz m fun i=>wc (S'.β i)*S'.T i (a k))*(S.T i s*M k (S.β i)):=fun i hi=>by
  rw[uj (wc:=wc) h' ha hM (h.lt i hi),Int.mul_sub,<-gd]
  congr 1
  ·grind
  ·exact bE fun k _=>by grind
 rw[bE e2,xd,gd,tK]
 have e3:(sz m fun k=>sz m fun i=>(sz m fun i=>wc (S'.β i)*S'.T i (a k))*(S.T i s*M k (S.β i)))=S.d*sz m fun k=>(sz m fun i=>wc (S'.β i)*S'.T i (a k))*M k s:=by
  rw[<-gd]
  refine bE fun k hk=>?_
  rw[gd,<-h.co k hk s hs]
  grind
 rw[e3,e1]
 unfold zr
 grind
theorem oe {β:Nat->Nat->Nat} {q:Nat}:∀{k i:Nat},(∃p,p<m/\β i p=q)->(¬ ∃p,p<m/\β (i+k) p=q)->∃n,i<=n/\n<i+k/\(∃p,p<m/\β n p=q)/\¬ ∃p,p<m/\β (n+1) p=q
 | 0,i,h1,h2=>(h2 h1).elim
 | k+1,i,h1,h2=>by
  by_cases h:∃p,p<m/\β (i+k) p=q
  ·exact ⟨i+k,by omega,by omega,h,h2⟩
  ·obtain ⟨n,h3,h4,h5,h6⟩:=oe h1 h
   exact ⟨n,h3,by omega,h5,h6⟩
theorem lM {β:Nat->Nat->Nat} {q:Nat}:∀{k i:Nat},(¬ ∃p,p<m/\β i p=q)->(∃p,p<m/\β (i+k) p=q)->∃n,i<=n/\n<i+k/\(¬ ∃p,p<m/\β n p=q)/\∃p,p<m/\β (n+1) p=q
 | 0,i,h1,h2=>(h1 h2).elim
 | k+1,i,h1,h2=>by
  by_cases h:∃p,p<m/\β (i+k) p=q
  ·obtain ⟨n,h3,h4,h5,h6⟩:=lM h1 h
   exact ⟨n,h3,by omega,h5,h6⟩
  ·exact ⟨i+k,by omega,by omega,h,h2⟩
theorem Ry {k:Nat} {f:Nat->Nat}:0<k->∃n,n<k/\∀i,i<k->f i<=f n:=by
 induction k with
 | zero=>intro h;omega
 | succ k ih =>
  intro _
  by_cases hk:k=0
  ·subst hk
   exact ⟨0,by omega,fun i hi=>by rw[show i=0 by omega];exact Nat.le_refl _⟩
  ·obtain ⟨n,h1,h2⟩:=ih (by omega)
   by_cases h3:f k<=f n
   ·refine ⟨n,by omega,fun i hi=>?_⟩
    by_cases h4:i=k
    ·rw[h4];exact h3
    ·exact h2 i (by omega)
   ·refine ⟨k,by omega,fun i hi=>?_⟩
    by_cases h4:i=k
    ·rw[h4];exact Nat.le_refl _
    ·have:=h2 i (by omega);omega
theorem zx {e x y:Int} (he:0<e) (h:e*x<=e*y):x<=y:=Int.le_of_mul_le_mul_left h he
structure Run (m w N R:Nat) (M:Nat->Nat->Int) (wc:Nat->Int) (k:Nat) (S:Nat->Sx) (r c:Nat->Nat):Prop where
 val:∀n,n<=k->Val m w N R M (S n)
 step:∀n,n<k->Step m w N R wc (S n) (S (n+1)) (r n) (c n)
theorem Run.of {k:Nat} {S:Nat->Sx} {r c:Nat->Nat} (hN:N<=R) (hR:R<w) (h0:Val m w N R M (S 0)) (hs:∀n,n<k->Step m w N R wc (S n) (S (n+1)) (r n) (c n)):Run m w N R M wc k S r c:=by
 refine ⟨fun n=>?_,hs⟩
 induction n with
 | zero=>intro _;exact h0
 | succ n ih =>
  intro hn
  have h1:=hs n (by omega)
  have:=h1.enters.lt
  exact (ih (by omega)).stepAt hR (by omega) (by omega) h1.leaves h1.at'
theorem Run.nocycle {k:Nat} {S:Nat->Sx} {r c:Nat->Nat} {a:Nat->Nat} (ha:∀i,i<m->a i<w) (hM:∀k,k<m->∀i,i<m->M k (a i)=if k=i then 1 else 0) (hN:N<=R) (hR:R<w)
  (h:Run m w N R M wc k S r c) (hk:0<k):¬ ∀i,i<m->(S k).β i=(S 0).β i:=by
 intro hcyc
 have cw:∀n,n<k->c n<w:=fun n hn=>by have:=(h.step n hn).enters.lt;omega
 have dp:∀n,n<=k->0<(S n).d:=fun n hn=>(h.val n hn).tb.dpos
 have vstep:∀n,n<k->zr m wc (S n) R*(S (n+1)).d<=zr m wc (S (n+1)) R*(S n).d/\((S n).T (r n) R≠0->zr m wc (S n) R*(S (n+1)).d<zr m wc (S (n+1)) R*(S n).d):=fun n hn=>by
  have hs:=h.step n hn
  have h1:=NV (wc:=wc) (h.val n (by omega)).tb hs.leaves.lt (cw n hn) hR hs.at'
  have h2:=hs.enters.neg
  have h3:=(h.val n (by omega)).feas (r n) hs.leaves.lt
  have h4:0<= -zr m wc (S n) (c n)*(S n).T (r n) R:=Int.mul_nonneg (by omega) h3
  rw[Int.neg_mul] at h4
  rw[hs.at'.d,Int.mul_comm (zr m wc (S (n+1)) R),h1,Int.mul_comm (zr m wc (S n) R)]
  refine ⟨by omega,fun hne=>?_⟩
  have h5:0< -zr m wc (S n) (c n)*(S n).T (r n) R:=Int.mul_pos (by omega) (by omega)
  rw[Int.neg_mul] at h5
  omega
 have vle:∀i j,i+j<=k->zr m wc (S i) R*(S (i+j)).d<=zr m wc (S (i+j)) R*(S i).d:=by
  intro i j
  induction j with
  | zero=>intro _;exact Int.le_refl _
  | succ j ih =>
   intro hj
   have h1:=ih (by omega)
   have h2:=(vstep (i+j) (by omega)).1
   have d1:=dp i (by omega)
   have d2:=dp (i+j) (by omega)
   have d3:=dp (i+j+1) (by omega)
   refine zx d2 ?_
   have h3:=z11 h1 (Int.le_of_lt d3)
   have h4:=z11 h2 (Int.le_of_lt d1)
   rw[show i+(j+1)=i+j+1 by omega]
   calc (S (i+j)).d*(zr m wc (S i) R*(S (i+j+1)).d)=zr m wc (S i) R*(S (i+j)).d*(S (i+j+1)).d:=by grind
    _<=zr m wc (S (i+j)) R*(S i).d*(S (i+j+1)).d:=h3
    _=zr m wc (S (i+j)) R*(S (i+j+1)).d*(S i).d:=by grind
    _<=zr m wc (S (i+j+1)) R*(S (i+j)).d*(S i).d:=h4
    _=(S (i+j)).d*(zr m wc (S (i+j+1)) R*(S i).d):=by grind
 have same:(S k).d=(S 0).d/\∀i j,i<m->j<w->(S k).T i j=(S 0).T i j:=by
  obtain ⟨σ,s1,s2,s3⟩:=(h.val k (Nat.le_refl _)).tb.cr
  obtain ⟨τ,t1,t2,t3⟩:=(h.val 0 (by omega)).tb.cr
  rw[tz hcyc] at s2
  have p1:=dp k (Nat.le_refl _)
  have p2:=dp 0 (by omega)
  have e:σ=τ:=by
   have h1:σ*(S k).d=dc m M (S 0).β:=by rw[s2,<-Int.mul_assoc,s1,Int.one_mul]
   have h2:τ*(S 0).d=dc m M (S 0).β:=by rw[t2,<-Int.mul_assoc,t1,Int.one_mul]
   have pm:∀x:Int,x*x=1->x=1\/x= -1:=fun x hx=>by
    have h4:x.natAbs*x.natAbs=1:=by
     have:=congrArg Int.natAbs hx
     rwa [Int.natAbs_mul] at this
    have h5:x.natAbs=1:=Nat.eq_one_of_mul_eq_one_left h4
    omega
   rcases pm σ s1 with rfl | rfl<;>rcases pm τ t1 with rfl | rfl<;>omega
  refine ⟨by rw[s2,e];exact t2.symm,fun i j hi hj=>?_⟩
  rw[s3 i hi j hj,t3 i hi j hj,e]
  congr 1
  exact tz fun l hl=>by unfold upd;rw[hcyc l hl]
 have vend:zr m wc (S k) R=zr m wc (S 0) R:=by
  unfold zr
  rw[same.1]
  congr 1
  exact bE fun i hi=>by rw[hcyc i hi,same.2 i R hi hR]
 have flat:∀n,n<k->(S n).T (r n) R=0:=fun n hn=>by
  by_cases e:(S n).T (r n) R=0
  ·exact e
  ·exfalso
   have h1:=(vstep n hn).2 e
   have h2:=vle 0 n (by omega)
   have h3:=vle (n+1) (k - (n+1)) (by omega)
   rw[Nat.zero_add] at h2
   rw[show n+1+(k - (n+1))=k by omega,vend,same.1] at h3
   have d0:=dp 0 (by omega)
   have d1:=dp n (by omega)
   have d2:=dp (n+1) (by omega)
   have h4:=Int.mul_lt_mul_of_pos_right h1 d0
   have h5:=z11 h2 (Int.le_of_lt d2)
   have h6:=z11 h3 (Int.le_of_lt d1)
   have:zr m wc (S 0) R*(S n).d*(S (n+1)).d<zr m wc (S 0) R*(S n).d*(S (n+1)).d:=by
    calc zr m wc (S 0) R*(S n).d*(S (n+1)).d<=zr m wc (S n) R*(S 0).d*(S (n+1)).d:=h5
     _=zr m wc (S n) R*(S (n+1)).d*(S 0).d:=by grind
     _<zr m wc (S (n+1)) R*(S n).d*(S 0).d:=h4
     _=zr m wc (S (n+1)) R*(S 0).d*(S n).d:=by grind
     _<=zr m wc (S 0) R*(S (n+1)).d*(S n).d:=h6
     _=zr m wc (S 0) R*(S n).d*(S (n+1)).d:=by grind
   omega
 have zeroStep:∀n q,n<k->((∀i,i<m->(S n).β i=q->(S n).T i R=0)↔(∀i,i<m->(S (n+1)).β i=q->(S (n+1)).T i R=0)):=fun n q hn=>by
  have hs:=h.step n hn
  have hf:=flat n hn
  have htb:=(h.val n (by omega)).tb
  have key:∀i,i<m->i≠r n->((S (n+1)).T i R=0↔(S n).T i R=0):=fun i hi hne=>by
   rw[hs.at'.T i R hi hR,if_neg hne]
   have h1:=jr htb hs.leaves.lt hi (Ne.symm hne) (cw n hn) hR
   rw[hf,Int.mul_zero,Int.sub_zero] at h1
   have h2:=hs.leaves.pos
   have h3:=dp n (by omega)
   constructor
   ·intro e
    rw[e,Int.mul_zero] at h1
    rcases Int.mul_eq_zero.1 h1.symm with h4 | h4
    ·omega
    ·exact h4
   ·intro e
    rw[e,Int.mul_zero] at h1
    rcases Int.mul_eq_zero.1 h1 with h4 | h4
    ·omega
    ·exact h4
  constructor
  ·intro hz i hi hb
   by_cases e:i=r n
   ·rw[e,hs.at'.T _ R hs.leaves.lt hR,if_pos rfl];exact hf
   ·rw[hs.at'.β i hi] at hb
    unfold upd at hb
    rw[if_neg e] at hb
    exact (key i hi e).2 (hz i hi hb)
  ·intro hz i hi hb
   by_cases e:i=r n
   ·rw[e];exact hf
   ·refine (key i hi e).1 (hz i hi ?_)
    rw[hs.at'.β i hi]
    unfold upd
    rw[if_neg e]
    exact hb
 have zeroAll:∀q n,n<=k->((∀i,i<m->(S 0).β i=q->(S 0).T i R=0)↔(∀i,i<m->(S n).β i=q->(S n).T i R=0)):=fun q n=>by
  induction n with
  | zero=>intro _;exact Iff.rfl
  | succ n ih=>intro hn;exact (ih (by omega)).trans (zeroStep n q (by omega))
 have comes:∀n q,n<k->(¬ ∃p,p<m/\(S n).β p=q)->(∃p,p<m/\(S (n+1)).β p=q)->q=c n:=fun n q hn h1 ⟨p,hp,hq⟩=>by
  have hs:=h.step n hn
  rw[hs.at'.β p hp] at hq
  unfold upd at hq
  split at hq
  ·exact hq.symm
  ·exact (h1 ⟨p,hp,hq⟩).elim
 have goes:∀n q,n<k->(∃p,p<m/\(S n).β p=q)->(¬ ∃p,p<m/\(S (n+1)).β p=q)->q=(S n).β (r n):=fun n q hn ⟨p,hp,hq⟩ h1=>by
  have hs:=h.step n hn
  by_cases e:p=r n
  ·rw[<-e];exact hq.symm
  ·refine (h1 ⟨p,hp,?_⟩).elim
   rw[hs.at'.β p hp]
   unfold upd
   rw[if_neg e]
   exact hq
 have Dl:∀n,n<k->¬ ∃p,p<m/\(S n).β p=c n:=fun n hn ⟨p,hp,hq⟩=>by
  have hs:=h.step n hn
  have h1:=hs.enters.neg
  rw[<-hq,Et (h.val n (by omega)).tb hp] at h1
  omega
 have isIn:∀n,n<k->∃p,p<m/\(S (n+1)).β p=c n:=fun n hn=>by
  have hs:=h.step n hn
  refine ⟨r n,hs.leaves.lt,?_⟩
  rw[hs.at'.β _ hs.leaves.lt]
  unfold upd
  rw[if_pos rfl]
 have ends:∀q,(∃p,p<m/\(S k).β p=q)↔∃p,p<m/\(S 0).β p=q:=fun q=>by
  constructor
  ·rintro ⟨p,hp,hq⟩;exact ⟨p,hp,by rw[<-hcyc p hp];exact hq⟩
  ·rintro ⟨p,hp,hq⟩;exact ⟨p,hp,by rw[hcyc p hp];exact hq⟩
 obtain ⟨ns,hns,hmax⟩:=Ry (f:=c) hk
 have leaves:∃n,n<k/\(S n).β (r n)=c ns:=by
  by_cases h0:∃p,p<m/\(S 0).β p=c ns
  ·obtain ⟨n,h1,h2,h3,h4⟩:=oe (β:=fun n=>(S n).β) (k:=ns) (i:=0) h0 (by rw[Nat.zero_add];exact Dl ns hns)
   exact ⟨n,by omega,(goes n _ (by omega) h3 h4).symm⟩
  ·have h1:¬ ∃p,p<m/\(S k).β p=c ns:=fun e=>h0 ((ends _).1 e)
   obtain ⟨n,h2,h3,h4,h5⟩:=oe (β:=fun n=>(S n).β) (k:=k - (ns+1)) (i:=ns+1) (isIn ns hns) (by rw[show ns+1+(k - (ns+1))=k by omega];exact h1)
   exact ⟨n,by omega,(goes n _ (by omega) h4 h5).symm⟩
 obtain ⟨n,hn,hleave⟩:=leaves
 have hs:=h.step n hn
 have hst:=h.step ns hns
 have vn:=h.val n (by omega)
 have vs:=h.val ns (by omega)
 have hcn:=hmax n hn
 have hne:c n≠c ns:=fun e=>Dl n hn ⟨r n,hs.leaves.lt,by rw[hleave];exact e.symm⟩
 have id:=Rr (wc:=wc) vn.tb vs.tb ha hM (cw n hn)
 have z1:0<=zr m wc (S ns) (c n):=hst.enters.least (c n) (by omega)
 have z2:=hs.enters.neg
 have d1:=dp n (by omega)
 have d2:=dp ns (by omega)
 have hsum:0<sz m fun i=>(S n).T i (c n)*zr m wc (S ns) ((S n).β i):=by
  have h1:0<=(S n).d*zr m wc (S ns) (c n):=Int.mul_nonneg (by omega) z1
  have h2:0<(S ns).d* -zr m wc (S n) (c n):=Int.mul_pos d2 (by omega)
  rw[Int.mul_neg] at h2
  omega
 have hex:∃i,i<m/\0<(S n).T i (c n)*zr m wc (S ns) ((S n).β i):=by
  by_cases e:∃i,i<m/\0<(S n).T i (c n)*zr m wc (S ns) ((S n).β i)
  ·exact e
  ·exfalso
   have:=qx (n:=m) (f:=fun i=>(S n).T i (c n)*zr m wc (S ns) ((S n).β i)) (g:=fun _=>0) fun i hi=>Int.not_lt.1 fun h'=>e ⟨i,hi,h'⟩
   rw[gt (f:=fun _=>0) fun _ _=>rfl] at this
   omega
 obtain ⟨i,hi,hpos⟩:=hex
 have hq0:zr m wc (S ns) ((S n).β i)≠0:=fun e=>by rw[e,Int.mul_zero] at hpos;omega
 have hq1:¬ ∃p,p<m/\(S ns).β p=(S n).β i:=fun ⟨p,hp,hq⟩=>hq0 (by rw[<-hq];exact Et vs.tb hp)
 have hq2:∃p,p<m/\(S n).β p=(S n).β i:=⟨i,hi,rfl⟩
 have hq3:∃n',n'<k/\(S n).β i=c n':=by
  by_cases hlt:ns<n
  ·obtain ⟨n',h1,h2,h3,h4⟩:=lM (β:=fun n=>(S n).β) (k:=n - ns) (i:=ns) hq1 (by rw[show ns+(n - ns)=n by omega];exact hq2)
   exact ⟨n',by omega,comes n' _ (by omega) h3 h4⟩
  ·by_cases h0:∃p,p<m/\(S 0).β p=(S n).β i
   ·obtain ⟨n',h1,h2,h3,h4⟩:=lM (β:=fun n=>(S n).β) (k:=k - ns) (i:=ns) hq1 (by rw[show ns+(k - ns)=k by omega];exact (ends _).2 h0)
    exact ⟨n',by omega,comes n' _ (by omega) h3 h4⟩
   ·obtain ⟨n',h1,h2,h3,h4⟩:=lM (β:=fun n=>(S n).β) (k:=n) (i:=0) h0 (by rw[Nat.zero_add];exact hq2)
    exact ⟨n',by omega,comes n' _ (by omega) h3 h4⟩
 obtain ⟨n',hn',hq4⟩:=hq3
 have hq5:(S n).β i<=c ns:=by rw[hq4];exact hmax n' hn'
 by_cases hqt:(S n).β i=c ns
 ·have:i=r n:=vn.tb.inj hi hs.leaves.lt (by rw[hqt,hleave])
  rw[this,hleave] at hpos
  have h1:=hs.leaves.pos
  have h2:=hst.enters.neg
  have h3:0<(S n).T (r n) (c n)* -zr m wc (S ns) (c ns):=Int.mul_pos h1 (by omega)
  rw[Int.mul_neg] at h3
  omega
 ·have z3:0<=zr m wc (S ns) ((S n).β i):=hst.enters.least _ (by omega)
  have hTi:0<(S n).T i (c n):=by
   by_cases e:0<(S n).T i (c n)
   ·exact e
   ·exfalso
    have:0<= -(S n).T i (c n)*zr m wc (S ns) ((S n).β i):=Int.mul_nonneg (by omega) z3
    rw[Int.neg_mul] at this
    omega
  have hiR:(S n).T i R=0:=((zeroAll _ n (by omega)).1 ((zeroAll _ ns (by omega)).2 fun p hp hq=>(hq1 ⟨p,hp,hq⟩).elim)) i hi rfl
  have:=hs.leaves.tie i hi hTi (by rw[flat n hn,hiR,Int.zero_mul,Int.zero_mul])
  rw[hleave] at this
  omega
end
end Dn
end Go.Proofs.YtfknoaclabfdlaaGreat

namespace Go.Proofs.YtfknoaclabfdlaaGreat
noncomputable section
namespace Dn
theorem Ku:∀(K:Nat) (f:Nat->Nat),(∀i,i<=K->f i<K)->∃i j,i<j/\j<=K/\f i=f j
 | 0,f,h=>by have:=h 0 (by omega);omega
 | K+1,f,h=>by
  by_cases e:∃i,i<=K/\f i=f (K+1)
  ·obtain ⟨i,h1,h2⟩:=e
   exact ⟨i,K+1,by omega,by omega,h2⟩
  ·
   obtain ⟨i,j,h1,h2,h3⟩:=Ku K (fun i=>if f i<f (K+1) then f i else f i - 1) fun i hi=>by
    have h4:=h i (by omega)
    have h5:=h (K+1) (by omega)
    have h6:f i≠f (K+1):=fun e'=>e ⟨i,hi,e'⟩
    show (if f i<f (K+1) then f i else f i - 1)<K
    split<;>omega
   refine ⟨i,j,h1,by omega,?_⟩
   have h6:f i≠f (K+1):=fun e'=>e ⟨i,by omega,e'⟩
   have h7:f j≠f (K+1):=fun e'=>e ⟨j,by omega,e'⟩
   have h3:(if f i<f (K+1) then f i else f i - 1)=(if f j<f (K+1) then f j else f j - 1):=h3
   split at h3<;>split at h3<;>omega
def code (w:Nat) (β:Nat->Nat):Nat->Nat
 | 0=>0
 | m+1=>code w β m*w+β m
theorem GR {w:Nat} {β:Nat->Nat}:∀{m:Nat},(∀i,i<m->β i<w)->code w β m<w ^ m
 | 0,_=>by simp[code]
 | m+1,h=>by
  simp only[code]
  have h1:=GR (m:=m) fun i hi=>h i (by omega)
  have h2:=h m (by omega)
  have h3:(code w β m+1)*w<=w ^ m*w:=Nat.mul_le_mul_right _ h1
  rw[Nat.pow_succ]
  rw[Nat.add_mul,Nat.one_mul] at h3
  omega
theorem Eu {w:Nat} {β γ:Nat->Nat}:∀{m:Nat},(∀i,i<m->β i<w)->(∀i,i<m->γ i<w)->code w β m=code w γ m->∀i,i<m->β i=γ i
 | 0,_,_,_,i,hi=>by omega
 | m+1,hβ,hγ,h,i,hi=>by
  simp only[code] at h
  have h1:=hβ m (by omega)
  have h2:=hγ m (by omega)
  have e1:(code w β m*w+β m) % w=β m:=by rw[Nat.mul_comm,Nat.mul_add_mod,Nat.mod_eq_of_lt h1]
  have e2:(code w γ m*w+γ m) % w=γ m:=by rw[Nat.mul_comm,Nat.mul_add_mod,Nat.mod_eq_of_lt h2]
  have e3:β m=γ m:=by rw[<-e1,<-e2,h]
  have e4:code w β m=code w γ m:=by
   have:code w β m*w=code w γ m*w:=by omega
   exact Nat.eq_of_mul_eq_mul_right (by omega) this
  by_cases e:i=m
  ·rw[e];exact e3
  ·exact Eu (fun i hi=>hβ i (by omega)) (fun i hi=>hγ i (by omega)) e4 i (by omega)
open Classical in
def jT (p:Nat->Prop):Nat->Nat
 | 0=>0
 | k+1=>if p k then k else jT p k
theorem vC {p:Nat->Prop}:∀{K k:Nat},k<K->p k->k<=jT p K
 | K+1,k,hk,h=>by
  unfold jT
  by_cases e:k=K
  ·subst e;rw[if_pos h];exact Nat.le_refl _
  ·split
   ·omega
   ·exact vC (by omega) h
theorem rX {p:Nat->Prop} (h0:p 0):∀{K:Nat},p (jT p K)
 | 0=>h0
 | K+1=>by
  unfold jT
  split
  ·assumption
  ·exact rX h0
theorem vt {p:Nat->Prop}:∀{K:Nat},0<K->jT p K<K
 | K+1,_=>by
  unfold jT
  split
  ·omega
  ·by_cases h:K=0
   ·subst h;simp[jT]
   ·have:=vt (p:=p) (K:=K) (by omega);omega
section
variable {m w N R:Nat} {M:Nat->Nat->Int} {wc:Nat->Int}
theorem Run.short {k:Nat} {S:Nat->Sx} {r c:Nat->Nat} {a:Nat->Nat} (ha:∀i,i<m->a i<w) (hM:∀k,k<m->∀i,i<m->M k (a i)=if k=i then 1 else 0) (hN:N<=R) (hR:R<w)
  (h:Run m w N R M wc k S r c):k<w ^ m:=by
 by_cases hk:k<w ^ m
 ·exact hk
 ·exfalso
  obtain ⟨i,j,h1,h2,h3⟩:=Ku (w ^ m) (fun n=>code w (S n).β m) fun n hn=>GR (h.val n (by omega)).tb.lt
  have h4:=Eu (h.val i (by omega)).tb.lt (h.val j (by omega)).tb.lt h3
  have h5:Run m w N R M wc (j - i) (fun n=>S (i+n)) (fun n=>r (i+n)) (fun n=>c (i+n)):=⟨fun n hn=>h.val (i+n) (by omega),fun n hn=>h.step (i+n) (by omega)⟩
  refine h5.nocycle ha hM hN hR (by omega) fun p hp=>?_
  show (S (i+(j - i))).β p=(S (i+0)).β p
  rw[show i+(j - i)=j by omega,Nat.add_zero]
  exact (h4 p hp).symm
def left (m w N R:Nat) (M:Nat->Nat->Int) (wc:Nat->Int) (s:Sx):Nat:=jT (fun k=>∃S r c,S 0=s/\Run m w N R M wc k S r c) (w ^ m)
theorem GQ (hw:0<w) (s:Sx):left m w N R M wc s<w ^ m:=vt (Nat.pow_pos hw)
theorem zL {a:Nat->Nat} (ha:∀i,i<m->a i<w) (hM:∀k,k<m->∀i,i<m->M k (a i)=if k=i then 1 else 0) (hN:N<=R) (hR:R<w)
  {s s':Sx} {r c:Nat} (hv:Val m w N R M s) (hs:Step m w N R wc s s' r c):left m w N R M wc s'<left m w N R M wc s:=by
 have hv':Val m w N R M s':=by
  have:=hs.enters.lt
  exact hv.stepAt hR (by omega) (by omega) hs.leaves hs.at'
 obtain ⟨S,rr,cc,h0,h1⟩:=rX (p:=fun k=>∃S r c,S 0=s'/\Run m w N R M wc k S r c) ⟨fun _=>s',fun _=>0,fun _=>0,rfl,⟨fun n _=>hv',fun n hn=>by omega⟩⟩ (K:=w ^ m)
 have h2:Run m w N R M wc (left m w N R M wc s'+1) (fun n=>match n with | 0=>s | n+1=>S n) (fun n=>match n with | 0=>r | n+1=>rr n) (fun n=>match n with | 0=>c | n+1=>cc n):=by
  refine ⟨fun n hn=>?_,fun n hn=>?_⟩
  ·cases n with
   | zero=>exact hv
   | succ n=>exact h1.val n (by have:n+1<=left m w N R M wc s'+1:=hn;unfold left at this;omega)
  ·cases n with
   | zero =>
    show Step m w N R wc s (S 0) r c
    rw[h0];exact hs
   | succ n=>exact h1.step n (by have:n+1<left m w N R M wc s'+1:=hn;unfold left at this;omega)
 have h3:=h2.short ha hM hN hR
 exact vC h3 ⟨_,_,_,rfl,h2⟩
end
end Dn
end
end Go.Proofs.YtfknoaclabfdlaaGreat
