/- r30: what its functions answer (printed by a program), and that they do; part 2. r30: what its functions answer (printed by a program), and that they do; part 3. Plain lemmas for what functions answer: loops, machine numbers, lists. Names: both programs know the same ones. Loops over lists: searches and tests of all elements. Loops over the elements of a list, as recursions over it. Line sets: both programs know the same valid items and bricks. Line sets: bricks, lines, and valid sets. -/
import Derived.Laws.StructEq
import Derived.Test.YtmoiiokmfanlgaaGreatMgL

namespace Go.Proofs.YtmoiiokmfanlgaaGreat
open Tryz Dn Dn.Sh
set_option maxRecDepth 100000
noncomputable def slices_Equal_14_b (lp:Lp) (_:Jn) (x0:List (Int×Int)) (x1:List (Int×Int)):Option Bool :=
 bif !decide ((↑(List.length x0):Int)=(↑(List.length x1):Int)) then some false else lp (Int×PUnit) Bool (fun (again:Int×PUnit→Option Bool) (x:Int×PUnit)=>bif decide
  (x.1<(↑(List.length x0):Int)) then bif inB x.1 (List.length x0) then bif inB x.1 (List.length x1) then bif !(decide ((List.getD x0 (Int.toNat x.1) ((0:Int),(0 :
  Int))).1=(List.getD x1 (Int.toNat x.1) ((0:Int),(0:Int))).1)&&(decide ((List.getD x0 (Int.toNat x.1) ((0:Int),(0:Int))).2=(List.getD x1 (Int.toNat x.1) ((0 :
  Int),(0:Int))).2)&&true)) then some false else again (IntKind.wrap .i64 (x.1+(1:Int)),PUnit.unit) else none else none else some true) ((0:Int),PUnit.unit)
noncomputable def slices_Equal_14 (x0:List (Int×Int)) (x1:List (Int×Int)):Option Bool:=slices_Equal_14_b lpK jnK x0 x1
noncomputable def c14:Ctr:=⟨[(.sl T36),(.sl T36)],[],[],.one .bool,fun x _ _=>slices_Equal_14 x.1 x.2.1⟩
theorem e14 (lp:Lp) (jn:Jn):∀(x:TsS c14.as) (F:TsF c14.fs) (y:TsS c14.cs),slices_Equal_14_b lp jn x.1 x.2.1=runC lp jn (ctxOf prog shs inls its [] [(116,r116),(115,r115),(114,r114),(69,r69),(119,r119)]) hints 4 14 f14 c14 x F y:=fun x F y=>by kernel_rfl
theorem l14:(ctxOf prog shs inls its [] [(116,r116),(115,r115),(114,r114),(69,r69),(119,r119)]).ok:=q116
theorem ok14:c14.ok prog 14:=Ctr.of_den l14 hmix (hl:=hints) (d:=4) func14 rfl (by decide) (e14 lpK jnK)
noncomputable def house_Order_1_b (_:Lp) (_:Jn) (x0:Int) (x1:Int) (y0:ByteArray×Int×(List (ByteArray×Int×Int×Int×Int×(List Int)×Int×Int×Int×Int×Int×(List (ByteArray×Int×Int×Int×Int×Int×Int))×List (ByteArray×Int×Int)))×List (ByteArray×Int×Int×Int)):Option Int :=
 bif inB x0 (List.length y0.2.2.1) then bif inB x1 (List.length y0.2.2.1) then some (IntKind.wrap .i64 ((List.getD y0.2.2.1 (Int.toNat x0) ({ data:={ toList:=[]
  } },(0:Int),(0:Int),(0:Int),(0:Int),[],(0:Int),(0:Int),(0:Int),(0:Int),(0:Int),[],[])).2.1 - (List.getD y0.2.2.1 (Int.toNat x1) ({ data:={
  toList:=[] } },(0:Int),(0:Int),(0:Int),(0:Int),[],(0:Int),(0:Int),(0:Int),(0:Int),(0:Int),[],[])).2.1)) else none else none
noncomputable def house_Order_1 (x0:Int) (x1:Int) (y0:ByteArray×Int×(List (ByteArray×Int×Int×Int×Int×(List Int)×Int×Int×Int×Int×Int×(List (ByteArray×Int×Int×Int×Int×Int×Int))×List (ByteArray×Int×Int)))×List (ByteArray×Int×Int×Int)):Option Int:=house_Order_1_b lpK jnK x0 x1 y0
noncomputable def c45:Ctr:=⟨[i64,i64],[],[T25],.one i64,fun x _ y=>house_Order_1 x.1 x.2.1 y.1⟩
theorem e45 (lp:Lp) (jn:Jn):∀(x:TsS c45.as) (F:TsF c45.fs) (y:TsS c45.cs),house_Order_1_b lp jn x.1 x.2.1 y.1=runC lp jn (ctxOf prog shs inls its [] [(116,r116),(115,r115),(114,r114),(69,r69),(119,r119)]) hints 4 45 f45 c45 x F y:=fun x F y=>by kernel_rfl
theorem l45:(ctxOf prog shs inls its [] [(116,r116),(115,r115),(114,r114),(69,r69),(119,r119)]).ok:=q116
theorem ok45:c45.ok prog 45:=Ctr.of_den l45 hmix (hl:=hints) (d:=4) func45 rfl (by decide) (e45 lpK jnK)
noncomputable def house_Order_b (lp:Lp) (_:Jn) (house_Valid:(ByteArray×Int×(List (ByteArray×Int×Int×Int×Int×(List Int)×Int×Int×Int×Int×Int×(List (ByteArray×Int×Int×Int×Int×Int×Int))×List (ByteArray×Int×Int)))×List (ByteArray×Int×Int×Int))→Option (Bool)) (house_Order_1:(Int)→(Int)→(ByteArray×Int×(List (ByteArray×Int×Int×Int×Int×(List Int)×Int×Int×Int×Int×Int×(List (ByteArray×Int×Int×Int×Int×Int×Int))×List (ByteArray×Int×Int)))×List (ByteArray×Int×Int×Int))→Option (Int)) (x0:ByteArray×Int×(List (ByteArray×Int×Int×Int×Int×(List Int)×Int×Int×Int×Int×Int×(List (ByteArray×Int×Int×Int×Int×Int×Int))×List (ByteArray×Int×Int)))×List (ByteArray×Int×Int×Int)):Option ((List Int)×Int×Unit) :=
 obind (house_Valid x0) fun (t:Bool)=>bif !t then some ([],(1:Int),PUnit.unit) else lp (List Int×Int×PUnit) (List Int×Int×PUnit) (fun (again:List Int×Int×PUnit→Option
  (List Int×Int×PUnit)) (x:List Int×Int×PUnit)=>bif decide (x.2.1<(↑(List.length x0.2.2.1):Int)) then bif fitB (List.length x.1+(1:Nat)) (8:Nat) then
  again (x.1++[x.2.1],IntKind.wrap .i64 (x.2.1+(1:Int)),PUnit.unit) else none else lp (Int×Int×List Int×PUnit) (List Int×Int×PUnit) (fun (again:Int ×
  Int×List Int×PUnit→Option (List Int×Int×PUnit)) (x_1:Int×Int×List Int×PUnit) =>
 let v8:Int×List Int×PUnit:=(IntKind.wrap .i64 (x_1.1+(1:Int)),x_1.2.2.1,PUnit.unit);bif decide (x_1.2.1≤(↑(List.length x.1):Int)) then lp (Int ×
  List Int×PUnit) (List Int×Int×PUnit) (fun (again_1:Int×List Int×PUnit→Option (List Int×Int×PUnit)) (x:Int×List Int×PUnit) =>
 let v11:List Int×PUnit:=(x.2.1,PUnit.unit);bif decide (x.1<x_1.2.1) then lp (Int×List Int×PUnit) (List Int×Int×PUnit) (fun (again:Int×List Int×PUnit →
  Option (List Int×Int×PUnit)) (x_2:Int×List Int×PUnit) =>
 let v14:Bool:=inB x_2.1 (List.length x_2.2.1);
 let v15:Int:=IntKind.wrap .i64 (x_2.1 - (1:Int));
 let v16:Bool:=Nat.ble (Nat.succ (Int.toNat x_2.1)) (List.length x_2.2.1);
 let v17:Int:=List.getD x_2.2.1 (Int.toNat x_2.1) (0:Int);
 let v18:Bool:=inB v15 (List.length x_2.2.1);
 let v19:Bool:=decide (x_2.1>x_1.1);
 let v20:Bool:=Nat.ble (Nat.succ (Int.toNat v15)) (List.length x_2.2.1);
 let v21:Bool:=!v19;
 let v22:Int:=List.getD x_2.2.1 (Int.toNat v15) (0:Int);
 let v23:Bool:=v21||v19;bif v23&&(v23&&(v21||v14)) then bif v23&&(v21||v16) then bif v23 then bif v23&&(v23&&(v21||v18)) then bif v23&&(v21||v20) then bif v23 &&
  (v23&&v23) then obind (bif v19 then house_Order_1 v17 v22 x0 else some (0:Int)) fun (t:Int)=>bif v23 then bif v23 then bif bif v19 then decide (t<(0:Int)) else false then
  bif v18 then bif v20 then bif v14 then bif v16 then bif v14 then bif v16 then bif v18 then bif v20 then again (v15,List.set (List.set x_2.2.1 (Int.toNat x_2.1) v22) (Int.toNat
  v15) v17,PUnit.unit) else none else none else none else none else none else none else none else none else again_1 (IntKind.wrap .i64 (x.1+(1:Int)),x_2.2.1,
  PUnit.unit) else none else none else none else none else none else none else none else none) (x.1,v11) else again (x_1.2.1,IntKind.wrap .i64 (x_1.2.1+(20:Int)),
  v11)) v8 else lp (Int×List Int×PUnit) (List Int×Int×PUnit) (fun (again:Int×List Int×PUnit→Option (List Int×Int×PUnit)) (x_2:Int×List Int×PUnit)=>bif decide
  (x_2.1<(↑(List.length x.1):Int)) then lp (Int×List Int×PUnit) (List Int×Int×PUnit) (fun (again_1:Int×List Int×PUnit→Option (List Int×Int×PUnit)) (x:Int ×
  List Int×PUnit) =>
 let v13:Bool:=inB x.1 (List.length x.2.1);
 let v14:Int:=IntKind.wrap .i64 (x.1 - (1:Int));
 let v15:Bool:=Nat.ble (Nat.succ (Int.toNat x.1)) (List.length x.2.1);
 let v16:Int:=List.getD x.2.1 (Int.toNat x.1) (0:Int);
 let v17:Bool:=inB v14 (List.length x.2.1);
 let v18:Bool:=decide (x.1>x_1.1);
 let v19:Bool:=Nat.ble (Nat.succ (Int.toNat v14)) (List.length x.2.1);
 let v20:Bool:=!v18;
 let v21:Int:=List.getD x.2.1 (Int.toNat v14) (0:Int);
 let v22:Bool:=v20||v18;bif v22&&(v22&&(v20||v13)) then bif v22&&(v20||v15) then bif v22 then bif v22&&(v22&&(v20||v17)) then bif v22&&(v20||v19) then bif v22 &&
  (v22&&v22) then obind (bif v18 then house_Order_1 v16 v21 x0 else some (0:Int)) fun (t:Int)=>bif v22 then bif v22 then bif bif v18 then decide (t<(0:Int)) else false then
  bif v17 then bif v19 then bif v13 then bif v15 then bif v13 then bif v15 then bif v17 then bif v19 then again_1 (v14,List.set (List.set x.2.1 (Int.toNat x.1) v21) (Int.toNat v14)
  v16,PUnit.unit) else none else none else none else none else none else none else none else none else again (IntKind.wrap .i64 (x_2.1+(1:Int)),x.2.1,PUnit.unit) else
  none else none else none else none else none else none else none else none) (x_2.1,x_2.2.1,PUnit.unit) else lp (Int×PUnit) (List Int×Int×PUnit) (fun (again:Int×PUnit →
  Option (List Int×Int×PUnit)) (x_3:Int×PUnit)=>bif decide (x_3.1<(↑(List.length x.1):Int)) then lp (Int×Int×PUnit) (List Int×Int×PUnit) (fun (again_1:Int ×
  Int×PUnit→Option (List Int×Int×PUnit)) (x_4:Int×Int×PUnit)=>bif decide (x_4.2.1≤(↑(List.length x.1):Int)) then none else bif decide (IntKind.wrap .i64
  (x_4.1+x_3.1)<(↑(List.length x.1):Int)) then none else again (IntKind.wrap .i64 (x_3.1*(2:Int)),PUnit.unit)) ((0:Int),IntKind.wrap .i64 ((2:Int) *
  x_3.1),PUnit.unit) else some (x_2.2.1,(0:Int),PUnit.unit)) ((20:Int),PUnit.unit)) v8) ((0:Int),(20:Int),x.1,PUnit.unit)) ([],(0:Int),PUnit.unit)
noncomputable def house_Order (x0:ByteArray×Int×(List (ByteArray×Int×Int×Int×Int×(List Int)×Int×Int×Int×Int×Int×(List (ByteArray×Int×Int×Int×Int×Int×Int))×List (ByteArray×Int×Int)))×List (ByteArray×Int×Int×Int)):Option ((List Int)×Int×Unit):=house_Order_b lpK jnK house_Valid house_Order_1 x0
noncomputable def c16:Ctr:=⟨[T25],[],[],.tup [(.sl i64),i64],fun x _ _=>house_Order x.1⟩
theorem e16 (lp:Lp) (jn:Jn) (house_Valid:(ByteArray×Int×(List (ByteArray×Int×Int×Int×Int×(List Int)×Int×Int×Int×Int×Int×(List (ByteArray×Int×Int×Int×Int×Int×Int))×List (ByteArray×Int×Int)))×List (ByteArray×Int×Int×Int))→Option (Bool)) (house_Order_1:(Int)→(Int)→(ByteArray×Int×(List (ByteArray×Int×Int×Int×Int×(List Int)×Int×Int×Int×Int×Int×(List (ByteArray×Int×Int×Int×Int×Int×Int))×List (ByteArray×Int×Int)))×List (ByteArray×Int×Int×Int))→Option (Int)):∀(x:TsS c16.as) (F:TsF c16.fs) (y:TsS c16.cs),house_Order_b lp jn house_Valid house_Order_1 x.1=runC lp jn (ctxOf prog shs inls its [(45,⟨[i64,i64],[],[T25],.one i64,fun x _ y=>house_Order_1 x.1 x.2.1 y.1⟩),(32,⟨[T25],[],[],.one .bool,fun x _ _=>house_Valid x.1⟩)] [(116,r116),(115,r115),(114,r114),(69,r69),(119,r119)]) hints 4 16 f16 c16 x F y:=fun x F y=>by kernel_rfl
theorem l16:(ctxOf prog shs inls its [(45,c45),(32,c32)] [(116,r116),(115,r115),(114,r114),(69,r69),(119,r119)]).ok:=ctxOf_cons (ctxOf_cons (q116) (by kernel_rfl) ok32) (by kernel_rfl) ok45
theorem ok16:c16.ok prog 16:=Ctr.of_den l16 hmix (hl:=hints) (d:=4) func16 rfl (by decide) (e16 lpK jnK house_Valid house_Order_1)
noncomputable def slices_Index_46_b (lp:Lp) (_:Jn) (x0:List Int) (x1:Int):Option Int :=
 lp (Int×PUnit) Int (fun (again:Int×PUnit→Option Int) (x:Int×PUnit)=>bif decide (x.1<(↑(List.length x0):Int)) then bif inB x.1 (List.length x0) then bif decide (x1 =
  List.getD x0 (Int.toNat x.1) (0:Int)) then some x.1 else again (IntKind.wrap .i64 (x.1+(1:Int)),PUnit.unit) else none else some (-1:Int)) ((0:Int),PUnit.unit)
noncomputable def slices_Index_46 (x0:List Int) (x1:Int):Option Int:=slices_Index_46_b lpK jnK x0 x1
noncomputable def c46:Ctr:=⟨[(.sl i64),i64],[],[],.one i64,fun x _ _=>slices_Index_46 x.1 x.2.1⟩
theorem e46 (lp:Lp) (jn:Jn):∀(x:TsS c46.as) (F:TsF c46.fs) (y:TsS c46.cs),slices_Index_46_b lp jn x.1 x.2.1=runC lp jn (ctxOf prog shs inls its [] [(116,r116),(115,r115),(114,r114),(69,r69),(119,r119)]) hints 4 46 f46 c46 x F y:=fun x F y=>by kernel_rfl
theorem l46:(ctxOf prog shs inls its [] [(116,r116),(115,r115),(114,r114),(69,r69),(119,r119)]).ok:=q116
theorem ok46:c46.ok prog 46:=Ctr.of_den l46 hmix (hl:=hints) (d:=4) func46 rfl (by decide) (e46 lpK jnK)
noncomputable def house_back_b (lp:Lp) (_:Jn) (x0:ByteArray×Int×Int×Int×Int×(List Int)×Int×Int×Int×Int×Int×(List (ByteArray×Int×Int×Int×Int×Int×Int))×List (ByteArray×Int×Int)):Option Int :=
 lp (Int×Int×PUnit) Int (fun (again:Int×Int×PUnit→Option Int) (x:Int×Int×PUnit)=>bif decide (x.2.1<(↑(List.length
  x0.2.2.2.2.2.2.2.2.2.2.2.1):Int)) then bif inB x.2.1 (List.length x0.2.2.2.2.2.2.2.2.2.2.2.1) then again (if (List.getD
  x0.2.2.2.2.2.2.2.2.2.2.2.1 (Int.toNat x.2.1) ({ data:={ toList:=[] } },(0:Int),(0:Int),(0:Int),(0:Int),(0:Int),(0 :
  Int))).2.2.2.2.2.2>x.1 then (List.getD x0.2.2.2.2.2.2.2.2.2.2.2.1 (Int.toNat x.2.1) ({ data:={ toList:=[] } },(0:Int),(0:Int),(0 :
  Int),(0:Int),(0:Int),(0:Int))).2.2.2.2.2.2 else x.1,IntKind.wrap .i64 (x.2.1+(1:Int)),PUnit.unit) else none else some (IntKind.wrap .i64
  (x0.2.1 - x.1))) ((0:Int),(0:Int),PUnit.unit)
noncomputable def house_back (x0:ByteArray×Int×Int×Int×Int×(List Int)×Int×Int×Int×Int×Int×(List (ByteArray×Int×Int×Int×Int×Int×Int))×List (ByteArray×Int×Int)):Option Int:=house_back_b lpK jnK x0
noncomputable def c48:Ctr:=⟨[T44],[],[],.one i64,fun x _ _=>house_back x.1⟩
theorem e48 (lp:Lp) (jn:Jn):∀(x:TsS c48.as) (F:TsF c48.fs) (y:TsS c48.cs),house_back_b lp jn x.1=runC lp jn (ctxOf prog shs inls its [] [(116,r116),(115,r115),(114,r114),(69,r69),(119,r119)]) hints 4 48 f48 c48 x F y:=fun x F y=>by kernel_rfl
theorem l48:(ctxOf prog shs inls its [] [(116,r116),(115,r115),(114,r114),(69,r69),(119,r119)]).ok:=q116
theorem ok48:c48.ok prog 48:=Ctr.of_den l48 hmix (hl:=hints) (d:=4) func48 rfl (by decide) (e48 lpK jnK)
noncomputable def house_front_b (lp:Lp) (_:Jn) (x0:ByteArray×Int×Int×Int×Int×(List Int)×Int×Int×Int×Int×Int×(List (ByteArray×Int×Int×Int×Int×Int×Int))×List (ByteArray×Int×Int)):Option Int :=
 lp (Int×Int×PUnit) Int (fun (again:Int×Int×PUnit→Option Int) (x:Int×Int×PUnit)=>bif decide (x.2.1<(↑(List.length
  x0.2.2.2.2.2.2.2.2.2.2.2.1):Int)) then bif inB x.2.1 (List.length x0.2.2.2.2.2.2.2.2.2.2.2.1) then again (if (List.getD
  x0.2.2.2.2.2.2.2.2.2.2.2.1 (Int.toNat x.2.1) ({ data:={ toList:=[] } },(0:Int),(0:Int),(0:Int),(0:Int),(0:Int),(0 :
  Int))).2.2.2.2.2.1>x.1 then (List.getD x0.2.2.2.2.2.2.2.2.2.2.2.1 (Int.toNat x.2.1) ({ data:={ toList:=[] } },(0:Int),(0:Int),(0 :
  Int),(0:Int),(0:Int),(0:Int))).2.2.2.2.2.1 else x.1,IntKind.wrap .i64 (x.2.1+(1:Int)),PUnit.unit) else none else some (IntKind.wrap .i64
  (x0.2.1+x.1))) ((0:Int),(0:Int),PUnit.unit)
noncomputable def house_front (x0:ByteArray×Int×Int×Int×Int×(List Int)×Int×Int×Int×Int×Int×(List (ByteArray×Int×Int×Int×Int×Int×Int))×List (ByteArray×Int×Int)):Option Int:=house_front_b lpK jnK x0
noncomputable def c49:Ctr:=⟨[T44],[],[],.one i64,fun x _ _=>house_front x.1⟩
theorem e49 (lp:Lp) (jn:Jn):∀(x:TsS c49.as) (F:TsF c49.fs) (y:TsS c49.cs),house_front_b lp jn x.1=runC lp jn (ctxOf prog shs inls its [] [(116,r116),(115,r115),(114,r114),(69,r69),(119,r119)]) hints 4 49 f49 c49 x F y:=fun x F y=>by kernel_rfl
theorem l49:(ctxOf prog shs inls its [] [(116,r116),(115,r115),(114,r114),(69,r69),(119,r119)]).ok:=q116
theorem ok49:c49.ok prog 49:=Ctr.of_den l49 hmix (hl:=hints) (d:=4) func49 rfl (by decide) (e49 lpK jnK)
noncomputable def house_Gap_b (_:Lp) (_:Jn) (house_find:(ByteArray×Int×(List (ByteArray×Int×Int×Int×Int×(List Int)×Int×Int×Int×Int×Int×(List (ByteArray×Int×Int×Int×Int×Int×Int))×List (ByteArray×Int×Int)))×List (ByteArray×Int×Int×Int))→(ByteArray)→Option (Int)) (house_Order:(ByteArray×Int×(List (ByteArray×Int×Int×Int×Int×(List Int)×Int×Int×Int×Int×Int×(List (ByteArray×Int×Int×Int×Int×Int×Int))×List (ByteArray×Int×Int)))×List (ByteArray×Int×Int×Int))→Option ((List Int)×Int×Unit)) (slices_Index_46:(List Int)→(Int)→Option (Int)) (house_back:(ByteArray×Int×Int×Int×Int×(List Int)×Int×Int×Int×Int×Int×(List (ByteArray×Int×Int×Int×Int×Int×Int))×List (ByteArray×Int×Int))→Option (Int)) (house_front:(ByteArray×Int×Int×Int×Int×(List Int)×Int×Int×Int×Int×Int×(List (ByteArray×Int×Int×Int×Int×Int×Int))×List (ByteArray×Int×Int))→Option (Int)) (x0:ByteArray×Int×(List (ByteArray×Int×Int×Int×Int×(List Int)×Int×Int×Int×Int×Int×(List (ByteArray×Int×Int×Int×Int×Int×Int))×List (ByteArray×Int×Int)))×List (ByteArray×Int×Int×Int)) (x1:ByteArray) (x2:ByteArray):Option (Int×Int×Unit) :=
 obind (house_Order x0) fun (t:List Int×Int×PUnit)=>bif !decide (t.2.1=(0:Int)) then some ((0:Int),t.2.1,PUnit.unit) else obind (house_find x0 x1) fun (t_1:Int) =>
 let v7:Bool:=decide (t_1<(0:Int));
 let v8:Bool:=!v7;
 let v9:ByteArray×Int×Int×Int×Int×List Int×Int×Int×Int×Int×Int×List (ByteArray×Int×Int×Int×Int×Int×Int)×List (ByteArray×Int×Int):=List.getD
  x0.2.2.1 (Int.toNat t_1) ({ data:={ toList:=[] } },(0:Int),(0:Int),(0:Int),(0:Int),[],(0:Int),(0:Int),(0:Int),(0:Int),(0:Int),[],[]);obind
  (house_find x0 x2) fun (t_2:Int) =>
 let v11:ByteArray×Int×Int×Int×Int×List Int×Int×Int×Int×Int×Int×List (ByteArray×Int×Int×Int×Int×Int×Int)×List (ByteArray×Int×Int):=List.getD
  x0.2.2.1 (Int.toNat t_2) ({ data:={ toList:=[] } },(0:Int),(0:Int),(0:Int),(0:Int),[],(0:Int),(0:Int),(0:Int),(0:Int),(0:Int),[],[]);bif !v8 ||
  v8 then bif v7||v8 then bif bif v7 then true else decide (t_2<(0:Int)) then some ((0:Int),(9:Int),PUnit.unit) else bif decide (t_1=t_2) then some ((0:Int),(10:Int),
  PUnit.unit) else bif inB t_1 (List.length x0.2.2.1) then bif inB t_2 (List.length x0.2.2.1) then obind (slices_Index_46 t.1 t_1) fun (t_3:Int)=>obind (slices_Index_46
  t.1 t_2) fun (t:Int)=>bif decide (t_3>t) then obind (house_back v9) fun (t:Int)=>obind (house_front v11) fun (t_4:Int)=>some (IntKind.wrap .i64 (t - t_4),(0 :
  Int),PUnit.unit) else obind (house_back v11) fun (t:Int)=>obind (house_front v9) fun (t_4:Int)=>some (IntKind.wrap .i64 (t - t_4),(0:Int),PUnit.unit) else none else
  none else none else none
noncomputable def house_Gap (x0:ByteArray×Int×(List (ByteArray×Int×Int×Int×Int×(List Int)×Int×Int×Int×Int×Int×(List (ByteArray×Int×Int×Int×Int×Int×Int))×List (ByteArray×Int×Int)))×List (ByteArray×Int×Int×Int)) (x1:ByteArray) (x2:ByteArray):Option (Int×Int×Unit):=house_Gap_b lpK jnK house_find house_Order slices_Index_46 house_back house_front x0 x1 x2
noncomputable def c18:Ctr:=⟨[T25,.str,.str],[],[],.tup [i64,i64],fun x _ _=>house_Gap x.1 x.2.1 x.2.2.1⟩
theorem e18 (lp:Lp) (jn:Jn) (house_find:(ByteArray×Int×(List (ByteArray×Int×Int×Int×Int×(List Int)×Int×Int×Int×Int×Int×(List (ByteArray×Int×Int×Int×Int×Int×Int))×List (ByteArray×Int×Int)))×List (ByteArray×Int×Int×Int))→(ByteArray)→Option (Int)) (house_Order:(ByteArray×Int×(List (ByteArray×Int×Int×Int×Int×(List Int)×Int×Int×Int×Int×Int×(List (ByteArray×Int×Int×Int×Int×Int×Int))×List (ByteArray×Int×Int)))×List (ByteArray×Int×Int×Int))→Option ((List Int)×Int×Unit)) (slices_Index_46:(List Int)→(Int)→Option (Int)) (house_back:(ByteArray×Int×Int×Int×Int×(List Int)×Int×Int×Int×Int×Int×(List (ByteArray×Int×Int×Int×Int×Int×Int))×List (ByteArray×Int×Int))→Option (Int)) (house_front:(ByteArray×Int×Int×Int×Int×(List Int)×Int×Int×Int×Int×Int×(List (ByteArray×Int×Int×Int×Int×Int×Int))×List (ByteArray×Int×Int))→Option (Int)):∀(x:TsS c18.as) (F:TsF c18.fs) (y:TsS c18.cs),house_Gap_b lp jn house_find house_Order slices_Index_46 house_back house_front x.1 x.2.1 x.2.2.1=runC lp jn (ctxOf prog shs inls its [(49,⟨[T44],[],[],.one i64,fun x _ _=>house_front x.1⟩),(48,⟨[T44],[],[],.one i64,fun x _ _=>house_back x.1⟩),(46,⟨[(.sl i64),i64],[],[],.one i64,fun x _ _=>slices_Index_46 x.1 x.2.1⟩),(16,⟨[T25],[],[],.tup [(.sl i64),i64],fun x _ _=>house_Order x.1⟩),(47,⟨[T25,.str],[],[],.one i64,fun x _ _=>house_find x.1 x.2.1⟩)] [(116,r116),(115,r115),(114,r114),(69,r69),(119,r119)]) hints 4 18 f18 c18 x F y:=fun x F y=>by kernel_rfl
theorem l18:(ctxOf prog shs inls its [(49,c49),(48,c48),(46,c46),(16,c16),(47,c47)] [(116,r116),(115,r115),(114,r114),(69,r69),(119,r119)]).ok:=ctxOf_cons (ctxOf_cons (ctxOf_cons (ctxOf_cons (ctxOf_cons (q116) (by kernel_rfl) ok47) (by kernel_rfl) ok16) (by kernel_rfl) ok46) (by kernel_rfl) ok48) (by kernel_rfl) ok49
theorem ok18:c18.ok prog 18:=Ctr.of_den l18 hmix (hl:=hints) (d:=4) func18 rfl (by decide) (e18 lpK jnK house_find house_Order slices_Index_46 house_back house_front)
noncomputable def slices_Equal_26_b (lp:Lp) (_:Jn) (x0:List Int) (x1:List Int):Option Bool :=
 bif !decide ((↑(List.length x0):Int)=(↑(List.length x1):Int)) then some false else lp (Int×PUnit) Bool (fun (again:Int×PUnit→Option Bool) (x:Int×PUnit)=>bif decide
  (x.1<(↑(List.length x0):Int)) then bif inB x.1 (List.length x0) then bif inB x.1 (List.length x1) then bif !decide (List.getD x0 (Int.toNat x.1) (0:Int)=List.getD x1
  (Int.toNat x.1) (0:Int)) then some false else again (IntKind.wrap .i64 (x.1+(1:Int)),PUnit.unit) else none else none else some true) ((0:Int),PUnit.unit)
noncomputable def slices_Equal_26 (x0:List Int) (x1:List Int):Option Bool:=slices_Equal_26_b lpK jnK x0 x1
noncomputable def c26:Ctr:=⟨[(.sl i64),(.sl i64)],[],[],.one .bool,fun x _ _=>slices_Equal_26 x.1 x.2.1⟩
theorem e26 (lp:Lp) (jn:Jn):∀(x:TsS c26.as) (F:TsF c26.fs) (y:TsS c26.cs),slices_Equal_26_b lp jn x.1 x.2.1=runC lp jn (ctxOf prog shs inls its [] [(116,r116),(115,r115),(114,r114),(69,r69),(119,r119)]) hints 4 26 f26 c26 x F y:=fun x F y=>by kernel_rfl
theorem l26:(ctxOf prog shs inls its [] [(116,r116),(115,r115),(114,r114),(69,r69),(119,r119)]).ok:=q116
theorem ok26:c26.ok prog 26:=Ctr.of_den l26 hmix (hl:=hints) (d:=4) func26 rfl (by decide) (e26 lpK jnK)
noncomputable def law30_example_1_b (_:Lp) (_:Jn) (x0:ByteArray) (x1:Int) (x2:Int) (x3:Int):Option (ByteArray×Int×Int×Int×Int×(List Int)×Int×Int×Int×Int×Int×(List (ByteArray×Int×Int×Int×Int×Int×Int))×List (ByteArray×Int×Int)) :=
 some (x0,x1,(0:Int),(5000:Int),(2000:Int),[(0:Int),(2000:Int)],(0:Int),(0:Int),(1:Int),(1:Int),(0:Int),[({ data:=#[(100:UInt8),(114:UInt8),(111 :
  UInt8),(112:UInt8)] },(0:Int),(2000:Int),(700:Int),(0:Int),x2,x3)],[])
noncomputable def law30_example_1 (x0:ByteArray) (x1:Int) (x2:Int) (x3:Int):Option (ByteArray×Int×Int×Int×Int×(List Int)×Int×Int×Int×Int×Int×(List (ByteArray×Int×Int×Int×Int×Int×Int))×List (ByteArray×Int×Int)):=law30_example_1_b lpK jnK x0 x1 x2 x3
noncomputable def c71:Ctr:=⟨[.str,i64,i64,i64],[],[],.one T44,fun x _ _=>law30_example_1 x.1 x.2.1 x.2.2.1 x.2.2.2.1⟩
theorem e71 (lp:Lp) (jn:Jn):∀(x:TsS c71.as) (F:TsF c71.fs) (y:TsS c71.cs),law30_example_1_b lp jn x.1 x.2.1 x.2.2.1 x.2.2.2.1=runC lp jn (ctxOf prog shs inls its [] [(116,r116),(115,r115),(114,r114),(69,r69),(119,r119)]) hints 4 71 f71 c71 x F y:=fun x F y=>by kernel_rfl
theorem l71:(ctxOf prog shs inls its [] [(116,r116),(115,r115),(114,r114),(69,r69),(119,r119)]).ok:=q116
theorem ok71:c71.ok prog 71:=Ctr.of_den l71 hmix (hl:=hints) (d:=4) func71 rfl (by decide) (e71 lpK jnK)
noncomputable def law30_example_b (_:Lp) (_:Jn) (law30_example_1:(ByteArray)→(Int)→(Int)→(Int)→Option (ByteArray×Int×Int×Int×Int×(List Int)×Int×Int×Int×Int×Int×(List (ByteArray×Int×Int×Int×Int×Int×Int))×List (ByteArray×Int×Int))):Option (ByteArray×Int×(List (ByteArray×Int×Int×Int×Int×(List Int)×Int×Int×Int×Int×Int×(List (ByteArray×Int×Int×Int×Int×Int×Int))×List (ByteArray×Int×Int)))×List (ByteArray×Int×Int×Int)) :=
 obind (law30_example_1 { data:={ toList:=[{ toBitVec:={ toFin:=⟨(102:Nat),Nat.mod_lt (102:Nat) (BitVec.ofNat._proof_1 (8:Nat))⟩ } },{ toBitVec:={ toFin:=⟨(97:Nat),
  Nat.mod_lt (97:Nat) (BitVec.ofNat._proof_1 (8:Nat))⟩ } },{ toBitVec:={ toFin:=⟨(114:Nat),Nat.mod_lt (114:Nat) (BitVec.ofNat._proof_1 (8:Nat))⟩ } }] } } (500:Int) (0 :
  Int) (60:Int)) fun (t:ByteArray×Int×Int×Int×Int×List Int×Int×Int×Int×Int×Int×List (ByteArray×Int×Int×Int×Int×Int×Int)×List (ByteArray×Int ×
  Int))=>obind (law30_example_1 { data:={ toList:=[{ toBitVec:={ toFin:=⟨(110:Nat),Nat.mod_lt (110:Nat) (BitVec.ofNat._proof_1 (8:Nat))⟩ } },{ toBitVec:={ toFin :=
  ⟨(101:Nat),Nat.mod_lt (101:Nat) (BitVec.ofNat._proof_1 (8:Nat))⟩ } },{ toBitVec:={ toFin:=⟨(97:Nat),Nat.mod_lt (97:Nat) (BitVec.ofNat._proof_1 (8:Nat))⟩ } },{
  toBitVec:={ toFin:=⟨(114:Nat),Nat.mod_lt (114:Nat) (BitVec.ofNat._proof_1 (8:Nat))⟩ } }] } } (300:Int) (40:Int) (0:Int)) fun (t_1:ByteArray×Int×Int×Int×Int ×
  List Int×Int×Int×Int×Int×Int×List (ByteArray×Int×Int×Int×Int×Int×Int)×List (ByteArray×Int×Int))=>some ({ data:=#[(104:UInt8)] },(5000:Int),[t,
  t_1],[({ data:=#[(114:UInt8)] },(0:Int),(400:Int),(1:Int)),({ data:=#[(113:UInt8)] },(0:Int),(1000:Int),(1:Int))])
noncomputable def law30_example:Option (ByteArray×Int×(List (ByteArray×Int×Int×Int×Int×(List Int)×Int×Int×Int×Int×Int×(List (ByteArray×Int×Int×Int×Int×Int×Int))×List (ByteArray×Int×Int)))×List (ByteArray×Int×Int×Int)):=law30_example_b lpK jnK law30_example_1
noncomputable def c39:Ctr:=⟨[],[],[],.one T25,fun _ _ _=>law30_example⟩
theorem e39 (lp:Lp) (jn:Jn) (law30_example_1:(ByteArray)→(Int)→(Int)→(Int)→Option (ByteArray×Int×Int×Int×Int×(List Int)×Int×Int×Int×Int×Int×(List (ByteArray×Int×Int×Int×Int×Int×Int))×List (ByteArray×Int×Int))):∀(x:TsS c39.as) (F:TsF c39.fs) (y:TsS c39.cs),law30_example_b lp jn law30_example_1=runC lp jn (ctxOf prog shs inls its [(71,⟨[.str,i64,i64,i64],[],[],.one T44,fun x _ _=>law30_example_1 x.1 x.2.1 x.2.2.1 x.2.2.2.1⟩)] [(116,r116),(115,r115),(114,r114),(69,r69),(119,r119)]) hints 4 39 f39 c39 x F y:=fun x F y=>by kernel_rfl
theorem l39:(ctxOf prog shs inls its [(71,c71)] [(116,r116),(115,r115),(114,r114),(69,r69),(119,r119)]).ok:=ctxOf_cons (q116) (by kernel_rfl) ok71
theorem ok39:c39.ok prog 39:=Ctr.of_den l39 hmix (hl:=hints) (d:=4) func39 rfl (by decide) (e39 lpK jnK law30_example_1)
noncomputable def law30_awake_b (_:Lp) (_:Jn) (house_Valid:(ByteArray×Int×(List (ByteArray×Int×Int×Int×Int×(List Int)×Int×Int×Int×Int×Int×(List (ByteArray×Int×Int×Int×Int×Int×Int))×List (ByteArray×Int×Int)))×List (ByteArray×Int×Int×Int))→Option (Bool)) (house_Loads:(ByteArray×Int×(List (ByteArray×Int×Int×Int×Int×(List Int)×Int×Int×Int×Int×Int×(List (ByteArray×Int×Int×Int×Int×Int×Int))×List (ByteArray×Int×Int)))×List (ByteArray×Int×Int×Int))→Option ((List (Int×Int))×Int×Unit)) (slices_Equal_14:(List (Int×Int))→(List (Int×Int))→Option (Bool)) (house_Order:(ByteArray×Int×(List (ByteArray×Int×Int×Int×Int×(List Int)×Int×Int×Int×Int×Int×(List (ByteArray×Int×Int×Int×Int×Int×Int))×List (ByteArray×Int×Int)))×List (ByteArray×Int×Int×Int))→Option ((List Int)×Int×Unit)) (house_Gap:(ByteArray×Int×(List (ByteArray×Int×Int×Int×Int×(List Int)×Int×Int×Int×Int×Int×(List (ByteArray×Int×Int×Int×Int×Int×Int))×List (ByteArray×Int×Int)))×List (ByteArray×Int×Int×Int))→(ByteArray)→(ByteArray)→Option (Int×Int×Unit)) (slices_Equal_26:(List Int)→(List Int)→Option (Bool)) (law30_example:Option (ByteArray×Int×(List (ByteArray×Int×Int×Int×Int×(List Int)×Int×Int×Int×Int×Int×(List (ByteArray×Int×Int×Int×Int×Int×Int))×List (ByteArray×Int×Int)))×List (ByteArray×Int×Int×Int))):Option Bool :=
 obind law30_example fun (t:ByteArray×Int×List (ByteArray×Int×Int×Int×Int×List Int×Int×Int×Int×Int×Int×List (ByteArray×Int×Int×Int×Int×Int×Int)×List
  (ByteArray×Int×Int))×List (ByteArray×Int×Int×Int))=>obind (house_Gap t { data:={ toList:=[{ toBitVec:={ toFin:=⟨(110:Nat),Nat.mod_lt (110:Nat)
  (BitVec.ofNat._proof_1 (8:Nat))⟩ } },{ toBitVec:={ toFin:=⟨(101:Nat),Nat.mod_lt (101:Nat) (BitVec.ofNat._proof_1 (8:Nat))⟩ } },{ toBitVec:={ toFin:=⟨(97:Nat),
  Nat.mod_lt (97:Nat) (BitVec.ofNat._proof_1 (8:Nat))⟩ } },{ toBitVec:={ toFin:=⟨(114:Nat),Nat.mod_lt (114:Nat) (BitVec.ofNat._proof_1 (8:Nat))⟩ } }] } } { data:={
  toList:=[{ toBitVec:={ toFin:=⟨(102:Nat),Nat.mod_lt (102:Nat) (BitVec.ofNat._proof_1 (8:Nat))⟩ } },{ toBitVec:={ toFin:=⟨(97:Nat),Nat.mod_lt (97:Nat)
  (BitVec.ofNat._proof_1 (8:Nat))⟩ } },{ toBitVec:={ toFin:=⟨(114:Nat),Nat.mod_lt (114:Nat) (BitVec.ofNat._proof_1 (8:Nat))⟩ } }] } }) fun (t:Int×Int×PUnit) =>
 let v4:Bool:=decide (t.1=(100:Int));
 let v5:Bool:=decide (t.2.1=(0:Int));obind law30_example fun (t:ByteArray×Int×List (ByteArray×Int×Int×Int×Int×List Int×Int×Int×Int×Int×Int×List
  (ByteArray×Int×Int×Int×Int×Int×Int)×List (ByteArray×Int×Int))×List (ByteArray×Int×Int×Int))=>obind (house_Order t) fun (t:List Int×Int×PUnit) =>
 let v8:Bool:=decide (t.2.1=(0:Int));obind law30_example fun (t_1:ByteArray×Int×List (ByteArray×Int×Int×Int×Int×List Int×Int×Int×Int×Int×Int×List
  (ByteArray×Int×Int×Int×Int×Int×Int)×List (ByteArray×Int×Int))×List (ByteArray×Int×Int×Int))=>obind (house_Loads t_1) fun (t_2:List (Int×Int)×Int ×
  PUnit) =>
 let v11:Bool:=decide (t_2.2.1=(0:Int));obind law30_example fun (t_3:ByteArray×Int×List (ByteArray×Int×Int×Int×Int×List Int×Int×Int×Int×Int×Int ×
  List (ByteArray×Int×Int×Int×Int×Int×Int)×List (ByteArray×Int×Int))×List (ByteArray×Int×Int×Int))=>obind (house_Valid t_3) fun (t_4:Bool) =>
 let v14:Bool:=!t_4||t_4;
 let v15:Bool:=bif t_4 then v5 else false;
 let v16:Bool:=bif v15 then v4 else false;
 let v17:Bool:=!v15||v15;
 let v18:Bool:=bif v16 then v8 else false;
 let v19:Bool:=!v16||v16;
 let v20:Bool:=!v18||v18;bif v14 then bif v14 then bif v17 then bif v17 then bif v19 then bif v19 then bif v20&&v20 then obind (bif v18 then slices_Equal_26 t.1 [(1:Int),(0 :
  Int)] else some false) fun (t:Bool) =>
 let v22:Bool:=bif v18 then t else false;
 let v23:Bool:=bif v22 then v11 else false;
 let v24:Bool:=!v22||v22;
 let v25:Bool:=!v23||v23;
 let v26:Bool:=v25&&v25;bif v20 then bif v24 then bif v24 then bif v26 then bif v26 then obind (bif v23 then slices_Equal_14 t_2.1 [((350:Int),(1:Int)),((1050:Int),(1 :
  Int))] else some false) fun (t:Bool)=>bif v25 then some (bif v23 then t else false) else none else none else none else none else none else none else none else none else none else
  none else none else none else none
noncomputable def law30_awake:Option Bool:=law30_awake_b lpK jnK house_Valid house_Loads slices_Equal_14 house_Order house_Gap slices_Equal_26 law30_example
noncomputable def c10:Ctr:=⟨[],[],[],.one .bool,fun _ _ _=>law30_awake⟩
theorem e10 (lp:Lp) (jn:Jn) (house_Valid:(ByteArray×Int×(List (ByteArray×Int×Int×Int×Int×(List Int)×Int×Int×Int×Int×Int×(List (ByteArray×Int×Int×Int×Int×Int×Int))×List (ByteArray×Int×Int)))×List (ByteArray×Int×Int×Int))→Option (Bool)) (house_Loads:(ByteArray×Int×(List (ByteArray×Int×Int×Int×Int×(List Int)×Int×Int×Int×Int×Int×(List (ByteArray×Int×Int×Int×Int×Int×Int))×List (ByteArray×Int×Int)))×List (ByteArray×Int×Int×Int))→Option ((List (Int×Int))×Int×Unit)) (slices_Equal_14:(List (Int×Int))→(List (Int×Int))→Option (Bool)) (house_Order:(ByteArray×Int×(List (ByteArray×Int×Int×Int×Int×(List Int)×Int×Int×Int×Int×Int×(List (ByteArray×Int×Int×Int×Int×Int×Int))×List (ByteArray×Int×Int)))×List (ByteArray×Int×Int×Int))→Option ((List Int)×Int×Unit)) (house_Gap:(ByteArray×Int×(List (ByteArray×Int×Int×Int×Int×(List Int)×Int×Int×Int×Int×Int×(List (ByteArray×Int×Int×Int×Int×Int×Int))×List (ByteArray×Int×Int)))×List (ByteArray×Int×Int×Int))→(ByteArray)→(ByteArray)→Option (Int×Int×Unit)) (slices_Equal_26:(List Int)→(List Int)→Option (Bool)) (law30_example:Option (ByteArray×Int×(List (ByteArray×Int×Int×Int×Int×(List Int)×Int×Int×Int×Int×Int×(List (ByteArray×Int×Int×Int×Int×Int×Int))×List (ByteArray×Int×Int)))×List (ByteArray×Int×Int×Int))):∀(x:TsS c10.as) (F:TsF c10.fs) (y:TsS c10.cs),law30_awake_b lp jn house_Valid house_Loads slices_Equal_14 house_Order house_Gap slices_Equal_26 law30_example=runC lp jn (ctxOf prog shs inls its [(39,⟨[],[],[],.one T25,fun _ _ _=>law30_example⟩),(26,⟨[(.sl i64),(.sl i64)],[],[],.one .bool,fun x _ _=>slices_Equal_26 x.1 x.2.1⟩),(18,⟨[T25,.str,.str],[],[],.tup [i64,i64],fun x _ _=>house_Gap x.1 x.2.1 x.2.2.1⟩),(16,⟨[T25],[],[],.tup [(.sl i64),i64],fun x _ _=>house_Order x.1⟩),(14,⟨[(.sl T36),(.sl T36)],[],[],.one .bool,fun x _ _=>slices_Equal_14 x.1 x.2.1⟩),(12,⟨[T25],[],[],.tup [(.sl T36),i64],fun x _ _=>house_Loads x.1⟩),(32,⟨[T25],[],[],.one .bool,fun x _ _=>house_Valid x.1⟩)] [(116,r116),(115,r115),(114,r114),(69,r69),(119,r119)]) hints 4 10 f10 c10 x F y:=fun x F y=>by kernel_rfl
theorem l10:(ctxOf prog shs inls its [(39,c39),(26,c26),(18,c18),(16,c16),(14,c14),(12,c12),(32,c32)] [(116,r116),(115,r115),(114,r114),(69,r69),(119,r119)]).ok:=ctxOf_cons (ctxOf_cons (ctxOf_cons (ctxOf_cons (ctxOf_cons (ctxOf_cons (ctxOf_cons (q116) (by kernel_rfl) ok32) (by kernel_rfl) ok12) (by kernel_rfl) ok14) (by kernel_rfl) ok16) (by kernel_rfl) ok18) (by kernel_rfl) ok26) (by kernel_rfl) ok39
theorem ok10:c10.ok prog 10:=Ctr.of_den l10 hmix (hl:=hints) (d:=4) func10 rfl (by decide) (e10 lpK jnK house_Valid house_Loads slices_Equal_14 house_Order house_Gap slices_Equal_26 law30_example)
noncomputable def ref21_Small_b (lp:Lp) (_:Jn) (x0:ByteArray×Int×Int×Int×Int×(List Int)×Int×Int×Int×Int×Int×(List (ByteArray×Int×Int×Int×Int×Int×Int))×List (ByteArray×Int×Int)) (x1:Int):Option Bool :=
 
 let v4:Bool:=decide ((↑(ByteArray.size x0.1):Int)>(60:Int));
 let v5:Bool:=!v4;
 let v6:Bool:=!v5||v5;
 let v7:Bool:=bif v4 then true else decide ((↑(List.length x0.2.2.2.2.2.1):Int)>(12:Int));
 let v8:Bool:=!v7;
 let v9:Bool:=!v8;
 let v10:Bool:=decide ((↑(List.length x0.2.2.2.2.2.2.2.2.2.2.2.1):Int)>x1);
 let v11:Bool:=v9||v8;
 let v12:Bool:=v8&&v10;
 let v13:Bool:=bif v7 then true else bif v10 then decide ((↑(List.length x0.2.2.2.2.2.2.2.2.2.2.2.1):Int)≤(40:Int)) else false;
 let v14:Bool:=!v13;
 let v15:Bool:=!v12||v12;
 let v16:Bool:=bif v13 then true else decide ((↑(List.length x0.2.2.2.2.2.2.2.2.2.2.2.1):Int)>(45:Int));
 let v17:Bool:=!v16;
 let v18:Bool:=!v14||v14;
 let v19:Bool:=!v17||v17;bif v6 then bif v6 then bif v6 then bif v4||v5 then bif v11 then bif v11 then bif v11&&v11 then bif v11 then bif v15 then bif v15 then bif v15 then bif
  (v9||v11)&&(v9||(!v10||(v9||v12))) then bif v7||v8 then bif v18 then bif v18 then bif v18 then bif v13||v14 then bif v19 then bif v19 then bif v19 then bif v16||v17 then
  bif bif v16 then true else decide ((↑(List.length x0.2.2.2.2.2.2.2.2.2.2.2.2):Int)>(10:Int)) then some false else lp (Int×PUnit) Bool (fun (again:Int ×
  PUnit→Option Bool) (x:Int×PUnit)=>bif decide (x.1<(↑(List.length x0.2.2.2.2.2.2.2.2.2.2.2.1):Int)) then bif inB x.1 (List.length
  x0.2.2.2.2.2.2.2.2.2.2.2.1) then bif decide ((↑(ByteArray.size (List.getD x0.2.2.2.2.2.2.2.2.2.2.2.1 (Int.toNat x.1) ({ data:={
  toList:=[] } },(0:Int),(0:Int),(0:Int),(0:Int),(0:Int),(0:Int))).1):Int)>(60:Int)) then some false else again (IntKind.wrap .i64 (x.1+(1:Int)),
  PUnit.unit) else none else lp (Int×PUnit) Bool (fun (again:Int×PUnit→Option Bool) (x:Int×PUnit)=>bif decide (x.1<(↑(List.length
  x0.2.2.2.2.2.2.2.2.2.2.2.2):Int)) then bif inB x.1 (List.length x0.2.2.2.2.2.2.2.2.2.2.2.2) then bif decide ((↑(ByteArray.size
  (List.getD x0.2.2.2.2.2.2.2.2.2.2.2.2 (Int.toNat x.1) ({ data:={ toList:=[] } },(0:Int),(0:Int))).1):Int)>(60:Int)) then some false else
  again (IntKind.wrap .i64 (x.1+(1:Int)),PUnit.unit) else none else some true) ((0:Int),PUnit.unit)) ((0:Int),PUnit.unit) else none else none else none else none else
  none else none else none else none else none else none else none else none else none else none else none else none else none else none else none else none else none
noncomputable def ref21_Small (x0:ByteArray×Int×Int×Int×Int×(List Int)×Int×Int×Int×Int×Int×(List (ByteArray×Int×Int×Int×Int×Int×Int))×List (ByteArray×Int×Int)) (x1:Int):Option Bool:=ref21_Small_b lpK jnK x0 x1
noncomputable def c35:Ctr:=⟨[T44,i64],[],[],.one .bool,fun x _ _=>ref21_Small x.1 x.2.1⟩
theorem e35 (lp:Lp) (jn:Jn):∀(x:TsS c35.as) (F:TsF c35.fs) (y:TsS c35.cs),ref21_Small_b lp jn x.1 x.2.1=runC lp jn (ctxOf prog shs inls its [] [(116,r116),(115,r115),(114,r114),(69,r69),(119,r119)]) hints 4 35 f35 c35 x F y:=fun x F y=>by kernel_rfl
theorem l35:(ctxOf prog shs inls its [] [(116,r116),(115,r115),(114,r114),(69,r69),(119,r119)]).ok:=q116
theorem ok35:c35.ok prog 35:=Ctr.of_den l35 hmix (hl:=hints) (d:=4) func35 rfl (by decide) (e35 lpK jnK)
noncomputable def ref30_Small_b (lp:Lp) (_:Jn) (ref21_Small:(ByteArray×Int×Int×Int×Int×(List Int)×Int×Int×Int×Int×Int×(List (ByteArray×Int×Int×Int×Int×Int×Int))×List (ByteArray×Int×Int))→(Int)→Option (Bool)) (x0:ByteArray×Int×(List (ByteArray×Int×Int×Int×Int×(List Int)×Int×Int×Int×Int×Int×(List (ByteArray×Int×Int×Int×Int×Int×Int))×List (ByteArray×Int×Int)))×List (ByteArray×Int×Int×Int)) (x1:Int):Option Bool :=
 
 let v4:Bool:=decide ((↑(List.length x0.2.2.1):Int)>x1);
 let v5:Bool:=!v4;
 let v6:Bool:=bif v4 then true else decide ((↑(List.length x0.2.2.2):Int)>IntKind.wrap .i64 (x1+(10:Int)));
 let v7:Bool:=!v6;
 let v8:Bool:=!v5||v5;
 let v9:Bool:=!v7||v7;bif v8 then bif v8 then bif v8 then bif v8&&v8 then bif v4||v5 then bif v9 then bif v9 then bif v9 then bif v6||v7 then bif bif v6 then true else decide
  ((↑(ByteArray.size x0.1):Int)>(60:Int)) then some false else lp (Int×PUnit) Bool (fun (again:Int×PUnit→Option Bool) (x:Int×PUnit)=>bif decide (x.1 <
  (↑(List.length x0.2.2.1):Int)) then bif inB x.1 (List.length x0.2.2.1) then obind (ref21_Small (List.getD x0.2.2.1 (Int.toNat x.1) ({ data:={ toList:=[] } },
  (0:Int),(0:Int),(0:Int),(0:Int),[],(0:Int),(0:Int),(0:Int),(0:Int),(0:Int),[],[])) (8:Int)) fun (t:Bool)=>bif !t then some false else again
  (IntKind.wrap .i64 (x.1+(1:Int)),PUnit.unit) else none else lp (Int×PUnit) Bool (fun (again:Int×PUnit→Option Bool) (x:Int×PUnit)=>bif decide (x.1 <
  (↑(List.length x0.2.2.2):Int)) then bif inB x.1 (List.length x0.2.2.2) then bif decide ((↑(ByteArray.size (List.getD x0.2.2.2 (Int.toNat x.1) ({ data:={ toList
  :=[] } },(0:Int),(0:Int),(0:Int))).1):Int)>(60:Int)) then some false else again (IntKind.wrap .i64 (x.1+(1:Int)),PUnit.unit) else none else some true)
  ((0:Int),PUnit.unit)) ((0:Int),PUnit.unit) else none else none else none else none else none else none else none else none else none
noncomputable def ref30_Small (x0:ByteArray×Int×(List (ByteArray×Int×Int×Int×Int×(List Int)×Int×Int×Int×Int×Int×(List (ByteArray×Int×Int×Int×Int×Int×Int))×List (ByteArray×Int×Int)))×List (ByteArray×Int×Int×Int)) (x1:Int):Option Bool:=ref30_Small_b lpK jnK ref21_Small x0 x1
noncomputable def c40:Ctr:=⟨[T25,i64],[],[],.one .bool,fun x _ _=>ref30_Small x.1 x.2.1⟩
theorem e40 (lp:Lp) (jn:Jn) (ref21_Small:(ByteArray×Int×Int×Int×Int×(List Int)×Int×Int×Int×Int×Int×(List (ByteArray×Int×Int×Int×Int×Int×Int))×List (ByteArray×Int×Int))→(Int)→Option (Bool)):∀(x:TsS c40.as) (F:TsF c40.fs) (y:TsS c40.cs),ref30_Small_b lp jn ref21_Small x.1 x.2.1=runC lp jn (ctxOf prog shs inls its [(35,⟨[T44,i64],[],[],.one .bool,fun x _ _=>ref21_Small x.1 x.2.1⟩)] [(116,r116),(115,r115),(114,r114),(69,r69),(119,r119)]) hints 4 40 f40 c40 x F y:=fun x F y=>by kernel_rfl
theorem l40:(ctxOf prog shs inls its [(35,c35)] [(116,r116),(115,r115),(114,r114),(69,r69),(119,r119)]).ok:=ctxOf_cons (q116) (by kernel_rfl) ok35
theorem ok40:c40.ok prog 40:=Ctr.of_den l40 hmix (hl:=hints) (d:=4) func40 rfl (by decide) (e40 lpK jnK ref21_Small)
noncomputable def law30_small_b (_:Lp) (_:Jn) (ref30_Small:(ByteArray×Int×(List (ByteArray×Int×Int×Int×Int×(List Int)×Int×Int×Int×Int×Int×(List (ByteArray×Int×Int×Int×Int×Int×Int))×List (ByteArray×Int×Int)))×List (ByteArray×Int×Int×Int))→(Int)→Option (Bool)) (x0:ByteArray×Int×(List (ByteArray×Int×Int×Int×Int×(List Int)×Int×Int×Int×Int×Int×(List (ByteArray×Int×Int×Int×Int×Int×Int))×List (ByteArray×Int×Int)))×List (ByteArray×Int×Int×Int)):Option Bool :=
 obind (ref30_Small x0 (6:Int)) fun (t:Bool)=>some t
noncomputable def law30_small (x0:ByteArray×Int×(List (ByteArray×Int×Int×Int×Int×(List Int)×Int×Int×Int×Int×Int×(List (ByteArray×Int×Int×Int×Int×Int×Int))×List (ByteArray×Int×Int)))×List (ByteArray×Int×Int×Int)):Option Bool:=law30_small_b lpK jnK ref30_Small x0
noncomputable def c11:Ctr:=⟨[T25],[],[],.one .bool,fun x _ _=>law30_small x.1⟩
theorem e11 (lp:Lp) (jn:Jn) (ref30_Small:(ByteArray×Int×(List (ByteArray×Int×Int×Int×Int×(List Int)×Int×Int×Int×Int×Int×(List (ByteArray×Int×Int×Int×Int×Int×Int))×List (ByteArray×Int×Int)))×List (ByteArray×Int×Int×Int))→(Int)→Option (Bool)):∀(x:TsS c11.as) (F:TsF c11.fs) (y:TsS c11.cs),law30_small_b lp jn ref30_Small x.1=runC lp jn (ctxOf prog shs inls its [(40,⟨[T25,i64],[],[],.one .bool,fun x _ _=>ref30_Small x.1 x.2.1⟩)] [(116,r116),(115,r115),(114,r114),(69,r69),(119,r119)]) hints 4 11 f11 c11 x F y:=fun x F y=>by kernel_rfl
theorem l11:(ctxOf prog shs inls its [(40,c40)] [(116,r116),(115,r115),(114,r114),(69,r69),(119,r119)]).ok:=ctxOf_cons (q116) (by kernel_rfl) ok40
theorem ok11:c11.ok prog 11:=Ctr.of_den l11 hmix (hl:=hints) (d:=4) func11 rfl (by decide) (e11 lpK jnK ref30_Small)
noncomputable def ref30_FindSet_b (lp:Lp) (_:Jn) (x0:ByteArray×Int×(List (ByteArray×Int×Int×Int×Int×(List Int)×Int×Int×Int×Int×Int×(List (ByteArray×Int×Int×Int×Int×Int×Int))×List (ByteArray×Int×Int)))×List (ByteArray×Int×Int×Int)) (x1:ByteArray):Option Int :=
 lp (Int×PUnit) Int (fun (again:Int×PUnit→Option Int) (x:Int×PUnit)=>bif decide (x.1<(↑(List.length x0.2.2.1):Int)) then bif inB x.1 (List.length x0.2.2.1)
  then bif List.beq (ByteArray.toList (List.getD x0.2.2.1 (Int.toNat x.1) ({ data:={ toList:=[] } },(0:Int),(0:Int),(0:Int),(0:Int),[],(0:Int),(0:Int),(0 :
  Int),(0:Int),(0:Int),[],[])).1) (ByteArray.toList x1) then some x.1 else again (IntKind.wrap .i64 (x.1+(1:Int)),PUnit.unit) else none else some (-1:Int)) ((0
  : Int),PUnit.unit)
noncomputable def ref30_FindSet (x0:ByteArray×Int×(List (ByteArray×Int×Int×Int×Int×(List Int)×Int×Int×Int×Int×Int×(List (ByteArray×Int×Int×Int×Int×Int×Int))×List (ByteArray×Int×Int)))×List (ByteArray×Int×Int×Int)) (x1:ByteArray):Option Int:=ref30_FindSet_b lpK jnK x0 x1
noncomputable def c28:Ctr:=⟨[T25,.str],[],[],.one i64,fun x _ _=>ref30_FindSet x.1 x.2.1⟩
theorem e28 (lp:Lp) (jn:Jn):∀(x:TsS c28.as) (F:TsF c28.fs) (y:TsS c28.cs),ref30_FindSet_b lp jn x.1 x.2.1=runC lp jn (ctxOf prog shs inls its [] [(116,r116),(115,r115),(114,r114),(69,r69),(119,r119)]) hints 4 28 f28 c28 x F y:=fun x F y=>by kernel_rfl
theorem l28:(ctxOf prog shs inls its [] [(116,r116),(115,r115),(114,r114),(69,r69),(119,r119)]).ok:=q116
theorem ok28:c28.ok prog 28:=Ctr.of_den l28 hmix (hl:=hints) (d:=4) func28 rfl (by decide) (e28 lpK jnK)
noncomputable def ref01_Letter_b (_:Lp) (_:Jn) (x0:Int):Option Bool :=
 
 let v3:Bool:=decide (x0≥(97:Int));
 let v4:Bool:=decide (x0≥(65:Int));
 let v5:Bool:=!v3||v3;
 let v6:Bool:=bif v3 then decide (x0≤(122:Int)) else false;
 let v7:Bool:=!v6;
 let v8:Bool:=!v7;
 let v9:Bool:=v7&&v4;
 let v10:Bool:=v8||v7;bif v5 then bif v5 then bif v10 then bif v10 then bif !v9||v9 then bif (v8||v10)&&(v8||(!v4||(v8||v9))) then bif v6||v7 then some (bif v6 then
  true else bif v4 then decide (x0≤(90:Int)) else false) else none else none else none else none else none else none else none
noncomputable def ref01_Letter (x0:Int):Option Bool:=ref01_Letter_b lpK jnK x0
noncomputable def c84:Ctr:=⟨[(.int .u8)],[],[],.one .bool,fun x _ _=>ref01_Letter x.1⟩
theorem e84 (lp:Lp) (jn:Jn):∀(x:TsS c84.as) (F:TsF c84.fs) (y:TsS c84.cs),ref01_Letter_b lp jn x.1=runC lp jn (ctxOf prog shs inls its [] [(116,r116),(115,r115),(114,r114),(69,r69),(119,r119)]) hints 4 84 f84 c84 x F y:=fun x F y=>by kernel_rfl
theorem l84:(ctxOf prog shs inls its [] [(116,r116),(115,r115),(114,r114),(69,r69),(119,r119)]).ok:=q116
theorem ok84:c84.ok prog 84:=Ctr.of_den l84 hmix (hl:=hints) (d:=4) func84 rfl (by decide) (e84 lpK jnK)
noncomputable def ref01_Digit_b (_:Lp) (_:Jn) (x0:Int):Option Bool :=
 
 let v3:Bool:=decide (x0≥(48:Int));
 let v4:Bool:=!v3||v3;bif v4 then bif v4 then some (bif v3 then decide (x0≤(57:Int)) else false) else none else none
noncomputable def ref01_Digit (x0:Int):Option Bool:=ref01_Digit_b lpK jnK x0
noncomputable def c133:Ctr:=⟨[(.int .u8)],[],[],.one .bool,fun x _ _=>ref01_Digit x.1⟩
theorem e133 (lp:Lp) (jn:Jn):∀(x:TsS c133.as) (F:TsF c133.fs) (y:TsS c133.cs),ref01_Digit_b lp jn x.1=runC lp jn (ctxOf prog shs inls its [] [(116,r116),(115,r115),(114,r114),(69,r69),(119,r119)]) hints 4 133 f133 c133 x F y:=fun x F y=>by kernel_rfl
theorem l133:(ctxOf prog shs inls its [] [(116,r116),(115,r115),(114,r114),(69,r69),(119,r119)]).ok:=q116
theorem ok133:c133.ok prog 133:=Ctr.of_den l133 hmix (hl:=hints) (d:=4) func133 rfl (by decide) (e133 lpK jnK)
noncomputable def ref01_word_b (lp:Lp) (_:Jn) (ref01_Letter:(Int)→Option (Bool)) (ref01_Digit:(Int)→Option (Bool)) (x0:ByteArray) (x1:Int):Option Int :=
 lp (Int×PUnit) Int (fun (again:Int×PUnit→Option Int) (x:Int×PUnit) =>
 let v6:Bool:=inB x.1 (ByteArray.size x0);
 let v7:Int:=byteAt x0 (Int.toNat x.1);
 let v8:Bool:=decide (x.1<(↑(ByteArray.size x0):Int));
 let v9:Bool:=!v8;
 let v10:Bool:=v9||v8;
 let v11:Bool:=v9||v10;bif v10&&(v10&&(v9||v6)) then bif v10 then obind (bif v8 then ref01_Letter v7 else some false) fun (t:Bool) =>
 let v13:Bool:=v8&&!t;
 let v14:Bool:=!v13;
 let v15:Bool:=v14||v13;bif v10 then bif v15&&(v15&&(v14||v6)) then bif v15 then obind (bif v13 then ref01_Digit v7 else some false) fun (t_1:Bool) =>
 let v17:Bool:=bif t then true else t_1;
 let v18:Bool:=v8&&!v17;
 let v19:Bool:=!v18;
 let v20:Bool:=v19||v18;bif v11&&(v9||(t||(v9||v13))) then bif v10 then bif v20&&(v20&&(v19||v6)) then bif v20 then bif v11&&(v9||(v17||(v9||v18))) then bif
  v10 then bif bif v8 then bif v17 then true else decide (v7=(95:Int)) else false then again (IntKind.wrap .i64 (x.1+(1:Int)),PUnit.unit) else some x.1 else none else
  none else none else none else none else none else none else none else none else none else none) (x1,PUnit.unit)
noncomputable def ref01_word (x0:ByteArray) (x1:Int):Option Int:=ref01_word_b lpK jnK ref01_Letter ref01_Digit x0 x1
noncomputable def c85:Ctr:=⟨[.str,i64],[],[],.one i64,fun x _ _=>ref01_word x.1 x.2.1⟩
theorem e85 (lp:Lp) (jn:Jn) (ref01_Letter:(Int)→Option (Bool)) (ref01_Digit:(Int)→Option (Bool)):∀(x:TsS c85.as) (F:TsF c85.fs) (y:TsS c85.cs),ref01_word_b lp jn ref01_Letter ref01_Digit x.1 x.2.1=runC lp jn (ctxOf prog shs inls its [(133,⟨[(.int .u8)],[],[],.one .bool,fun x _ _=>ref01_Digit x.1⟩),(84,⟨[(.int .u8)],[],[],.one .bool,fun x _ _=>ref01_Letter x.1⟩)] [(116,r116),(115,r115),(114,r114),(69,r69),(119,r119)]) hints 4 85 f85 c85 x F y:=fun x F y=>by kernel_rfl
theorem l85:(ctxOf prog shs inls its [(133,c133),(84,c84)] [(116,r116),(115,r115),(114,r114),(69,r69),(119,r119)]).ok:=ctxOf_cons (ctxOf_cons (q116) (by kernel_rfl) ok84) (by kernel_rfl) ok133
theorem ok85:c85.ok prog 85:=Ctr.of_den l85 hmix (hl:=hints) (d:=4) func85 rfl (by decide) (e85 lpK jnK ref01_Letter ref01_Digit)
noncomputable def ref01_IsName_b (_:Lp) (_:Jn) (ref01_Letter:(Int)→Option (Bool)) (ref01_word:(ByteArray)→(Int)→Option (Int)) (x0:ByteArray):Option Bool :=
 
 let v3:Bool:=decide ((↑(ByteArray.size x0):Int)=(0:Int));
 let v4:Bool:=!v3;
 let v5:Bool:=!v4||v4;
 let v6:Bool:=bif v3 then true else decide ((↑(ByteArray.size x0):Int)>(20:Int));
 let v7:Bool:=!v6;
 let v8:Bool:=!v7;
 let v9:Bool:=v8||v7;bif v5 then bif v5 then bif v3||v4 then bif v9&&(v8||inB (0:Int) (ByteArray.size x0)) then bif v9 then obind (bif v7 then ref01_Letter (byteAt x0 (0 :
  Nat)) else some false) fun (t:Bool)=>bif v9 then bif v6||v7 then bif bif v6 then true else !t then some false else obind (ref01_word x0 (0:Int)) fun (t:Int)=>some (decide (t
  = (↑(ByteArray.size x0):Int))) else none else none else none else none else none else none else none
noncomputable def ref01_IsName (x0:ByteArray):Option Bool:=ref01_IsName_b lpK jnK ref01_Letter ref01_word x0
noncomputable def c54:Ctr:=⟨[.str],[],[],.one .bool,fun x _ _=>ref01_IsName x.1⟩
theorem e54 (lp:Lp) (jn:Jn) (ref01_Letter:(Int)→Option (Bool)) (ref01_word:(ByteArray)→(Int)→Option (Int)):∀(x:TsS c54.as) (F:TsF c54.fs) (y:TsS c54.cs),ref01_IsName_b lp jn ref01_Letter ref01_word x.1=runC lp jn (ctxOf prog shs inls its [(85,⟨[.str,i64],[],[],.one i64,fun x _ _=>ref01_word x.1 x.2.1⟩),(84,⟨[(.int .u8)],[],[],.one .bool,fun x _ _=>ref01_Letter x.1⟩)] [(116,r116),(115,r115),(114,r114),(69,r69),(119,r119)]) hints 4 54 f54 c54 x F y:=fun x F y=>by kernel_rfl
theorem l54:(ctxOf prog shs inls its [(85,c85),(84,c84)] [(116,r116),(115,r115),(114,r114),(69,r69),(119,r119)]).ok:=ctxOf_cons (ctxOf_cons (q116) (by kernel_rfl) ok84) (by kernel_rfl) ok85
theorem ok54:c54.ok prog 54:=Ctr.of_den l54 hmix (hl:=hints) (d:=4) func54 rfl (by decide) (e54 lpK jnK ref01_Letter ref01_word)
noncomputable def ref19_between_b (_:Lp) (_:Jn) (x0:Int) (x1:Int) (x2:Int):Option Bool :=
 
 let v5:Bool:=decide (x0≥x1);
 let v6:Bool:=!v5||v5;bif v6&&v6 then bif v6 then some (bif v5 then decide (x0≤x2) else false) else none else none
noncomputable def ref19_between (x0:Int) (x1:Int) (x2:Int):Option Bool:=ref19_between_b lpK jnK x0 x1 x2
noncomputable def c86:Ctr:=⟨[i64,i64,i64],[],[],.one .bool,fun x _ _=>ref19_between x.1 x.2.1 x.2.2.1⟩
theorem e86 (lp:Lp) (jn:Jn):∀(x:TsS c86.as) (F:TsF c86.fs) (y:TsS c86.cs),ref19_between_b lp jn x.1 x.2.1 x.2.2.1=runC lp jn (ctxOf prog shs inls its [] [(116,r116),(115,r115),(114,r114),(69,r69),(119,r119)]) hints 4 86 f86 c86 x F y:=fun x F y=>by kernel_rfl
theorem l86:(ctxOf prog shs inls its [] [(116,r116),(115,r115),(114,r114),(69,r69),(119,r119)]).ok:=q116
theorem ok86:c86.ok prog 86:=Ctr.of_den l86 hmix (hl:=hints) (d:=4) func86 rfl (by decide) (e86 lpK jnK)
noncomputable def ref19_Valid_b (lp:Lp) (_:Jn) (ref01_IsName:(ByteArray)→Option (Bool)) (ref19_between:(Int)→(Int)→(Int)→Option (Bool)) (x0:List (ByteArray×Int×Int×Int)):Option Bool :=
 bif decide ((↑(List.length x0):Int)>(20:Int)) then some false else lp (Int×PUnit) Bool (fun (again:Int×PUnit→Option Bool) (x:Int×PUnit) =>
 let v5:ByteArray×Int×Int×Int:=List.getD x0 (Int.toNat x.1) ({ data:={ toList:=[] } },(0:Int),(0:Int),(0:Int));bif decide (x.1<(↑(List.length x0):Int)) then
  bif inB x.1 (List.length x0) then obind (ref01_IsName v5.1) fun (t:Bool) =>
 let v7:Bool:=!t;
 let v8:Bool:=!v7;
 let v9:Bool:=!v8||v8;bif v9 then bif v9 then bif v9&&v9 then obind (bif v8 then ref19_between v5.2.1 (0:Int) v5.2.2.1 else some false) fun (t:Bool) =>
 let v11:Bool:=bif v7 then true else !t;
 let v12:Bool:=!v11;
 let v13:Bool:=!v12||v12;bif v9 then bif v7||v8 then bif v13 then bif v13 then obind (bif v12 then ref19_between v5.2.2.1 (0:Int) (1048576:Int) else some false) fun (t :
  Bool) =>
 let v15:Bool:=bif v11 then true else !t;
 let v16:Bool:=!v15;
 let v17:Bool:=!v16||v16;bif v13 then bif v11||v12 then bif v17 then bif v17 then obind (bif v16 then ref19_between v5.2.2.2 (0:Int) (67108864:Int) else some false) fun
  (t:Bool)=>bif v17 then bif v15||v16 then bif bif v15 then true else !t then some false else lp (Int×PUnit) Bool (fun (again_1:Int×PUnit→Option Bool) (x_1:Int×PUnit) =>
  bif decide (x_1.1<x.1) then bif inB x_1.1 (List.length x0) then bif List.beq (ByteArray.toList (List.getD x0 (Int.toNat x_1.1) ({ data:={ toList:=[] } },(0:Int),(0 :
  Int),(0:Int))).1) (ByteArray.toList v5.1) then some false else again_1 (IntKind.wrap .i64 (x_1.1+(1:Int)),PUnit.unit) else none else again (IntKind.wrap .i64
  (x.1+(1:Int)),PUnit.unit)) ((0:Int),PUnit.unit) else none else none else none else none else none else none else none else none else none else none else none else none else
  none else none else some true) ((0:Int),PUnit.unit)
noncomputable def ref19_Valid (x0:List (ByteArray×Int×Int×Int)):Option Bool:=ref19_Valid_b lpK jnK ref01_IsName ref19_between x0
noncomputable def c55:Ctr:=⟨[(.sl T96)],[],[],.one .bool,fun x _ _=>ref19_Valid x.1⟩
theorem e55 (lp:Lp) (jn:Jn) (ref01_IsName:(ByteArray)→Option (Bool)) (ref19_between:(Int)→(Int)→(Int)→Option (Bool)):∀(x:TsS c55.as) (F:TsF c55.fs) (y:TsS c55.cs),ref19_Valid_b lp jn ref01_IsName ref19_between x.1=runC lp jn (ctxOf prog shs inls its [(86,⟨[i64,i64,i64],[],[],.one .bool,fun x _ _=>ref19_between x.1 x.2.1 x.2.2.1⟩),(54,⟨[.str],[],[],.one .bool,fun x _ _=>ref01_IsName x.1⟩)] [(116,r116),(115,r115),(114,r114),(69,r69),(119,r119)]) hints 4 55 f55 c55 x F y:=fun x F y=>by kernel_rfl
theorem l55:(ctxOf prog shs inls its [(86,c86),(54,c54)] [(116,r116),(115,r115),(114,r114),(69,r69),(119,r119)]).ok:=ctxOf_cons (ctxOf_cons (q116) (by kernel_rfl) ok54) (by kernel_rfl) ok86
theorem ok55:c55.ok prog 55:=Ctr.of_den l55 hmix (hl:=hints) (d:=4) func55 rfl (by decide) (e55 lpK jnK ref01_IsName ref19_between)
noncomputable def ref21_between_b (_:Lp) (_:Jn) (x0:Int) (x1:Int) (x2:Int):Option Bool :=
 
 let v5:Bool:=decide (x0≥x1);
 let v6:Bool:=!v5||v5;bif v6&&v6 then bif v6 then some (bif v5 then decide (x0≤x2) else false) else none else none
noncomputable def ref21_between (x0:Int) (x1:Int) (x2:Int):Option Bool:=ref21_between_b lpK jnK x0 x1 x2
noncomputable def c87:Ctr:=⟨[i64,i64,i64],[],[],.one .bool,fun x _ _=>ref21_between x.1 x.2.1 x.2.2.1⟩
theorem e87 (lp:Lp) (jn:Jn):∀(x:TsS c87.as) (F:TsF c87.fs) (y:TsS c87.cs),ref21_between_b lp jn x.1 x.2.1 x.2.2.1=runC lp jn (ctxOf prog shs inls its [] [(116,r116),(115,r115),(114,r114),(69,r69),(119,r119)]) hints 4 87 f87 c87 x F y:=fun x F y=>by kernel_rfl
theorem l87:(ctxOf prog shs inls its [] [(116,r116),(115,r115),(114,r114),(69,r69),(119,r119)]).ok:=q116
theorem ok87:c87.ok prog 87:=Ctr.of_den l87 hmix (hl:=hints) (d:=4) func87 rfl (by decide) (e87 lpK jnK)
noncomputable def ref21_alone_b (_:Lp) (_:Jn) (ref01_IsName:(ByteArray)→Option (Bool)) (ref21_between:(Int)→(Int)→(Int)→Option (Bool)) (x0:ByteArray×Int×Int×Int×Int×Int×Int) (x1:Int):Option Bool :=
 obind (ref01_IsName x0.1) fun (t:Bool) =>
 let v5:Bool:=!t||t;bif v5 then bif v5 then obind (bif t then ref21_between x0.2.2.1 (1:Int) (1048576:Int) else some false) fun (t_1:Bool) =>
 let v7:Bool:=bif t then t_1 else false;
 let v8:Bool:=!v7||v7;
 let v9:Bool:=v8&&v8;bif v5 then bif v8 then bif v8 then bif v9 then bif v9 then obind (bif v7 then ref21_between x0.2.1 (0:Int) (IntKind.wrap .i64 (x1 -
  x0.2.2.1)) else some false) fun (t:Bool) =>
 let v11:Bool:=bif v7 then t else false;
 let v12:Bool:=!v11||v11;bif v8 then bif v12 then bif v12 then obind (bif v11 then ref21_between x0.2.2.2.1 (0:Int) (1048576:Int) else some false) fun (t:Bool) =>
 let v14:Bool:=bif v11 then t else false;
 let v15:Bool:=!v14||v14;bif v12 then bif v15 then bif v15 then obind (bif v14 then ref21_between x0.2.2.2.2.1 (0:Int) (1048576:Int) else some false) fun (t:Bool) =>
 let v17:Bool:=bif v14 then t else false;
 let v18:Bool:=!v17||v17;bif v15 then bif v18 then bif v18 then obind (bif v17 then ref21_between x0.2.2.2.2.2.1 (0:Int) (1048576:Int) else some false) fun (t :
  Bool) =>
 let v20:Bool:=bif v17 then t else false;
 let v21:Bool:=!v20||v20;bif v18 then bif v21 then bif v21 then obind (bif v20 then ref21_between x0.2.2.2.2.2.2 (0:Int) (1048576:Int) else some false) fun (t :
  Bool)=>bif v21 then some (bif v20 then t else false) else none else none else none else none else none else none else none else none else none else none else none else none else none
  else none else none else none else none else none else none else none
noncomputable def ref21_alone (x0:ByteArray×Int×Int×Int×Int×Int×Int) (x1:Int):Option Bool:=ref21_alone_b lpK jnK ref01_IsName ref21_between x0 x1
noncomputable def c134:Ctr:=⟨[T48,i64],[],[],.one .bool,fun x _ _=>ref21_alone x.1 x.2.1⟩
theorem e134 (lp:Lp) (jn:Jn) (ref01_IsName:(ByteArray)→Option (Bool)) (ref21_between:(Int)→(Int)→(Int)→Option (Bool)):∀(x:TsS c134.as) (F:TsF c134.fs) (y:TsS c134.cs),ref21_alone_b lp jn ref01_IsName ref21_between x.1 x.2.1=runC lp jn (ctxOf prog shs inls its [(87,⟨[i64,i64,i64],[],[],.one .bool,fun x _ _=>ref21_between x.1 x.2.1 x.2.2.1⟩),(54,⟨[.str],[],[],.one .bool,fun x _ _=>ref01_IsName x.1⟩)] [(116,r116),(115,r115),(114,r114),(69,r69),(119,r119)]) hints 4 134 f134 c134 x F y:=fun x F y=>by kernel_rfl
theorem l134:(ctxOf prog shs inls its [(87,c87),(54,c54)] [(116,r116),(115,r115),(114,r114),(69,r69),(119,r119)]).ok:=ctxOf_cons (ctxOf_cons (q116) (by kernel_rfl) ok54) (by kernel_rfl) ok87
theorem ok134:c134.ok prog 134:=Ctr.of_den l134 hmix (hl:=hints) (d:=4) func134 rfl (by decide) (e134 lpK jnK ref01_IsName ref21_between)
noncomputable def ref21_Apart_b (_:Lp) (_:Jn) (x0:ByteArray×Int×Int×Int×Int×Int×Int) (x1:ByteArray×Int×Int×Int×Int×Int×Int):Option Bool :=
 
 let v4:Bool:=decide (IntKind.wrap .i64 (x0.2.1+x0.2.2.1)≤x1.2.1);
 let v5:Bool:=!v4;
 let v6:Bool:=!v5||v5;
 let v7:Bool:=v6&&v6;bif v6 then bif v6 then bif v7 then bif v6 then bif v7 then bif v4||v5 then some (bif v4 then true else decide (IntKind.wrap .i64 (x1.2.1 +
  x1.2.2.1)≤x0.2.1)) else none else none else none else none else none else none
noncomputable def ref21_Apart (x0:ByteArray×Int×Int×Int×Int×Int×Int) (x1:ByteArray×Int×Int×Int×Int×Int×Int):Option Bool:=ref21_Apart_b lpK jnK x0 x1
noncomputable def c135:Ctr:=⟨[T48,T48],[],[],.one .bool,fun x _ _=>ref21_Apart x.1 x.2.1⟩
theorem e135 (lp:Lp) (jn:Jn):∀(x:TsS c135.as) (F:TsF c135.fs) (y:TsS c135.cs),ref21_Apart_b lp jn x.1 x.2.1=runC lp jn (ctxOf prog shs inls its [] [(116,r116),(115,r115),(114,r114),(69,r69),(119,r119)]) hints 4 135 f135 c135 x F y:=fun x F y=>by kernel_rfl
theorem l135:(ctxOf prog shs inls its [] [(116,r116),(115,r115),(114,r114),(69,r69),(119,r119)]).ok:=q116
theorem ok135:c135.ok prog 135:=Ctr.of_den l135 hmix (hl:=hints) (d:=4) func135 rfl (by decide) (e135 lpK jnK)
noncomputable def ref21_items_b (lp:Lp) (_:Jn) (ref21_alone:(ByteArray×Int×Int×Int×Int×Int×Int)→(Int)→Option (Bool)) (ref21_Apart:(ByteArray×Int×Int×Int×Int×Int×Int)→(ByteArray×Int×Int×Int×Int×Int×Int)→Option (Bool)) (x0:ByteArray×Int×Int×Int×Int×(List Int)×Int×Int×Int×Int×Int×(List (ByteArray×Int×Int×Int×Int×Int×Int))×List (ByteArray×Int×Int)):Option Bool :=
 bif decide ((↑(List.length x0.2.2.2.2.2.2.2.2.2.2.2.1):Int)>(40:Int)) then some false else lp (Int×PUnit) Bool (fun (again:Int×PUnit→Option Bool) (x :
  Int×PUnit) =>
 let v5:Bool:=inB x.1 (List.length x0.2.2.2.2.2.2.2.2.2.2.2.1);
 let v6:ByteArray×Int×Int×Int×Int×Int×Int:=List.getD x0.2.2.2.2.2.2.2.2.2.2.2.1 (Int.toNat x.1) ({ data:={ toList:=[] } },(0:Int),(0 :
  Int),(0:Int),(0:Int),(0:Int),(0:Int));
 let v7:List UInt8:=ByteArray.toList v6.1;bif decide (x.1<(↑(List.length x0.2.2.2.2.2.2.2.2.2.2.2.1):Int)) then bif v5 then obind (ref21_alone v6
  x0.2.2.2.2.1) fun (t:Bool)=>bif !t then some false else lp (Int×PUnit) Bool (fun (again_1:Int×PUnit→Option Bool) (x_1:Int×PUnit) =>
 let v11:Bool:=inB x_1.1 (List.length x0.2.2.2.2.2.2.2.2.2.2.2.1);
 let v12:ByteArray×Int×Int×Int×Int×Int×Int:=List.getD x0.2.2.2.2.2.2.2.2.2.2.2.1 (Int.toNat x_1.1) ({ data:={ toList:=[] } },(0:Int),(0 :
  Int),(0:Int),(0:Int),(0:Int),(0:Int));
 let v13:Bool:=List.beq (ByteArray.toList v12.1) v7;
 let v14:Bool:=!v13;
 let v15:Bool:=!v14;
 let v16:Bool:=v15||v14;bif decide (x_1.1<x.1) then bif v11 then bif v5 then bif v16 then bif v16&&(v16&&(v15||v11)) then bif v16 then bif v16 then bif v16&&(v16 &&
  (v15||v5)) then bif v16 then bif v16&&v16 then obind (bif v14 then ref21_Apart v12 v6 else some false) fun (t:Bool)=>bif v16 then bif v13||v14 then bif bif v13 then true else
  !t then some false else again_1 (IntKind.wrap .i64 (x_1.1+(1:Int)),PUnit.unit) else none else none else none else none else none else none else none else none else none
  else none else none else again (IntKind.wrap .i64 (x.1+(1:Int)),PUnit.unit)) ((0:Int),PUnit.unit) else none else some true) ((0:Int),PUnit.unit)
noncomputable def ref21_items (x0:ByteArray×Int×Int×Int×Int×(List Int)×Int×Int×Int×Int×Int×(List (ByteArray×Int×Int×Int×Int×Int×Int))×List (ByteArray×Int×Int)):Option Bool:=ref21_items_b lpK jnK ref21_alone ref21_Apart x0
noncomputable def c88:Ctr:=⟨[T44],[],[],.one .bool,fun x _ _=>ref21_items x.1⟩
theorem e88 (lp:Lp) (jn:Jn) (ref21_alone:(ByteArray×Int×Int×Int×Int×Int×Int)→(Int)→Option (Bool)) (ref21_Apart:(ByteArray×Int×Int×Int×Int×Int×Int)→(ByteArray×Int×Int×Int×Int×Int×Int)→Option (Bool)):∀(x:TsS c88.as) (F:TsF c88.fs) (y:TsS c88.cs),ref21_items_b lp jn ref21_alone ref21_Apart x.1=runC lp jn (ctxOf prog shs inls its [(135,⟨[T48,T48],[],[],.one .bool,fun x _ _=>ref21_Apart x.1 x.2.1⟩),(134,⟨[T48,i64],[],[],.one .bool,fun x _ _=>ref21_alone x.1 x.2.1⟩)] [(116,r116),(115,r115),(114,r114),(69,r69),(119,r119)]) hints 4 88 f88 c88 x F y:=fun x F y=>by kernel_rfl
theorem l88:(ctxOf prog shs inls its [(135,c135),(134,c134)] [(116,r116),(115,r115),(114,r114),(69,r69),(119,r119)]).ok:=ctxOf_cons (ctxOf_cons (q116) (by kernel_rfl) ok134) (by kernel_rfl) ok135
theorem ok88:c88.ok prog 88:=Ctr.of_den l88 hmix (hl:=hints) (d:=4) func88 rfl (by decide) (e88 lpK jnK ref21_alone ref21_Apart)
noncomputable def ref21_Bricks_b (lp:Lp) (_:Jn) (ref01_IsName:(ByteArray)→Option (Bool)) (ref21_between:(Int)→(Int)→(Int)→Option (Bool)) (x0:List (ByteArray×Int×Int)):Option Bool :=
 bif decide ((↑(List.length x0):Int)>(8:Int)) then some false else lp (Int×Int×PUnit) Bool (fun (again:Int×Int×PUnit→Option Bool) (x:Int×Int×PUnit) =>
 let v5:Bool:=inB x.2.1 (List.length x0);
 let v6:ByteArray×Int×Int:=List.getD x0 (Int.toNat x.2.1) ({ data:={ toList:=[] } },(0:Int),(0:Int));bif decide (x.2.1<(↑(List.length x0):Int)) then bif v5
  then obind (ref01_IsName v6.1) fun (t:Bool) =>
 let v8:Bool:=!t;
 let v9:Bool:=!v8;
 let v10:Bool:=!v9;
 let v11:Bool:=v10||v9;bif v11&&(v11&&(v10||v5)) then bif v11 then bif v11 then bif v11 then obind (bif v9 then ref21_between v6.2.1 (1:Int) (1048576:Int) else some
  false) fun (t:Bool) =>
 let v13:Bool:=bif v8 then true else !t;
 let v14:Bool:=!v13;
 let v15:Bool:=!v14;
 let v16:Bool:=v15||v14;bif v11 then bif v8||v9 then bif v16&&(v16&&(v15||v5)) then bif v16 then bif v16 then bif v16 then obind (bif v14 then ref21_between v6.2.2 (0 :
  Int) (60:Int) else some false) fun (t:Bool)=>bif v16 then bif v13||v14 then bif bif v13 then true else !t then some false else bif v5 then lp (Int×PUnit) Bool (fun (again_1 :
  Int×PUnit→Option Bool) (x_1:Int×PUnit)=>bif decide (x_1.1<x.2.1) then bif inB x_1.1 (List.length x0) then bif v5 then bif List.beq (ByteArray.toList (List.getD x0
  (Int.toNat x_1.1) ({ data:={ toList:=[] } },(0:Int),(0:Int))).1) (ByteArray.toList v6.1) then some false else again_1 (IntKind.wrap .i64 (x_1.1+(1:Int)),
  PUnit.unit) else none else none else again (IntKind.wrap .i64 (x.1+v6.2.2),IntKind.wrap .i64 (x.2.1+(1:Int)),PUnit.unit)) ((0:Int),PUnit.unit) else
  none else none else none else none else none else none else none else none else none else none else none else none else none else none else some (decide (x.1≤(60:Int)))) ((0 :
  Int),(0:Int),PUnit.unit)
noncomputable def ref21_Bricks (x0:List (ByteArray×Int×Int)):Option Bool:=ref21_Bricks_b lpK jnK ref01_IsName ref21_between x0
noncomputable def c89:Ctr:=⟨[(.sl T64)],[],[],.one .bool,fun x _ _=>ref21_Bricks x.1⟩
theorem e89 (lp:Lp) (jn:Jn) (ref01_IsName:(ByteArray)→Option (Bool)) (ref21_between:(Int)→(Int)→(Int)→Option (Bool)):∀(x:TsS c89.as) (F:TsF c89.fs) (y:TsS c89.cs),ref21_Bricks_b lp jn ref01_IsName ref21_between x.1=runC lp jn (ctxOf prog shs inls its [(87,⟨[i64,i64,i64],[],[],.one .bool,fun x _ _=>ref21_between x.1 x.2.1 x.2.2.1⟩),(54,⟨[.str],[],[],.one .bool,fun x _ _=>ref01_IsName x.1⟩)] [(116,r116),(115,r115),(114,r114),(69,r69),(119,r119)]) hints 4 89 f89 c89 x F y:=fun x F y=>by kernel_rfl
theorem l89:(ctxOf prog shs inls its [(87,c87),(54,c54)] [(116,r116),(115,r115),(114,r114),(69,r69),(119,r119)]).ok:=ctxOf_cons (ctxOf_cons (q116) (by kernel_rfl) ok54) (by kernel_rfl) ok87
theorem ok89:c89.ok prog 89:=Ctr.of_den l89 hmix (hl:=hints) (d:=4) func89 rfl (by decide) (e89 lpK jnK ref01_IsName ref21_between)
noncomputable def ref21_Valid_b (lp:Lp) (_:Jn) (ref01_IsName:(ByteArray)→Option (Bool)) (ref21_between:(Int)→(Int)→(Int)→Option (Bool)) (ref21_items:(ByteArray×Int×Int×Int×Int×(List Int)×Int×Int×Int×Int×Int×(List (ByteArray×Int×Int×Int×Int×Int×Int))×List (ByteArray×Int×Int))→Option (Bool)) (ref21_Bricks:(List (ByteArray×Int×Int))→Option (Bool)) (x0:ByteArray×Int×Int×Int×Int×(List Int)×Int×Int×Int×Int×Int×(List (ByteArray×Int×Int×Int×Int×Int×Int))×List (ByteArray×Int×Int)):Option Bool :=
 obind (ref01_IsName x0.1) fun (t:Bool) =>
 let v4:Bool:=!t;
 let v5:Bool:=!v4;
 let v6:Bool:=!v5||v5;bif v6 then bif v6 then obind (bif v5 then ref21_between x0.2.1 (0:Int) (1048576:Int) else some false) fun (t:Bool) =>
 let v8:Bool:=bif v4 then true else !t;
 let v9:Bool:=!v8;
 let v10:Bool:=!v9||v9;bif v6 then bif v4||v5 then bif v10 then bif v10 then bif v10&&v10 then obind (bif v9 then ref21_between x0.2.2.1 (0:Int) x0.2.2.2.1 else
  some false) fun (t:Bool) =>
 let v12:Bool:=bif v8 then true else !t;
 let v13:Bool:=!v12;
 let v14:Bool:=!v13||v13;bif v10 then bif v8||v9 then bif v14 then bif v14 then obind (bif v13 then ref21_between x0.2.2.2.1 (0:Int) (1048576:Int) else some false) fun
  (t:Bool) =>
 let v16:Bool:=bif v12 then true else !t;
 let v17:Bool:=!v16;
 let v18:Bool:=!v17||v17;bif v14 then bif v12||v13 then bif v18 then bif v18 then obind (bif v17 then ref21_between x0.2.2.2.2.1 (1000:Int) (1048576:Int) else some
  false) fun (t:Bool) =>
 let v20:Bool:=bif v16 then true else !t;
 let v21:Bool:=!v20;
 let v22:Bool:=!v21;
 let v23:Bool:=v22||v21;bif v18 then bif v16||v17 then bif v23 then bif v23&&(v22||true) then bif v23 then bif v20||v21 then bif bif v20 then true else !decide (Int.tmod
  x0.2.2.2.2.1 (1000:Int)=(0:Int)) then some false else obind (ref21_between (↑(List.length x0.2.2.2.2.2.1):Int) (2:Int) (10:Int)) fun (t:Bool) =>
 let v25:Bool:=!t;
 let v26:Bool:=!v25;
 let v27:Bool:=!v26||v26;bif v27 then bif v27 then obind (bif v26 then ref21_between x0.2.2.2.2.2.2.1 (0:Int) (1048576:Int) else some false) fun (t:Bool) =>
 let v29:Bool:=bif v25 then true else !t;
 let v30:Bool:=!v29;
 let v31:Bool:=!v30||v30;bif v27 then bif v25||v26 then bif v31 then bif v31 then obind (bif v30 then ref21_between x0.2.2.2.2.2.2.2.1 (0:Int) (1048576:Int)
  else some false) fun (t:Bool) =>
 let v33:Bool:=bif v29 then true else !t;
 let v34:Bool:=!v33;
 let v35:Bool:=!v34||v34;bif v31 then bif v29||v30 then bif v35 then bif v35 then obind (bif v34 then ref21_between x0.2.2.2.2.2.2.2.2.1 (1:Int) (2:Int) else
  some false) fun (t:Bool) =>
 let v37:Bool:=bif v33 then true else !t;
 let v38:Bool:=!v37;
 let v39:Bool:=!v38||v38;bif v35 then bif v33||v34 then bif v39 then bif v39 then obind (bif v38 then ref21_between x0.2.2.2.2.2.2.2.2.2.1 (1:Int) (67108864
  : Int) else some false) fun (t:Bool) =>
 let v41:Bool:=bif v37 then true else !t;
 let v42:Bool:=!v41;
 let v43:Bool:=!v42||v42;bif v39 then bif v37||v38 then bif v43 then bif v43 then obind (bif v42 then ref21_between x0.2.2.2.2.2.2.2.2.2.2.1 (0:Int)
  (67108864:Int) else some false) fun (t:Bool)=>bif v43 then bif v41||v42 then bif bif v41 then true else !t then some false else lp (Int×PUnit) Bool (fun (again:Int×PUnit →
  Option Bool) (x:Int×PUnit) =>
 let v47:Bool:=decide (x.1>(0:Int));
 let v48:Bool:=inB x.1 (List.length x0.2.2.2.2.2.1);bif decide (x.1<(↑(List.length x0.2.2.2.2.2.1):Int)) then bif v48 then obind (ref21_between
  (List.getD x0.2.2.2.2.2.1 (Int.toNat x.1) (0:Int)) (0:Int) x0.2.2.2.2.1) fun (t:Bool) =>
 let v50:Bool:=!t;
 let v51:Bool:=!v50;
 let v52:Bool:=!v51;
 let v53:Bool:=v51&&v47;
 let v54:Bool:=!v53;
 let v55:Bool:=v52||v51;
 let v56:Bool:=v54||v53;bif v55 then bif v55 then bif v56 then bif v56&&(v56&&(v54||v48)) then bif v56 then bif v56 then bif v56 then bif v56&&(v56&&(v54||inB
  (IntKind.wrap .i64 (x.1 - (1:Int))) (List.length x0.2.2.2.2.2.1))) then bif v56 then bif v56&&v56 then bif (v52||v55)&&(v52||(!v47||(v52||v53))) then
  bif v50||v51 then bif bif v50 then true else bif v47 then decide (List.getD x0.2.2.2.2.2.1 (Int.toNat x.1) (0:Int)≤List.getD x0.2.2.2.2.2.1 (Int.toNat
  (IntKind.wrap .i64 (x.1 - (1:Int)))) (0:Int)) else false then some false else again (IntKind.wrap .i64 (x.1+(1:Int)),PUnit.unit) else none else none else none
  else none else none else none else none else none else none else none else none else none else none else obind (ref21_items x0) fun (t:Bool) =>
 let v50:Bool:=!t||t;bif v50 then bif v50 then obind (bif t then ref21_Bricks x0.2.2.2.2.2.2.2.2.2.2.2.2 else some false) fun (t_1:Bool)=>bif v50 then
  some (bif t then t_1 else false) else none else none else none) ((0:Int),PUnit.unit) else none else none else none else none else none else none else none else none else none else
  none else none else none else none else none else none else none else none else none else none else none else none else none else none else none else none else none else none else none
  else none else none else none else none else none else none else none else none else none else none else none else none else none
noncomputable def ref21_Valid (x0:ByteArray×Int×Int×Int×Int×(List Int)×Int×Int×Int×Int×Int×(List (ByteArray×Int×Int×Int×Int×Int×Int))×List (ByteArray×Int×Int)):Option Bool:=ref21_Valid_b lpK jnK ref01_IsName ref21_between ref21_items ref21_Bricks x0
noncomputable def c56:Ctr:=⟨[T44],[],[],.one .bool,fun x _ _=>ref21_Valid x.1⟩
theorem e56 (lp:Lp) (jn:Jn) (ref01_IsName:(ByteArray)→Option (Bool)) (ref21_between:(Int)→(Int)→(Int)→Option (Bool)) (ref21_items:(ByteArray×Int×Int×Int×Int×(List Int)×Int×Int×Int×Int×Int×(List (ByteArray×Int×Int×Int×Int×Int×Int))×List (ByteArray×Int×Int))→Option (Bool)) (ref21_Bricks:(List (ByteArray×Int×Int))→Option (Bool)):∀(x:TsS c56.as) (F:TsF c56.fs) (y:TsS c56.cs),ref21_Valid_b lp jn ref01_IsName ref21_between ref21_items ref21_Bricks x.1=runC lp jn (ctxOf prog shs inls its [(89,⟨[(.sl T64)],[],[],.one .bool,fun x _ _=>ref21_Bricks x.1⟩),(88,⟨[T44],[],[],.one .bool,fun x _ _=>ref21_items x.1⟩),(87,⟨[i64,i64,i64],[],[],.one .bool,fun x _ _=>ref21_between x.1 x.2.1 x.2.2.1⟩),(54,⟨[.str],[],[],.one .bool,fun x _ _=>ref01_IsName x.1⟩)] [(116,r116),(115,r115),(114,r114),(69,r69),(119,r119)]) hints 4 56 f56 c56 x F y:=fun x F y=>by kernel_rfl
theorem l56:(ctxOf prog shs inls its [(89,c89),(88,c88),(87,c87),(54,c54)] [(116,r116),(115,r115),(114,r114),(69,r69),(119,r119)]).ok:=ctxOf_cons (ctxOf_cons (ctxOf_cons (ctxOf_cons (q116) (by kernel_rfl) ok54) (by kernel_rfl) ok87) (by kernel_rfl) ok88) (by kernel_rfl) ok89
theorem ok56:c56.ok prog 56:=Ctr.of_den l56 hmix (hl:=hints) (d:=4) func56 rfl (by decide) (e56 lpK jnK ref01_IsName ref21_between ref21_items ref21_Bricks)
noncomputable def ref30_Valid_b (lp:Lp) (_:Jn) (ref30_FindSet:(ByteArray×Int×(List (ByteArray×Int×Int×Int×Int×(List Int)×Int×Int×Int×Int×Int×(List (ByteArray×Int×Int×Int×Int×Int×Int))×List (ByteArray×Int×Int)))×List (ByteArray×Int×Int×Int))→(ByteArray)→Option (Int)) (ref01_IsName:(ByteArray)→Option (Bool)) (ref19_Valid:(List (ByteArray×Int×Int×Int))→Option (Bool)) (ref21_Valid:(ByteArray×Int×Int×Int×Int×(List Int)×Int×Int×Int×Int×Int×(List (ByteArray×Int×Int×Int×Int×Int×Int))×List (ByteArray×Int×Int))→Option (Bool)) (x0:ByteArray×Int×(List (ByteArray×Int×Int×Int×Int×(List Int)×Int×Int×Int×Int×Int×(List (ByteArray×Int×Int×Int×Int×Int×Int))×List (ByteArray×Int×Int)))×List (ByteArray×Int×Int×Int)):Option Bool :=
 
 let v3:Bool:=decide (x0.2.1<(1:Int));
 let v4:Bool:=decide (x0.2.1>(1048576:Int));
 let v5:Bool:=decide ((↑(List.length x0.2.2.1):Int)>(60:Int));obind (ref01_IsName x0.1) fun (t:Bool) =>
 let v7:Bool:=!t;
 let v8:Bool:=!v7;
 let v9:Bool:=bif v7 then true else v3;
 let v10:Bool:=!v9;
 let v11:Bool:=!v8||v8;
 let v12:Bool:=bif v9 then true else v4;
 let v13:Bool:=!v12;
 let v14:Bool:=bif v12 then true else v5;
 let v15:Bool:=!v14;
 let v16:Bool:=!v10||v10;
 let v17:Bool:=!v13||v13;
 let v18:Bool:=!v15||v15;bif v11 then bif v11 then bif v7||v8 then bif v16 then bif v16 then bif v9||v10 then bif v17 then bif v17 then bif v17 then bif v12||v13 then bif v18
  then bif v18 then obind (bif v15 then ref19_Valid x0.2.2.2 else some false) fun (t:Bool)=>bif v18 then bif v14||v15 then bif bif v14 then true else !t then some false else
  lp (Int×PUnit) Bool (fun (again:Int×PUnit→Option Bool) (x:Int×PUnit) =>
 let v22:Bool:=inB x.1 (List.length x0.2.2.1);
 let v23:ByteArray×Int×Int×Int×Int×List Int×Int×Int×Int×Int×Int×List (ByteArray×Int×Int×Int×Int×Int×Int)×List (ByteArray×Int×Int):=List.getD
  x0.2.2.1 (Int.toNat x.1) ({ data:={ toList:=[] } },(0:Int),(0:Int),(0:Int),(0:Int),[],(0:Int),(0:Int),(0:Int),(0:Int),(0:Int),[],[]);
 let v24:Bool:=decide (v23.2.2.2.1>x0.2.1);bif decide (x.1<(↑(List.length x0.2.2.1):Int)) then bif v22 then obind (ref21_Valid v23) fun (t:Bool) =>
 let v26:Bool:=!t;
 let v27:Bool:=!v26;
 let v28:Bool:=!v27;
 let v29:Bool:=bif v26 then true else v24;
 let v30:Bool:=!v29;
 let v31:Bool:=v28||v27;
 let v32:Bool:=!v30;
 let v33:Bool:=v32||v30;
 let v34:Bool:=v33&&v33;bif v31 then bif v31&&(v31&&(v28||v22)) then bif v31 then bif v31 then bif v31 then bif v31&&v31 then bif v26||v27 then bif v33 then bif v33 &&
  (v33&&(v32||v22)) then bif v33 then bif v33 then bif v34 then obind (bif v30 then ref30_FindSet x0 v23.1 else some (0:Int)) fun (t:Int)=>bif v34 then bif v29||v30 then bif
  bif v29 then true else !decide (t=x.1) then some false else again (IntKind.wrap .i64 (x.1+(1:Int)),PUnit.unit) else none else none else none else none else none else
  none else none else none else none else none else none else none else none else none else none else some true) ((0:Int),PUnit.unit) else none else none else none else none else none
  else none else none else none else none else none else none else none else none else none
noncomputable def ref30_Valid (x0:ByteArray×Int×(List (ByteArray×Int×Int×Int×Int×(List Int)×Int×Int×Int×Int×Int×(List (ByteArray×Int×Int×Int×Int×Int×Int))×List (ByteArray×Int×Int)))×List (ByteArray×Int×Int×Int)):Option Bool:=ref30_Valid_b lpK jnK ref30_FindSet ref01_IsName ref19_Valid ref21_Valid x0
noncomputable def c25:Ctr:=⟨[T25],[],[],.one .bool,fun x _ _=>ref30_Valid x.1⟩
theorem e25 (lp:Lp) (jn:Jn) (ref30_FindSet:(ByteArray×Int×(List (ByteArray×Int×Int×Int×Int×(List Int)×Int×Int×Int×Int×Int×(List (ByteArray×Int×Int×Int×Int×Int×Int))×List (ByteArray×Int×Int)))×List (ByteArray×Int×Int×Int))→(ByteArray)→Option (Int)) (ref01_IsName:(ByteArray)→Option (Bool)) (ref19_Valid:(List (ByteArray×Int×Int×Int))→Option (Bool)) (ref21_Valid:(ByteArray×Int×Int×Int×Int×(List Int)×Int×Int×Int×Int×Int×(List (ByteArray×Int×Int×Int×Int×Int×Int))×List (ByteArray×Int×Int))→Option (Bool)):∀(x:TsS c25.as) (F:TsF c25.fs) (y:TsS c25.cs),ref30_Valid_b lp jn ref30_FindSet ref01_IsName ref19_Valid ref21_Valid x.1=runC lp jn (ctxOf prog shs inls its [(56,⟨[T44],[],[],.one .bool,fun x _ _=>ref21_Valid x.1⟩),(55,⟨[(.sl T96)],[],[],.one .bool,fun x _ _=>ref19_Valid x.1⟩),(54,⟨[.str],[],[],.one .bool,fun x _ _=>ref01_IsName x.1⟩),(28,⟨[T25,.str],[],[],.one i64,fun x _ _=>ref30_FindSet x.1 x.2.1⟩)] [(116,r116),(115,r115),(114,r114),(69,r69),(119,r119)]) hints 4 25 f25 c25 x F y:=fun x F y=>by kernel_rfl
theorem l25:(ctxOf prog shs inls its [(56,c56),(55,c55),(54,c54),(28,c28)] [(116,r116),(115,r115),(114,r114),(69,r69),(119,r119)]).ok:=ctxOf_cons (ctxOf_cons (ctxOf_cons (ctxOf_cons (q116) (by kernel_rfl) ok28) (by kernel_rfl) ok54) (by kernel_rfl) ok55) (by kernel_rfl) ok56
theorem ok25:c25.ok prog 25:=Ctr.of_den l25 hmix (hl:=hints) (d:=4) func25 rfl (by decide) (e25 lpK jnK ref30_FindSet ref01_IsName ref19_Valid ref21_Valid)
noncomputable def ref21_Pipe_b (_:Lp) (_:Jn) (x0:ByteArray×Int×Int×Int×Int×(List Int)×Int×Int×Int×Int×Int×(List (ByteArray×Int×Int×Int×Int×Int×Int))×List (ByteArray×Int×Int)):Option Int :=
 some (IntKind.wrap .i64 (x0.2.2.2.2.2.2.1*IntKind.wrap .i64 (Int.tdiv x0.2.2.2.2.1 (1000:Int))))
noncomputable def ref21_Pipe (x0:ByteArray×Int×Int×Int×Int×(List Int)×Int×Int×Int×Int×Int×(List (ByteArray×Int×Int×Int×Int×Int×Int))×List (ByteArray×Int×Int)):Option Int:=ref21_Pipe_b lpK jnK x0
noncomputable def c124:Ctr:=⟨[T44],[],[],.one i64,fun x _ _=>ref21_Pipe x.1⟩
theorem e124 (lp:Lp) (jn:Jn):∀(x:TsS c124.as) (F:TsF c124.fs) (y:TsS c124.cs),ref21_Pipe_b lp jn x.1=runC lp jn (ctxOf prog shs inls its [] [(116,r116),(115,r115),(114,r114),(69,r69),(119,r119)]) hints 4 124 f124 c124 x F y:=fun x F y=>by kernel_rfl
theorem l124:(ctxOf prog shs inls its [] [(116,r116),(115,r115),(114,r114),(69,r69),(119,r119)]).ok:=q116
theorem ok124:c124.ok prog 124:=Ctr.of_den l124 hmix (hl:=hints) (d:=4) func124 rfl (by decide) (e124 lpK jnK)
noncomputable def ref21_Weight_b (lp:Lp) (_:Jn) (ref21_Pipe:(ByteArray×Int×Int×Int×Int×(List Int)×Int×Int×Int×Int×Int×(List (ByteArray×Int×Int×Int×Int×Int×Int))×List (ByteArray×Int×Int))→Option (Int)) (x0:ByteArray×Int×Int×Int×Int×(List Int)×Int×Int×Int×Int×Int×(List (ByteArray×Int×Int×Int×Int×Int×Int))×List (ByteArray×Int×Int)):Option Int :=
 obind (ref21_Pipe x0) fun (t:Int)=>lp (Int×Int×PUnit) Int (fun (again:Int×Int×PUnit→Option Int) (x:Int×Int×PUnit)=>bif decide (x.2.1<(↑(List.length
  x0.2.2.2.2.2.2.2.2.2.2.2.1):Int)) then bif inB x.2.1 (List.length x0.2.2.2.2.2.2.2.2.2.2.2.1) then again (IntKind.wrap .i64
  (x.1+(List.getD x0.2.2.2.2.2.2.2.2.2.2.2.1 (Int.toNat x.2.1) ({ data:={ toList:=[] } },(0:Int),(0:Int),(0:Int),(0:Int),(0:Int),(0 :
  Int))).2.2.2.1),IntKind.wrap .i64 (x.2.1+(1:Int)),PUnit.unit) else none else some x.1) (t,(0:Int),PUnit.unit)
noncomputable def ref21_Weight (x0:ByteArray×Int×Int×Int×Int×(List Int)×Int×Int×Int×Int×Int×(List (ByteArray×Int×Int×Int×Int×Int×Int))×List (ByteArray×Int×Int)):Option Int:=ref21_Weight_b lpK jnK ref21_Pipe x0
noncomputable def c74:Ctr:=⟨[T44],[],[],.one i64,fun x _ _=>ref21_Weight x.1⟩
theorem e74 (lp:Lp) (jn:Jn) (ref21_Pipe:(ByteArray×Int×Int×Int×Int×(List Int)×Int×Int×Int×Int×Int×(List (ByteArray×Int×Int×Int×Int×Int×Int))×List (ByteArray×Int×Int))→Option (Int)):∀(x:TsS c74.as) (F:TsF c74.fs) (y:TsS c74.cs),ref21_Weight_b lp jn ref21_Pipe x.1=runC lp jn (ctxOf prog shs inls its [(124,⟨[T44],[],[],.one i64,fun x _ _=>ref21_Pipe x.1⟩)] [(116,r116),(115,r115),(114,r114),(69,r69),(119,r119)]) hints 4 74 f74 c74 x F y:=fun x F y=>by kernel_rfl
theorem l74:(ctxOf prog shs inls its [(124,c124)] [(116,r116),(115,r115),(114,r114),(69,r69),(119,r119)]).ok:=ctxOf_cons (q116) (by kernel_rfl) ok124
theorem ok74:c74.ok prog 74:=Ctr.of_den l74 hmix (hl:=hints) (d:=4) func74 rfl (by decide) (e74 lpK jnK ref21_Pipe)
noncomputable def ref25_Sum_b (lp:Lp) (_:Jn) (x0:List (ByteArray×Int×Int)) (x1:List Int):Option Int :=
 lp (Int×Int×PUnit) Int (fun (again:Int×Int×PUnit→Option Int) (x:Int×Int×PUnit)=>bif decide (x.2.1<(↑(List.length x0):Int)) then bif inB x.2.1 (List.length
  x0) then bif inB x.2.1 (List.length x1) then again (IntKind.wrap .i64 (x.1+IntKind.wrap .i64 ((List.getD x0 (Int.toNat x.2.1) ({ data:={ toList:=[] } },(0
  : Int),(0:Int))).2.1*List.getD x1 (Int.toNat x.2.1) (0:Int))),IntKind.wrap .i64 (x.2.1+(1:Int)),PUnit.unit) else none else none else some x.1) ((0 :
  Int),(0:Int),PUnit.unit)
noncomputable def ref25_Sum (x0:List (ByteArray×Int×Int)) (x1:List Int):Option Int:=ref25_Sum_b lpK jnK x0 x1
noncomputable def c75:Ctr:=⟨[(.sl T64),(.sl i64)],[],[],.one i64,fun x _ _=>ref25_Sum x.1 x.2.1⟩
theorem e75 (lp:Lp) (jn:Jn):∀(x:TsS c75.as) (F:TsF c75.fs) (y:TsS c75.cs),ref25_Sum_b lp jn x.1 x.2.1=runC lp jn (ctxOf prog shs inls its [] [(116,r116),(115,r115),(114,r114),(69,r69),(119,r119)]) hints 4 75 f75 c75 x F y:=fun x F y=>by kernel_rfl
theorem l75:(ctxOf prog shs inls its [] [(116,r116),(115,r115),(114,r114),(69,r69),(119,r119)]).ok:=q116
theorem ok75:c75.ok prog 75:=Ctr.of_den l75 hmix (hl:=hints) (d:=4) func75 rfl (by decide) (e75 lpK jnK)
noncomputable def ref25_Counts_b (lp:Lp) (_:Jn) (x0:List (ByteArray×Int×Int)):Option (List Int) :=
 lp (List Int×Int×PUnit) (List Int) (fun (again:List Int×Int×PUnit→Option (List Int)) (x:List Int×Int×PUnit)=>bif decide (x.2.1<(↑(List.length x0):Int)) then bif
  inB x.2.1 (List.length x0) then bif fitB (List.length x.1+(1:Nat)) (8:Nat) then again (x.1++[(List.getD x0 (Int.toNat x.2.1) ({ data:={ toList:=[] } },(0 :
  Int),(0:Int))).2.2],IntKind.wrap .i64 (x.2.1+(1:Int)),PUnit.unit) else none else none else some x.1) ([],(0:Int),PUnit.unit)
noncomputable def ref25_Counts (x0:List (ByteArray×Int×Int)):Option (List Int):=ref25_Counts_b lpK jnK x0
noncomputable def c76:Ctr:=⟨[(.sl T64)],[],[],.one (.sl i64),fun x _ _=>ref25_Counts x.1⟩
theorem e76 (lp:Lp) (jn:Jn):∀(x:TsS c76.as) (F:TsF c76.fs) (y:TsS c76.cs),ref25_Counts_b lp jn x.1=runC lp jn (ctxOf prog shs inls its [] [(116,r116),(115,r115),(114,r114),(69,r69),(119,r119)]) hints 4 76 f76 c76 x F y:=fun x F y=>by kernel_rfl
theorem l76:(ctxOf prog shs inls its [] [(116,r116),(115,r115),(114,r114),(69,r69),(119,r119)]).ok:=q116
theorem ok76:c76.ok prog 76:=Ctr.of_den l76 hmix (hl:=hints) (d:=4) func76 rfl (by decide) (e76 lpK jnK)
noncomputable def ref30_Points_b (lp:Lp) (_:Jn) (ref21_Weight:(ByteArray×Int×Int×Int×Int×(List Int)×Int×Int×Int×Int×Int×(List (ByteArray×Int×Int×Int×Int×Int×Int))×List (ByteArray×Int×Int))→Option (Int)) (ref25_Sum:(List (ByteArray×Int×Int))→(List Int)→Option (Int)) (ref25_Counts:(List (ByteArray×Int×Int))→Option (List Int)) (x0:ByteArray×Int×(List (ByteArray×Int×Int×Int×Int×(List Int)×Int×Int×Int×Int×Int×(List (ByteArray×Int×Int×Int×Int×Int×Int))×List (ByteArray×Int×Int)))×List (ByteArray×Int×Int×Int)):Option (List (Int×Int)) :=
 lp (List (Int×Int)×Int×PUnit) (List (Int×Int)) (fun (again:List (Int×Int)×Int×PUnit→Option (List (Int×Int))) (x:List (Int×Int)×Int×PUnit) =>
 let v5:ByteArray×Int×Int×Int×Int×List Int×Int×Int×Int×Int×Int×List (ByteArray×Int×Int×Int×Int×Int×Int)×List (ByteArray×Int×Int):=List.getD
  x0.2.2.1 (Int.toNat x.2.1) ({ data:={ toList:=[] } },(0:Int),(0:Int),(0:Int),(0:Int),[],(0:Int),(0:Int),(0:Int),(0:Int),(0:Int),[],[]);bif
  decide (x.2.1<(↑(List.length x0.2.2.1):Int)) then bif inB x.2.1 (List.length x0.2.2.1) then obind (ref21_Weight v5) fun (t:Int)=>obind (ref25_Counts
  v5.2.2.2.2.2.2.2.2.2.2.2.2) fun (t_1:List Int)=>obind (ref25_Sum v5.2.2.2.2.2.2.2.2.2.2.2.2 t_1) fun (t_2:Int)=>bif fitB
  (List.length x.1+(1:Nat)) (16:Nat) then again (x.1++[(v5.2.1,IntKind.wrap .i64 (IntKind.wrap .i64 (t+v5.2.2.2.2.2.2.2.1)+t_2))],
  IntKind.wrap .i64 (x.2.1+(1:Int)),PUnit.unit) else none else none else some x.1) ([],(0:Int),PUnit.unit)
noncomputable def ref30_Points (x0:ByteArray×Int×(List (ByteArray×Int×Int×Int×Int×(List Int)×Int×Int×Int×Int×Int×(List (ByteArray×Int×Int×Int×Int×Int×Int))×List (ByteArray×Int×Int)))×List (ByteArray×Int×Int×Int)):Option (List (Int×Int)):=ref30_Points_b lpK jnK ref21_Weight ref25_Sum ref25_Counts x0
noncomputable def c42:Ctr:=⟨[T25],[],[],.one (.sl T78),fun x _ _=>ref30_Points x.1⟩
theorem e42 (lp:Lp) (jn:Jn) (ref21_Weight:(ByteArray×Int×Int×Int×Int×(List Int)×Int×Int×Int×Int×Int×(List (ByteArray×Int×Int×Int×Int×Int×Int))×List (ByteArray×Int×Int))→Option (Int)) (ref25_Sum:(List (ByteArray×Int×Int))→(List Int)→Option (Int)) (ref25_Counts:(List (ByteArray×Int×Int))→Option (List Int)):∀(x:TsS c42.as) (F:TsF c42.fs) (y:TsS c42.cs),ref30_Points_b lp jn ref21_Weight ref25_Sum ref25_Counts x.1=runC lp jn (ctxOf prog shs inls its [(76,⟨[(.sl T64)],[],[],.one (.sl i64),fun x _ _=>ref25_Counts x.1⟩),(75,⟨[(.sl T64),(.sl i64)],[],[],.one i64,fun x _ _=>ref25_Sum x.1 x.2.1⟩),(74,⟨[T44],[],[],.one i64,fun x _ _=>ref21_Weight x.1⟩)] [(116,r116),(115,r115),(114,r114),(69,r69),(119,r119)]) hints 4 42 f42 c42 x F y:=fun x F y=>by kernel_rfl
theorem l42:(ctxOf prog shs inls its [(76,c76),(75,c75),(74,c74)] [(116,r116),(115,r115),(114,r114),(69,r69),(119,r119)]).ok:=ctxOf_cons (ctxOf_cons (ctxOf_cons (q116) (by kernel_rfl) ok74) (by kernel_rfl) ok75) (by kernel_rfl) ok76
theorem ok42:c42.ok prog 42:=Ctr.of_den l42 hmix (hl:=hints) (d:=4) func42 rfl (by decide) (e42 lpK jnK ref21_Weight ref25_Sum ref25_Counts)
noncomputable def ref19_Is_b (_:Lp) (_:Jn) (ref19_between:(Int)→(Int)→(Int)→Option (Bool)) (x0:ByteArray×Int×Int×Int) (x1:Int):Option Bool :=
 obind (ref19_between x1 x0.2.1 x0.2.2.1) fun (t:Bool)=>some t
noncomputable def ref19_Is (x0:ByteArray×Int×Int×Int) (x1:Int):Option Bool:=ref19_Is_b lpK jnK ref19_between x0 x1
noncomputable def c79:Ctr:=⟨[T96,i64],[],[],.one .bool,fun x _ _=>ref19_Is x.1 x.2.1⟩
theorem e79 (lp:Lp) (jn:Jn) (ref19_between:(Int)→(Int)→(Int)→Option (Bool)):∀(x:TsS c79.as) (F:TsF c79.fs) (y:TsS c79.cs),ref19_Is_b lp jn ref19_between x.1 x.2.1=runC lp jn (ctxOf prog shs inls its [(86,⟨[i64,i64,i64],[],[],.one .bool,fun x _ _=>ref19_between x.1 x.2.1 x.2.2.1⟩)] [(116,r116),(115,r115),(114,r114),(69,r69),(119,r119)]) hints 4 79 f79 c79 x F y:=fun x F y=>by kernel_rfl
theorem l79:(ctxOf prog shs inls its [(86,c86)] [(116,r116),(115,r115),(114,r114),(69,r69),(119,r119)]).ok:=ctxOf_cons (q116) (by kernel_rfl) ok86
theorem ok79:c79.ok prog 79:=Ctr.of_den l79 hmix (hl:=hints) (d:=4) func79 rfl (by decide) (e79 lpK jnK ref19_between)
noncomputable def ref19_Count_b (lp:Lp) (_:Jn) (ref19_Is:(ByteArray×Int×Int×Int)→(Int)→Option (Bool)) (x0:List (ByteArray×Int×Int×Int)) (x1:Int):Option Int :=
 lp (Int×Int×PUnit) Int (fun (again:Int×Int×PUnit→Option Int) (x:Int×Int×PUnit) =>
 let v6:Int×PUnit:=(IntKind.wrap .i64 (x.2.1+(1:Int)),PUnit.unit);bif decide (x.2.1<(↑(List.length x0):Int)) then bif inB x.2.1 (List.length x0) then
  obind (ref19_Is (List.getD x0 (Int.toNat x.2.1) ({ data:={ toList:=[] } },(0:Int),(0:Int),(0:Int))) x1) fun (t:Bool)=>bif t then again (IntKind.wrap .i64
  (x.1+(1:Int)),v6) else again (x.1,v6) else none else some x.1) ((0:Int),(0:Int),PUnit.unit)
noncomputable def ref19_Count (x0:List (ByteArray×Int×Int×Int)) (x1:Int):Option Int:=ref19_Count_b lpK jnK ref19_Is x0 x1
noncomputable def c77:Ctr:=⟨[(.sl T96),i64],[],[],.one i64,fun x _ _=>ref19_Count x.1 x.2.1⟩
theorem e77 (lp:Lp) (jn:Jn) (ref19_Is:(ByteArray×Int×Int×Int)→(Int)→Option (Bool)):∀(x:TsS c77.as) (F:TsF c77.fs) (y:TsS c77.cs),ref19_Count_b lp jn ref19_Is x.1 x.2.1=runC lp jn (ctxOf prog shs inls its [(79,⟨[T96,i64],[],[],.one .bool,fun x _ _=>ref19_Is x.1 x.2.1⟩)] [(116,r116),(115,r115),(114,r114),(69,r69),(119,r119)]) hints 4 77 f77 c77 x F y:=fun x F y=>by kernel_rfl
theorem l77:(ctxOf prog shs inls its [(79,c79)] [(116,r116),(115,r115),(114,r114),(69,r69),(119,r119)]).ok:=ctxOf_cons (q116) (by kernel_rfl) ok79
theorem ok77:c77.ok prog 77:=Ctr.of_den l77 hmix (hl:=hints) (d:=4) func77 rfl (by decide) (e77 lpK jnK ref19_Is)
noncomputable def ref02_Of_b (_:Lp) (_:Jn) (x0:Int):Option (Int×Int) :=
 some (x0,(1:Int))
noncomputable def ref02_Of (x0:Int):Option (Int×Int):=ref02_Of_b lpK jnK x0
noncomputable def c78:Ctr:=⟨[i64],[],[],.one T36,fun x _ _=>ref02_Of x.1⟩
theorem e78 (lp:Lp) (jn:Jn):∀(x:TsS c78.as) (F:TsF c78.fs) (y:TsS c78.cs),ref02_Of_b lp jn x.1=runC lp jn (ctxOf prog shs inls its [] [(116,r116),(115,r115),(114,r114),(69,r69),(119,r119)]) hints 4 78 f78 c78 x F y:=fun x F y=>by kernel_rfl
theorem l78:(ctxOf prog shs inls its [] [(116,r116),(115,r115),(114,r114),(69,r69),(119,r119)]).ok:=q116
theorem ok78:c78.ok prog 78:=Ctr.of_den l78 hmix (hl:=hints) (d:=4) func78 rfl (by decide) (e78 lpK jnK)
noncomputable def ref02_Plus_b (_:Lp) (_:Jn) (x0:Int×Int) (x1:Int×Int):Option (Int×Int) :=
 
 let v4:Int:=IntKind.wrap .u64 (x0.1+x1.1);
 let v5:Int:=IntKind.wrap .u64 (x0.2+x1.2);bif decide (v5<x0.2) then some (IntKind.wrap .u64 (v4+(1:Int)),v5) else some (v4,v5)
noncomputable def ref02_Plus (x0:Int×Int) (x1:Int×Int):Option (Int×Int):=ref02_Plus_b lpK jnK x0 x1
noncomputable def c128:Ctr:=⟨[T148,T148],[],[],.one T148,fun x _ _=>ref02_Plus x.1 x.2.1⟩
theorem e128 (lp:Lp) (jn:Jn):∀(x:TsS c128.as) (F:TsF c128.fs) (y:TsS c128.cs),ref02_Plus_b lp jn x.1 x.2.1=runC lp jn (ctxOf prog shs inls its [] [(116,r116),(115,r115),(114,r114),(69,r69),(119,r119)]) hints 4 128 f128 c128 x F y:=fun x F y=>by kernel_rfl
theorem l128:(ctxOf prog shs inls its [] [(116,r116),(115,r115),(114,r114),(69,r69),(119,r119)]).ok:=q116
theorem ok128:c128.ok prog 128:=Ctr.of_den l128 hmix (hl:=hints) (d:=4) func128 rfl (by decide) (e128 lpK jnK)
noncomputable def ref02_Less_b (_:Lp) (_:Jn) (x0:Int×Int) (x1:Int×Int):Option Bool :=
 
 let v4:Bool:=decide (x0.1=x1.1);
 let v5:Bool:=decide (x0.1<x1.1);
 let v6:Bool:=!v5;
 let v7:Bool:=!v6;
 let v8:Bool:=v6&&v4;
 let v9:Bool:=v7||v6;
 let v10:Bool:=!v8||v8;bif v9 then bif v9 then bif v9&&v9 then bif v9 then bif v10 then bif v10 then bif v10&&v10 then bif (v7||v9)&&(v7||(!v4||(v7||v8))) then bif v5
  || v6 then some (bif v5 then true else bif v4 then decide (x0.2<x1.2) else false) else none else none else none else none else none else none else none else none else none
noncomputable def ref02_Less (x0:Int×Int) (x1:Int×Int):Option Bool:=ref02_Less_b lpK jnK x0 x1
noncomputable def c129:Ctr:=⟨[T148,T148],[],[],.one .bool,fun x _ _=>ref02_Less x.1 x.2.1⟩
theorem e129 (lp:Lp) (jn:Jn):∀(x:TsS c129.as) (F:TsF c129.fs) (y:TsS c129.cs),ref02_Less_b lp jn x.1 x.2.1=runC lp jn (ctxOf prog shs inls its [] [(116,r116),(115,r115),(114,r114),(69,r69),(119,r119)]) hints 4 129 f129 c129 x F y:=fun x F y=>by kernel_rfl
theorem l129:(ctxOf prog shs inls its [] [(116,r116),(115,r115),(114,r114),(69,r69),(119,r119)]).ok:=q116
theorem ok129:c129.ok prog 129:=Ctr.of_den l129 hmix (hl:=hints) (d:=4) func129 rfl (by decide) (e129 lpK jnK)
noncomputable def ref02_Minus_b (_:Lp) (_:Jn) (x0:Int×Int) (x1:Int×Int):Option (Int×Int) :=
 
 let v4:Int:=IntKind.wrap .u64 (x0.1 - x1.1);
 let v5:Int:=IntKind.wrap .u64 (x0.2 - x1.2);bif decide (x0.2<x1.2) then some (IntKind.wrap .u64 (v4 - (1:Int)),v5) else some (v4,v5)
noncomputable def ref02_Minus (x0:Int×Int) (x1:Int×Int):Option (Int×Int):=ref02_Minus_b lpK jnK x0 x1
noncomputable def c130:Ctr:=⟨[T148,T148],[],[],.one T148,fun x _ _=>ref02_Minus x.1 x.2.1⟩
theorem e130 (lp:Lp) (jn:Jn):∀(x:TsS c130.as) (F:TsF c130.fs) (y:TsS c130.cs),ref02_Minus_b lp jn x.1 x.2.1=runC lp jn (ctxOf prog shs inls its [] [(116,r116),(115,r115),(114,r114),(69,r69),(119,r119)]) hints 4 130 f130 c130 x F y:=fun x F y=>by kernel_rfl
theorem l130:(ctxOf prog shs inls its [] [(116,r116),(115,r115),(114,r114),(69,r69),(119,r119)]).ok:=q116
theorem ok130:c130.ok prog 130:=Ctr.of_den l130 hmix (hl:=hints) (d:=4) func130 rfl (by decide) (e130 lpK jnK)
noncomputable def ref02_Half_b (_:Lp) (_:Jn) (x0:Int×Int):Option (Int×Int) :=
 
 let v3:Int:=(2:Int) ^ (1:Nat);
 let v4:Bool:=decide ((0:Int)≤(1:Int));bif v4 then bif v4 then bif decide ((0:Int)≤(63:Int)) then some (Int.fdiv x0.1 v3,IntKind.wrap .u64 (Int.fdiv x0.2 v3 +
  IntKind.wrap .u64 (x0.1*(2:Int) ^ (63:Nat)))) else none else none else none
noncomputable def ref02_Half (x0:Int×Int):Option (Int×Int):=ref02_Half_b lpK jnK x0
noncomputable def c161:Ctr:=⟨[T148],[],[],.one T148,fun x _ _=>ref02_Half x.1⟩
theorem e161 (lp:Lp) (jn:Jn):∀(x:TsS c161.as) (F:TsF c161.fs) (y:TsS c161.cs),ref02_Half_b lp jn x.1=runC lp jn (ctxOf prog shs inls its [] [(116,r116),(115,r115),(114,r114),(69,r69),(119,r119)]) hints 4 161 f161 c161 x F y:=fun x F y=>by kernel_rfl
theorem l161:(ctxOf prog shs inls its [] [(116,r116),(115,r115),(114,r114),(69,r69),(119,r119)]).ok:=q116
theorem ok161:c161.ok prog 161:=Ctr.of_den l161 hmix (hl:=hints) (d:=4) func161 rfl (by decide) (e161 lpK jnK)
noncomputable def ref02_Gcd_b (lp:Lp) (_:Jn) (ref02_Plus:(Int×Int)→(Int×Int)→Option (Int×Int)) (ref02_Less:(Int×Int)→(Int×Int)→Option (Bool)) (ref02_Minus:(Int×Int)→(Int×Int)→Option (Int×Int)) (ref02_Half:(Int×Int)→Option (Int×Int)) (x0:Int×Int) (x1:Int×Int):Option (Int×Int) :=
 bif decide (x0.1=(0:Int))&&(decide (x0.2=(0:Int))&&true) then some x1 else lp (Int×(Int×Int)×(Int×Int)×PUnit) (Int×Int) (fun (again:Int×(Int×Int)×(Int ×
  Int)×PUnit→Option (Int×Int)) (x:Int×(Int×Int)×(Int×Int)×PUnit) =>
 let v6:Bool:=decide (IntKind.wrap .u64 (↑(Nat.land (Int.toNat (x.2.1.2 % Int.ofNat (18446744073709551616:Nat))) (Int.toNat ((1:Int) % Int.ofNat (18446744073709551616
  : Nat)))):Int)=(0:Int));
 let v7:Bool:=!v6||v6;bif v7 then bif v7 then bif v7 then bif v7 then bif bif v6 then decide (IntKind.wrap .u64 (↑(Nat.land (Int.toNat (x.2.2.1.2 % Int.ofNat
  (18446744073709551616:Nat))) (Int.toNat ((1:Int) % Int.ofNat (18446744073709551616:Nat)))):Int)=(0:Int)) else false then obind (ref02_Half x.2.1) fun (t:Int×Int) =>
  obind (ref02_Half x.2.2.1) fun (t_1:Int×Int)=>again (IntKind.wrap .i64 (x.1+(1:Int)),t,t_1,PUnit.unit) else lp ((Int×Int)×(Int×Int)×PUnit) (Int ×
  Int) (fun (again:(Int×Int)×(Int×Int)×PUnit→Option (Int×Int)) (x_1:(Int×Int)×(Int×Int)×PUnit) =>
 let v10:(Int×Int)×PUnit:=(x_1.2.1,PUnit.unit);bif !(decide (x_1.1.1=(0:Int))&&(decide (x_1.1.2=(0:Int))&&true)) then lp ((Int×Int)×PUnit) (Int×Int)
  (fun (again_1:(Int×Int)×PUnit→Option (Int×Int)) (x:(Int×Int)×PUnit)=>bif decide (IntKind.wrap .u64 (↑(Nat.land (Int.toNat (x.1.2 % Int.ofNat
  (18446744073709551616:Nat))) (Int.toNat ((1:Int) % Int.ofNat (18446744073709551616:Nat)))):Int)=(0:Int)) then obind (ref02_Half x.1) fun (t:Int×Int)=>again_1 (t,
  PUnit.unit) else lp ((Int×Int)×PUnit) (Int×Int) (fun (again_2:(Int×Int)×PUnit→Option (Int×Int)) (x_2:(Int×Int)×PUnit)=>bif decide (IntKind.wrap .u64
  (↑(Nat.land (Int.toNat (x_2.1.2 % Int.ofNat (18446744073709551616:Nat))) (Int.toNat ((1:Int) % Int.ofNat (18446744073709551616:Nat)))):Int)=(0:Int)) then obind
  (ref02_Half x_2.1) fun (t:Int×Int)=>again_2 (t,PUnit.unit) else obind (ref02_Less x.1 x_2.1) fun (t:Bool)=>bif t then obind (ref02_Minus x_2.1 x.1) fun (t:Int ×
  Int)=>again (t,x.1,PUnit.unit) else obind (ref02_Minus x.1 x_2.1) fun (t:Int×Int)=>again (t,x_2.1,PUnit.unit)) v10) (x_1.1,PUnit.unit) else lp (Int×(Int×Int)
  × PUnit) (Int×Int) (fun (again:Int×(Int×Int)×PUnit→Option (Int×Int)) (x:Int×(Int×Int)×PUnit)=>bif decide (x.1>(0:Int)) then obind (ref02_Plus x.2.1
  x.2.1) fun (t:Int×Int)=>again (IntKind.wrap .i64 (x.1 - (1:Int)),t,PUnit.unit) else some x.2.1) (x.1,v10)) (x.2.1,x.2.2.1,PUnit.unit) else none
  else none else none else none) ((0:Int),x0,x1,PUnit.unit)
noncomputable def ref02_Gcd (x0:Int×Int) (x1:Int×Int):Option (Int×Int):=ref02_Gcd_b lpK jnK ref02_Plus ref02_Less ref02_Minus ref02_Half x0 x1
noncomputable def c155:Ctr:=⟨[T148,T148],[],[],.one T148,fun x _ _=>ref02_Gcd x.1 x.2.1⟩
theorem e155 (lp:Lp) (jn:Jn) (ref02_Plus:(Int×Int)→(Int×Int)→Option (Int×Int)) (ref02_Less:(Int×Int)→(Int×Int)→Option (Bool)) (ref02_Minus:(Int×Int)→(Int×Int)→Option (Int×Int)) (ref02_Half:(Int×Int)→Option (Int×Int)):∀(x:TsS c155.as) (F:TsF c155.fs) (y:TsS c155.cs),ref02_Gcd_b lp jn ref02_Plus ref02_Less ref02_Minus ref02_Half x.1 x.2.1=runC lp jn (ctxOf prog shs inls its [(161,⟨[T148],[],[],.one T148,fun x _ _=>ref02_Half x.1⟩),(130,⟨[T148,T148],[],[],.one T148,fun x _ _=>ref02_Minus x.1 x.2.1⟩),(129,⟨[T148,T148],[],[],.one .bool,fun x _ _=>ref02_Less x.1 x.2.1⟩),(128,⟨[T148,T148],[],[],.one T148,fun x _ _=>ref02_Plus x.1 x.2.1⟩)] [(116,r116),(115,r115),(114,r114),(69,r69),(119,r119)]) hints 4 155 f155 c155 x F y:=fun x F y=>by kernel_rfl
theorem l155:(ctxOf prog shs inls its [(161,c161),(130,c130),(129,c129),(128,c128)] [(116,r116),(115,r115),(114,r114),(69,r69),(119,r119)]).ok:=ctxOf_cons (ctxOf_cons (ctxOf_cons (ctxOf_cons (q116) (by kernel_rfl) ok128) (by kernel_rfl) ok129) (by kernel_rfl) ok130) (by kernel_rfl) ok161
theorem ok155:c155.ok prog 155:=Ctr.of_den l155 hmix (hl:=hints) (d:=4) func155 rfl (by decide) (e155 lpK jnK ref02_Plus ref02_Less ref02_Minus ref02_Half)
noncomputable def ref02_Div_b (lp:Lp) (_:Jn) (ref02_Less:(Int×Int)→(Int×Int)→Option (Bool)) (ref02_Minus:(Int×Int)→(Int×Int)→Option (Int×Int)) (x0:Int×Int) (x1:Int×Int):Option ((Int×Int)×(Int×Int)×Unit) :=
 
 let v4:Bool:=nzB x1.2;
 let v5:Int:=(2:Int) ^ (63:Nat);
 let v6:Int:=(2:Int) ^ (1:Nat);
 let v7:Bool:=decide (x0.1=(0:Int));
 let v8:Bool:=decide ((0:Int)≤(63:Int));
 let v9:Bool:=decide ((0:Int)≤(1:Int));
 let v10:Bool:=!v7||v7;bif v10 then bif v10 then bif v10 then bif bif v7 then decide (x1.1=(0:Int)) else false then bif v4 then bif v4 then some (((0:Int),IntKind.wrap
  IntKind.u64 (Int.tdiv x0.2 x1.2)),((0:Int),Int.tmod x0.2 x1.2),PUnit.unit) else none else none else lp (Int×(Int×Int)×(Int×Int)×(Int×Int)×PUnit) ((Int×Int)
  × (Int×Int)×PUnit) (fun (again:Int×(Int×Int)×(Int×Int)×(Int×Int)×PUnit→Option ((Int×Int)×(Int×Int)×PUnit)) (x:Int×(Int×Int)×(Int×Int)×(Int ×
  Int)×PUnit) =>
 let v13:Int:=IntKind.wrap .i64 (x.1+(1:Int));
 let v14:Int:=IntKind.wrap .u64 (x.2.2.1.2*v6);
 let v15:Int:=IntKind.wrap .u64 (IntKind.wrap .u64 (x.2.2.1.1*v6)+Int.fdiv x.2.2.1.2 v5);
 let v16:Bool:=decide (Int.fdiv x.2.2.2.1.1 v5>(0:Int));
 let v17:Bool:=!v16;
 let v18:Int×Int:=(IntKind.wrap .u64 (IntKind.wrap .u64 (x.2.1.1*v6)+Int.fdiv x.2.1.2 v5),IntKind.wrap .u64 (x.2.1.2*v6));
 let v19:Int×Int:=(IntKind.wrap .u64 (IntKind.wrap .u64 (x.2.2.2.1.1*v6)+Int.fdiv x.2.2.2.1.2 v5),IntKind.wrap .u64 (IntKind.wrap
  IntKind.u64 (x.2.2.2.1.2*v6)+Int.fdiv x.2.1.1 v5));
 let v20:Bool:=!v17||v17;bif decide (x.1<(128:Int)) then bif v8 then bif v9 then bif v8 then bif v9 then bif v8 then bif v9 then bif v8 then bif v9 then bif v9 then bif v8
  then bif v9 then bif v20&&v20 then obind (bif v17 then ref02_Less v19 x1 else some false) fun (t:Bool)=>bif v20 then bif v16||v17 then bif bif v16 then true else !t then obind
  (ref02_Minus v19 x1) fun (t:Int×Int)=>again (v13,v18,(v15,IntKind.wrap .u64 (v14+(1:Int))),t,PUnit.unit) else again (v13,v18,(v15,v14),v19,PUnit.unit) else
  none else none else none else none else none else none else none else none else none else none else none else none else none else none else some (x.2.2.1,x.2.2.2.1,
  PUnit.unit)) ((0:Int),x0,((0:Int),(0:Int)),((0:Int),(0:Int)),PUnit.unit) else none else none else none
noncomputable def ref02_Div (x0:Int×Int) (x1:Int×Int):Option ((Int×Int)×(Int×Int)×Unit):=ref02_Div_b lpK jnK ref02_Less ref02_Minus x0 x1
noncomputable def c156:Ctr:=⟨[T148,T148],[],[],.tup [T148,T148],fun x _ _=>ref02_Div x.1 x.2.1⟩
theorem e156 (lp:Lp) (jn:Jn) (ref02_Less:(Int×Int)→(Int×Int)→Option (Bool)) (ref02_Minus:(Int×Int)→(Int×Int)→Option (Int×Int)):∀(x:TsS c156.as) (F:TsF c156.fs) (y:TsS c156.cs),ref02_Div_b lp jn ref02_Less ref02_Minus x.1 x.2.1=runC lp jn (ctxOf prog shs inls its [(130,⟨[T148,T148],[],[],.one T148,fun x _ _=>ref02_Minus x.1 x.2.1⟩),(129,⟨[T148,T148],[],[],.one .bool,fun x _ _=>ref02_Less x.1 x.2.1⟩)] [(116,r116),(115,r115),(114,r114),(69,r69),(119,r119)]) hints 4 156 f156 c156 x F y:=fun x F y=>by kernel_rfl
theorem l156:(ctxOf prog shs inls its [(130,c130),(129,c129)] [(116,r116),(115,r115),(114,r114),(69,r69),(119,r119)]).ok:=ctxOf_cons (ctxOf_cons (q116) (by kernel_rfl) ok129) (by kernel_rfl) ok130
theorem ok156:c156.ok prog 156:=Ctr.of_den l156 hmix (hl:=hints) (d:=4) func156 rfl (by decide) (e156 lpK jnK ref02_Less ref02_Minus)
noncomputable def ref02_Made_b (_:Lp) (_:Jn) (ref02_Gcd:(Int×Int)→(Int×Int)→Option (Int×Int)) (ref02_Div:(Int×Int)→(Int×Int)→Option ((Int×Int)×(Int×Int)×Unit)) (x0:Int×Int) (x1:Bool) (x2:Int×Int):Option ((Int×Int)×Int×Unit) :=
 bif decide (x2.1=(0:Int))&&(decide (x2.2=(0:Int))&&true) then some (((0:Int),(0:Int)),(16:Int),PUnit.unit) else obind (ref02_Gcd x0 x2) fun (t:Int×Int)=>obind
  (ref02_Div x0 t) fun (t_1:(Int×Int)×(Int×Int)×PUnit) =>
 let v7:Int:=IntKind.wrap .i64 t_1.1.2;
 let v8:Bool:=decide (t_1.1.1>(0:Int));
 let v9:Bool:=!v8;
 let v10:Bool:=bif v8 then true else decide (t_1.1.2>(1152921504606846976:Int));
 let v11:Bool:=!v9||v9;
 let v12:Bool:=!v10;
 let v13:Bool:=!v12||v12;obind (ref02_Div x2 t) fun (t:(Int×Int)×(Int×Int)×PUnit) =>
 let v15:Int:=IntKind.wrap .i64 t.1.2;
 let v16:Bool:=bif v10 then true else decide (t.1.1>(0:Int));
 let v17:Bool:=!v16;
 let v18:Bool:=!v17||v17;bif v11 then bif v11 then bif v8||v9 then bif v13 then bif v13 then bif v10||v12 then bif v18 then bif v18 then bif v16||v17 then bif bif v16 then
  true else decide (t.1.2>(1152921504606846976:Int)) then some (((0:Int),(0:Int)),(5:Int),PUnit.unit) else bif x1 then some ((IntKind.wrap .i64 ((0:Int) - v7),
  v15),(0:Int),PUnit.unit) else some ((v7,v15),(0:Int),PUnit.unit) else none else none else none else none else none else none else none else none else none
noncomputable def ref02_Made (x0:Int×Int) (x1:Bool) (x2:Int×Int):Option ((Int×Int)×Int×Unit):=ref02_Made_b lpK jnK ref02_Gcd ref02_Div x0 x1 x2
noncomputable def c125:Ctr:=⟨[T148,.bool,T148],[],[],.tup [T36,i64],fun x _ _=>ref02_Made x.1 x.2.1 x.2.2.1⟩
theorem e125 (lp:Lp) (jn:Jn) (ref02_Gcd:(Int×Int)→(Int×Int)→Option (Int×Int)) (ref02_Div:(Int×Int)→(Int×Int)→Option ((Int×Int)×(Int×Int)×Unit)):∀(x:TsS c125.as) (F:TsF c125.fs) (y:TsS c125.cs),ref02_Made_b lp jn ref02_Gcd ref02_Div x.1 x.2.1 x.2.2.1=runC lp jn (ctxOf prog shs inls its [(156,⟨[T148,T148],[],[],.tup [T148,T148],fun x _ _=>ref02_Div x.1 x.2.1⟩),(155,⟨[T148,T148],[],[],.one T148,fun x _ _=>ref02_Gcd x.1 x.2.1⟩)] [(116,r116),(115,r115),(114,r114),(69,r69),(119,r119)]) hints 4 125 f125 c125 x F y:=fun x F y=>by kernel_rfl
theorem l125:(ctxOf prog shs inls its [(156,c156),(155,c155)] [(116,r116),(115,r115),(114,r114),(69,r69),(119,r119)]).ok:=ctxOf_cons (ctxOf_cons (q116) (by kernel_rfl) ok155) (by kernel_rfl) ok156
theorem ok125:c125.ok prog 125:=Ctr.of_den l125 hmix (hl:=hints) (d:=4) func125 rfl (by decide) (e125 lpK jnK ref02_Gcd ref02_Div)
noncomputable def ref02_Size_b (_:Lp) (_:Jn) (x0:Int):Option Int :=
 
 let v3:Int:=IntKind.wrap .u64 x0;bif decide (x0<(0:Int)) then some (IntKind.wrap .u64 ((0:Int) - v3)) else some v3
noncomputable def ref02_Size (x0:Int):Option Int:=ref02_Size_b lpK jnK x0
noncomputable def c126:Ctr:=⟨[i64],[],[],.one (.int .u64),fun x _ _=>ref02_Size x.1⟩
theorem e126 (lp:Lp) (jn:Jn):∀(x:TsS c126.as) (F:TsF c126.fs) (y:TsS c126.cs),ref02_Size_b lp jn x.1=runC lp jn (ctxOf prog shs inls its [] [(116,r116),(115,r115),(114,r114),(69,r69),(119,r119)]) hints 4 126 f126 c126 x F y:=fun x F y=>by kernel_rfl
theorem l126:(ctxOf prog shs inls its [] [(116,r116),(115,r115),(114,r114),(69,r69),(119,r119)]).ok:=q116
theorem ok126:c126.ok prog 126:=Ctr.of_den l126 hmix (hl:=hints) (d:=4) func126 rfl (by decide) (e126 lpK jnK)
noncomputable def ref02_Make_b (_:Lp) (_:Jn) (ref02_Made:(Int×Int)→(Bool)→(Int×Int)→Option ((Int×Int)×Int×Unit)) (ref02_Size:(Int)→Option (Int)) (x0:Int) (x1:Int):Option ((Int×Int)×Int×Unit) :=
 obind (ref02_Size x0) fun (t:Int)=>obind (ref02_Size x1) fun (t_1:Int)=>obind (ref02_Made ((0:Int),t) (!decide (decide (x0<(0:Int))=decide (x1<(0:Int)))) ((0:Int),
  t_1)) fun (t:(Int×Int)×Int×PUnit)=>some (t.1,t.2.1,PUnit.unit)
noncomputable def ref02_Make (x0:Int) (x1:Int):Option ((Int×Int)×Int×Unit):=ref02_Make_b lpK jnK ref02_Made ref02_Size x0 x1
noncomputable def c80:Ctr:=⟨[i64,i64],[],[],.tup [T36,i64],fun x _ _=>ref02_Make x.1 x.2.1⟩
theorem e80 (lp:Lp) (jn:Jn) (ref02_Made:(Int×Int)→(Bool)→(Int×Int)→Option ((Int×Int)×Int×Unit)) (ref02_Size:(Int)→Option (Int)):∀(x:TsS c80.as) (F:TsF c80.fs) (y:TsS c80.cs),ref02_Make_b lp jn ref02_Made ref02_Size x.1 x.2.1=runC lp jn (ctxOf prog shs inls its [(126,⟨[i64],[],[],.one (.int .u64),fun x _ _=>ref02_Size x.1⟩),(125,⟨[T148,.bool,T148],[],[],.tup [T36,i64],fun x _ _=>ref02_Made x.1 x.2.1 x.2.2.1⟩)] [(116,r116),(115,r115),(114,r114),(69,r69),(119,r119)]) hints 4 80 f80 c80 x F y:=fun x F y=>by kernel_rfl
theorem l80:(ctxOf prog shs inls its [(126,c126),(125,c125)] [(116,r116),(115,r115),(114,r114),(69,r69),(119,r119)]).ok:=ctxOf_cons (ctxOf_cons (q116) (by kernel_rfl) ok125) (by kernel_rfl) ok126
theorem ok80:c80.ok prog 80:=Ctr.of_den l80 hmix (hl:=hints) (d:=4) func80 rfl (by decide) (e80 lpK jnK ref02_Made ref02_Size)
noncomputable def ref02_Mul_b (_:Lp) (_:Jn) (x0:Int) (x1:Int):Option (Int×Int) :=
 
 let v4:Int:=(2:Int) ^ (32:Nat);
 let v5:Int:=Int.fdiv x0 v4;
 let v6:Int:=Int.fdiv x1 v4;
 let v7:Bool:=decide ((0:Int)≤(32:Int));
 let v8:Int:=IntKind.wrap .u64 (↑(Nat.land (Int.toNat (x1 % Int.ofNat (18446744073709551616:Nat))) (Int.toNat ((4294967295:Int) % Int.ofNat (18446744073709551616:Nat)))) :
  Int);
 let v9:Int:=IntKind.wrap .u64 (↑(Nat.land (Int.toNat (x0 % Int.ofNat (18446744073709551616:Nat))) (Int.toNat ((4294967295:Int) % Int.ofNat (18446744073709551616:Nat)))) :
  Int);
 let v10:Int:=IntKind.wrap .u64 (v9*v8);
 let v11:Int:=IntKind.wrap .u64 (IntKind.wrap .u64 (v5*v8)+Int.fdiv v10 v4);
 let v12:Int:=IntKind.wrap .u64 (IntKind.wrap .u64 (v9*v6)+IntKind.wrap .u64 (↑(Nat.land (Int.toNat (v11 % Int.ofNat (18446744073709551616:Nat))) (Int.toNat
  ((4294967295:Int) % Int.ofNat (18446744073709551616:Nat)))):Int));bif v7 then bif v7 then bif v7 then bif v7 then bif v7 then bif v7 then some (IntKind.wrap .u64
  (IntKind.wrap .u64 (IntKind.wrap .u64 (v5*v6)+Int.fdiv v11 v4)+Int.fdiv v12 v4),IntKind.wrap .u64 (IntKind.wrap .u64 (v12*v4)+IntKind.wrap
  IntKind.u64 (↑(Nat.land (Int.toNat (v10 % Int.ofNat (18446744073709551616:Nat))) (Int.toNat ((4294967295:Int) % Int.ofNat (18446744073709551616:Nat)))):Int))) else none else
  none else none else none else none else none
noncomputable def ref02_Mul (x0:Int) (x1:Int):Option (Int×Int):=ref02_Mul_b lpK jnK x0 x1
noncomputable def c127:Ctr:=⟨[(.int .u64),(.int .u64)],[],[],.one T148,fun x _ _=>ref02_Mul x.1 x.2.1⟩
theorem e127 (lp:Lp) (jn:Jn):∀(x:TsS c127.as) (F:TsF c127.fs) (y:TsS c127.cs),ref02_Mul_b lp jn x.1 x.2.1=runC lp jn (ctxOf prog shs inls its [] [(116,r116),(115,r115),(114,r114),(69,r69),(119,r119)]) hints 4 127 f127 c127 x F y:=fun x F y=>by kernel_rfl
theorem l127:(ctxOf prog shs inls its [] [(116,r116),(115,r115),(114,r114),(69,r69),(119,r119)]).ok:=q116
theorem ok127:c127.ok prog 127:=Ctr.of_den l127 hmix (hl:=hints) (d:=4) func127 rfl (by decide) (e127 lpK jnK)
noncomputable def ref02_Add_b (_:Lp) (_:Jn) (ref02_Plus:(Int×Int)→(Int×Int)→Option (Int×Int)) (ref02_Less:(Int×Int)→(Int×Int)→Option (Bool)) (ref02_Minus:(Int×Int)→(Int×Int)→Option (Int×Int)) (ref02_Made:(Int×Int)→(Bool)→(Int×Int)→Option ((Int×Int)×Int×Unit)) (ref02_Size:(Int)→Option (Int)) (ref02_Mul:(Int)→(Int)→Option (Int×Int)) (x0:Int×Int) (x1:Int×Int):Option ((Int×Int)×Int×Unit) :=
 
 let v4:Bool:=decide (x0.1<(0:Int));obind (ref02_Size x0.1) fun (t:Int)=>obind (ref02_Size x1.2) fun (t_1:Int)=>obind (ref02_Mul t t_1) fun (t:Int×Int)=>obind
  (ref02_Size x1.1) fun (t_2:Int)=>obind (ref02_Size x0.2) fun (t_3:Int)=>obind (ref02_Mul t_2 t_3) fun (t_4:Int×Int)=>obind (ref02_Size x0.2) fun (t_5:Int)=>obind
  (ref02_Size x1.2) fun (t_6:Int)=>obind (ref02_Mul t_5 t_6) fun (t_7:Int×Int)=>bif decide (v4=decide (x1.1<(0:Int))) then obind (ref02_Plus t t_4) fun (t:Int×Int)
  =>obind (ref02_Made t v4 t_7) fun (t:(Int×Int)×Int×PUnit)=>some (t.1,t.2.1,PUnit.unit) else obind (ref02_Less t t_4) fun (t_8:Bool)=>bif t_8 then obind
  (ref02_Minus t_4 t) fun (t:Int×Int)=>obind (ref02_Made t (decide (x1.1<(0:Int))) t_7) fun (t:(Int×Int)×Int×PUnit)=>some (t.1,t.2.1,PUnit.unit) else obind
  (ref02_Minus t t_4) fun (t:Int×Int)=>obind (ref02_Made t v4 t_7) fun (t:(Int×Int)×Int×PUnit)=>some (t.1,t.2.1,PUnit.unit)
noncomputable def ref02_Add (x0:Int×Int) (x1:Int×Int):Option ((Int×Int)×Int×Unit):=ref02_Add_b lpK jnK ref02_Plus ref02_Less ref02_Minus ref02_Made ref02_Size ref02_Mul x0 x1
noncomputable def c81:Ctr:=⟨[T36,T36],[],[],.tup [T36,i64],fun x _ _=>ref02_Add x.1 x.2.1⟩
theorem e81 (lp:Lp) (jn:Jn) (ref02_Plus:(Int×Int)→(Int×Int)→Option (Int×Int)) (ref02_Less:(Int×Int)→(Int×Int)→Option (Bool)) (ref02_Minus:(Int×Int)→(Int×Int)→Option (Int×Int)) (ref02_Made:(Int×Int)→(Bool)→(Int×Int)→Option ((Int×Int)×Int×Unit)) (ref02_Size:(Int)→Option (Int)) (ref02_Mul:(Int)→(Int)→Option (Int×Int)):∀(x:TsS c81.as) (F:TsF c81.fs) (y:TsS c81.cs),ref02_Add_b lp jn ref02_Plus ref02_Less ref02_Minus ref02_Made ref02_Size ref02_Mul x.1 x.2.1=runC lp jn (ctxOf prog shs inls its [(127,⟨[(.int .u64),(.int .u64)],[],[],.one T148,fun x _ _=>ref02_Mul x.1 x.2.1⟩),(126,⟨[i64],[],[],.one (.int .u64),fun x _ _=>ref02_Size x.1⟩),(125,⟨[T148,.bool,T148],[],[],.tup [T36,i64],fun x _ _=>ref02_Made x.1 x.2.1 x.2.2.1⟩),(130,⟨[T148,T148],[],[],.one T148,fun x _ _=>ref02_Minus x.1 x.2.1⟩),(129,⟨[T148,T148],[],[],.one .bool,fun x _ _=>ref02_Less x.1 x.2.1⟩),(128,⟨[T148,T148],[],[],.one T148,fun x _ _=>ref02_Plus x.1 x.2.1⟩)] [(116,r116),(115,r115),(114,r114),(69,r69),(119,r119)]) hints 4 81 f81 c81 x F y:=fun x F y=>by kernel_rfl
theorem l81:(ctxOf prog shs inls its [(127,c127),(126,c126),(125,c125),(130,c130),(129,c129),(128,c128)] [(116,r116),(115,r115),(114,r114),(69,r69),(119,r119)]).ok:=ctxOf_cons (ctxOf_cons (ctxOf_cons (ctxOf_cons (ctxOf_cons (ctxOf_cons (q116) (by kernel_rfl) ok128) (by kernel_rfl) ok129) (by kernel_rfl) ok130) (by kernel_rfl) ok125) (by kernel_rfl) ok126) (by kernel_rfl) ok127
theorem ok81:c81.ok prog 81:=Ctr.of_den l81 hmix (hl:=hints) (d:=4) func81 rfl (by decide) (e81 lpK jnK ref02_Plus ref02_Less ref02_Minus ref02_Made ref02_Size ref02_Mul)
noncomputable def ref19_Loads_b (lp:Lp) (_:Jn) (ref19_Is:(ByteArray×Int×Int×Int)→(Int)→Option (Bool)) (ref19_Count:(List (ByteArray×Int×Int×Int))→(Int)→Option (Int)) (ref02_Of:(Int)→Option (Int×Int)) (ref02_Make:(Int)→(Int)→Option ((Int×Int)×Int×Unit)) (ref02_Add:(Int×Int)→(Int×Int)→Option ((Int×Int)×Int×Unit)) (x0:List (ByteArray×Int×Int×Int)) (x1:List (Int×Int)):Option ((List (Int×Int))×Int×Unit) :=
 lp (Int×PUnit) (List (Int×Int)×Int×PUnit) (fun (again:Int×PUnit→Option (List (Int×Int)×Int×PUnit)) (x:Int×PUnit)=>bif decide (x.1<(↑(List.length x1):Int))
  then bif inB x.1 (List.length x1) then obind (ref19_Count x0 (List.getD x1 (Int.toNat x.1) ((0:Int),(0:Int))).1) fun (t:Int)=>bif decide (t=(0:Int)) then some ([],
  (12:Int),PUnit.unit) else again (IntKind.wrap .i64 (x.1+(1:Int)),PUnit.unit) else none else lp (List (Int×Int)×Int×PUnit) (List (Int×Int)×Int×PUnit) (fun
  (again:List (Int×Int)×Int×PUnit→Option (List (Int×Int)×Int×PUnit)) (x:List (Int×Int)×Int×PUnit)=>bif decide (x.2.1<(↑(List.length x0):Int)) then obind
  (ref02_Of (0:Int)) fun (t:Int×Int)=>lp (Int×(Int×Int)×PUnit) (List (Int×Int)×Int×PUnit) (fun (again_1:Int×(Int×Int)×PUnit→Option (List (Int×Int)×Int ×
  PUnit)) (x_1:Int×(Int×Int)×PUnit) =>
 let v11:Bool:=inB x_1.1 (List.length x1);
 let v12:Int:=IntKind.wrap .i64 (x_1.1+(1:Int));
 let v13:Int×Int:=List.getD x1 (Int.toNat x_1.1) ((0:Int),(0:Int));bif decide (x_1.1<(↑(List.length x1):Int)) then bif inB x.2.1 (List.length x0) then bif v11 then
  obind (ref19_Is (List.getD x0 (Int.toNat x.2.1) ({ data:={ toList:=[] } },(0:Int),(0:Int),(0:Int))) v13.1) fun (t:Bool)=>bif !t then again_1 (v12,x_1.2.1,
  PUnit.unit) else bif v11 then bif v11 then obind (ref19_Count x0 v13.1) fun (t:Int)=>obind (ref02_Make v13.2 t) fun (t:(Int×Int)×Int×PUnit)=>bif !decide (t.2.1 =
  (0:Int)) then some ([],t.2.1,PUnit.unit) else obind (ref02_Add x_1.2.1 t.1) fun (t:(Int×Int)×Int×PUnit)=>bif !decide (t.2.1=(0:Int)) then some ([],
  t.2.1,PUnit.unit) else again_1 (v12,t.1,PUnit.unit) else none else none else none else none else bif fitB (List.length x.1+(1:Nat)) (16:Nat) then again (x.1 ++
  [x_1.2.1],IntKind.wrap .i64 (x.2.1+(1:Int)),PUnit.unit) else none) ((0:Int),t,PUnit.unit) else some (x.1,(0:Int),PUnit.unit)) ([],(0:Int),PUnit.unit))
  ((0:Int),PUnit.unit)
noncomputable def ref19_Loads (x0:List (ByteArray×Int×Int×Int)) (x1:List (Int×Int)):Option ((List (Int×Int))×Int×Unit):=ref19_Loads_b lpK jnK ref19_Is ref19_Count ref02_Of ref02_Make ref02_Add x0 x1
noncomputable def c43:Ctr:=⟨[(.sl T96),(.sl T78)],[],[],.tup [(.sl T36),i64],fun x _ _=>ref19_Loads x.1 x.2.1⟩
theorem e43 (lp:Lp) (jn:Jn) (ref19_Is:(ByteArray×Int×Int×Int)→(Int)→Option (Bool)) (ref19_Count:(List (ByteArray×Int×Int×Int))→(Int)→Option (Int)) (ref02_Of:(Int)→Option (Int×Int)) (ref02_Make:(Int)→(Int)→Option ((Int×Int)×Int×Unit)) (ref02_Add:(Int×Int)→(Int×Int)→Option ((Int×Int)×Int×Unit)):∀(x:TsS c43.as) (F:TsF c43.fs) (y:TsS c43.cs),ref19_Loads_b lp jn ref19_Is ref19_Count ref02_Of ref02_Make ref02_Add x.1 x.2.1=runC lp jn (ctxOf prog shs inls its [(81,⟨[T36,T36],[],[],.tup [T36,i64],fun x _ _=>ref02_Add x.1 x.2.1⟩),(80,⟨[i64,i64],[],[],.tup [T36,i64],fun x _ _=>ref02_Make x.1 x.2.1⟩),(78,⟨[i64],[],[],.one T36,fun x _ _=>ref02_Of x.1⟩),(77,⟨[(.sl T96),i64],[],[],.one i64,fun x _ _=>ref19_Count x.1 x.2.1⟩),(79,⟨[T96,i64],[],[],.one .bool,fun x _ _=>ref19_Is x.1 x.2.1⟩)] [(116,r116),(115,r115),(114,r114),(69,r69),(119,r119)]) hints 4 43 f43 c43 x F y:=fun x F y=>by kernel_rfl
theorem l43:(ctxOf prog shs inls its [(81,c81),(80,c80),(78,c78),(77,c77),(79,c79)] [(116,r116),(115,r115),(114,r114),(69,r69),(119,r119)]).ok:=ctxOf_cons (ctxOf_cons (ctxOf_cons (ctxOf_cons (ctxOf_cons (q116) (by kernel_rfl) ok79) (by kernel_rfl) ok77) (by kernel_rfl) ok78) (by kernel_rfl) ok80) (by kernel_rfl) ok81
theorem ok43:c43.ok prog 43:=Ctr.of_den l43 hmix (hl:=hints) (d:=4) func43 rfl (by decide) (e43 lpK jnK ref19_Is ref19_Count ref02_Of ref02_Make ref02_Add)
noncomputable def ref30_Loads_b (lp:Lp) (_:Jn) (ref30_Valid:(ByteArray×Int×(List (ByteArray×Int×Int×Int×Int×(List Int)×Int×Int×Int×Int×Int×(List (ByteArray×Int×Int×Int×Int×Int×Int))×List (ByteArray×Int×Int)))×List (ByteArray×Int×Int×Int))→Option (Bool)) (ref30_Points:(ByteArray×Int×(List (ByteArray×Int×Int×Int×Int×(List Int)×Int×Int×Int×Int×Int×(List (ByteArray×Int×Int×Int×Int×Int×Int))×List (ByteArray×Int×Int)))×List (ByteArray×Int×Int×Int))→Option (List (Int×Int))) (ref19_Loads:(List (ByteArray×Int×Int×Int))→(List (Int×Int))→Option ((List (Int×Int))×Int×Unit)) (x0:ByteArray×Int×(List (ByteArray×Int×Int×Int×Int×(List Int)×Int×Int×Int×Int×Int×(List (ByteArray×Int×Int×Int×Int×Int×Int))×List (ByteArray×Int×Int)))×List (ByteArray×Int×Int×Int)):Option ((List (Int×Int))×Int×Unit) :=
 obind (ref30_Valid x0) fun (t:Bool)=>bif !t then some ([],(1:Int),PUnit.unit) else obind (ref30_Points x0) fun (t:List (Int×Int))=>lp (Int×PUnit) (List (Int×Int)×Int ×
  PUnit) (fun (again:Int×PUnit→Option (List (Int×Int)×Int×PUnit)) (x:Int×PUnit)=>bif decide (x.1<(↑(List.length t):Int)) then bif inB x.1 (List.length t) then
  bif decide ((List.getD t (Int.toNat x.1) ((0:Int),(0:Int))).2>(67108864:Int)) then some ([],(5:Int),PUnit.unit) else again (IntKind.wrap .i64 (x.1+(1 :
  Int)),PUnit.unit) else none else obind (ref19_Loads x0.2.2.2 t) fun (t:List (Int×Int)×Int×PUnit)=>some (t.1,t.2.1,PUnit.unit)) ((0:Int),PUnit.unit)
noncomputable def ref30_Loads (x0:ByteArray×Int×(List (ByteArray×Int×Int×Int×Int×(List Int)×Int×Int×Int×Int×Int×(List (ByteArray×Int×Int×Int×Int×Int×Int))×List (ByteArray×Int×Int)))×List (ByteArray×Int×Int×Int)):Option ((List (Int×Int))×Int×Unit):=ref30_Loads_b lpK jnK ref30_Valid ref30_Points ref19_Loads x0
noncomputable def c13:Ctr:=⟨[T25],[],[],.tup [(.sl T36),i64],fun x _ _=>ref30_Loads x.1⟩
theorem e13 (lp:Lp) (jn:Jn) (ref30_Valid:(ByteArray×Int×(List (ByteArray×Int×Int×Int×Int×(List Int)×Int×Int×Int×Int×Int×(List (ByteArray×Int×Int×Int×Int×Int×Int))×List (ByteArray×Int×Int)))×List (ByteArray×Int×Int×Int))→Option (Bool)) (ref30_Points:(ByteArray×Int×(List (ByteArray×Int×Int×Int×Int×(List Int)×Int×Int×Int×Int×Int×(List (ByteArray×Int×Int×Int×Int×Int×Int))×List (ByteArray×Int×Int)))×List (ByteArray×Int×Int×Int))→Option (List (Int×Int))) (ref19_Loads:(List (ByteArray×Int×Int×Int))→(List (Int×Int))→Option ((List (Int×Int))×Int×Unit)):∀(x:TsS c13.as) (F:TsF c13.fs) (y:TsS c13.cs),ref30_Loads_b lp jn ref30_Valid ref30_Points ref19_Loads x.1=runC lp jn (ctxOf prog shs inls its [(43,⟨[(.sl T96),(.sl T78)],[],[],.tup [(.sl T36),i64],fun x _ _=>ref19_Loads x.1 x.2.1⟩),(42,⟨[T25],[],[],.one (.sl T78),fun x _ _=>ref30_Points x.1⟩),(25,⟨[T25],[],[],.one .bool,fun x _ _=>ref30_Valid x.1⟩)] [(116,r116),(115,r115),(114,r114),(69,r69),(119,r119)]) hints 4 13 f13 c13 x F y:=fun x F y=>by kernel_rfl
theorem l13:(ctxOf prog shs inls its [(43,c43),(42,c42),(25,c25)] [(116,r116),(115,r115),(114,r114),(69,r69),(119,r119)]).ok:=ctxOf_cons (ctxOf_cons (ctxOf_cons (q116) (by kernel_rfl) ok25) (by kernel_rfl) ok42) (by kernel_rfl) ok43
theorem ok13:c13.ok prog 13:=Ctr.of_den l13 hmix (hl:=hints) (d:=4) func13 rfl (by decide) (e13 lpK jnK ref30_Valid ref30_Points ref19_Loads)
noncomputable def law30_HouseLoads_b (_:Lp) (_:Jn) (house_Loads:(ByteArray×Int×(List (ByteArray×Int×Int×Int×Int×(List Int)×Int×Int×Int×Int×Int×(List (ByteArray×Int×Int×Int×Int×Int×Int))×List (ByteArray×Int×Int)))×List (ByteArray×Int×Int×Int))→Option ((List (Int×Int))×Int×Unit)) (slices_Equal_14:(List (Int×Int))→(List (Int×Int))→Option (Bool)) (law30_awake:Option (Bool)) (law30_small:(ByteArray×Int×(List (ByteArray×Int×Int×Int×Int×(List Int)×Int×Int×Int×Int×Int×(List (ByteArray×Int×Int×Int×Int×Int×Int))×List (ByteArray×Int×Int)))×List (ByteArray×Int×Int×Int))→Option (Bool)) (ref30_Loads:(ByteArray×Int×(List (ByteArray×Int×Int×Int×Int×(List Int)×Int×Int×Int×Int×Int×(List (ByteArray×Int×Int×Int×Int×Int×Int))×List (ByteArray×Int×Int)))×List (ByteArray×Int×Int×Int))→Option ((List (Int×Int))×Int×Unit)) (x0:ByteArray×Int×(List (ByteArray×Int×Int×Int×Int×(List Int)×Int×Int×Int×Int×Int×(List (ByteArray×Int×Int×Int×Int×Int×Int))×List (ByteArray×Int×Int)))×List (ByteArray×Int×Int×Int)):Option Bool :=
 obind law30_awake fun (t:Bool)=>bif !t then some false else obind (law30_small x0) fun (t:Bool)=>bif !t then some true else obind (house_Loads x0) fun (t:List (Int×Int)×Int ×
  PUnit)=>obind (ref30_Loads x0) fun (t_1:List (Int×Int)×Int×PUnit)=>obind (slices_Equal_14 t.1 t_1.1) fun (t_2:Bool) =>
 let v8:Bool:=!t_2||t_2;bif v8&&v8 then bif v8 then some (bif t_2 then decide (t.2.1=t_1.2.1) else false) else none else none
noncomputable def law30_HouseLoads (x0:ByteArray×Int×(List (ByteArray×Int×Int×Int×Int×(List Int)×Int×Int×Int×Int×Int×(List (ByteArray×Int×Int×Int×Int×Int×Int))×List (ByteArray×Int×Int)))×List (ByteArray×Int×Int×Int)):Option Bool:=law30_HouseLoads_b lpK jnK house_Loads slices_Equal_14 law30_awake law30_small ref30_Loads x0
noncomputable def c3:Ctr:=⟨[T25],[],[],.one .bool,fun x _ _=>law30_HouseLoads x.1⟩
theorem e3 (lp:Lp) (jn:Jn) (house_Loads:(ByteArray×Int×(List (ByteArray×Int×Int×Int×Int×(List Int)×Int×Int×Int×Int×Int×(List (ByteArray×Int×Int×Int×Int×Int×Int))×List (ByteArray×Int×Int)))×List (ByteArray×Int×Int×Int))→Option ((List (Int×Int))×Int×Unit)) (slices_Equal_14:(List (Int×Int))→(List (Int×Int))→Option (Bool)) (law30_awake:Option (Bool)) (law30_small:(ByteArray×Int×(List (ByteArray×Int×Int×Int×Int×(List Int)×Int×Int×Int×Int×Int×(List (ByteArray×Int×Int×Int×Int×Int×Int))×List (ByteArray×Int×Int)))×List (ByteArray×Int×Int×Int))→Option (Bool)) (ref30_Loads:(ByteArray×Int×(List (ByteArray×Int×Int×Int×Int×(List Int)×Int×Int×Int×Int×Int×(List (ByteArray×Int×Int×Int×Int×Int×Int))×List (ByteArray×Int×Int)))×List (ByteArray×Int×Int×Int))→Option ((List (Int×Int))×Int×Unit)):∀(x:TsS c3.as) (F:TsF c3.fs) (y:TsS c3.cs),law30_HouseLoads_b lp jn house_Loads slices_Equal_14 law30_awake law30_small ref30_Loads x.1=runC lp jn (ctxOf prog shs inls its [(13,⟨[T25],[],[],.tup [(.sl T36),i64],fun x _ _=>ref30_Loads x.1⟩),(11,⟨[T25],[],[],.one .bool,fun x _ _=>law30_small x.1⟩),(10,⟨[],[],[],.one .bool,fun _ _ _=>law30_awake⟩),(14,⟨[(.sl T36),(.sl T36)],[],[],.one .bool,fun x _ _=>slices_Equal_14 x.1 x.2.1⟩),(12,⟨[T25],[],[],.tup [(.sl T36),i64],fun x _ _=>house_Loads x.1⟩)] [(116,r116),(115,r115),(114,r114),(69,r69),(119,r119)]) hints 4 3 f3 c3 x F y:=fun x F y=>by kernel_rfl
theorem l3:(ctxOf prog shs inls its [(13,c13),(11,c11),(10,c10),(14,c14),(12,c12)] [(116,r116),(115,r115),(114,r114),(69,r69),(119,r119)]).ok:=ctxOf_cons (ctxOf_cons (ctxOf_cons (ctxOf_cons (ctxOf_cons (q116) (by kernel_rfl) ok12) (by kernel_rfl) ok14) (by kernel_rfl) ok10) (by kernel_rfl) ok11) (by kernel_rfl) ok13
noncomputable def law30_ready_b (_:Lp) (_:Jn) (law30_small:(ByteArray×Int×(List (ByteArray×Int×Int×Int×Int×(List Int)×Int×Int×Int×Int×Int×(List (ByteArray×Int×Int×Int×Int×Int×Int))×List (ByteArray×Int×Int)))×List (ByteArray×Int×Int×Int))→Option (Bool)) (ref30_Valid:(ByteArray×Int×(List (ByteArray×Int×Int×Int×Int×(List Int)×Int×Int×Int×Int×Int×(List (ByteArray×Int×Int×Int×Int×Int×Int))×List (ByteArray×Int×Int)))×List (ByteArray×Int×Int×Int))→Option (Bool)) (x0:ByteArray×Int×(List (ByteArray×Int×Int×Int×Int×(List Int)×Int×Int×Int×Int×Int×(List (ByteArray×Int×Int×Int×Int×Int×Int))×List (ByteArray×Int×Int)))×List (ByteArray×Int×Int×Int)):Option Bool :=
 obind (law30_small x0) fun (t:Bool) =>
 let v4:Bool:=!t||t;bif v4 then obind (bif t then ref30_Valid x0 else some false) fun (t_1:Bool)=>bif v4 then some (bif t then t_1 else false) else none else none
noncomputable def law30_ready (x0:ByteArray×Int×(List (ByteArray×Int×Int×Int×Int×(List Int)×Int×Int×Int×Int×Int×(List (ByteArray×Int×Int×Int×Int×Int×Int))×List (ByteArray×Int×Int)))×List (ByteArray×Int×Int×Int)):Option Bool:=law30_ready_b lpK jnK law30_small ref30_Valid x0
noncomputable def slices_Contains_17_b (_:Lp) (_:Jn) (slices_Index_46:(List Int)→(Int)→Option (Int)) (x0:List Int) (x1:Int):Option Bool :=
 obind (slices_Index_46 x0 x1) fun (t:Int)=>some (decide (t≥(0:Int)))
noncomputable def slices_Contains_17 (x0:List Int) (x1:Int):Option Bool:=slices_Contains_17_b lpK jnK slices_Index_46 x0 x1
noncomputable def law30_HouseOrder_b (lp:Lp) (_:Jn) (house_Order:(ByteArray×Int×(List (ByteArray×Int×Int×Int×Int×(List Int)×Int×Int×Int×Int×Int×(List (ByteArray×Int×Int×Int×Int×Int×Int))×List (ByteArray×Int×Int)))×List (ByteArray×Int×Int×Int))→Option ((List Int)×Int×Unit)) (house_Gap:(ByteArray×Int×(List (ByteArray×Int×Int×Int×Int×(List Int)×Int×Int×Int×Int×Int×(List (ByteArray×Int×Int×Int×Int×Int×Int))×List (ByteArray×Int×Int)))×List (ByteArray×Int×Int×Int))→(ByteArray)→(ByteArray)→Option (Int×Int×Unit)) (law30_awake:Option (Bool)) (law30_ready:(ByteArray×Int×(List (ByteArray×Int×Int×Int×Int×(List Int)×Int×Int×Int×Int×Int×(List (ByteArray×Int×Int×Int×Int×Int×Int))×List (ByteArray×Int×Int)))×List (ByteArray×Int×Int×Int))→Option (Bool)) (slices_Contains_17:(List Int)→(Int)→Option (Bool)) (x0:ByteArray×Int×(List (ByteArray×Int×Int×Int×Int×(List Int)×Int×Int×Int×Int×Int×(List (ByteArray×Int×Int×Int×Int×Int×Int))×List (ByteArray×Int×Int)))×List (ByteArray×Int×Int×Int)):Option Bool :=
 obind law30_awake fun (t:Bool)=>bif !t then some false else obind (law30_ready x0) fun (t:Bool)=>bif !t then some true else obind (house_Order x0) fun (t:List Int×Int×PUnit) =>
 let v6:Bool:=!decide (t.2.1=(0:Int));
 let v7:Bool:=!v6;
 let v8:Bool:=!v7||v7;bif v8 then bif v8 then bif v8 then bif v8&&v8 then bif v6||v7 then bif bif v6 then true else !decide ((↑(List.length t.1):Int)=(↑(List.length
  x0.2.2.1):Int)) then some false else lp (Int×PUnit) Bool (fun (again:Int×PUnit→Option Bool) (x:Int×PUnit) =>
 let v11:Int:=IntKind.wrap .i64 (x.1 - (1:Int));
 let v12:Int:=List.getD t.1 (Int.toNat x.1) (0:Int);
 let v13:Bool:=inB v11 (List.length t.1);
 let v14:Int:=List.getD t.1 (Int.toNat v11) (0:Int);
 let v15:Bool:=decide (v12<(0:Int));
 let v16:Bool:=!v15;
 let v17:Bool:=!v16||v16;
 let v18:Bool:=bif v15 then true else decide (v12≥(↑(List.length x0.2.2.1):Int));
 let v19:Bool:=!v18;
 let v20:Bool:=!v19;
 let v21:ByteArray×Int×Int×Int×Int×List Int×Int×Int×Int×Int×Int×List (ByteArray×Int×Int×Int×Int×Int×Int)×List (ByteArray×Int×Int):=List.getD
  x0.2.2.1 (Int.toNat v12) ({ data:={ toList:=[] } },(0:Int),(0:Int),(0:Int),(0:Int),[],(0:Int),(0:Int),(0:Int),(0:Int),(0:Int),[],[]);
 let v22:ByteArray×Int×Int×Int×Int×List Int×Int×Int×Int×Int×Int×List (ByteArray×Int×Int×Int×Int×Int×Int)×List (ByteArray×Int×Int):=List.getD
  x0.2.2.1 (Int.toNat v14) ({ data:={ toList:=[] } },(0:Int),(0:Int),(0:Int),(0:Int),[],(0:Int),(0:Int),(0:Int),(0:Int),(0:Int),[],[]);
 let v23:Bool:=v20||v19;
 let v24:Int:=IntKind.wrap .i64 (v21.2.1 - v22.2.1);
 let v25:Bool:=decide (v22.2.1=v21.2.1);
 let v26:Bool:=decide (v22.2.1>v21.2.1);
 let v27:Bool:=!v26;
 let v28:Bool:=!v27;
 let v29:Bool:=v27&&v25;
 let v30:Bool:=!v29;
 let v31:Bool:=v28||v27;
 let v32:Bool:=bif v26 then true else bif v25 then decide (v14>v12) else false;
 let v33:Bool:=!v32;
 let v34:Bool:=v30||v29;bif decide (x.1<(↑(List.length t.1):Int)) then bif inB x.1 (List.length t.1) then bif v17 then bif v17 then bif v17&&v17 then bif v15||v16
  then bif v23&&(v23&&(v20||slB (0:Int) x.1 (List.length t.1))) then bif v23&&v23 then obind (bif v19 then slices_Contains_17 (List.drop (0:Nat) (List.take (Int.toNat
  x.1) t.1)) v12 else some false) fun (t:Bool)=>bif v18||v19 then bif bif v18 then true else t then some false else bif decide (x.1=(0:Int)) then again (IntKind.wrap
  IntKind.i64 (x.1+(1:Int)),PUnit.unit) else bif v13 then bif inB v14 (List.length x0.2.2.1) then bif inB v12 (List.length x0.2.2.1) then obind (house_Gap x0 v22.1
  v21.1) fun (t:Int×Int×PUnit) =>
 let v37:Bool:=bif v32 then true else !decide (t.2.1=(0:Int));
 let v38:Bool:=!v37;obind (house_Gap x0 v21.1 v22.1) fun (t_1:Int×Int×PUnit) =>
 let v40:Bool:=bif v37 then true else !decide (t_1.2.1=(0:Int));
 let v41:Bool:=!v40;
 let v42:Bool:=bif v40 then true else !decide (t.1=t_1.1);
 let v43:Bool:=!v42;
 let v44:Bool:=!v41||v41;
 let v45:Bool:=!v43||v43;
 let v46:Bool:=v45&&v45;bif v31 then bif v31 then bif v31&&v31 then bif v31 then bif v34 then bif v34&&(v34&&(v30||v13)) then bif v34 then bif v34&&v34 then bif (v28 ||
  v31)&&(v28||(!v25||(v28||v29))) then bif v26||v27 then bif !v33||v33 then bif v32||v33 then bif !v38||v38 then bif v37||v38 then bif v44&&v44 then bif v40||v41
  then bif v45 then bif v45 then bif v46 then bif v46 then bif v42||v43 then bif bif v42 then true else decide (t.1>v24) then some false else lp (Int×PUnit) Bool (fun (again_1 :
  Int×PUnit→Option Bool) (x_1:Int×PUnit)=>bif decide (x_1.1<(↑(List.length v22.2.2.2.2.2.2.2.2.2.2.2.1):Int)) then bif inB x_1.1 (List.length
  v22.2.2.2.2.2.2.2.2.2.2.2.1) then lp (Int×PUnit) Bool (fun (again:Int×PUnit→Option Bool) (x:Int×PUnit)=>bif decide (x.1<(↑(List.length
  v21.2.2.2.2.2.2.2.2.2.2.2.1):Int)) then bif inB x.1 (List.length v21.2.2.2.2.2.2.2.2.2.2.2.1) then bif decide (IntKind.wrap
  IntKind.i64 (IntKind.wrap .i64 (v21.2.1 - (List.getD v21.2.2.2.2.2.2.2.2.2.2.2.1 (Int.toNat x.1) ({ data:={ toList:=[] } },(0:Int),(0 :
  Int),(0:Int),(0:Int),(0:Int),(0:Int))).2.2.2.2.2.2) - IntKind.wrap .i64 (v22.2.1+(List.getD v22.2.2.2.2.2.2.2.2.2.2.2.1
  (Int.toNat x_1.1) ({ data:={ toList:=[] } },(0:Int),(0:Int),(0:Int),(0:Int),(0:Int),(0:Int))).2.2.2.2.2.1))<t.1) then some false else again
  (IntKind.wrap .i64 (x.1+(1:Int)),PUnit.unit) else none else again_1 (IntKind.wrap .i64 (x_1.1+(1:Int)),PUnit.unit)) ((0:Int),PUnit.unit) else none else
  again (IntKind.wrap .i64 (x.1+(1:Int)),PUnit.unit)) ((0:Int),PUnit.unit) else none else none else none else none else none else none else none else none else none else
  none else none else none else none else none else none else none else none else none else none else none else none else none else none else none else none else none else none else none
  else none else none else none else none else some true) ((0:Int),PUnit.unit) else none else none else none else none else none
noncomputable def law30_HouseOrder (x0:ByteArray×Int×(List (ByteArray×Int×Int×Int×Int×(List Int)×Int×Int×Int×Int×Int×(List (ByteArray×Int×Int×Int×Int×Int×Int))×List (ByteArray×Int×Int)))×List (ByteArray×Int×Int×Int)):Option Bool:=law30_HouseOrder_b lpK jnK house_Order house_Gap law30_awake law30_ready slices_Contains_17 x0
noncomputable def c4:Ctr:=⟨[T25],[],[],.one .bool,fun x _ _=>law30_HouseOrder x.1⟩
theorem e4 (lp:Lp) (jn:Jn) (house_Order:(ByteArray×Int×(List (ByteArray×Int×Int×Int×Int×(List Int)×Int×Int×Int×Int×Int×(List (ByteArray×Int×Int×Int×Int×Int×Int))×List (ByteArray×Int×Int)))×List (ByteArray×Int×Int×Int))→Option ((List Int)×Int×Unit)) (house_Gap:(ByteArray×Int×(List (ByteArray×Int×Int×Int×Int×(List Int)×Int×Int×Int×Int×Int×(List (ByteArray×Int×Int×Int×Int×Int×Int))×List (ByteArray×Int×Int)))×List (ByteArray×Int×Int×Int))→(ByteArray)→(ByteArray)→Option (Int×Int×Unit)) (law30_awake:Option (Bool)) (law30_ready:(ByteArray×Int×(List (ByteArray×Int×Int×Int×Int×(List Int)×Int×Int×Int×Int×Int×(List (ByteArray×Int×Int×Int×Int×Int×Int))×List (ByteArray×Int×Int)))×List (ByteArray×Int×Int×Int))→Option (Bool)) (slices_Contains_17:(List Int)→(Int)→Option (Bool)):∀(x:TsS c4.as) (F:TsF c4.fs) (y:TsS c4.cs),law30_HouseOrder_b lp jn house_Order house_Gap law30_awake law30_ready slices_Contains_17 x.1=runC lp jn (ctxOf prog shs inls its [(17,⟨[(.sl i64),i64],[],[],.one .bool,fun x _ _=>slices_Contains_17 x.1 x.2.1⟩),(15,⟨[T25],[],[],.one .bool,fun x _ _=>law30_ready x.1⟩),(10,⟨[],[],[],.one .bool,fun _ _ _=>law30_awake⟩),(18,⟨[T25,.str,.str],[],[],.tup [i64,i64],fun x _ _=>house_Gap x.1 x.2.1 x.2.2.1⟩),(16,⟨[T25],[],[],.tup [(.sl i64),i64],fun x _ _=>house_Order x.1⟩)] [(116,r116),(115,r115),(114,r114),(69,r69),(119,r119)]) hints 4 4 f4 c4 x F y:=fun x F y=>by kernel_rfl
end Go.Proofs.YtmoiiokmfanlgaaGreat

namespace Go.Proofs.YtmoiiokmfanlgaaGreat
open Tryz Dn Dn.Sh
set_option maxRecDepth 100000
noncomputable def slices_ContainsFunc_19_b (_:Lp) (_:Jn) (slices_IndexFunc_50:(List (ByteArray×Int×Int×Int×Int×(List Int)×Int×Int×Int×Int×Int×(List (ByteArray×Int×Int×Int×Int×Int×Int))×List (ByteArray×Int×Int)))→((((ByteArray×Int×Int×Int×Int×(List Int)×Int×Int×Int×Int×Int×(List (ByteArray×Int×Int×Int×Int×Int×Int))×List (ByteArray×Int×Int))×Unit)→Option Bool))→Option (Int)) (x0:List (ByteArray×Int×Int×Int×Int×(List Int)×Int×Int×Int×Int×Int×(List (ByteArray×Int×Int×Int×Int×Int×Int))×List (ByteArray×Int×Int))) (f0:(((ByteArray×Int×Int×Int×Int×(List Int)×Int×Int×Int×Int×Int×(List (ByteArray×Int×Int×Int×Int×Int×Int))×List (ByteArray×Int×Int))×Unit)→Option Bool)):Option Bool :=
 obind (slices_IndexFunc_50 x0 f0) fun (t:Int)=>some (decide (t≥(0:Int)))
noncomputable def slices_ContainsFunc_19 (x0:List (ByteArray×Int×Int×Int×Int×(List Int)×Int×Int×Int×Int×Int×(List (ByteArray×Int×Int×Int×Int×Int×Int))×List (ByteArray×Int×Int))) (f0:(((ByteArray×Int×Int×Int×Int×(List Int)×Int×Int×Int×Int×Int×(List (ByteArray×Int×Int×Int×Int×Int×Int))×List (ByteArray×Int×Int))×Unit)→Option Bool)):Option Bool:=slices_ContainsFunc_19_b lpK jnK slices_IndexFunc_50 x0 f0
noncomputable def law30_HouseMoved_1_b (_:Lp) (_:Jn) (x0:ByteArray×Int×Int×Int×Int×(List Int)×Int×Int×Int×Int×Int×(List (ByteArray×Int×Int×Int×Int×Int×Int))×List (ByteArray×Int×Int)) (y0:ByteArray×Int×Int×Int×Int×(List Int)×Int×Int×Int×Int×Int×(List (ByteArray×Int×Int×Int×Int×Int×Int))×List (ByteArray×Int×Int)):Option Bool :=
 some (decide (x0.2.1=y0.2.1))
noncomputable def law30_HouseMoved_1 (x0:ByteArray×Int×Int×Int×Int×(List Int)×Int×Int×Int×Int×Int×(List (ByteArray×Int×Int×Int×Int×Int×Int))×List (ByteArray×Int×Int)) (y0:ByteArray×Int×Int×Int×Int×(List Int)×Int×Int×Int×Int×Int×(List (ByteArray×Int×Int×Int×Int×Int×Int))×List (ByteArray×Int×Int)):Option Bool:=law30_HouseMoved_1_b lpK jnK x0 y0
noncomputable def ref21_Copy_b (_:Lp) (_:Jn) (x0:ByteArray×Int×Int×Int×Int×(List Int)×Int×Int×Int×Int×Int×(List (ByteArray×Int×Int×Int×Int×Int×Int))×List (ByteArray×Int×Int)):Option (ByteArray×Int×Int×Int×Int×(List Int)×Int×Int×Int×Int×Int×(List (ByteArray×Int×Int×Int×Int×Int×Int))×List (ByteArray×Int×Int)) :=
 bif fitB ((0:Nat)+List.length x0.2.2.2.2.2.1) (8:Nat) then bif fitB ((0:Nat)+List.length x0.2.2.2.2.2.2.2.2.2.2.2.1) (64:Nat) then bif fitB
  ((0:Nat)+List.length x0.2.2.2.2.2.2.2.2.2.2.2.2) (32:Nat) then some x0 else none else none else none
noncomputable def ref21_Copy (x0:ByteArray×Int×Int×Int×Int×(List Int)×Int×Int×Int×Int×Int×(List (ByteArray×Int×Int×Int×Int×Int×Int))×List (ByteArray×Int×Int)):Option (ByteArray×Int×Int×Int×Int×(List Int)×Int×Int×Int×Int×Int×(List (ByteArray×Int×Int×Int×Int×Int×Int))×List (ByteArray×Int×Int)):=ref21_Copy_b lpK jnK x0
noncomputable def c51:Ctr:=⟨[T44],[],[],.one T44,fun x _ _=>ref21_Copy x.1⟩
theorem e51 (lp:Lp) (jn:Jn):∀(x:TsS c51.as) (F:TsF c51.fs) (y:TsS c51.cs),ref21_Copy_b lp jn x.1=runC lp jn (ctxOf prog shs inls its [] [(116,r116),(115,r115),(114,r114),(69,r69),(119,r119)]) hints 4 51 f51 c51 x F y:=fun x F y=>by kernel_rfl
theorem l51:(ctxOf prog shs inls its [] [(116,r116),(115,r115),(114,r114),(69,r69),(119,r119)]).ok:=q116
theorem ok51:c51.ok prog 51:=Ctr.of_den l51 hmix (hl:=hints) (d:=4) func51 rfl (by decide) (e51 lpK jnK)
noncomputable def law30_HouseMoved_b (lp:Lp) (_:Jn) (house_Loads:(ByteArray×Int×(List (ByteArray×Int×Int×Int×Int×(List Int)×Int×Int×Int×Int×Int×(List (ByteArray×Int×Int×Int×Int×Int×Int))×List (ByteArray×Int×Int)))×List (ByteArray×Int×Int×Int))→Option ((List (Int×Int))×Int×Unit)) (slices_Equal_14:(List (Int×Int))→(List (Int×Int))→Option (Bool)) (house_Gap:(ByteArray×Int×(List (ByteArray×Int×Int×Int×Int×(List Int)×Int×Int×Int×Int×Int×(List (ByteArray×Int×Int×Int×Int×Int×Int))×List (ByteArray×Int×Int)))×List (ByteArray×Int×Int×Int))→(ByteArray)→(ByteArray)→Option (Int×Int×Unit)) (law30_awake:Option (Bool)) (law30_ready:(ByteArray×Int×(List (ByteArray×Int×Int×Int×Int×(List Int)×Int×Int×Int×Int×Int×(List (ByteArray×Int×Int×Int×Int×Int×Int))×List (ByteArray×Int×Int)))×List (ByteArray×Int×Int×Int))→Option (Bool)) (slices_ContainsFunc_19:(List (ByteArray×Int×Int×Int×Int×(List Int)×Int×Int×Int×Int×Int×(List (ByteArray×Int×Int×Int×Int×Int×Int))×List (ByteArray×Int×Int)))→((((ByteArray×Int×Int×Int×Int×(List Int)×Int×Int×Int×Int×Int×(List (ByteArray×Int×Int×Int×Int×Int×Int))×List (ByteArray×Int×Int))×Unit)→Option Bool))→Option (Bool)) (law30_HouseMoved_1:(ByteArray×Int×Int×Int×Int×(List Int)×Int×Int×Int×Int×Int×(List (ByteArray×Int×Int×Int×Int×Int×Int))×List (ByteArray×Int×Int))→(ByteArray×Int×Int×Int×Int×(List Int)×Int×Int×Int×Int×Int×(List (ByteArray×Int×Int×Int×Int×Int×Int))×List (ByteArray×Int×Int))→Option (Bool)) (ref21_Copy:(ByteArray×Int×Int×Int×Int×(List Int)×Int×Int×Int×Int×Int×(List (ByteArray×Int×Int×Int×Int×Int×Int))×List (ByteArray×Int×Int))→Option (ByteArray×Int×Int×Int×Int×(List Int)×Int×Int×Int×Int×Int×(List (ByteArray×Int×Int×Int×Int×Int×Int))×List (ByteArray×Int×Int))) (x0:ByteArray×Int×(List (ByteArray×Int×Int×Int×Int×(List Int)×Int×Int×Int×Int×Int×(List (ByteArray×Int×Int×Int×Int×Int×Int))×List (ByteArray×Int×Int)))×List (ByteArray×Int×Int×Int)):Option Bool :=
 
 let v3:List (ByteArray×Int×Int×Int×Int×List Int×Int×Int×Int×Int×Int×List (ByteArray×Int×Int×Int×Int×Int×Int)×List (ByteArray×Int×Int)):=[];
 let v4:Bool:=inB (0:Int) (List.length x0.2.2.1);obind law30_awake fun (t:Bool)=>bif !t then some false else obind (law30_ready x0) fun (t:Bool)=>bif !t then some true
  else lp (Int×PUnit) Bool (fun (again:Int×PUnit→Option Bool) (x:Int×PUnit)=>bif decide (x.1<(↑(List.length x0.2.2.1):Int)) then bif inB x.1 (List.length
  x0.2.2.1) then bif slB (0:Int) x.1 (List.length x0.2.2.1) then obind (slices_ContainsFunc_19 (List.drop (0:Nat) (List.take (Int.toNat x.1) x0.2.2.1)) fun (x_1
  : (ByteArray×Int×Int×Int×Int×List Int×Int×Int×Int×Int×Int×List (ByteArray×Int×Int×Int×Int×Int×Int)×List (ByteArray×Int×Int))×PUnit) =>
  law30_HouseMoved_1 x_1.1 (List.getD x0.2.2.1 (Int.toNat x.1) ({ data:={ toList:=[] } },(0:Int),(0:Int),(0:Int),(0:Int),[],(0:Int),(0:Int),(0:Int),(0
  : Int),(0:Int),[],[]))) fun (t:Bool)=>bif t then some true else again (IntKind.wrap .i64 (x.1+(1:Int)),PUnit.unit) else none else none else bif fitB ((0:Nat) +
  List.length x0.2.2.2) (40:Nat) then lp (Int×ByteArray×Int×List (ByteArray×Int×Int×Int×Int×List Int×Int×Int×Int×Int×Int×List (ByteArray×Int×Int ×
  Int×Int×Int×Int)×List (ByteArray×Int×Int))×List (ByteArray×Int×Int×Int)×PUnit) Bool (fun (again:Int×ByteArray×Int×List (ByteArray×Int×Int×Int×Int ×
  List Int×Int×Int×Int×Int×Int×List (ByteArray×Int×Int×Int×Int×Int×Int)×List (ByteArray×Int×Int))×List (ByteArray×Int×Int×Int)×PUnit→Option Bool)
  (x:Int×ByteArray×Int×List (ByteArray×Int×Int×Int×Int×List Int×Int×Int×Int×Int×Int×List (ByteArray×Int×Int×Int×Int×Int×Int)×List (ByteArray ×
  Int×Int))×List (ByteArray×Int×Int×Int)×PUnit)=>bif decide (x.1<(↑(List.length x0.2.2.1):Int)) then bif inB x.1 (List.length x0.2.2.1) then obind
  (ref21_Copy (List.getD x0.2.2.1 (Int.toNat x.1) ({ data:={ toList:=[] } },(0:Int),(0:Int),(0:Int),(0:Int),[],(0:Int),(0:Int),(0:Int),(0:Int),(0 :
  Int),[],[]))) fun (t:ByteArray×Int×Int×Int×Int×List Int×Int×Int×Int×Int×Int×List (ByteArray×Int×Int×Int×Int×Int×Int)×List (ByteArray×Int ×
  Int))=>bif fitB (List.length x.2.2.2.1+(1:Nat)) (160:Nat) then again (IntKind.wrap .i64 (x.1+(1:Int)),x.2.1,x.2.2.1,x.2.2.2.1++t ::
  v3,x.2.2.2.2.1,PUnit.unit) else none else none else lp (Int×Int×List (ByteArray×Int×Int×Int×Int×List Int×Int×Int×Int×Int×Int×List (ByteArray×Int
  × Int×Int×Int×Int×Int)×List (ByteArray×Int×Int))×PUnit) Bool (fun (again:Int×Int×List (ByteArray×Int×Int×Int×Int×List Int×Int×Int×Int×Int×Int ×
  List (ByteArray×Int×Int×Int×Int×Int×Int)×List (ByteArray×Int×Int))×PUnit→Option Bool) (x_1:Int×Int×List (ByteArray×Int×Int×Int×Int×List Int×Int ×
  Int×Int×Int×Int×List (ByteArray×Int×Int×Int×Int×Int×Int)×List (ByteArray×Int×Int))×PUnit) =>
 let v13:Bool:=inB x_1.1 (List.length x_1.2.2.1);
 let v14:Bool:=Nat.ble (Nat.succ (Int.toNat x_1.1)) (List.length x_1.2.2.1);
 let v15:Bool:=inB x_1.2.1 (List.length x_1.2.2.1);
 let v16:Bool:=Nat.ble (Nat.succ (Int.toNat x_1.2.1)) (List.length x_1.2.2.1);bif decide (x_1.1<x_1.2.1) then bif v15 then bif v16 then bif v13 then bif v14 then bif
  v13 then bif v14 then bif v15 then bif v16 then again (IntKind.wrap .i64 (x_1.1+(1:Int)),IntKind.wrap .i64 (x_1.2.1 - (1:Int)),List.set (List.set
  x_1.2.2.1 (Int.toNat x_1.1) (List.getD x_1.2.2.1 (Int.toNat x_1.2.1) ({ data:={ toList:=[] } },(0:Int),(0:Int),(0:Int),(0:Int),[],(0:Int),(0 :
  Int),(0:Int),(0:Int),(0:Int),[],[]))) (Int.toNat x_1.2.1) (List.getD x_1.2.2.1 (Int.toNat x_1.1) ({ data:={ toList:=[] } },(0:Int),(0:Int),(0:Int),
  (0:Int),[],(0:Int),(0:Int),(0:Int),(0:Int),(0:Int),[],[])),PUnit.unit) else none else none else none else none else none else none else none else none else obind
  (house_Loads x0) fun (t:List (Int×Int)×Int×PUnit) =>
 let v18:Bool:=!decide (t.2.1=(5:Int));
 let v19:Bool:=!v18||v18;obind (house_Loads (x.2.1,x.2.2.1,x_1.2.2.1,x.2.2.2.2.1)) fun (t_1:List (Int×Int)×Int×PUnit) =>
 let v21:Bool:=bif v18 then !decide (t_1.2.1=(5:Int)) else false;
 let v22:Bool:=!v21;
 let v23:Bool:=!decide (t.2.1=t_1.2.1);
 let v24:Bool:=v22||v21;
 let v25:Bool:=v21&&!v23;
 let v26:Bool:=!v25||v25;bif v19 then bif v19 then bif v24&&v24 then bif v24 then bif v26&&v26 then obind (bif v25 then slices_Equal_14 t.1 t_1.1 else some false) fun (t :
  Bool)=>bif v26 then bif (v22||v24)&&(v22||(v23||(v22||v25))) then bif v24 then bif bif v21 then bif v23 then true else !t else false then some false else lp (Int×PUnit)
  Bool (fun (again:Int×PUnit→Option Bool) (x:Int×PUnit) =>
 let v30:Bool:=inB x.1 (List.length x0.2.2.1);bif decide (x.1<(↑(List.length x0.2.2.1):Int)) then bif v4 then bif v30 then obind (house_Gap x0 (List.getD
  x0.2.2.1 (0:Nat) ({ data:={ toList:=[] } },(0:Int),(0:Int),(0:Int),(0:Int),[],(0:Int),(0:Int),(0:Int),(0:Int),(0:Int),[],[])).1 (List.getD
  x0.2.2.1 (Int.toNat x.1) ({ data:={ toList:=[] } },(0:Int),(0:Int),(0:Int),(0:Int),[],(0:Int),(0:Int),(0:Int),(0:Int),(0:Int),[],[])).1) fun
  (t:Int×Int×PUnit)=>bif v4 then bif v30 then none else none else none else none else none else some true) ((1:Int),PUnit.unit) else none else none else none else none else
  none else none else none else none) ((0:Int),IntKind.wrap .i64 ((↑(List.length x.2.2.2.1):Int) - (1:Int)),x.2.2.2.1,PUnit.unit)) ((0:Int),x0.1,
  x0.2.1,v3,x0.2.2.2,PUnit.unit) else none) ((0:Int),PUnit.unit)
noncomputable def law30_HouseMoved (x0:ByteArray×Int×(List (ByteArray×Int×Int×Int×Int×(List Int)×Int×Int×Int×Int×Int×(List (ByteArray×Int×Int×Int×Int×Int×Int))×List (ByteArray×Int×Int)))×List (ByteArray×Int×Int×Int)):Option Bool:=law30_HouseMoved_b lpK jnK house_Loads slices_Equal_14 house_Gap law30_awake law30_ready slices_ContainsFunc_19 law30_HouseMoved_1 ref21_Copy x0
noncomputable def c5:Ctr:=⟨[T25],[],[],.one .bool,fun x _ _=>law30_HouseMoved x.1⟩
theorem e5 (lp:Lp) (jn:Jn) (house_Loads:(ByteArray×Int×(List (ByteArray×Int×Int×Int×Int×(List Int)×Int×Int×Int×Int×Int×(List (ByteArray×Int×Int×Int×Int×Int×Int))×List (ByteArray×Int×Int)))×List (ByteArray×Int×Int×Int))→Option ((List (Int×Int))×Int×Unit)) (slices_Equal_14:(List (Int×Int))→(List (Int×Int))→Option (Bool)) (house_Gap:(ByteArray×Int×(List (ByteArray×Int×Int×Int×Int×(List Int)×Int×Int×Int×Int×Int×(List (ByteArray×Int×Int×Int×Int×Int×Int))×List (ByteArray×Int×Int)))×List (ByteArray×Int×Int×Int))→(ByteArray)→(ByteArray)→Option (Int×Int×Unit)) (law30_awake:Option (Bool)) (law30_ready:(ByteArray×Int×(List (ByteArray×Int×Int×Int×Int×(List Int)×Int×Int×Int×Int×Int×(List (ByteArray×Int×Int×Int×Int×Int×Int))×List (ByteArray×Int×Int)))×List (ByteArray×Int×Int×Int))→Option (Bool)) (slices_ContainsFunc_19:(List (ByteArray×Int×Int×Int×Int×(List Int)×Int×Int×Int×Int×Int×(List (ByteArray×Int×Int×Int×Int×Int×Int))×List (ByteArray×Int×Int)))→((((ByteArray×Int×Int×Int×Int×(List Int)×Int×Int×Int×Int×Int×(List (ByteArray×Int×Int×Int×Int×Int×Int))×List (ByteArray×Int×Int))×Unit)→Option Bool))→Option (Bool)) (law30_HouseMoved_1:(ByteArray×Int×Int×Int×Int×(List Int)×Int×Int×Int×Int×Int×(List (ByteArray×Int×Int×Int×Int×Int×Int))×List (ByteArray×Int×Int))→(ByteArray×Int×Int×Int×Int×(List Int)×Int×Int×Int×Int×Int×(List (ByteArray×Int×Int×Int×Int×Int×Int))×List (ByteArray×Int×Int))→Option (Bool)) (ref21_Copy:(ByteArray×Int×Int×Int×Int×(List Int)×Int×Int×Int×Int×Int×(List (ByteArray×Int×Int×Int×Int×Int×Int))×List (ByteArray×Int×Int))→Option (ByteArray×Int×Int×Int×Int×(List Int)×Int×Int×Int×Int×Int×(List (ByteArray×Int×Int×Int×Int×Int×Int))×List (ByteArray×Int×Int))):∀(x:TsS c5.as) (F:TsF c5.fs) (y:TsS c5.cs),law30_HouseMoved_b lp jn house_Loads slices_Equal_14 house_Gap law30_awake law30_ready slices_ContainsFunc_19 law30_HouseMoved_1 ref21_Copy x.1=runC lp jn (ctxOf prog shs inls its [(51,⟨[T44],[],[],.one T44,fun x _ _=>ref21_Copy x.1⟩),(20,⟨[T44],[],[T44],.one .bool,fun x _ y=>law30_HouseMoved_1 x.1 y.1⟩),(19,⟨[(.sl T44)],[([T44],.bool)],[],.one .bool,fun x F _=>slices_ContainsFunc_19 x.1 F.1⟩),(15,⟨[T25],[],[],.one .bool,fun x _ _=>law30_ready x.1⟩),(10,⟨[],[],[],.one .bool,fun _ _ _=>law30_awake⟩),(18,⟨[T25,.str,.str],[],[],.tup [i64,i64],fun x _ _=>house_Gap x.1 x.2.1 x.2.2.1⟩),(14,⟨[(.sl T36),(.sl T36)],[],[],.one .bool,fun x _ _=>slices_Equal_14 x.1 x.2.1⟩),(12,⟨[T25],[],[],.tup [(.sl T36),i64],fun x _ _=>house_Loads x.1⟩)] [(116,r116),(115,r115),(114,r114),(69,r69),(119,r119)]) hints 4 5 f5 c5 x F y:=fun x F y=>by kernel_rfl
noncomputable def house_Find_b (_:Lp) (_:Jn) (house_find:(ByteArray×Int×(List (ByteArray×Int×Int×Int×Int×(List Int)×Int×Int×Int×Int×Int×(List (ByteArray×Int×Int×Int×Int×Int×Int))×List (ByteArray×Int×Int)))×List (ByteArray×Int×Int×Int))→(ByteArray)→Option (Int)) (house_Valid:(ByteArray×Int×(List (ByteArray×Int×Int×Int×Int×(List Int)×Int×Int×Int×Int×Int×(List (ByteArray×Int×Int×Int×Int×Int×Int))×List (ByteArray×Int×Int)))×List (ByteArray×Int×Int×Int))→Option (Bool)) (x0:ByteArray×Int×(List (ByteArray×Int×Int×Int×Int×(List Int)×Int×Int×Int×Int×Int×(List (ByteArray×Int×Int×Int×Int×Int×Int))×List (ByteArray×Int×Int)))×List (ByteArray×Int×Int×Int)) (x1:ByteArray):Option (Int×Int×Unit) :=
 obind (house_Valid x0) fun (t:Bool)=>bif !t then some ((0:Int),(1:Int),PUnit.unit) else obind (house_find x0 x1) fun (t:Int)=>bif decide (t<(0:Int)) then some ((0:Int),
  (9:Int),PUnit.unit) else some (t,(0:Int),PUnit.unit)
noncomputable def house_Find (x0:ByteArray×Int×(List (ByteArray×Int×Int×Int×Int×(List Int)×Int×Int×Int×Int×Int×(List (ByteArray×Int×Int×Int×Int×Int×Int))×List (ByteArray×Int×Int)))×List (ByteArray×Int×Int×Int)) (x1:ByteArray):Option (Int×Int×Unit):=house_Find_b lpK jnK house_find house_Valid x0 x1
noncomputable def c23:Ctr:=⟨[T25,.str],[],[],.tup [i64,i64],fun x _ _=>house_Find x.1 x.2.1⟩
theorem e23 (lp:Lp) (jn:Jn) (house_find:(ByteArray×Int×(List (ByteArray×Int×Int×Int×Int×(List Int)×Int×Int×Int×Int×Int×(List (ByteArray×Int×Int×Int×Int×Int×Int))×List (ByteArray×Int×Int)))×List (ByteArray×Int×Int×Int))→(ByteArray)→Option (Int)) (house_Valid:(ByteArray×Int×(List (ByteArray×Int×Int×Int×Int×(List Int)×Int×Int×Int×Int×Int×(List (ByteArray×Int×Int×Int×Int×Int×Int))×List (ByteArray×Int×Int)))×List (ByteArray×Int×Int×Int))→Option (Bool)):∀(x:TsS c23.as) (F:TsF c23.fs) (y:TsS c23.cs),house_Find_b lp jn house_find house_Valid x.1 x.2.1=runC lp jn (ctxOf prog shs inls its [(32,⟨[T25],[],[],.one .bool,fun x _ _=>house_Valid x.1⟩),(47,⟨[T25,.str],[],[],.one i64,fun x _ _=>house_find x.1 x.2.1⟩)] [(116,r116),(115,r115),(114,r114),(69,r69),(119,r119)]) hints 4 23 f23 c23 x F y:=fun x F y=>by kernel_rfl
theorem l23:(ctxOf prog shs inls its [(32,c32),(47,c47)] [(116,r116),(115,r115),(114,r114),(69,r69),(119,r119)]).ok:=ctxOf_cons (ctxOf_cons (q116) (by kernel_rfl) ok47) (by kernel_rfl) ok32
theorem ok23:c23.ok prog 23:=Ctr.of_den l23 hmix (hl:=hints) (d:=4) func23 rfl (by decide) (e23 lpK jnK house_find house_Valid)
noncomputable def ref30_Back_b (lp:Lp) (_:Jn) (x0:ByteArray×Int×Int×Int×Int×(List Int)×Int×Int×Int×Int×Int×(List (ByteArray×Int×Int×Int×Int×Int×Int))×List (ByteArray×Int×Int)):Option Int :=
 lp (Int×Int×PUnit) Int (fun (again:Int×Int×PUnit→Option Int) (x:Int×Int×PUnit) =>
 let v5:Int×PUnit:=(IntKind.wrap .i64 (x.2.1+(1:Int)),PUnit.unit);
 let v6:Bool:=inB x.2.1 (List.length x0.2.2.2.2.2.2.2.2.2.2.2.1);bif decide (x.2.1<(↑(List.length x0.2.2.2.2.2.2.2.2.2.2.2.1)
  : Int)) then bif v6 then bif decide ((List.getD x0.2.2.2.2.2.2.2.2.2.2.2.1 (Int.toNat x.2.1) ({ data:={ toList:=[] } },(0:Int),(0:Int),(0:Int),
  (0:Int),(0:Int),(0:Int))).2.2.2.2.2.2>x.1) then bif v6 then again ((List.getD x0.2.2.2.2.2.2.2.2.2.2.2.1 (Int.toNat x.2.1) ({ data :=
  {toList:=[] } },(0:Int),(0:Int),(0:Int),(0:Int),(0:Int),(0:Int))).2.2.2.2.2.2,v5) else none else again (x.1,v5) else none else some (IntKind.wrap
  IntKind.i64 (x0.2.1 - x.1))) ((0:Int),(0:Int),PUnit.unit)
noncomputable def ref30_Back (x0:ByteArray×Int×Int×Int×Int×(List Int)×Int×Int×Int×Int×Int×(List (ByteArray×Int×Int×Int×Int×Int×Int))×List (ByteArray×Int×Int)):Option Int:=ref30_Back_b lpK jnK x0
noncomputable def ref30_Front_b (lp:Lp) (_:Jn) (x0:ByteArray×Int×Int×Int×Int×(List Int)×Int×Int×Int×Int×Int×(List (ByteArray×Int×Int×Int×Int×Int×Int))×List (ByteArray×Int×Int)):Option Int :=
 lp (Int×Int×PUnit) Int (fun (again:Int×Int×PUnit→Option Int) (x:Int×Int×PUnit) =>
 let v5:Int×PUnit:=(IntKind.wrap .i64 (x.2.1+(1:Int)),PUnit.unit);
 let v6:Bool:=inB x.2.1 (List.length x0.2.2.2.2.2.2.2.2.2.2.2.1);bif decide (x.2.1<(↑(List.length x0.2.2.2.2.2.2.2.2.2.2.2.1)
  : Int)) then bif v6 then bif decide ((List.getD x0.2.2.2.2.2.2.2.2.2.2.2.1 (Int.toNat x.2.1) ({ data:={ toList:=[] } },(0:Int),(0:Int),(0:Int),
  (0:Int),(0:Int),(0:Int))).2.2.2.2.2.1>x.1) then bif v6 then again ((List.getD x0.2.2.2.2.2.2.2.2.2.2.2.1 (Int.toNat x.2.1) ({ data :=
  {toList:=[] } },(0:Int),(0:Int),(0:Int),(0:Int),(0:Int),(0:Int))).2.2.2.2.2.1,v5) else none else again (x.1,v5) else none else some (IntKind.wrap
  IntKind.i64 (x0.2.1+x.1))) ((0:Int),(0:Int),PUnit.unit)
noncomputable def ref30_Front (x0:ByteArray×Int×Int×Int×Int×(List Int)×Int×Int×Int×Int×Int×(List (ByteArray×Int×Int×Int×Int×Int×Int))×List (ByteArray×Int×Int)):Option Int:=ref30_Front_b lpK jnK x0
noncomputable def ref30_Gap_b (_:Lp) (jn:Jn) (ref30_FindSet:(ByteArray×Int×(List (ByteArray×Int×Int×Int×Int×(List Int)×Int×Int×Int×Int×Int×(List (ByteArray×Int×Int×Int×Int×Int×Int))×List (ByteArray×Int×Int)))×List (ByteArray×Int×Int×Int))→(ByteArray)→Option (Int)) (ref30_Valid:(ByteArray×Int×(List (ByteArray×Int×Int×Int×Int×(List Int)×Int×Int×Int×Int×Int×(List (ByteArray×Int×Int×Int×Int×Int×Int))×List (ByteArray×Int×Int)))×List (ByteArray×Int×Int×Int))→Option (Bool)) (ref30_Back:(ByteArray×Int×Int×Int×Int×(List Int)×Int×Int×Int×Int×Int×(List (ByteArray×Int×Int×Int×Int×Int×Int))×List (ByteArray×Int×Int))→Option (Int)) (ref30_Front:(ByteArray×Int×Int×Int×Int×(List Int)×Int×Int×Int×Int×Int×(List (ByteArray×Int×Int×Int×Int×Int×Int))×List (ByteArray×Int×Int))→Option (Int)) (x0:ByteArray×Int×(List (ByteArray×Int×Int×Int×Int×(List Int)×Int×Int×Int×Int×Int×(List (ByteArray×Int×Int×Int×Int×Int×Int))×List (ByteArray×Int×Int)))×List (ByteArray×Int×Int×Int)) (x1:ByteArray) (x2:ByteArray):Option (Int×Int×Unit) :=
 obind (ref30_Valid x0) fun (t:Bool)=>bif !t then some ((0:Int),(1:Int),PUnit.unit) else obind (ref30_FindSet x0 x1) fun (t:Int) =>
 let v7:Bool:=decide (t<(0:Int));
 let v8:Bool:=!v7;
 let v9:Bool:=inB t (List.length x0.2.2.1);obind (ref30_FindSet x0 x2) fun (t_1:Int) =>
 let v11:Bool:=inB t_1 (List.length x0.2.2.1);
 let v12:Bool:=decide ((List.getD x0.2.2.1 (Int.toNat t_1) ({ data:={ toList:=[] } },(0:Int),(0:Int),(0:Int),(0:Int),[],(0:Int),(0:Int),(0:Int),(0 :
  Int),(0:Int),[],[])).2.1=(List.getD x0.2.2.1 (Int.toNat t) ({ data:={ toList:=[] } },(0:Int),(0:Int),(0:Int),(0:Int),[],(0:Int),(0:Int),(0 :
  Int),(0:Int),(0:Int),[],[])).2.1);
 let v13:Bool:=decide ((List.getD x0.2.2.1 (Int.toNat t_1) ({ data:={ toList:=[] } },(0:Int),(0:Int),(0:Int),(0:Int),[],(0:Int),(0:Int),(0:Int),(0 :
  Int),(0:Int),[],[])).2.1<(List.getD x0.2.2.1 (Int.toNat t) ({ data:={ toList:=[] } },(0:Int),(0:Int),(0:Int),(0:Int),[],(0:Int),(0:Int),(0 :
  Int),(0:Int),(0:Int),[],[])).2.1);
 let v14:Bool:=!v13;
 let v15:Bool:=!v14;
 let v16:Bool:=v14&&v12;
 let v17:Bool:=v15||v14;
 let v18:Bool:=!v16||v16;bif !v8||v8 then bif v7||v8 then bif bif v7 then true else decide (t_1<(0:Int)) then some ((0:Int),(9:Int),PUnit.unit) else bif decide (t =
  t_1) then some ((0:Int),(10:Int),PUnit.unit) else bif v11 then bif v9 then bif v17 then bif v17&&(v17&&(v15||v11)) then bif v17 then bif v17 then bif v17 then bif v17 &&
  (v17&&(v15||v9)) then bif v17 then bif v17 then bif v17&&v17 then bif v17 then bif v18&&v18 then bif (v15||v17)&&(v15||(!v12||(v15||v16))) then bif v13||v14 then jn
  (Int×Int×PUnit) (Int×Int×PUnit) (fun (x:Int×Int×PUnit)=>bif inB x.2.1 (List.length x0.2.2.1) then obind (ref30_Back (List.getD x0.2.2.1 (Int.toNat
  x.2.1) ({ data:={ toList:=[] } },(0:Int),(0:Int),(0:Int),(0:Int),[],(0:Int),(0:Int),(0:Int),(0:Int),(0:Int),[],[]))) fun (t:Int)=>bif inB x.1
  (List.length x0.2.2.1) then obind (ref30_Front (List.getD x0.2.2.1 (Int.toNat x.1) ({ data:={ toList:=[] } },(0:Int),(0:Int),(0:Int),(0:Int),[],(0 :
  Int),(0:Int),(0:Int),(0:Int),(0:Int),[],[]))) fun (t_2:Int)=>some (IntKind.wrap .i64 (t - t_2),(0:Int),PUnit.unit) else none else none) fun (j:Int×Int ×
  PUnit→Option (Int×Int×PUnit))=>bif bif v13 then true else bif v12 then decide (t_1<t) else false then j (t_1,t,PUnit.unit) else j (t,t_1,PUnit.unit) else none else none
  else none else none else none else none else none else none else none else none else none else none else none else none else none else none else none
noncomputable def ref30_Gap (x0:ByteArray×Int×(List (ByteArray×Int×Int×Int×Int×(List Int)×Int×Int×Int×Int×Int×(List (ByteArray×Int×Int×Int×Int×Int×Int))×List (ByteArray×Int×Int)))×List (ByteArray×Int×Int×Int)) (x1:ByteArray) (x2:ByteArray):Option (Int×Int×Unit):=ref30_Gap_b lpK jnK ref30_FindSet ref30_Valid ref30_Back ref30_Front x0 x1 x2
noncomputable def ref30_Order_b (lp:Lp) (_:Jn) (x0:ByteArray×Int×(List (ByteArray×Int×Int×Int×Int×(List Int)×Int×Int×Int×Int×Int×(List (ByteArray×Int×Int×Int×Int×Int×Int))×List (ByteArray×Int×Int)))×List (ByteArray×Int×Int×Int)):Option (List Int) :=
 lp (List Int×Int×PUnit) (List Int) (fun (again:List Int×Int×PUnit→Option (List Int)) (x:List Int×Int×PUnit)=>bif decide (x.2.1<(↑(List.length x0.2.2.1) :
  Int)) then lp (Int×PUnit) (List Int) (fun (again_1:Int×PUnit→Option (List Int)) (x_1:Int×PUnit) =>
 let v7:Int:=IntKind.wrap .i64 (x_1.1 - (1:Int));
 let v8:List Int:=List.drop (0:Nat) (List.take (Int.toNat x_1.1) x.1);
 let v9:Bool:=decide (x_1.1>(0:Int));
 let v10:Bool:=!v9;
 let v11:List Int:=List.drop (Int.toNat x_1.1) (List.take (Int.toNat (↑(List.length x.1):Int)) x.1);
 let v12:List Int:=v8++[x.2.1];
 let v13:Bool:=v10||v9;bif v13 then bif v13 then bif v13&&(v13&&(v10||inB v7 (List.length x.1))) then bif v13&&(v10||Nat.ble (Nat.succ (Int.toNat v7)) (List.length
  x.1)) then bif v13&&(v13&&(v10||inB (List.getD x.1 (Int.toNat v7) (0:Int)) (List.length x0.2.2.1))) then bif v13 then bif v13 then bif v13 then bif v13&&(v13&&(v10
  || inB x.2.1 (List.length x0.2.2.1))) then bif v13 then bif v13 then bif v13&&v13 then bif v13 then bif bif v9 then decide ((List.getD x0.2.2.1 (Int.toNat (List.getD
  x.1 (Int.toNat v7) (0:Int))) ({ data:={ toList:=[] } },(0:Int),(0:Int),(0:Int),(0:Int),[],(0:Int),(0:Int),(0:Int),(0:Int),(0:Int),[],[])).2.1 >
  (List.getD x0.2.2.1 (Int.toNat x.2.1) ({ data:={ toList:=[] } },(0:Int),(0:Int),(0:Int),(0:Int),[],(0:Int),(0:Int),(0:Int),(0:Int),(0:Int),[],
  [])).2.1) else false then again_1 (v7,PUnit.unit) else bif slB (0:Int) x_1.1 (List.length x.1) then bif fitB ((0:Nat)+List.length v8) (8:Nat)&&Nat.ble (Int.toNat
  x_1.1) (List.length x.1) then bif fitB (List.length v8+(1:Nat)) (8:Nat) then bif slB x_1.1 (↑(List.length x.1):Int) (List.length x.1) then bif fitB (List.length v12 +
  List.length v11) (8:Nat)&&(Nat.ble (Int.toNat x_1.1) (Int.toNat (↑(List.length x.1):Int))&&Nat.ble (Int.toNat (↑(List.length x.1):Int)) (List.length x.1)) then again
  (v12++v11,IntKind.wrap .i64 (x.2.1+(1:Int)),PUnit.unit) else none else none else none else none else none else none else none else none else none else none else none
  else none else none else none else none else none else none else none) ((↑(List.length x.1):Int),PUnit.unit) else some x.1) ([],(0:Int),PUnit.unit)
noncomputable def ref30_Order (x0:ByteArray×Int×(List (ByteArray×Int×Int×Int×Int×(List Int)×Int×Int×Int×Int×Int×(List (ByteArray×Int×Int×Int×Int×Int×Int))×List (ByteArray×Int×Int)))×List (ByteArray×Int×Int×Int)):Option (List Int):=ref30_Order_b lpK jnK x0
noncomputable def law30_HouseFinds_b (_:Lp) (_:Jn) (house_Order:(ByteArray×Int×(List (ByteArray×Int×Int×Int×Int×(List Int)×Int×Int×Int×Int×Int×(List (ByteArray×Int×Int×Int×Int×Int×Int))×List (ByteArray×Int×Int)))×List (ByteArray×Int×Int×Int))→Option ((List Int)×Int×Unit)) (house_Gap:(ByteArray×Int×(List (ByteArray×Int×Int×Int×Int×(List Int)×Int×Int×Int×Int×Int×(List (ByteArray×Int×Int×Int×Int×Int×Int))×List (ByteArray×Int×Int)))×List (ByteArray×Int×Int×Int))→(ByteArray)→(ByteArray)→Option (Int×Int×Unit)) (slices_Equal_26:(List Int)→(List Int)→Option (Bool)) (law30_awake:Option (Bool)) (law30_small:(ByteArray×Int×(List (ByteArray×Int×Int×Int×Int×(List Int)×Int×Int×Int×Int×Int×(List (ByteArray×Int×Int×Int×Int×Int×Int))×List (ByteArray×Int×Int)))×List (ByteArray×Int×Int×Int))→Option (Bool)) (ref30_FindSet:(ByteArray×Int×(List (ByteArray×Int×Int×Int×Int×(List Int)×Int×Int×Int×Int×Int×(List (ByteArray×Int×Int×Int×Int×Int×Int))×List (ByteArray×Int×Int)))×List (ByteArray×Int×Int×Int))→(ByteArray)→Option (Int)) (ref30_Valid:(ByteArray×Int×(List (ByteArray×Int×Int×Int×Int×(List Int)×Int×Int×Int×Int×Int×(List (ByteArray×Int×Int×Int×Int×Int×Int))×List (ByteArray×Int×Int)))×List (ByteArray×Int×Int×Int))→Option (Bool)) (house_Find:(ByteArray×Int×(List (ByteArray×Int×Int×Int×Int×(List Int)×Int×Int×Int×Int×Int×(List (ByteArray×Int×Int×Int×Int×Int×Int))×List (ByteArray×Int×Int)))×List (ByteArray×Int×Int×Int))→(ByteArray)→Option (Int×Int×Unit)) (ref30_Gap:(ByteArray×Int×(List (ByteArray×Int×Int×Int×Int×(List Int)×Int×Int×Int×Int×Int×(List (ByteArray×Int×Int×Int×Int×Int×Int))×List (ByteArray×Int×Int)))×List (ByteArray×Int×Int×Int))→(ByteArray)→(ByteArray)→Option (Int×Int×Unit)) (ref30_Order:(ByteArray×Int×(List (ByteArray×Int×Int×Int×Int×(List Int)×Int×Int×Int×Int×Int×(List (ByteArray×Int×Int×Int×Int×Int×Int))×List (ByteArray×Int×Int)))×List (ByteArray×Int×Int×Int))→Option (List Int)) (x0:ByteArray×Int×(List (ByteArray×Int×Int×Int×Int×(List Int)×Int×Int×Int×Int×Int×(List (ByteArray×Int×Int×Int×Int×Int×Int))×List (ByteArray×Int×Int)))×List (ByteArray×Int×Int×Int)) (x1:ByteArray) (x2:ByteArray):Option Bool :=
 obind law30_awake fun (t:Bool)=>bif !t then some false else obind (law30_small x0) fun (t:Bool) =>
 let v7:Bool:=!t;
 let v8:Bool:=!v7;
 let v9:Bool:=!v8||v8;
 let v10:Bool:=bif v7 then true else decide ((↑(ByteArray.size x1):Int)>(100:Int));
 let v11:Bool:=!v10;
 let v12:Bool:=!v11||v11;bif v9 then bif v9 then bif v7||v8 then bif v12 then bif v12 then bif v10||v11 then bif bif v10 then true else decide ((↑(ByteArray.size x2):Int) >
  (100:Int)) then some true else obind (house_Find x0 x1) fun (t:Int×Int×PUnit) =>
 let v14:Bool:=decide (t.1=(0:Int));
 let v15:Bool:=decide (t.2.1=(0:Int));
 let v16:Bool:=!v14||v14;
 let v17:Bool:=bif v14 then decide (t.2.1=(1:Int)) else false;
 let v18:Bool:=!v15||v15;
 let v19:Bool:=!v17||v17;
 let v20:Bool:=v18&&v18;obind (house_Order x0) fun (t_1:List Int×Int×PUnit) =>
 let v22:Bool:=!decide (t_1.2.1=(0:Int));
 let v23:Bool:=!v22;
 let v24:Bool:=bif v17 then decide ((↑(List.length t_1.1):Int)=(0:Int)) else false;
 let v25:Bool:=!v23||v23;
 let v26:Bool:=!v24||v24;obind (house_Gap x0 x1 x2) fun (t_2:Int×Int×PUnit)=>obind (ref30_Gap x0 x1 x2) fun (t_3:Int×Int×PUnit) =>
 let v29:Bool:=!decide (t_2.1=t_3.1);
 let v30:Bool:=!v29;
 let v31:Bool:=!v30||v30;bif v31&&v31 then bif v29||v30 then bif bif v29 then true else !decide (t_2.2.1=t_3.2.1) then some false else obind (ref30_Valid x0) fun (t_4
  : Bool)=>bif !t_4 then bif v16 then bif v16 then bif v19 then bif v19 then bif v19 then bif v26 then bif v26 then some (bif v24 then decide (t_1.2.1=(1:Int)) else false) else
  none else none else none else none else none else none else none else bif v25 then obind (bif v23 then ref30_Order x0 else some []) fun (t_5:List Int)=>bif v25&&v25 then obind
  (bif v23 then slices_Equal_26 t_1.1 t_5 else some false) fun (t_6:Bool)=>bif v25 then bif v22||v23 then bif bif v22 then true else !t_6 then some false else obind (ref30_FindSet
  x0 x1) fun (t_7:Int)=>bif decide (t_7<(0:Int)) then bif v16 then bif v16 then some (bif v14 then decide (t.2.1=(9:Int)) else false) else none else none else bif v20 then
  obind (bif v15 then ref30_FindSet x0 x1 else some (0:Int)) fun (t_8:Int)=>bif v20 then bif v18 then some (bif v15 then decide (t.1=t_8) else false) else none else none else
  none else none else none else none else none else none else none else none else none else none else none else none else none
noncomputable def law30_HouseFinds (x0:ByteArray×Int×(List (ByteArray×Int×Int×Int×Int×(List Int)×Int×Int×Int×Int×Int×(List (ByteArray×Int×Int×Int×Int×Int×Int))×List (ByteArray×Int×Int)))×List (ByteArray×Int×Int×Int)) (x1:ByteArray) (x2:ByteArray):Option Bool:=law30_HouseFinds_b lpK jnK house_Order house_Gap slices_Equal_26 law30_awake law30_small ref30_FindSet ref30_Valid house_Find ref30_Gap ref30_Order x0 x1 x2
noncomputable def c6:Ctr:=⟨[T25,.str,.str],[],[],.one .bool,fun x _ _=>law30_HouseFinds x.1 x.2.1 x.2.2.1⟩
theorem e6 (lp:Lp) (jn:Jn) (house_Order:(ByteArray×Int×(List (ByteArray×Int×Int×Int×Int×(List Int)×Int×Int×Int×Int×Int×(List (ByteArray×Int×Int×Int×Int×Int×Int))×List (ByteArray×Int×Int)))×List (ByteArray×Int×Int×Int))→Option ((List Int)×Int×Unit)) (house_Gap:(ByteArray×Int×(List (ByteArray×Int×Int×Int×Int×(List Int)×Int×Int×Int×Int×Int×(List (ByteArray×Int×Int×Int×Int×Int×Int))×List (ByteArray×Int×Int)))×List (ByteArray×Int×Int×Int))→(ByteArray)→(ByteArray)→Option (Int×Int×Unit)) (slices_Equal_26:(List Int)→(List Int)→Option (Bool)) (law30_awake:Option (Bool)) (law30_small:(ByteArray×Int×(List (ByteArray×Int×Int×Int×Int×(List Int)×Int×Int×Int×Int×Int×(List (ByteArray×Int×Int×Int×Int×Int×Int))×List (ByteArray×Int×Int)))×List (ByteArray×Int×Int×Int))→Option (Bool)) (ref30_FindSet:(ByteArray×Int×(List (ByteArray×Int×Int×Int×Int×(List Int)×Int×Int×Int×Int×Int×(List (ByteArray×Int×Int×Int×Int×Int×Int))×List (ByteArray×Int×Int)))×List (ByteArray×Int×Int×Int))→(ByteArray)→Option (Int)) (ref30_Valid:(ByteArray×Int×(List (ByteArray×Int×Int×Int×Int×(List Int)×Int×Int×Int×Int×Int×(List (ByteArray×Int×Int×Int×Int×Int×Int))×List (ByteArray×Int×Int)))×List (ByteArray×Int×Int×Int))→Option (Bool)) (house_Find:(ByteArray×Int×(List (ByteArray×Int×Int×Int×Int×(List Int)×Int×Int×Int×Int×Int×(List (ByteArray×Int×Int×Int×Int×Int×Int))×List (ByteArray×Int×Int)))×List (ByteArray×Int×Int×Int))→(ByteArray)→Option (Int×Int×Unit)) (ref30_Gap:(ByteArray×Int×(List (ByteArray×Int×Int×Int×Int×(List Int)×Int×Int×Int×Int×Int×(List (ByteArray×Int×Int×Int×Int×Int×Int))×List (ByteArray×Int×Int)))×List (ByteArray×Int×Int×Int))→(ByteArray)→(ByteArray)→Option (Int×Int×Unit)) (ref30_Order:(ByteArray×Int×(List (ByteArray×Int×Int×Int×Int×(List Int)×Int×Int×Int×Int×Int×(List (ByteArray×Int×Int×Int×Int×Int×Int))×List (ByteArray×Int×Int)))×List (ByteArray×Int×Int×Int))→Option (List Int)):∀(x:TsS c6.as) (F:TsF c6.fs) (y:TsS c6.cs),law30_HouseFinds_b lp jn house_Order house_Gap slices_Equal_26 law30_awake law30_small ref30_FindSet ref30_Valid house_Find ref30_Gap ref30_Order x.1 x.2.1 x.2.2.1=runC lp jn (ctxOf prog shs inls its [(27,⟨[T25],[],[],.one (.sl i64),fun x _ _=>ref30_Order x.1⟩),(24,⟨[T25,.str,.str],[],[],.tup [i64,i64],fun x _ _=>ref30_Gap x.1 x.2.1 x.2.2.1⟩),(23,⟨[T25,.str],[],[],.tup [i64,i64],fun x _ _=>house_Find x.1 x.2.1⟩),(25,⟨[T25],[],[],.one .bool,fun x _ _=>ref30_Valid x.1⟩),(28,⟨[T25,.str],[],[],.one i64,fun x _ _=>ref30_FindSet x.1 x.2.1⟩),(11,⟨[T25],[],[],.one .bool,fun x _ _=>law30_small x.1⟩),(10,⟨[],[],[],.one .bool,fun _ _ _=>law30_awake⟩),(26,⟨[(.sl i64),(.sl i64)],[],[],.one .bool,fun x _ _=>slices_Equal_26 x.1 x.2.1⟩),(18,⟨[T25,.str,.str],[],[],.tup [i64,i64],fun x _ _=>house_Gap x.1 x.2.1 x.2.2.1⟩),(16,⟨[T25],[],[],.tup [(.sl i64),i64],fun x _ _=>house_Order x.1⟩)] [(116,r116),(115,r115),(114,r114),(69,r69),(119,r119)]) hints 4 6 f6 c6 x F y:=fun x F y=>by kernel_rfl
noncomputable def slices_Equal_66_b (lp:Lp) (_:Jn) (x0:List (ByteArray×Int×Int×Int)) (x1:List (ByteArray×Int×Int×Int)):Option Bool :=
 bif !decide ((↑(List.length x0):Int)=(↑(List.length x1):Int)) then some false else lp (Int×PUnit) Bool (fun (again:Int×PUnit→Option Bool) (x:Int×PUnit)=>bif decide
  (x.1<(↑(List.length x0):Int)) then bif inB x.1 (List.length x0) then bif inB x.1 (List.length x1) then bif !((Array.isEqv (List.getD x0 (Int.toNat x.1) ({ data:={ toList
  :=[] } },(0:Int),(0:Int),(0:Int))).1.data (List.getD x1 (Int.toNat x.1) ({ data:={ toList:=[] } },(0:Int),(0:Int),(0:Int))).1.data fun (a b:UInt8) =>
  decide (a=b))&&(decide ((List.getD x0 (Int.toNat x.1) ({ data:={ toList:=[] } },(0:Int),(0:Int),(0:Int))).2.1=(List.getD x1 (Int.toNat x.1) ({ data:={
  toList:=[] } },(0:Int),(0:Int),(0:Int))).2.1)&&(decide ((List.getD x0 (Int.toNat x.1) ({ data:={ toList:=[] } },(0:Int),(0:Int),(0:Int))).2.2.1 =
  (List.getD x1 (Int.toNat x.1) ({ data:={ toList:=[] } },(0:Int),(0:Int),(0:Int))).2.2.1)&&(decide ((List.getD x0 (Int.toNat x.1) ({ data:={ toList:=[] } },
  (0:Int),(0:Int),(0:Int))).2.2.2=(List.getD x1 (Int.toNat x.1) ({ data:={ toList:=[] } },(0:Int),(0:Int),(0:Int))).2.2.2)&&true)))) then some false
  else again (IntKind.wrap .i64 (x.1+(1:Int)),PUnit.unit) else none else none else some true) ((0:Int),PUnit.unit)
noncomputable def slices_Equal_66 (x0:List (ByteArray×Int×Int×Int)) (x1:List (ByteArray×Int×Int×Int)):Option Bool:=slices_Equal_66_b lpK jnK x0 x1
noncomputable def c66:Ctr:=⟨[(.sl T96),(.sl T96)],[],[],.one .bool,fun x _ _=>slices_Equal_66 x.1 x.2.1⟩
theorem e66 (lp:Lp) (jn:Jn):∀(x:TsS c66.as) (F:TsF c66.fs) (y:TsS c66.cs),slices_Equal_66_b lp jn x.1 x.2.1=runC lp jn (ctxOf prog shs inls its [] [(116,r116),(115,r115),(114,r114),(69,r69),(119,r119)]) hints 4 66 f66 c66 x F y:=fun x F y=>by kernel_rfl
theorem l66:(ctxOf prog shs inls its [] [(116,r116),(115,r115),(114,r114),(69,r69),(119,r119)]).ok:=q116
theorem ok66:c66.ok prog 66:=Ctr.of_den l66 hmix (hl:=hints) (d:=4) func66 rfl (by decide) (e66 lpK jnK)
noncomputable def slices_EqualFunc_67_b (lp:Lp) (_:Jn) (x0:List (ByteArray×Int×Int×Int×Int×(List Int)×Int×Int×Int×Int×Int×(List (ByteArray×Int×Int×Int×Int×Int×Int))×List (ByteArray×Int×Int))) (x1:List (ByteArray×Int×Int×Int×Int×(List Int)×Int×Int×Int×Int×Int×(List (ByteArray×Int×Int×Int×Int×Int×Int))×List (ByteArray×Int×Int))) (f0:(((ByteArray×Int×Int×Int×Int×(List Int)×Int×Int×Int×Int×Int×(List (ByteArray×Int×Int×Int×Int×Int×Int))×List (ByteArray×Int×Int))×(ByteArray×Int×Int×Int×Int×(List Int)×Int×Int×Int×Int×Int×(List (ByteArray×Int×Int×Int×Int×Int×Int))×List (ByteArray×Int×Int))×Unit)→Option Bool)):Option Bool :=
 bif !decide ((↑(List.length x0):Int)=(↑(List.length x1):Int)) then some false else lp (Int×PUnit) Bool (fun (again:Int×PUnit→Option Bool) (x:Int×PUnit)=>bif decide
  (x.1<(↑(List.length x0):Int)) then bif inB x.1 (List.length x0) then bif inB x.1 (List.length x1) then obind (f0 (List.getD x0 (Int.toNat x.1) ({ data:={ toList:=[] } },
  (0:Int),(0:Int),(0:Int),(0:Int),[],(0:Int),(0:Int),(0:Int),(0:Int),(0:Int),[],[]),List.getD x1 (Int.toNat x.1) ({ data:={ toList:=[] } },(0:Int),
  (0:Int),(0:Int),(0:Int),[],(0:Int),(0:Int),(0:Int),(0:Int),(0:Int),[],[]),PUnit.unit)) fun (t:Bool)=>bif !t then some false else again (IntKind.wrap
  IntKind.i64 (x.1+(1:Int)),PUnit.unit) else none else none else some true) ((0:Int),PUnit.unit)
noncomputable def slices_EqualFunc_67 (x0:List (ByteArray×Int×Int×Int×Int×(List Int)×Int×Int×Int×Int×Int×(List (ByteArray×Int×Int×Int×Int×Int×Int))×List (ByteArray×Int×Int))) (x1:List (ByteArray×Int×Int×Int×Int×(List Int)×Int×Int×Int×Int×Int×(List (ByteArray×Int×Int×Int×Int×Int×Int))×List (ByteArray×Int×Int))) (f0:(((ByteArray×Int×Int×Int×Int×(List Int)×Int×Int×Int×Int×Int×(List (ByteArray×Int×Int×Int×Int×Int×Int))×List (ByteArray×Int×Int))×(ByteArray×Int×Int×Int×Int×(List Int)×Int×Int×Int×Int×Int×(List (ByteArray×Int×Int×Int×Int×Int×Int))×List (ByteArray×Int×Int))×Unit)→Option Bool)):Option Bool:=slices_EqualFunc_67_b lpK jnK x0 x1 f0
noncomputable def c67:Ctr:=⟨[(.sl T44),(.sl T44)],[([T44,T44],.bool)],[],.one .bool,fun x F _=>slices_EqualFunc_67 x.1 x.2.1 F.1⟩
theorem e67 (lp:Lp) (jn:Jn):∀(x:TsS c67.as) (F:TsF c67.fs) (y:TsS c67.cs),slices_EqualFunc_67_b lp jn x.1 x.2.1 F.1=runC lp jn (ctxOf prog shs inls its [] [(116,r116),(115,r115),(114,r114),(69,r69),(119,r119)]) hints 4 67 f67 c67 x F y:=fun x F y=>by kernel_rfl
theorem l67:(ctxOf prog shs inls its [] [(116,r116),(115,r115),(114,r114),(69,r69),(119,r119)]).ok:=q116
theorem ok67:c67.ok prog 67:=Ctr.of_den l67 hmix (hl:=hints) (d:=4) func67 rfl (by decide) (e67 lpK jnK)
noncomputable def slices_Equal_112_b (lp:Lp) (_:Jn) (x0:List (ByteArray×Int×Int×Int×Int×Int×Int)) (x1:List (ByteArray×Int×Int×Int×Int×Int×Int)):Option Bool :=
 bif !decide ((↑(List.length x0):Int)=(↑(List.length x1):Int)) then some false else lp (Int×PUnit) Bool (fun (again:Int×PUnit→Option Bool) (x:Int×PUnit)=>bif decide
  (x.1<(↑(List.length x0):Int)) then bif inB x.1 (List.length x0) then bif inB x.1 (List.length x1) then bif !((Array.isEqv (List.getD x0 (Int.toNat x.1) ({ data:={ toList
  :=[] } },(0:Int),(0:Int),(0:Int),(0:Int),(0:Int),(0:Int))).1.data (List.getD x1 (Int.toNat x.1) ({ data:={ toList:=[] } },(0:Int),(0:Int),(0:Int),(0
  : Int),(0:Int),(0:Int))).1.data fun (a b:UInt8)=>decide (a=b))&&(decide ((List.getD x0 (Int.toNat x.1) ({ data:={ toList:=[] } },(0:Int),(0:Int),(0:Int),
  (0:Int),(0:Int),(0:Int))).2.1=(List.getD x1 (Int.toNat x.1) ({ data:={ toList:=[] } },(0:Int),(0:Int),(0:Int),(0:Int),(0:Int),(0:Int))).2.1) &&
  (decide ((List.getD x0 (Int.toNat x.1) ({ data:={ toList:=[] } },(0:Int),(0:Int),(0:Int),(0:Int),(0:Int),(0:Int))).2.2.1=(List.getD x1 (Int.toNat x.1)
  ({ data:={ toList:=[] } },(0:Int),(0:Int),(0:Int),(0:Int),(0:Int),(0:Int))).2.2.1)&&(decide ((List.getD x0 (Int.toNat x.1) ({ data:={ toList:=[] } },
  (0:Int),(0:Int),(0:Int),(0:Int),(0:Int),(0:Int))).2.2.2.1=(List.getD x1 (Int.toNat x.1) ({ data:={ toList:=[] } },(0:Int),(0:Int),(0:Int),(0 :
  Int),(0:Int),(0:Int))).2.2.2.1)&&(decide ((List.getD x0 (Int.toNat x.1) ({ data:={ toList:=[] } },(0:Int),(0:Int),(0:Int),(0:Int),(0:Int),(0 :
  Int))).2.2.2.2.1=(List.getD x1 (Int.toNat x.1) ({ data:={ toList:=[] } },(0:Int),(0:Int),(0:Int),(0:Int),(0:Int),(0:Int))).2.2.2.2.1) &&
  (decide ((List.getD x0 (Int.toNat x.1) ({ data:={ toList:=[] } },(0:Int),(0:Int),(0:Int),(0:Int),(0:Int),(0:Int))).2.2.2.2.2.1=(List.getD x1
  (Int.toNat x.1) ({ data:={ toList:=[] } },(0:Int),(0:Int),(0:Int),(0:Int),(0:Int),(0:Int))).2.2.2.2.2.1)&&(decide ((List.getD x0 (Int.toNat x.1)
  ({ data:={ toList:=[] } },(0:Int),(0:Int),(0:Int),(0:Int),(0:Int),(0:Int))).2.2.2.2.2.2=(List.getD x1 (Int.toNat x.1) ({ data:={ toList:=[] }
  },(0:Int),(0:Int),(0:Int),(0:Int),(0:Int),(0:Int))).2.2.2.2.2.2)&&true))))))) then some false else again (IntKind.wrap .i64 (x.1+(1:Int)),
  PUnit.unit) else none else none else some true) ((0:Int),PUnit.unit)
noncomputable def slices_Equal_112 (x0:List (ByteArray×Int×Int×Int×Int×Int×Int)) (x1:List (ByteArray×Int×Int×Int×Int×Int×Int)):Option Bool:=slices_Equal_112_b lpK jnK x0 x1
noncomputable def c112:Ctr:=⟨[(.sl T48),(.sl T48)],[],[],.one .bool,fun x _ _=>slices_Equal_112 x.1 x.2.1⟩
theorem e112 (lp:Lp) (jn:Jn):∀(x:TsS c112.as) (F:TsF c112.fs) (y:TsS c112.cs),slices_Equal_112_b lp jn x.1 x.2.1=runC lp jn (ctxOf prog shs inls its [] [(116,r116),(115,r115),(114,r114),(69,r69),(119,r119)]) hints 4 112 f112 c112 x F y:=fun x F y=>by kernel_rfl
theorem l112:(ctxOf prog shs inls its [] [(116,r116),(115,r115),(114,r114),(69,r69),(119,r119)]).ok:=q116
theorem ok112:c112.ok prog 112:=Ctr.of_den l112 hmix (hl:=hints) (d:=4) func112 rfl (by decide) (e112 lpK jnK)
noncomputable def slices_Equal_113_b (lp:Lp) (_:Jn) (x0:List (ByteArray×Int×Int)) (x1:List (ByteArray×Int×Int)):Option Bool :=
 bif !decide ((↑(List.length x0):Int)=(↑(List.length x1):Int)) then some false else lp (Int×PUnit) Bool (fun (again:Int×PUnit→Option Bool) (x:Int×PUnit)=>bif decide
  (x.1<(↑(List.length x0):Int)) then bif inB x.1 (List.length x0) then bif inB x.1 (List.length x1) then bif !((Array.isEqv (List.getD x0 (Int.toNat x.1) ({ data:={ toList
  :=[] } },(0:Int),(0:Int))).1.data (List.getD x1 (Int.toNat x.1) ({ data:={ toList:=[] } },(0:Int),(0:Int))).1.data fun (a b:UInt8)=>decide (a=b))&&(decide
  ((List.getD x0 (Int.toNat x.1) ({ data:={ toList:=[] } },(0:Int),(0:Int))).2.1=(List.getD x1 (Int.toNat x.1) ({ data:={ toList:=[] } },(0:Int),(0 :
  Int))).2.1)&&(decide ((List.getD x0 (Int.toNat x.1) ({ data:={ toList:=[] } },(0:Int),(0:Int))).2.2=(List.getD x1 (Int.toNat x.1) ({ data:={ toList:=[] }
  },(0:Int),(0:Int))).2.2)&&true))) then some false else again (IntKind.wrap .i64 (x.1+(1:Int)),PUnit.unit) else none else none else some true) ((0:Int),
  PUnit.unit)
noncomputable def slices_Equal_113 (x0:List (ByteArray×Int×Int)) (x1:List (ByteArray×Int×Int)):Option Bool:=slices_Equal_113_b lpK jnK x0 x1
noncomputable def c113:Ctr:=⟨[(.sl T64),(.sl T64)],[],[],.one .bool,fun x _ _=>slices_Equal_113 x.1 x.2.1⟩
theorem e113 (lp:Lp) (jn:Jn):∀(x:TsS c113.as) (F:TsF c113.fs) (y:TsS c113.cs),slices_Equal_113_b lp jn x.1 x.2.1=runC lp jn (ctxOf prog shs inls its [] [(116,r116),(115,r115),(114,r114),(69,r69),(119,r119)]) hints 4 113 f113 c113 x F y:=fun x F y=>by kernel_rfl
theorem l113:(ctxOf prog shs inls its [] [(116,r116),(115,r115),(114,r114),(69,r69),(119,r119)]).ok:=q116
theorem ok113:c113.ok prog 113:=Ctr.of_den l113 hmix (hl:=hints) (d:=4) func113 rfl (by decide) (e113 lpK jnK)
noncomputable def house_sameSet_b (_:Lp) (_:Jn) (slices_Equal_26:(List Int)→(List Int)→Option (Bool)) (slices_Equal_112:(List (ByteArray×Int×Int×Int×Int×Int×Int))→(List (ByteArray×Int×Int×Int×Int×Int×Int))→Option (Bool)) (slices_Equal_113:(List (ByteArray×Int×Int))→(List (ByteArray×Int×Int))→Option (Bool)) (x0:ByteArray×Int×Int×Int×Int×(List Int)×Int×Int×Int×Int×Int×(List (ByteArray×Int×Int×Int×Int×Int×Int))×List (ByteArray×Int×Int)) (x1:ByteArray×Int×Int×Int×Int×(List Int)×Int×Int×Int×Int×Int×(List (ByteArray×Int×Int×Int×Int×Int×Int))×List (ByteArray×Int×Int)):Option Bool :=
 
 let v4:Bool:=List.beq (ByteArray.toList x0.1) (ByteArray.toList x1.1);
 let v5:Bool:=!v4||v4;
 let v6:Bool:=bif v4 then decide (x0.2.1=x1.2.1) else false;
 let v7:Bool:=!v6||v6;
 let v8:Bool:=bif v6 then decide (x0.2.2.1=x1.2.2.1) else false;
 let v9:Bool:=bif v8 then decide (x0.2.2.2.1=x1.2.2.2.1) else false;
 let v10:Bool:=!v8||v8;
 let v11:Bool:=bif v9 then decide (x0.2.2.2.2.1=x1.2.2.2.2.1) else false;
 let v12:Bool:=!v9||v9;
 let v13:Bool:=bif v11 then decide (x0.2.2.2.2.2.2.1=x1.2.2.2.2.2.2.1) else false;
 let v14:Bool:=bif v13 then decide (x0.2.2.2.2.2.2.2.1=x1.2.2.2.2.2.2.2.1) else false;
 let v15:Bool:=!v11||v11;
 let v16:Bool:=bif v14 then decide (x0.2.2.2.2.2.2.2.2.1=x1.2.2.2.2.2.2.2.2.1) else false;
 let v17:Bool:=!v13||v13;
 let v18:Bool:=bif v16 then decide (x0.2.2.2.2.2.2.2.2.2.1=x1.2.2.2.2.2.2.2.2.2.1) else false;
 let v19:Bool:=bif v18 then decide (x0.2.2.2.2.2.2.2.2.2.2.1=x1.2.2.2.2.2.2.2.2.2.2.1) else false;
 let v20:Bool:=!v14||v14;
 let v21:Bool:=!v16||v16;
 let v22:Bool:=!v18||v18;
 let v23:Bool:=!v19||v19;bif v5 then bif v5 then bif v5&&v5 then bif v5 then bif v7 then bif v7 then bif v7&&v7 then bif v7 then bif v10 then bif v10 then bif v10&&v10 then
  bif v10 then bif v12 then bif v12 then bif v12&&v12 then bif v12 then bif v15 then bif v15 then bif v15&&v15 then bif v15 then bif v17 then bif v17 then bif v17&&v17 then bif v17
  then bif v20 then bif v20 then bif v20&&v20 then bif v20 then bif v21 then bif v21 then bif v21&&v21 then bif v21 then bif v22 then bif v22 then bif v22&&v22 then bif v22 then bif
  v23 then bif v23 then bif v23&&v23 then obind (bif v19 then slices_Equal_26 x0.2.2.2.2.2.1 x1.2.2.2.2.2.1 else some false) fun (t:Bool) =>
 let v25:Bool:=bif v19 then t else false;
 let v26:Bool:=!v25||v25;bif v23 then bif v26 then bif v26 then bif v26&&v26 then obind (bif v25 then slices_Equal_112 x0.2.2.2.2.2.2.2.2.2.2.2.1
  x1.2.2.2.2.2.2.2.2.2.2.2.1 else some false) fun (t:Bool) =>
 let v28:Bool:=bif v25 then t else false;
 let v29:Bool:=!v28||v28;bif v26 then bif v29 then bif v29 then bif v29&&v29 then obind (bif v28 then slices_Equal_113 x0.2.2.2.2.2.2.2.2.2.2.2.2
  x1.2.2.2.2.2.2.2.2.2.2.2.2 else some false) fun (t:Bool)=>bif v29 then some (bif v28 then t else false) else none else none else none else none else none
  else none else none else none else none else none else none else none else none else none else none else none else none else none else none else none else none else none else none else
  none else none else none else none else none else none else none else none else none else none else none else none else none else none else none else none else none else none else none
  else none else none else none else none else none else none
noncomputable def house_sameSet (x0:ByteArray×Int×Int×Int×Int×(List Int)×Int×Int×Int×Int×Int×(List (ByteArray×Int×Int×Int×Int×Int×Int))×List (ByteArray×Int×Int)) (x1:ByteArray×Int×Int×Int×Int×(List Int)×Int×Int×Int×Int×Int×(List (ByteArray×Int×Int×Int×Int×Int×Int))×List (ByteArray×Int×Int)):Option Bool:=house_sameSet_b lpK jnK slices_Equal_26 slices_Equal_112 slices_Equal_113 x0 x1
noncomputable def c68:Ctr:=⟨[T44,T44],[],[],.one .bool,fun x _ _=>house_sameSet x.1 x.2.1⟩
theorem e68 (lp:Lp) (jn:Jn) (slices_Equal_26:(List Int)→(List Int)→Option (Bool)) (slices_Equal_112:(List (ByteArray×Int×Int×Int×Int×Int×Int))→(List (ByteArray×Int×Int×Int×Int×Int×Int))→Option (Bool)) (slices_Equal_113:(List (ByteArray×Int×Int))→(List (ByteArray×Int×Int))→Option (Bool)):∀(x:TsS c68.as) (F:TsF c68.fs) (y:TsS c68.cs),house_sameSet_b lp jn slices_Equal_26 slices_Equal_112 slices_Equal_113 x.1 x.2.1=runC lp jn (ctxOf prog shs inls its [(113,⟨[(.sl T64),(.sl T64)],[],[],.one .bool,fun x _ _=>slices_Equal_113 x.1 x.2.1⟩),(112,⟨[(.sl T48),(.sl T48)],[],[],.one .bool,fun x _ _=>slices_Equal_112 x.1 x.2.1⟩),(26,⟨[(.sl i64),(.sl i64)],[],[],.one .bool,fun x _ _=>slices_Equal_26 x.1 x.2.1⟩)] [(116,r116),(115,r115),(114,r114),(69,r69),(119,r119)]) hints 4 68 f68 c68 x F y:=fun x F y=>by kernel_rfl
theorem l68:(ctxOf prog shs inls its [(113,c113),(112,c112),(26,c26)] [(116,r116),(115,r115),(114,r114),(69,r69),(119,r119)]).ok:=ctxOf_cons (ctxOf_cons (ctxOf_cons (q116) (by kernel_rfl) ok26) (by kernel_rfl) ok112) (by kernel_rfl) ok113
theorem ok68:c68.ok prog 68:=Ctr.of_den l68 hmix (hl:=hints) (d:=4) func68 rfl (by decide) (e68 lpK jnK slices_Equal_26 slices_Equal_112 slices_Equal_113)
noncomputable def house_Same_b (_:Lp) (_:Jn) (slices_Equal_66:(List (ByteArray×Int×Int×Int))→(List (ByteArray×Int×Int×Int))→Option (Bool)) (slices_EqualFunc_67:(List (ByteArray×Int×Int×Int×Int×(List Int)×Int×Int×Int×Int×Int×(List (ByteArray×Int×Int×Int×Int×Int×Int))×List (ByteArray×Int×Int)))→(List (ByteArray×Int×Int×Int×Int×(List Int)×Int×Int×Int×Int×Int×(List (ByteArray×Int×Int×Int×Int×Int×Int))×List (ByteArray×Int×Int)))→((((ByteArray×Int×Int×Int×Int×(List Int)×Int×Int×Int×Int×Int×(List (ByteArray×Int×Int×Int×Int×Int×Int))×List (ByteArray×Int×Int))×(ByteArray×Int×Int×Int×Int×(List Int)×Int×Int×Int×Int×Int×(List (ByteArray×Int×Int×Int×Int×Int×Int))×List (ByteArray×Int×Int))×Unit)→Option Bool))→Option (Bool)) (house_sameSet:(ByteArray×Int×Int×Int×Int×(List Int)×Int×Int×Int×Int×Int×(List (ByteArray×Int×Int×Int×Int×Int×Int))×List (ByteArray×Int×Int))→(ByteArray×Int×Int×Int×Int×(List Int)×Int×Int×Int×Int×Int×(List (ByteArray×Int×Int×Int×Int×Int×Int))×List (ByteArray×Int×Int))→Option (Bool)) (x0:ByteArray×Int×(List (ByteArray×Int×Int×Int×Int×(List Int)×Int×Int×Int×Int×Int×(List (ByteArray×Int×Int×Int×Int×Int×Int))×List (ByteArray×Int×Int)))×List (ByteArray×Int×Int×Int)) (x1:ByteArray×Int×(List (ByteArray×Int×Int×Int×Int×(List Int)×Int×Int×Int×Int×Int×(List (ByteArray×Int×Int×Int×Int×Int×Int))×List (ByteArray×Int×Int)))×List (ByteArray×Int×Int×Int)):Option Bool :=
 
 let v4:Bool:=List.beq (ByteArray.toList x0.1) (ByteArray.toList x1.1);
 let v5:Bool:=!v4||v4;
 let v6:Bool:=bif v4 then decide (x0.2.1=x1.2.1) else false;
 let v7:Bool:=!v6||v6;bif v5 then bif v5 then bif v5&&v5 then bif v5 then bif v7 then bif v7 then bif v7&&v7 then obind (bif v6 then slices_Equal_66 x0.2.2.2
  x1.2.2.2 else some false) fun (t:Bool) =>
 let v9:Bool:=bif v6 then t else false;
 let v10:Bool:=!v9||v9;bif v7 then bif v10 then bif v10 then bif v10&&v10 then obind (bif v9 then slices_EqualFunc_67 x0.2.2.1 x1.2.2.1 fun (x:(ByteArray×Int×Int
  × Int×Int×List Int×Int×Int×Int×Int×Int×List (ByteArray×Int×Int×Int×Int×Int×Int)×List (ByteArray×Int×Int))×(ByteArray×Int×Int×Int×Int×List
  Int×Int×Int×Int×Int×Int×List (ByteArray×Int×Int×Int×Int×Int×Int)×List (ByteArray×Int×Int))×PUnit)=>house_sameSet x.1 x.2.1 else some false) fun
  (t:Bool)=>bif v10 then some (bif v9 then t else false) else none else none else none else none else none else none else none else none else none else none else none else none
noncomputable def house_Same (x0:ByteArray×Int×(List (ByteArray×Int×Int×Int×Int×(List Int)×Int×Int×Int×Int×Int×(List (ByteArray×Int×Int×Int×Int×Int×Int))×List (ByteArray×Int×Int)))×List (ByteArray×Int×Int×Int)) (x1:ByteArray×Int×(List (ByteArray×Int×Int×Int×Int×(List Int)×Int×Int×Int×Int×Int×(List (ByteArray×Int×Int×Int×Int×Int×Int))×List (ByteArray×Int×Int)))×List (ByteArray×Int×Int×Int)):Option Bool:=house_Same_b lpK jnK slices_Equal_66 slices_EqualFunc_67 house_sameSet x0 x1
noncomputable def c33:Ctr:=⟨[T25,T25],[],[],.one .bool,fun x _ _=>house_Same x.1 x.2.1⟩
theorem e33 (lp:Lp) (jn:Jn) (slices_Equal_66:(List (ByteArray×Int×Int×Int))→(List (ByteArray×Int×Int×Int))→Option (Bool)) (slices_EqualFunc_67:(List (ByteArray×Int×Int×Int×Int×(List Int)×Int×Int×Int×Int×Int×(List (ByteArray×Int×Int×Int×Int×Int×Int))×List (ByteArray×Int×Int)))→(List (ByteArray×Int×Int×Int×Int×(List Int)×Int×Int×Int×Int×Int×(List (ByteArray×Int×Int×Int×Int×Int×Int))×List (ByteArray×Int×Int)))→((((ByteArray×Int×Int×Int×Int×(List Int)×Int×Int×Int×Int×Int×(List (ByteArray×Int×Int×Int×Int×Int×Int))×List (ByteArray×Int×Int))×(ByteArray×Int×Int×Int×Int×(List Int)×Int×Int×Int×Int×Int×(List (ByteArray×Int×Int×Int×Int×Int×Int))×List (ByteArray×Int×Int))×Unit)→Option Bool))→Option (Bool)) (house_sameSet:(ByteArray×Int×Int×Int×Int×(List Int)×Int×Int×Int×Int×Int×(List (ByteArray×Int×Int×Int×Int×Int×Int))×List (ByteArray×Int×Int))→(ByteArray×Int×Int×Int×Int×(List Int)×Int×Int×Int×Int×Int×(List (ByteArray×Int×Int×Int×Int×Int×Int))×List (ByteArray×Int×Int))→Option (Bool)):∀(x:TsS c33.as) (F:TsF c33.fs) (y:TsS c33.cs),house_Same_b lp jn slices_Equal_66 slices_EqualFunc_67 house_sameSet x.1 x.2.1=runC lp jn (ctxOf prog shs inls its [(68,⟨[T44,T44],[],[],.one .bool,fun x _ _=>house_sameSet x.1 x.2.1⟩),(67,⟨[(.sl T44),(.sl T44)],[([T44,T44],.bool)],[],.one .bool,fun x F _=>slices_EqualFunc_67 x.1 x.2.1 F.1⟩),(66,⟨[(.sl T96),(.sl T96)],[],[],.one .bool,fun x _ _=>slices_Equal_66 x.1 x.2.1⟩)] [(116,r116),(115,r115),(114,r114),(69,r69),(119,r119)]) hints 4 33 f33 c33 x F y:=fun x F y=>by kernel_rfl
theorem l33:(ctxOf prog shs inls its [(68,c68),(67,c67),(66,c66)] [(116,r116),(115,r115),(114,r114),(69,r69),(119,r119)]).ok:=ctxOf_cons (ctxOf_cons (ctxOf_cons (q116) (by kernel_rfl) ok66) (by kernel_rfl) ok67) (by kernel_rfl) ok68
theorem ok33:c33.ok prog 33:=Ctr.of_den l33 hmix (hl:=hints) (d:=4) func33 rfl (by decide) (e33 lpK jnK slices_Equal_66 slices_EqualFunc_67 house_sameSet)
noncomputable def ref21_Same_b (lp:Lp) (_:Jn) (x0:ByteArray×Int×Int×Int×Int×(List Int)×Int×Int×Int×Int×Int×(List (ByteArray×Int×Int×Int×Int×Int×Int))×List (ByteArray×Int×Int)) (x1:ByteArray×Int×Int×Int×Int×(List Int)×Int×Int×Int×Int×Int×(List (ByteArray×Int×Int×Int×Int×Int×Int))×List (ByteArray×Int×Int)):Option Bool :=
 
 let v4:Bool:=!List.beq (ByteArray.toList x0.1) (ByteArray.toList x1.1);
 let v5:Bool:=!v4;
 let v6:Bool:=!v5||v5;
 let v7:Bool:=bif v4 then true else !decide (x0.2.1=x1.2.1);
 let v8:Bool:=!v7;
 let v9:Bool:=!v8||v8;
 let v10:Bool:=!decide ((↑(List.length x0.2.2.2.2.2.1):Int)=(↑(List.length x1.2.2.2.2.2.1):Int));
 let v11:Bool:=!v10;
 let v12:Bool:=bif v7 then true else !decide (x0.2.2.1=x1.2.2.1);
 let v13:Bool:=!v12;
 let v14:Bool:=bif v12 then true else !decide (x0.2.2.2.1=x1.2.2.2.1);
 let v15:Bool:=!v14;
 let v16:Bool:=!v11||v11;
 let v17:Bool:=!v13||v13;
 let v18:Bool:=bif v14 then true else !decide (x0.2.2.2.2.1=x1.2.2.2.2.1);
 let v19:Bool:=!v18;
 let v20:Bool:=bif v10 then true else !decide ((↑(List.length x0.2.2.2.2.2.2.2.2.2.2.2.1):Int)=(↑(List.length
  x1.2.2.2.2.2.2.2.2.2.2.2.1):Int));
 let v21:Bool:=!v20;
 let v22:Bool:=!v15||v15;
 let v23:Bool:=bif v18 then true else !decide (x0.2.2.2.2.2.2.1=x1.2.2.2.2.2.2.1);
 let v24:Bool:=!v23;
 let v25:Bool:=bif v23 then true else !decide (x0.2.2.2.2.2.2.2.1=x1.2.2.2.2.2.2.2.1);
 let v26:Bool:=!v25;
 let v27:Bool:=!v19||v19;
 let v28:Bool:=!v21||v21;
 let v29:Bool:=bif v25 then true else !decide (x0.2.2.2.2.2.2.2.2.1=x1.2.2.2.2.2.2.2.2.1);
 let v30:Bool:=!v29;
 let v31:Bool:=!v24||v24;
 let v32:Bool:=bif v29 then true else !decide (x0.2.2.2.2.2.2.2.2.2.1=x1.2.2.2.2.2.2.2.2.2.1);
 let v33:Bool:=!v32;
 let v34:Bool:=!v26||v26;
 let v35:Bool:=!v30||v30;
 let v36:Bool:=!v33||v33;bif v6 then bif v6 then bif v6&&v6 then bif v4||v5 then bif v9 then bif v9 then bif v9&&v9 then bif v7||v8 then bif v17 then bif v17 then bif v17 &&
  v17 then bif v12||v13 then bif v22 then bif v22 then bif v22&&v22 then bif v14||v15 then bif v27 then bif v27 then bif v27&&v27 then bif v18||v19 then bif v31 then bif v31
  then bif v31&&v31 then bif v23||v24 then bif v34 then bif v34 then bif v34&&v34 then bif v25||v26 then bif v35 then bif v35 then bif v35&&v35 then bif v29||v30 then bif v36
  then bif v36 then bif v36&&v36 then bif v32||v33 then bif bif v32 then true else !decide (x0.2.2.2.2.2.2.2.2.2.2.1 =
  x1.2.2.2.2.2.2.2.2.2.2.1) then some false else bif v16 then bif v16 then bif v16 then bif v16 then bif v16&&v16 then bif v10||v11 then bif v28 then bif v28
  then bif v28 then bif v28 then bif v28&&v28 then bif v20||v21 then bif bif v20 then true else !decide ((↑(List.length x0.2.2.2.2.2.2.2.2.2.2.2.2):Int) =
  (↑(List.length x1.2.2.2.2.2.2.2.2.2.2.2.2):Int)) then some false else lp (Int×PUnit) Bool (fun (again:Int×PUnit→Option Bool) (x:Int×PUnit)=>bif
  decide (x.1<(↑(List.length x0.2.2.2.2.2.1):Int)) then bif inB x.1 (List.length x0.2.2.2.2.2.1) then bif inB x.1 (List.length
  x1.2.2.2.2.2.1) then bif !decide (List.getD x0.2.2.2.2.2.1 (Int.toNat x.1) (0:Int)=List.getD x1.2.2.2.2.2.1 (Int.toNat x.1) (0:Int)) then
  some false else again (IntKind.wrap .i64 (x.1+(1:Int)),PUnit.unit) else none else none else lp (Int×PUnit) Bool (fun (again:Int×PUnit→Option Bool) (x:Int ×
  PUnit)=>bif decide (x.1<(↑(List.length x0.2.2.2.2.2.2.2.2.2.2.2.1):Int)) then bif inB x.1 (List.length
  x0.2.2.2.2.2.2.2.2.2.2.2.1) then bif inB x.1 (List.length x1.2.2.2.2.2.2.2.2.2.2.2.1) then bif !((Array.isEqv (List.getD
  x0.2.2.2.2.2.2.2.2.2.2.2.1 (Int.toNat x.1) ({ data:={ toList:=[] } },(0:Int),(0:Int),(0:Int),(0:Int),(0:Int),(0:Int))).1.data
  (List.getD x1.2.2.2.2.2.2.2.2.2.2.2.1 (Int.toNat x.1) ({ data:={ toList:=[] } },(0:Int),(0:Int),(0:Int),(0:Int),(0:Int),(0 :
  Int))).1.data fun (a b:UInt8)=>decide (a=b))&&(decide ((List.getD x0.2.2.2.2.2.2.2.2.2.2.2.1 (Int.toNat x.1) ({ data:={ toList:=[] } },(0 :
  Int),(0:Int),(0:Int),(0:Int),(0:Int),(0:Int))).2.1=(List.getD x1.2.2.2.2.2.2.2.2.2.2.2.1 (Int.toNat x.1) ({ data:={ toList:=[] } },(0
  : Int),(0:Int),(0:Int),(0:Int),(0:Int),(0:Int))).2.1)&&(decide ((List.getD x0.2.2.2.2.2.2.2.2.2.2.2.1 (Int.toNat x.1) ({ data:={ toList
  :=[] } },(0:Int),(0:Int),(0:Int),(0:Int),(0:Int),(0:Int))).2.2.1=(List.getD x1.2.2.2.2.2.2.2.2.2.2.2.1 (Int.toNat x.1) ({ data:={
  toList:=[] } },(0:Int),(0:Int),(0:Int),(0:Int),(0:Int),(0:Int))).2.2.1)&&(decide ((List.getD x0.2.2.2.2.2.2.2.2.2.2.2.1 (Int.toNat
  x.1) ({ data:={ toList:=[] } },(0:Int),(0:Int),(0:Int),(0:Int),(0:Int),(0:Int))).2.2.2.1=(List.getD x1.2.2.2.2.2.2.2.2.2.2.2.1
  (Int.toNat x.1) ({ data:={ toList:=[] } },(0:Int),(0:Int),(0:Int),(0:Int),(0:Int),(0:Int))).2.2.2.1)&&(decide ((List.getD
  x0.2.2.2.2.2.2.2.2.2.2.2.1 (Int.toNat x.1) ({ data:={ toList:=[] } },(0:Int),(0:Int),(0:Int),(0:Int),(0:Int),(0 :
  Int))).2.2.2.2.1=(List.getD x1.2.2.2.2.2.2.2.2.2.2.2.1 (Int.toNat x.1) ({ data:={ toList:=[] } },(0:Int),(0:Int),(0:Int),(0:Int),
  (0:Int),(0:Int))).2.2.2.2.1)&&(decide ((List.getD x0.2.2.2.2.2.2.2.2.2.2.2.1 (Int.toNat x.1) ({ data:={ toList:=[] } },(0:Int),(0 :
  Int),(0:Int),(0:Int),(0:Int),(0:Int))).2.2.2.2.2.1=(List.getD x1.2.2.2.2.2.2.2.2.2.2.2.1 (Int.toNat x.1) ({ data:={ toList:=[] }
  },(0:Int),(0:Int),(0:Int),(0:Int),(0:Int),(0:Int))).2.2.2.2.2.1)&&(decide ((List.getD x0.2.2.2.2.2.2.2.2.2.2.2.1 (Int.toNat
  x.1) ({ data:={ toList:=[] } },(0:Int),(0:Int),(0:Int),(0:Int),(0:Int),(0:Int))).2.2.2.2.2.2=(List.getD
  x1.2.2.2.2.2.2.2.2.2.2.2.1 (Int.toNat x.1) ({ data:={ toList:=[] } },(0:Int),(0:Int),(0:Int),(0:Int),(0:Int),(0 :
  Int))).2.2.2.2.2.2)&&true))))))) then some false else again (IntKind.wrap .i64 (x.1+(1:Int)),PUnit.unit) else none else none else lp (Int×PUnit) Bool (fun
  (again:Int×PUnit→Option Bool) (x:Int×PUnit)=>bif decide (x.1<(↑(List.length x0.2.2.2.2.2.2.2.2.2.2.2.2):Int)) then bif inB x.1 (List.length
  x0.2.2.2.2.2.2.2.2.2.2.2.2) then bif inB x.1 (List.length x1.2.2.2.2.2.2.2.2.2.2.2.2) then bif !((Array.isEqv (List.getD
  x0.2.2.2.2.2.2.2.2.2.2.2.2 (Int.toNat x.1) ({ data:={ toList:=[] } },(0:Int),(0:Int))).1.data (List.getD
  x1.2.2.2.2.2.2.2.2.2.2.2.2 (Int.toNat x.1) ({ data:={ toList:=[] } },(0:Int),(0:Int))).1.data fun (a b:UInt8)=>decide (a=b))&&(decide
  ((List.getD x0.2.2.2.2.2.2.2.2.2.2.2.2 (Int.toNat x.1) ({ data:={ toList:=[] } },(0:Int),(0:Int))).2.1=(List.getD
  x1.2.2.2.2.2.2.2.2.2.2.2.2 (Int.toNat x.1) ({ data:={ toList:=[] } },(0:Int),(0:Int))).2.1)&&(decide ((List.getD
  x0.2.2.2.2.2.2.2.2.2.2.2.2 (Int.toNat x.1) ({ data:={ toList:=[] } },(0:Int),(0:Int))).2.2=(List.getD
  x1.2.2.2.2.2.2.2.2.2.2.2.2 (Int.toNat x.1) ({ data:={ toList:=[] } },(0:Int),(0:Int))).2.2)&&true))) then some false else again (IntKind.wrap
  IntKind.i64 (x.1+(1:Int)),PUnit.unit) else none else none else some true) ((0:Int),PUnit.unit)) ((0:Int),PUnit.unit)) ((0:Int),PUnit.unit) else none else none else none
  else none else none else none else none else none else none else none else none else none else none else none else none else none else none else none else none else none else none else
  none else none else none else none else none else none else none else none else none else none else none else none else none else none else none else none else none else none else none
  else none else none else none else none else none else none else none else none
noncomputable def ref21_Same (x0:ByteArray×Int×Int×Int×Int×(List Int)×Int×Int×Int×Int×Int×(List (ByteArray×Int×Int×Int×Int×Int×Int))×List (ByteArray×Int×Int)) (x1:ByteArray×Int×Int×Int×Int×(List Int)×Int×Int×Int×Int×Int×(List (ByteArray×Int×Int×Int×Int×Int×Int))×List (ByteArray×Int×Int)):Option Bool:=ref21_Same_b lpK jnK x0 x1
noncomputable def c38:Ctr:=⟨[T44,T44],[],[],.one .bool,fun x _ _=>ref21_Same x.1 x.2.1⟩
theorem e38 (lp:Lp) (jn:Jn):∀(x:TsS c38.as) (F:TsF c38.fs) (y:TsS c38.cs),ref21_Same_b lp jn x.1 x.2.1=runC lp jn (ctxOf prog shs inls its [] [(116,r116),(115,r115),(114,r114),(69,r69),(119,r119)]) hints 4 38 f38 c38 x F y:=fun x F y=>by kernel_rfl
theorem l38:(ctxOf prog shs inls its [] [(116,r116),(115,r115),(114,r114),(69,r69),(119,r119)]).ok:=q116
theorem ok38:c38.ok prog 38:=Ctr.of_den l38 hmix (hl:=hints) (d:=4) func38 rfl (by decide) (e38 lpK jnK)
noncomputable def ref30_Same_b (lp:Lp) (_:Jn) (ref21_Same:(ByteArray×Int×Int×Int×Int×(List Int)×Int×Int×Int×Int×Int×(List (ByteArray×Int×Int×Int×Int×Int×Int))×List (ByteArray×Int×Int))→(ByteArray×Int×Int×Int×Int×(List Int)×Int×Int×Int×Int×Int×(List (ByteArray×Int×Int×Int×Int×Int×Int))×List (ByteArray×Int×Int))→Option (Bool)) (x0:ByteArray×Int×(List (ByteArray×Int×Int×Int×Int×(List Int)×Int×Int×Int×Int×Int×(List (ByteArray×Int×Int×Int×Int×Int×Int))×List (ByteArray×Int×Int)))×List (ByteArray×Int×Int×Int)) (x1:ByteArray×Int×(List (ByteArray×Int×Int×Int×Int×(List Int)×Int×Int×Int×Int×Int×(List (ByteArray×Int×Int×Int×Int×Int×Int))×List (ByteArray×Int×Int)))×List (ByteArray×Int×Int×Int)):Option Bool :=
 
 let v4:Bool:=!List.beq (ByteArray.toList x0.1) (ByteArray.toList x1.1);
 let v5:Bool:=!v4;
 let v6:Bool:=!v5||v5;
 let v7:Bool:=bif v4 then true else !decide (x0.2.1=x1.2.1);
 let v8:Bool:=!v7;
 let v9:Bool:=!v8||v8;
 let v10:Bool:=bif v7 then true else !decide ((↑(List.length x0.2.2.1):Int)=(↑(List.length x1.2.2.1):Int));
 let v11:Bool:=!v10;
 let v12:Bool:=!v11||v11;bif v6 then bif v6 then bif v6&&v6 then bif v4||v5 then bif v9 then bif v9 then bif v9 then bif v9 then bif v9&&v9 then bif v7||v8 then bif v12 then
  bif v12 then bif v12 then bif v12 then bif v12&&v12 then bif v10||v11 then bif bif v10 then true else !decide ((↑(List.length x0.2.2.2):Int)=(↑(List.length x1.2.2.2)
  : Int)) then some false else lp (Int×PUnit) Bool (fun (again:Int×PUnit→Option Bool) (x:Int×PUnit)=>bif decide (x.1<(↑(List.length x0.2.2.1):Int)) then bif inB
  x.1 (List.length x0.2.2.1) then bif inB x.1 (List.length x1.2.2.1) then obind (ref21_Same (List.getD x0.2.2.1 (Int.toNat x.1) ({ data:={ toList:=[] } },(0 :
  Int),(0:Int),(0:Int),(0:Int),[],(0:Int),(0:Int),(0:Int),(0:Int),(0:Int),[],[])) (List.getD x1.2.2.1 (Int.toNat x.1) ({ data:={ toList:=[] } },(0
  : Int),(0:Int),(0:Int),(0:Int),[],(0:Int),(0:Int),(0:Int),(0:Int),(0:Int),[],[]))) fun (t:Bool)=>bif !t then some false else again (IntKind.wrap
  IntKind.i64 (x.1+(1:Int)),PUnit.unit) else none else none else lp (Int×PUnit) Bool (fun (again:Int×PUnit→Option Bool) (x:Int×PUnit)=>bif decide (x.1 <
  (↑(List.length x0.2.2.2):Int)) then bif inB x.1 (List.length x0.2.2.2) then bif inB x.1 (List.length x1.2.2.2) then bif !((Array.isEqv (List.getD x0.2.2.2
  (Int.toNat x.1) ({ data:={ toList:=[] } },(0:Int),(0:Int),(0:Int))).1.data (List.getD x1.2.2.2 (Int.toNat x.1) ({ data:={ toList:=[] } },(0:Int),(0 :
  Int),(0:Int))).1.data fun (a b:UInt8)=>decide (a=b))&&(decide ((List.getD x0.2.2.2 (Int.toNat x.1) ({ data:={ toList:=[] } },(0:Int),(0:Int),(0 :
  Int))).2.1=(List.getD x1.2.2.2 (Int.toNat x.1) ({ data:={ toList:=[] } },(0:Int),(0:Int),(0:Int))).2.1)&&(decide ((List.getD x0.2.2.2 (Int.toNat
  x.1) ({ data:={ toList:=[] } },(0:Int),(0:Int),(0:Int))).2.2.1=(List.getD x1.2.2.2 (Int.toNat x.1) ({ data:={ toList:=[] } },(0:Int),(0:Int),(0
  : Int))).2.2.1)&&(decide ((List.getD x0.2.2.2 (Int.toNat x.1) ({ data:={ toList:=[] } },(0:Int),(0:Int),(0:Int))).2.2.2=(List.getD x1.2.2.2
  (Int.toNat x.1) ({ data:={ toList:=[] } },(0:Int),(0:Int),(0:Int))).2.2.2)&&true)))) then some false else again (IntKind.wrap .i64 (x.1+(1:Int)),
  PUnit.unit) else none else none else some true) ((0:Int),PUnit.unit)) ((0:Int),PUnit.unit) else none else none else none else none else none else none else none else none else
  none else none else none else none else none else none else none else none
noncomputable def ref30_Same (x0:ByteArray×Int×(List (ByteArray×Int×Int×Int×Int×(List Int)×Int×Int×Int×Int×Int×(List (ByteArray×Int×Int×Int×Int×Int×Int))×List (ByteArray×Int×Int)))×List (ByteArray×Int×Int×Int)) (x1:ByteArray×Int×(List (ByteArray×Int×Int×Int×Int×(List Int)×Int×Int×Int×Int×Int×(List (ByteArray×Int×Int×Int×Int×Int×Int))×List (ByteArray×Int×Int)))×List (ByteArray×Int×Int×Int)):Option Bool:=ref30_Same_b lpK jnK ref21_Same x0 x1
noncomputable def c34:Ctr:=⟨[T25,T25],[],[],.one .bool,fun x _ _=>ref30_Same x.1 x.2.1⟩
theorem e34 (lp:Lp) (jn:Jn) (ref21_Same:(ByteArray×Int×Int×Int×Int×(List Int)×Int×Int×Int×Int×Int×(List (ByteArray×Int×Int×Int×Int×Int×Int))×List (ByteArray×Int×Int))→(ByteArray×Int×Int×Int×Int×(List Int)×Int×Int×Int×Int×Int×(List (ByteArray×Int×Int×Int×Int×Int×Int))×List (ByteArray×Int×Int))→Option (Bool)):∀(x:TsS c34.as) (F:TsF c34.fs) (y:TsS c34.cs),ref30_Same_b lp jn ref21_Same x.1 x.2.1=runC lp jn (ctxOf prog shs inls its [(38,⟨[T44,T44],[],[],.one .bool,fun x _ _=>ref21_Same x.1 x.2.1⟩)] [(116,r116),(115,r115),(114,r114),(69,r69),(119,r119)]) hints 4 34 f34 c34 x F y:=fun x F y=>by kernel_rfl
theorem l34:(ctxOf prog shs inls its [(38,c38)] [(116,r116),(115,r115),(114,r114),(69,r69),(119,r119)]).ok:=ctxOf_cons (q116) (by kernel_rfl) ok38
theorem ok34:c34.ok prog 34:=Ctr.of_den l34 hmix (hl:=hints) (d:=4) func34 rfl (by decide) (e34 lpK jnK ref21_Same)
noncomputable def house_copied_b (_:Lp) (_:Jn) (slices_Clone_114:(List Int)→Option (List Int)) (slices_Clone_115:(List (ByteArray×Int×Int×Int×Int×Int×Int))→Option (List (ByteArray×Int×Int×Int×Int×Int×Int))) (slices_Clone_116:(List (ByteArray×Int×Int))→Option (List (ByteArray×Int×Int))) (x0:ByteArray×Int×Int×Int×Int×(List Int)×Int×Int×Int×Int×Int×(List (ByteArray×Int×Int×Int×Int×Int×Int))×List (ByteArray×Int×Int)):Option (ByteArray×Int×Int×Int×Int×(List Int)×Int×Int×Int×Int×Int×(List (ByteArray×Int×Int×Int×Int×Int×Int))×List (ByteArray×Int×Int)) :=
 obind (slices_Clone_114 x0.2.2.2.2.2.1) fun (t:List Int)=>obind (slices_Clone_115 x0.2.2.2.2.2.2.2.2.2.2.2.1) fun (t_1:List (ByteArray×Int×Int
  × Int×Int×Int×Int))=>obind (slices_Clone_116 x0.2.2.2.2.2.2.2.2.2.2.2.2) fun (t_2:List (ByteArray×Int×Int))=>some (x0.1,x0.2.1,
  x0.2.2.1,x0.2.2.2.1,x0.2.2.2.2.1,t,x0.2.2.2.2.2.2.1,x0.2.2.2.2.2.2.2.1,x0.2.2.2.2.2.2.2.2.1,
  x0.2.2.2.2.2.2.2.2.2.1,x0.2.2.2.2.2.2.2.2.2.2.1,t_1,t_2)
noncomputable def house_copied (x0:ByteArray×Int×Int×Int×Int×(List Int)×Int×Int×Int×Int×Int×(List (ByteArray×Int×Int×Int×Int×Int×Int))×List (ByteArray×Int×Int)):Option (ByteArray×Int×Int×Int×Int×(List Int)×Int×Int×Int×Int×Int×(List (ByteArray×Int×Int×Int×Int×Int×Int))×List (ByteArray×Int×Int)):=house_copied_b lpK jnK slices_Clone_114 slices_Clone_115 slices_Clone_116 x0
noncomputable def c70:Ctr:=⟨[T44],[],[],.one T44,fun x _ _=>house_copied x.1⟩
theorem e70 (lp:Lp) (jn:Jn) (slices_Clone_114:(List Int)→Option (List Int)) (slices_Clone_115:(List (ByteArray×Int×Int×Int×Int×Int×Int))→Option (List (ByteArray×Int×Int×Int×Int×Int×Int))) (slices_Clone_116:(List (ByteArray×Int×Int))→Option (List (ByteArray×Int×Int))):∀(x:TsS c70.as) (F:TsF c70.fs) (y:TsS c70.cs),house_copied_b lp jn slices_Clone_114 slices_Clone_115 slices_Clone_116 x.1=runC lp jn (ctxOf prog shs inls its [] [(116,⟨[(.sl T64)],64,T64,fun x=>slices_Clone_116 x.1⟩),(115,⟨[(.sl T48)],48,T48,fun x=>slices_Clone_115 x.1⟩),(114,⟨[(.sl i64)],3,i64,fun x=>slices_Clone_114 x.1⟩),(69,r69),(119,r119)]) hints 4 70 f70 c70 x F y:=fun x F y=>by kernel_rfl
theorem l70:(ctxOf prog shs inls its [] [(116,r116),(115,r115),(114,r114),(69,r69),(119,r119)]).ok:=q116
theorem ok70:c70.ok prog 70:=Ctr.of_den l70 hmix (hl:=hints) (d:=4) func70 rfl (by decide) (e70 lpK jnK slices_Clone_114 slices_Clone_115 slices_Clone_116)
noncomputable def house_Put_b (lp:Lp) (_:Jn) (batten_Valid:(ByteArray×Int×Int×Int×Int×(List Int)×Int×Int×Int×Int×Int×(List (ByteArray×Int×Int×Int×Int×Int×Int))×List (ByteArray×Int×Int))→Option (Bool)) (house_find:(ByteArray×Int×(List (ByteArray×Int×Int×Int×Int×(List Int)×Int×Int×Int×Int×Int×(List (ByteArray×Int×Int×Int×Int×Int×Int))×List (ByteArray×Int×Int)))×List (ByteArray×Int×Int×Int))→(ByteArray)→Option (Int)) (house_Valid:(ByteArray×Int×(List (ByteArray×Int×Int×Int×Int×(List Int)×Int×Int×Int×Int×Int×(List (ByteArray×Int×Int×Int×Int×Int×Int))×List (ByteArray×Int×Int)))×List (ByteArray×Int×Int×Int))→Option (Bool)) (house_copied:(ByteArray×Int×Int×Int×Int×(List Int)×Int×Int×Int×Int×Int×(List (ByteArray×Int×Int×Int×Int×Int×Int))×List (ByteArray×Int×Int))→Option (ByteArray×Int×Int×Int×Int×(List Int)×Int×Int×Int×Int×Int×(List (ByteArray×Int×Int×Int×Int×Int×Int))×List (ByteArray×Int×Int))) (slices_Clone_69:(List (ByteArray×Int×Int×Int))→Option (List (ByteArray×Int×Int×Int))) (x0:ByteArray×Int×(List (ByteArray×Int×Int×Int×Int×(List Int)×Int×Int×Int×Int×Int×(List (ByteArray×Int×Int×Int×Int×Int×Int))×List (ByteArray×Int×Int)))×List (ByteArray×Int×Int×Int)) (x1:ByteArray×Int×Int×Int×Int×(List Int)×Int×Int×Int×Int×Int×(List (ByteArray×Int×Int×Int×Int×Int×Int))×List (ByteArray×Int×Int)):Option ((ByteArray×Int×(List (ByteArray×Int×Int×Int×Int×(List Int)×Int×Int×Int×Int×Int×(List (ByteArray×Int×Int×Int×Int×Int×Int))×List (ByteArray×Int×Int)))×List (ByteArray×Int×Int×Int))×Int×Unit) :=
 
 let v4:List (ByteArray×Int×Int×Int×Int×List Int×Int×Int×Int×Int×Int×List (ByteArray×Int×Int×Int×Int×Int×Int)×List (ByteArray×Int×Int)):=[];
  obind (house_Valid x0) fun (t:Bool) =>
 let v6:Bool:=!t;
 let v7:Bool:=!v6;
 let v8:Bool:=!v7||v7;
 let v9:ByteArray×Int×List (ByteArray×Int×Int×Int×Int×List Int×Int×Int×Int×Int×Int×List (ByteArray×Int×Int×Int×Int×Int×Int)×List (ByteArray×Int
  × Int))×List (ByteArray×Int×Int×Int):=({ data:=#[] },(0:Int),v4,[]);bif v8 then obind (bif v7 then batten_Valid x1 else some false) fun (t:Bool) =>
 let v11:Bool:=bif v6 then true else !t;
 let v12:Bool:=!v11;
 let v13:Bool:=!v12||v12;bif v8 then bif v6||v7 then bif v13 then bif v13 then bif v13&&v13 then bif v11||v12 then bif bif v11 then true else decide (x1.2.2.2.1 >
  x0.2.1) then some (v9,(1:Int),PUnit.unit) else obind (house_find x0 x1.1) fun (t:Int) =>
 let v15:Bool:=decide (t<(0:Int));
 let v16:Bool:=!v15||v15;bif v16 then bif v16 then bif v16 then bif v16 then bif bif v15 then decide ((↑(List.length x0.2.2.1):Int)=(60:Int)) else false then some (v9,
  (4:Int),PUnit.unit) else obind (slices_Clone_69 x0.2.2.2) fun (t_1:List (ByteArray×Int×Int×Int))=>lp (Int×ByteArray×Int×List (ByteArray×Int×Int×Int×Int
  × List Int×Int×Int×Int×Int×Int×List (ByteArray×Int×Int×Int×Int×Int×Int)×List (ByteArray×Int×Int))×List (ByteArray×Int×Int×Int)×PUnit) ((ByteArray
  × Int×List (ByteArray×Int×Int×Int×Int×List Int×Int×Int×Int×Int×Int×List (ByteArray×Int×Int×Int×Int×Int×Int)×List (ByteArray×Int×Int))×List
  (ByteArray×Int×Int×Int))×Int×PUnit) (fun (again:Int×ByteArray×Int×List (ByteArray×Int×Int×Int×Int×List Int×Int×Int×Int×Int×Int×List (ByteArray ×
  Int×Int×Int×Int×Int×Int)×List (ByteArray×Int×Int))×List (ByteArray×Int×Int×Int)×PUnit→Option ((ByteArray×Int×List (ByteArray×Int×Int×Int×Int ×
  List Int×Int×Int×Int×Int×Int×List (ByteArray×Int×Int×Int×Int×Int×Int)×List (ByteArray×Int×Int))×List (ByteArray×Int×Int×Int))×Int×PUnit)) (x :
  Int×ByteArray×Int×List (ByteArray×Int×Int×Int×Int×List Int×Int×Int×Int×Int×Int×List (ByteArray×Int×Int×Int×Int×Int×Int)×List (ByteArray×Int ×
  Int))×List (ByteArray×Int×Int×Int)×PUnit) =>
 let v20:Bool:=fitB (List.length x.2.2.2.1+(1:Nat)) (160:Nat);bif decide (x.1<(↑(List.length x0.2.2.1):Int)) then bif inB x.1 (List.length x0.2.2.1)
  then obind (house_copied (List.getD x0.2.2.1 (Int.toNat x.1) ({ data:={ toList:=[] } },(0:Int),(0:Int),(0:Int),(0:Int),[],(0:Int),(0:Int),(0:Int),(0 :
  Int),(0:Int),[],[]))) fun (t:ByteArray×Int×Int×Int×Int×List Int×Int×Int×Int×Int×Int×List (ByteArray×Int×Int×Int×Int×Int×Int)×List (ByteArray ×
  Int×Int))=>bif v20 then again (IntKind.wrap .i64 (x.1+(1:Int)),x.2.1,x.2.2.1,x.2.2.2.1++t ::v4,x.2.2.2.2.1,PUnit.unit) else none
  else none else bif v15 then obind (house_copied x1) fun (t:ByteArray×Int×Int×Int×Int×List Int×Int×Int×Int×Int×Int×List (ByteArray×Int×Int×Int×Int×Int ×
  Int)×List (ByteArray×Int×Int))=>bif v20 then some ((x.2.1,x.2.2.1,x.2.2.2.1++t ::v4,x.2.2.2.2.1),(0:Int),PUnit.unit) else none else obind
  (house_copied x1) fun (t_2:ByteArray×Int×Int×Int×Int×List Int×Int×Int×Int×Int×Int×List (ByteArray×Int×Int×Int×Int×Int×Int)×List (ByteArray×Int ×
  Int))=>bif inB t (List.length x.2.2.2.1) then bif Nat.ble (Nat.succ (Int.toNat t)) (List.length x.2.2.2.1) then some ((x.2.1,x.2.2.1,List.set
  x.2.2.2.1 (Int.toNat t) t_2,x.2.2.2.2.1),(0:Int),PUnit.unit) else none else none) ((0:Int),x0.1,x0.2.1,v4,t_1,PUnit.unit) else none else none else
  none else none else none else none else none else none else none else none else none
noncomputable def house_Put (x0:ByteArray×Int×(List (ByteArray×Int×Int×Int×Int×(List Int)×Int×Int×Int×Int×Int×(List (ByteArray×Int×Int×Int×Int×Int×Int))×List (ByteArray×Int×Int)))×List (ByteArray×Int×Int×Int)) (x1:ByteArray×Int×Int×Int×Int×(List Int)×Int×Int×Int×Int×Int×(List (ByteArray×Int×Int×Int×Int×Int×Int))×List (ByteArray×Int×Int)):Option ((ByteArray×Int×(List (ByteArray×Int×Int×Int×Int×(List Int)×Int×Int×Int×Int×Int×(List (ByteArray×Int×Int×Int×Int×Int×Int))×List (ByteArray×Int×Int)))×List (ByteArray×Int×Int×Int))×Int×Unit):=house_Put_b lpK jnK batten_Valid house_find house_Valid house_copied slices_Clone_69 x0 x1
noncomputable def c36:Ctr:=⟨[T25,T44],[],[],.tup [T25,i64],fun x _ _=>house_Put x.1 x.2.1⟩
theorem e36 (lp:Lp) (jn:Jn) (batten_Valid:(ByteArray×Int×Int×Int×Int×(List Int)×Int×Int×Int×Int×Int×(List (ByteArray×Int×Int×Int×Int×Int×Int))×List (ByteArray×Int×Int))→Option (Bool)) (house_find:(ByteArray×Int×(List (ByteArray×Int×Int×Int×Int×(List Int)×Int×Int×Int×Int×Int×(List (ByteArray×Int×Int×Int×Int×Int×Int))×List (ByteArray×Int×Int)))×List (ByteArray×Int×Int×Int))→(ByteArray)→Option (Int)) (house_Valid:(ByteArray×Int×(List (ByteArray×Int×Int×Int×Int×(List Int)×Int×Int×Int×Int×Int×(List (ByteArray×Int×Int×Int×Int×Int×Int))×List (ByteArray×Int×Int)))×List (ByteArray×Int×Int×Int))→Option (Bool)) (house_copied:(ByteArray×Int×Int×Int×Int×(List Int)×Int×Int×Int×Int×Int×(List (ByteArray×Int×Int×Int×Int×Int×Int))×List (ByteArray×Int×Int))→Option (ByteArray×Int×Int×Int×Int×(List Int)×Int×Int×Int×Int×Int×(List (ByteArray×Int×Int×Int×Int×Int×Int))×List (ByteArray×Int×Int))) (slices_Clone_69:(List (ByteArray×Int×Int×Int))→Option (List (ByteArray×Int×Int×Int))):∀(x:TsS c36.as) (F:TsF c36.fs) (y:TsS c36.cs),house_Put_b lp jn batten_Valid house_find house_Valid house_copied slices_Clone_69 x.1 x.2.1=runC lp jn (ctxOf prog shs inls its [(70,⟨[T44],[],[],.one T44,fun x _ _=>house_copied x.1⟩),(32,⟨[T25],[],[],.one .bool,fun x _ _=>house_Valid x.1⟩),(47,⟨[T25,.str],[],[],.one i64,fun x _ _=>house_find x.1 x.2.1⟩),(61,⟨[T44],[],[],.one .bool,fun x _ _=>batten_Valid x.1⟩)] [(116,r116),(115,r115),(114,r114),(69,⟨[(.sl T96)],96,T96,fun x=>slices_Clone_69 x.1⟩),(119,r119)]) hints 4 36 f36 c36 x F y:=fun x F y=>by kernel_rfl
theorem l36:(ctxOf prog shs inls its [(70,c70),(32,c32),(47,c47),(61,c61)] [(116,r116),(115,r115),(114,r114),(69,r69),(119,r119)]).ok:=ctxOf_cons (ctxOf_cons (ctxOf_cons (ctxOf_cons (q116) (by kernel_rfl) ok61) (by kernel_rfl) ok47) (by kernel_rfl) ok32) (by kernel_rfl) ok70
theorem ok36:c36.ok prog 36:=Ctr.of_den l36 hmix (hl:=hints) (d:=4) func36 rfl (by decide) (e36 lpK jnK batten_Valid house_find house_Valid house_copied slices_Clone_69)
noncomputable def ref30_Put_b (lp:Lp) (_:Jn) (ref30_FindSet:(ByteArray×Int×(List (ByteArray×Int×Int×Int×Int×(List Int)×Int×Int×Int×Int×Int×(List (ByteArray×Int×Int×Int×Int×Int×Int))×List (ByteArray×Int×Int)))×List (ByteArray×Int×Int×Int))→(ByteArray)→Option (Int)) (ref21_Valid:(ByteArray×Int×Int×Int×Int×(List Int)×Int×Int×Int×Int×Int×(List (ByteArray×Int×Int×Int×Int×Int×Int))×List (ByteArray×Int×Int))→Option (Bool)) (ref30_Valid:(ByteArray×Int×(List (ByteArray×Int×Int×Int×Int×(List Int)×Int×Int×Int×Int×Int×(List (ByteArray×Int×Int×Int×Int×Int×Int))×List (ByteArray×Int×Int)))×List (ByteArray×Int×Int×Int))→Option (Bool)) (ref21_Copy:(ByteArray×Int×Int×Int×Int×(List Int)×Int×Int×Int×Int×Int×(List (ByteArray×Int×Int×Int×Int×Int×Int))×List (ByteArray×Int×Int))→Option (ByteArray×Int×Int×Int×Int×(List Int)×Int×Int×Int×Int×Int×(List (ByteArray×Int×Int×Int×Int×Int×Int))×List (ByteArray×Int×Int))) (x0:ByteArray×Int×(List (ByteArray×Int×Int×Int×Int×(List Int)×Int×Int×Int×Int×Int×(List (ByteArray×Int×Int×Int×Int×Int×Int))×List (ByteArray×Int×Int)))×List (ByteArray×Int×Int×Int)) (x1:ByteArray×Int×Int×Int×Int×(List Int)×Int×Int×Int×Int×Int×(List (ByteArray×Int×Int×Int×Int×Int×Int))×List (ByteArray×Int×Int)):Option ((ByteArray×Int×(List (ByteArray×Int×Int×Int×Int×(List Int)×Int×Int×Int×Int×Int×(List (ByteArray×Int×Int×Int×Int×Int×Int))×List (ByteArray×Int×Int)))×List (ByteArray×Int×Int×Int))×Int×Unit) :=
 
 let v4:List (ByteArray×Int×Int×Int×Int×List Int×Int×Int×Int×Int×Int×List (ByteArray×Int×Int×Int×Int×Int×Int)×List (ByteArray×Int×Int)):=[];
  obind (ref30_Valid x0) fun (t:Bool) =>
 let v6:Bool:=!t;
 let v7:Bool:=!v6;
 let v8:Bool:=!v7||v7;
 let v9:ByteArray×Int×List (ByteArray×Int×Int×Int×Int×List Int×Int×Int×Int×Int×Int×List (ByteArray×Int×Int×Int×Int×Int×Int)×List (ByteArray×Int
  × Int))×List (ByteArray×Int×Int×Int):=({ data:=#[] },(0:Int),v4,[]);bif v8 then obind (bif v7 then ref21_Valid x1 else some false) fun (t:Bool)=>bif v8 then bif v6
  || v7 then bif bif v6 then true else !t then some (v9,(1:Int),PUnit.unit) else bif fitB ((0:Nat)+List.length x0.2.2.2) (40:Nat) then lp (Int×ByteArray×Int×List
  (ByteArray×Int×Int×Int×Int×List Int×Int×Int×Int×Int×Int×List (ByteArray×Int×Int×Int×Int×Int×Int)×List (ByteArray×Int×Int))×List (ByteArray ×
  Int×Int×Int)×PUnit) ((ByteArray×Int×List (ByteArray×Int×Int×Int×Int×List Int×Int×Int×Int×Int×Int×List (ByteArray×Int×Int×Int×Int×Int×Int) ×
  List (ByteArray×Int×Int))×List (ByteArray×Int×Int×Int))×Int×PUnit) (fun (again:Int×ByteArray×Int×List (ByteArray×Int×Int×Int×Int×List Int×Int×Int ×
  Int×Int×Int×List (ByteArray×Int×Int×Int×Int×Int×Int)×List (ByteArray×Int×Int))×List (ByteArray×Int×Int×Int)×PUnit→Option ((ByteArray×Int×List
  (ByteArray×Int×Int×Int×Int×List Int×Int×Int×Int×Int×Int×List (ByteArray×Int×Int×Int×Int×Int×Int)×List (ByteArray×Int×Int))×List (ByteArray ×
  Int×Int×Int))×Int×PUnit)) (x:Int×ByteArray×Int×List (ByteArray×Int×Int×Int×Int×List Int×Int×Int×Int×Int×Int×List (ByteArray×Int×Int×Int×Int
  × Int×Int)×List (ByteArray×Int×Int))×List (ByteArray×Int×Int×Int)×PUnit) =>
 let v13:Bool:=fitB (List.length x.2.2.2.1+(1:Nat)) (160:Nat);bif decide (x.1<(↑(List.length x0.2.2.1):Int)) then bif inB x.1 (List.length x0.2.2.1)
  then obind (ref21_Copy (List.getD x0.2.2.1 (Int.toNat x.1) ({ data:={ toList:=[] } },(0:Int),(0:Int),(0:Int),(0:Int),[],(0:Int),(0:Int),(0:Int),(0 :
  Int),(0:Int),[],[]))) fun (t:ByteArray×Int×Int×Int×Int×List Int×Int×Int×Int×Int×Int×List (ByteArray×Int×Int×Int×Int×Int×Int)×List (ByteArray ×
  Int×Int))=>bif v13 then again (IntKind.wrap .i64 (x.1+(1:Int)),x.2.1,x.2.2.1,x.2.2.2.1++t ::v4,x.2.2.2.2.1,PUnit.unit) else none
  else none else obind (ref30_FindSet x0 x1.1) fun (t:Int)=>bif decide (t≥(0:Int)) then obind (ref21_Copy x1) fun (t_1:ByteArray×Int×Int×Int×Int×List Int×Int×Int
  × Int×Int×Int×List (ByteArray×Int×Int×Int×Int×Int×Int)×List (ByteArray×Int×Int)) =>
 let v16:ByteArray×Int×List (ByteArray×Int×Int×Int×Int×List Int×Int×Int×Int×Int×Int×List (ByteArray×Int×Int×Int×Int×Int×Int)×List (ByteArray×Int
  × Int))×List (ByteArray×Int×Int×Int):=(x.2.1,x.2.2.1,List.set x.2.2.2.1 (Int.toNat t) t_1,x.2.2.2.2.1);bif inB t (List.length
  x.2.2.2.1) then bif Nat.ble (Nat.succ (Int.toNat t)) (List.length x.2.2.2.1) then obind (ref30_Valid v16) fun (t:Bool)=>bif !t then some (v9,(1:Int),PUnit.unit)
  else some (v16,(0:Int),PUnit.unit) else none else none else bif decide ((↑(List.length x0.2.2.1):Int)=(60:Int)) then some (v9,(4:Int),PUnit.unit) else obind
  (ref21_Copy x1) fun (t:ByteArray×Int×Int×Int×Int×List Int×Int×Int×Int×Int×Int×List (ByteArray×Int×Int×Int×Int×Int×Int)×List (ByteArray×Int ×
  Int)) =>
 let v16:ByteArray×Int×List (ByteArray×Int×Int×Int×Int×List Int×Int×Int×Int×Int×Int×List (ByteArray×Int×Int×Int×Int×Int×Int)×List (ByteArray×Int
  × Int))×List (ByteArray×Int×Int×Int):=(x.2.1,x.2.2.1,x.2.2.2.1++t ::v4,x.2.2.2.2.1);bif v13 then obind (ref30_Valid v16) fun (t:Bool) =>
  bif !t then some (v9,(1:Int),PUnit.unit) else some (v16,(0:Int),PUnit.unit) else none) ((0:Int),x0.1,x0.2.1,v4,x0.2.2.2,PUnit.unit) else none else none else
  none else none
noncomputable def ref30_Put (x0:ByteArray×Int×(List (ByteArray×Int×Int×Int×Int×(List Int)×Int×Int×Int×Int×Int×(List (ByteArray×Int×Int×Int×Int×Int×Int))×List (ByteArray×Int×Int)))×List (ByteArray×Int×Int×Int)) (x1:ByteArray×Int×Int×Int×Int×(List Int)×Int×Int×Int×Int×Int×(List (ByteArray×Int×Int×Int×Int×Int×Int))×List (ByteArray×Int×Int)):Option ((ByteArray×Int×(List (ByteArray×Int×Int×Int×Int×(List Int)×Int×Int×Int×Int×Int×(List (ByteArray×Int×Int×Int×Int×Int×Int))×List (ByteArray×Int×Int)))×List (ByteArray×Int×Int×Int))×Int×Unit):=ref30_Put_b lpK jnK ref30_FindSet ref21_Valid ref30_Valid ref21_Copy x0 x1
noncomputable def c37:Ctr:=⟨[T25,T44],[],[],.tup [T25,i64],fun x _ _=>ref30_Put x.1 x.2.1⟩
theorem e37 (lp:Lp) (jn:Jn) (ref30_FindSet:(ByteArray×Int×(List (ByteArray×Int×Int×Int×Int×(List Int)×Int×Int×Int×Int×Int×(List (ByteArray×Int×Int×Int×Int×Int×Int))×List (ByteArray×Int×Int)))×List (ByteArray×Int×Int×Int))→(ByteArray)→Option (Int)) (ref21_Valid:(ByteArray×Int×Int×Int×Int×(List Int)×Int×Int×Int×Int×Int×(List (ByteArray×Int×Int×Int×Int×Int×Int))×List (ByteArray×Int×Int))→Option (Bool)) (ref30_Valid:(ByteArray×Int×(List (ByteArray×Int×Int×Int×Int×(List Int)×Int×Int×Int×Int×Int×(List (ByteArray×Int×Int×Int×Int×Int×Int))×List (ByteArray×Int×Int)))×List (ByteArray×Int×Int×Int))→Option (Bool)) (ref21_Copy:(ByteArray×Int×Int×Int×Int×(List Int)×Int×Int×Int×Int×Int×(List (ByteArray×Int×Int×Int×Int×Int×Int))×List (ByteArray×Int×Int))→Option (ByteArray×Int×Int×Int×Int×(List Int)×Int×Int×Int×Int×Int×(List (ByteArray×Int×Int×Int×Int×Int×Int))×List (ByteArray×Int×Int))):∀(x:TsS c37.as) (F:TsF c37.fs) (y:TsS c37.cs),ref30_Put_b lp jn ref30_FindSet ref21_Valid ref30_Valid ref21_Copy x.1 x.2.1=runC lp jn (ctxOf prog shs inls its [(51,⟨[T44],[],[],.one T44,fun x _ _=>ref21_Copy x.1⟩),(25,⟨[T25],[],[],.one .bool,fun x _ _=>ref30_Valid x.1⟩),(56,⟨[T44],[],[],.one .bool,fun x _ _=>ref21_Valid x.1⟩),(28,⟨[T25,.str],[],[],.one i64,fun x _ _=>ref30_FindSet x.1 x.2.1⟩)] [(116,r116),(115,r115),(114,r114),(69,r69),(119,r119)]) hints 4 37 f37 c37 x F y:=fun x F y=>by kernel_rfl
theorem l37:(ctxOf prog shs inls its [(51,c51),(25,c25),(56,c56),(28,c28)] [(116,r116),(115,r115),(114,r114),(69,r69),(119,r119)]).ok:=ctxOf_cons (ctxOf_cons (ctxOf_cons (ctxOf_cons (q116) (by kernel_rfl) ok28) (by kernel_rfl) ok56) (by kernel_rfl) ok25) (by kernel_rfl) ok51
theorem ok37:c37.ok prog 37:=Ctr.of_den l37 hmix (hl:=hints) (d:=4) func37 rfl (by decide) (e37 lpK jnK ref30_FindSet ref21_Valid ref30_Valid ref21_Copy)
noncomputable def law30_HousePuts_b (_:Lp) (_:Jn) (law30_awake:Option (Bool)) (ref21_Small:(ByteArray×Int×Int×Int×Int×(List Int)×Int×Int×Int×Int×Int×(List (ByteArray×Int×Int×Int×Int×Int×Int))×List (ByteArray×Int×Int))→(Int)→Option (Bool)) (law30_small:(ByteArray×Int×(List (ByteArray×Int×Int×Int×Int×(List Int)×Int×Int×Int×Int×Int×(List (ByteArray×Int×Int×Int×Int×Int×Int))×List (ByteArray×Int×Int)))×List (ByteArray×Int×Int×Int))→Option (Bool)) (house_Find:(ByteArray×Int×(List (ByteArray×Int×Int×Int×Int×(List Int)×Int×Int×Int×Int×Int×(List (ByteArray×Int×Int×Int×Int×Int×Int))×List (ByteArray×Int×Int)))×List (ByteArray×Int×Int×Int))→(ByteArray)→Option (Int×Int×Unit)) (house_Same:(ByteArray×Int×(List (ByteArray×Int×Int×Int×Int×(List Int)×Int×Int×Int×Int×Int×(List (ByteArray×Int×Int×Int×Int×Int×Int))×List (ByteArray×Int×Int)))×List (ByteArray×Int×Int×Int))→(ByteArray×Int×(List (ByteArray×Int×Int×Int×Int×(List Int)×Int×Int×Int×Int×Int×(List (ByteArray×Int×Int×Int×Int×Int×Int))×List (ByteArray×Int×Int)))×List (ByteArray×Int×Int×Int))→Option (Bool)) (ref21_Same:(ByteArray×Int×Int×Int×Int×(List Int)×Int×Int×Int×Int×Int×(List (ByteArray×Int×Int×Int×Int×Int×Int))×List (ByteArray×Int×Int))→(ByteArray×Int×Int×Int×Int×(List Int)×Int×Int×Int×Int×Int×(List (ByteArray×Int×Int×Int×Int×Int×Int))×List (ByteArray×Int×Int))→Option (Bool)) (ref30_Same:(ByteArray×Int×(List (ByteArray×Int×Int×Int×Int×(List Int)×Int×Int×Int×Int×Int×(List (ByteArray×Int×Int×Int×Int×Int×Int))×List (ByteArray×Int×Int)))×List (ByteArray×Int×Int×Int))→(ByteArray×Int×(List (ByteArray×Int×Int×Int×Int×(List Int)×Int×Int×Int×Int×Int×(List (ByteArray×Int×Int×Int×Int×Int×Int))×List (ByteArray×Int×Int)))×List (ByteArray×Int×Int×Int))→Option (Bool)) (house_Put:(ByteArray×Int×(List (ByteArray×Int×Int×Int×Int×(List Int)×Int×Int×Int×Int×Int×(List (ByteArray×Int×Int×Int×Int×Int×Int))×List (ByteArray×Int×Int)))×List (ByteArray×Int×Int×Int))→(ByteArray×Int×Int×Int×Int×(List Int)×Int×Int×Int×Int×Int×(List (ByteArray×Int×Int×Int×Int×Int×Int))×List (ByteArray×Int×Int))→Option ((ByteArray×Int×(List (ByteArray×Int×Int×Int×Int×(List Int)×Int×Int×Int×Int×Int×(List (ByteArray×Int×Int×Int×Int×Int×Int))×List (ByteArray×Int×Int)))×List (ByteArray×Int×Int×Int))×Int×Unit)) (ref30_Put:(ByteArray×Int×(List (ByteArray×Int×Int×Int×Int×(List Int)×Int×Int×Int×Int×Int×(List (ByteArray×Int×Int×Int×Int×Int×Int))×List (ByteArray×Int×Int)))×List (ByteArray×Int×Int×Int))→(ByteArray×Int×Int×Int×Int×(List Int)×Int×Int×Int×Int×Int×(List (ByteArray×Int×Int×Int×Int×Int×Int))×List (ByteArray×Int×Int))→Option ((ByteArray×Int×(List (ByteArray×Int×Int×Int×Int×(List Int)×Int×Int×Int×Int×Int×(List (ByteArray×Int×Int×Int×Int×Int×Int))×List (ByteArray×Int×Int)))×List (ByteArray×Int×Int×Int))×Int×Unit)) (x0:ByteArray×Int×(List (ByteArray×Int×Int×Int×Int×(List Int)×Int×Int×Int×Int×Int×(List (ByteArray×Int×Int×Int×Int×Int×Int))×List (ByteArray×Int×Int)))×List (ByteArray×Int×Int×Int)) (x1:ByteArray×Int×Int×Int×Int×(List Int)×Int×Int×Int×Int×Int×(List (ByteArray×Int×Int×Int×Int×Int×Int))×List (ByteArray×Int×Int)):Option Bool :=
 obind law30_awake fun (t:Bool)=>bif !t then some false else obind (law30_small x0) fun (t:Bool) =>
 let v6:Bool:=!t;
 let v7:Bool:=!v6;
 let v8:Bool:=!v7||v7;bif v8 then obind (bif v7 then ref21_Small x1 (8:Int) else some false) fun (t:Bool)=>bif v8 then bif v6||v7 then bif bif v6 then true else !t then some
  true else obind (house_Put x0 x1) fun (t:(ByteArray×Int×List (ByteArray×Int×Int×Int×Int×List Int×Int×Int×Int×Int×Int×List (ByteArray×Int×Int×Int×Int
  × Int×Int)×List (ByteArray×Int×Int))×List (ByteArray×Int×Int×Int))×Int×PUnit)=>obind (ref30_Put x0 x1) fun (t_1:(ByteArray×Int×List (ByteArray×Int×Int ×
  Int×Int×List Int×Int×Int×Int×Int×Int×List (ByteArray×Int×Int×Int×Int×Int×Int)×List (ByteArray×Int×Int))×List (ByteArray×Int×Int×Int))×Int ×
  PUnit)=>obind (ref30_Same t.1 t_1.1) fun (t_2:Bool) =>
 let v13:Bool:=!t_2;
 let v14:Bool:=!v13;
 let v15:Bool:=!v14||v14;bif v15&&v15 then bif v13||v14 then bif bif v13 then true else !decide (t.2.1=t_1.2.1) then some false else bif !decide (t.2.1=(0 :
  Int)) then some true else obind (house_Find t.1 x1.1) fun (t_3:Int×Int×PUnit) =>
 let v17:Bool:=decide (t_3.2.1=(0:Int));
 let v18:Bool:=bif v17 then decide (t_3.1≥(0:Int)) else false;
 let v19:Bool:=!v17||v17;
 let v20:Bool:=!v18||v18;
 let v21:Bool:=bif v18 then decide (t_3.1<(↑(List.length t.1.2.2.1):Int)) else false;
 let v22:Bool:=!v21;
 let v23:Bool:=v22||v21;obind (house_Put t.1 x1) fun (t_4:(ByteArray×Int×List (ByteArray×Int×Int×Int×Int×List Int×Int×Int×Int×Int×Int×List (ByteArray ×
  Int×Int×Int×Int×Int×Int)×List (ByteArray×Int×Int))×List (ByteArray×Int×Int×Int))×Int×PUnit) =>
 let v25:Bool:=decide (t_4.2.1=(0:Int));bif v19 then bif v19 then bif v20 then bif v20 then bif v20&&v20 then bif v20 then bif v23 then bif v23&&(v23&&(v22||inB
  t_3.1 (List.length t.1.2.2.1))) then bif v23 then bif v23&&v23 then obind (bif v21 then ref21_Same (List.getD t.1.2.2.1 (Int.toNat t_3.1) ({ data:={ toList:=[]
  } },(0:Int),(0:Int),(0:Int),(0:Int),[],(0:Int),(0:Int),(0:Int),(0:Int),(0:Int),[],[])) x1 else some false) fun (t_5:Bool) =>
 let v27:Bool:=bif v21 then t_5 else false;
 let v28:Bool:=bif v27 then v25 else false;
 let v29:Bool:=!v27||v27;
 let v30:Bool:=!v28||v28;bif v23 then bif v29 then bif v29 then bif v30&&v30 then obind (bif v28 then house_Same t_4.1 t.1 else some false) fun (t:Bool)=>bif v30 then some
  (bif v28 then t else false) else none else none else none else none else none else none else none else none else none else none else none else none else none else none else none else
  none else none else none else none else none
noncomputable def law30_HousePuts (x0:ByteArray×Int×(List (ByteArray×Int×Int×Int×Int×(List Int)×Int×Int×Int×Int×Int×(List (ByteArray×Int×Int×Int×Int×Int×Int))×List (ByteArray×Int×Int)))×List (ByteArray×Int×Int×Int)) (x1:ByteArray×Int×Int×Int×Int×(List Int)×Int×Int×Int×Int×Int×(List (ByteArray×Int×Int×Int×Int×Int×Int))×List (ByteArray×Int×Int)):Option Bool:=law30_HousePuts_b lpK jnK law30_awake ref21_Small law30_small house_Find house_Same ref21_Same ref30_Same house_Put ref30_Put x0 x1
noncomputable def c9:Ctr:=⟨[T25,T44],[],[],.one .bool,fun x _ _=>law30_HousePuts x.1 x.2.1⟩
theorem e9 (lp:Lp) (jn:Jn) (law30_awake:Option (Bool)) (ref21_Small:(ByteArray×Int×Int×Int×Int×(List Int)×Int×Int×Int×Int×Int×(List (ByteArray×Int×Int×Int×Int×Int×Int))×List (ByteArray×Int×Int))→(Int)→Option (Bool)) (law30_small:(ByteArray×Int×(List (ByteArray×Int×Int×Int×Int×(List Int)×Int×Int×Int×Int×Int×(List (ByteArray×Int×Int×Int×Int×Int×Int))×List (ByteArray×Int×Int)))×List (ByteArray×Int×Int×Int))→Option (Bool)) (house_Find:(ByteArray×Int×(List (ByteArray×Int×Int×Int×Int×(List Int)×Int×Int×Int×Int×Int×(List (ByteArray×Int×Int×Int×Int×Int×Int))×List (ByteArray×Int×Int)))×List (ByteArray×Int×Int×Int))→(ByteArray)→Option (Int×Int×Unit)) (house_Same:(ByteArray×Int×(List (ByteArray×Int×Int×Int×Int×(List Int)×Int×Int×Int×Int×Int×(List (ByteArray×Int×Int×Int×Int×Int×Int))×List (ByteArray×Int×Int)))×List (ByteArray×Int×Int×Int))→(ByteArray×Int×(List (ByteArray×Int×Int×Int×Int×(List Int)×Int×Int×Int×Int×Int×(List (ByteArray×Int×Int×Int×Int×Int×Int))×List (ByteArray×Int×Int)))×List (ByteArray×Int×Int×Int))→Option (Bool)) (ref21_Same:(ByteArray×Int×Int×Int×Int×(List Int)×Int×Int×Int×Int×Int×(List (ByteArray×Int×Int×Int×Int×Int×Int))×List (ByteArray×Int×Int))→(ByteArray×Int×Int×Int×Int×(List Int)×Int×Int×Int×Int×Int×(List (ByteArray×Int×Int×Int×Int×Int×Int))×List (ByteArray×Int×Int))→Option (Bool)) (ref30_Same:(ByteArray×Int×(List (ByteArray×Int×Int×Int×Int×(List Int)×Int×Int×Int×Int×Int×(List (ByteArray×Int×Int×Int×Int×Int×Int))×List (ByteArray×Int×Int)))×List (ByteArray×Int×Int×Int))→(ByteArray×Int×(List (ByteArray×Int×Int×Int×Int×(List Int)×Int×Int×Int×Int×Int×(List (ByteArray×Int×Int×Int×Int×Int×Int))×List (ByteArray×Int×Int)))×List (ByteArray×Int×Int×Int))→Option (Bool)) (house_Put:(ByteArray×Int×(List (ByteArray×Int×Int×Int×Int×(List Int)×Int×Int×Int×Int×Int×(List (ByteArray×Int×Int×Int×Int×Int×Int))×List (ByteArray×Int×Int)))×List (ByteArray×Int×Int×Int))→(ByteArray×Int×Int×Int×Int×(List Int)×Int×Int×Int×Int×Int×(List (ByteArray×Int×Int×Int×Int×Int×Int))×List (ByteArray×Int×Int))→Option ((ByteArray×Int×(List (ByteArray×Int×Int×Int×Int×(List Int)×Int×Int×Int×Int×Int×(List (ByteArray×Int×Int×Int×Int×Int×Int))×List (ByteArray×Int×Int)))×List (ByteArray×Int×Int×Int))×Int×Unit)) (ref30_Put:(ByteArray×Int×(List (ByteArray×Int×Int×Int×Int×(List Int)×Int×Int×Int×Int×Int×(List (ByteArray×Int×Int×Int×Int×Int×Int))×List (ByteArray×Int×Int)))×List (ByteArray×Int×Int×Int))→(ByteArray×Int×Int×Int×Int×(List Int)×Int×Int×Int×Int×Int×(List (ByteArray×Int×Int×Int×Int×Int×Int))×List (ByteArray×Int×Int))→Option ((ByteArray×Int×(List (ByteArray×Int×Int×Int×Int×(List Int)×Int×Int×Int×Int×Int×(List (ByteArray×Int×Int×Int×Int×Int×Int))×List (ByteArray×Int×Int)))×List (ByteArray×Int×Int×Int))×Int×Unit)):∀(x:TsS c9.as) (F:TsF c9.fs) (y:TsS c9.cs),law30_HousePuts_b lp jn law30_awake ref21_Small law30_small house_Find house_Same ref21_Same ref30_Same house_Put ref30_Put x.1 x.2.1=runC lp jn (ctxOf prog shs inls its [(37,⟨[T25,T44],[],[],.tup [T25,i64],fun x _ _=>ref30_Put x.1 x.2.1⟩),(36,⟨[T25,T44],[],[],.tup [T25,i64],fun x _ _=>house_Put x.1 x.2.1⟩),(34,⟨[T25,T25],[],[],.one .bool,fun x _ _=>ref30_Same x.1 x.2.1⟩),(38,⟨[T44,T44],[],[],.one .bool,fun x _ _=>ref21_Same x.1 x.2.1⟩),(33,⟨[T25,T25],[],[],.one .bool,fun x _ _=>house_Same x.1 x.2.1⟩),(23,⟨[T25,.str],[],[],.tup [i64,i64],fun x _ _=>house_Find x.1 x.2.1⟩),(11,⟨[T25],[],[],.one .bool,fun x _ _=>law30_small x.1⟩),(35,⟨[T44,i64],[],[],.one .bool,fun x _ _=>ref21_Small x.1 x.2.1⟩),(10,⟨[],[],[],.one .bool,fun _ _ _=>law30_awake⟩)] [(116,r116),(115,r115),(114,r114),(69,r69),(119,r119)]) hints 4 9 f9 c9 x F y:=fun x F y=>by kernel_rfl
theorem l9:(ctxOf prog shs inls its [(37,c37),(36,c36),(34,c34),(38,c38),(33,c33),(23,c23),(11,c11),(35,c35),(10,c10)] [(116,r116),(115,r115),(114,r114),(69,r69),(119,r119)]).ok:=ctxOf_cons (ctxOf_cons (ctxOf_cons (ctxOf_cons (ctxOf_cons (ctxOf_cons (ctxOf_cons (ctxOf_cons (ctxOf_cons (q116) (by kernel_rfl) ok10) (by kernel_rfl) ok35) (by kernel_rfl) ok11) (by kernel_rfl) ok23) (by kernel_rfl) ok33) (by kernel_rfl) ok38) (by kernel_rfl) ok34) (by kernel_rfl) ok36) (by kernel_rfl) ok37
theorem ok9:c9.ok prog 9:=Ctr.of_den l9 hmix (hl:=hints) (d:=4) func9 rfl (by decide) (e9 lpK jnK law30_awake ref21_Small law30_small house_Find house_Same ref21_Same ref30_Same house_Put ref30_Put)
end Go.Proofs.YtmoiiokmfanlgaaGreat

namespace Go.Proofs.YtmoiiokmfanlgaaGreat
namespace Dn
section
variable {T R α σ:Type}
theorem obind_some' {t:T} {k:T→Option R}:obind (some t) k=k t:=rfl
theorem loopF_eq {F:(α→Option R)→α→Option R} {g:α→Option R} (I:α→Prop) (μ:α→Nat)
  (h:∀x rec,I x→(∀y,I y→μ y<μ x→rec y=g y)→F rec x=g x):∀{n:Nat} {x:α},I x→μ x<n→loopF F n x=g x
 | 0,x,_,hn=>by omega
 | n+1,x,hx,hn=>by
  rw[loopF_succ]
  exact h x _ hx fun y hy hlt=>loopF_eq I μ h hy (by omega)
theorem lpK_loop {F:(α→Option R)→α→Option R} {g:α→Option R} (I:α→Prop) (μ:α→Nat)
  (h:∀x rec,I x→(∀y,I y→μ y<μ x→rec y=g y)→F rec x=g x) {x:α} (hx:I x) (hn:μ x<1180591620717411303424):lpK α R F x=g x:=loopF_eq I μ h hx hn
theorem wrap_id {x:Int} (h1: -9223372036854775808≤x) (h2:x<9223372036854775808):IntKind.wrap .i64 x=x:=by
 rw[IntKind.wrap_i64];omega
def upF (b:Nat→σ→(σ→Option R)→Option R) (f:σ→Option R):Nat→Nat→σ→Option R
 | 0,_,s=>f s
 | k+1,i,s=>b i s (upF b f k (i+1))
theorem loopF_up {F:(α→Option R)→α→Option R} (n:Nat) (hn:n≤1180591620717411303423) (enc:Nat→σ→α) (b:Nat→σ→(σ→Option R)→Option R) (f:σ→Option R)
  (hb:∀again (i:Nat) s,i<n→F again (enc i s)=b i s (fun s'=>again (enc (i+1) s'))) (hf:∀again s,F again (enc n s)=f s) (s:σ) :
  loopF F K0 (enc 0 s)=upF b f n 0 s:=by
 have key:∀(k:Nat) (i:Nat) (m:Nat) (s:σ),i+k=n→k<m→loopF F m (enc i s)=upF b f k i s:=by
  intro k
  induction k with
  | zero =>
   intro i m s h1 h2
   obtain ⟨m,rfl⟩:∃m',m=m'+1:=⟨m - 1,by omega⟩
   have:i=n:=by omega
   subst this
   simp only[loopF_succ,hf,upF]
  | succ k ih =>
   intro i m s h1 h2
   obtain ⟨m,rfl⟩:∃m',m=m'+1:=⟨m - 1,by omega⟩
   simp only[loopF_succ,upF]
   rw[hb _ _ _ (by omega)]
   congr 1
   funext s'
   exact ih (i+1) m s' (by omega) (by omega)
 exact key n 0 K0 s (by omega) (by unfold K0;omega)
theorem inB_nat {i n:Nat}:inB (i:Int) n=decide (i<n):=by
 rw[Bool.eq_iff_iff,inB_iff,decide_eq_true_iff];omega
theorem inB_of {i:Int} {n:Nat} (h1:0≤i) (h2:i<n):inB i n=true:=inB_iff.2 ⟨h1,h2⟩
theorem slB_of {lo hi:Int} {n:Nat} (h1:0≤lo) (h2:lo≤hi) (h3:hi≤n):slB lo hi n=true:=slB_iff.2 ⟨h1,h2,h3⟩
theorem fitB_of {n k:Nat} (h:n*k≤140737488355328):fitB n k=true:=fitB_iff.2 h
theorem ble_of {n m:Nat} (h:n≤m):Nat.ble n m=true:=by rw[Nat.ble_eq];exact h
theorem cT0 {α:Sort _} {c:Bool} (h:c=true) (a b:α):cond c a b=a:=by subst h;rfl
theorem cT {α:Sort _} (a b:α):cond true a b=a:=cT0 (Eq.trans rfl rfl) a b
theorem cF0 {α:Sort _} {c:Bool} (h:c=false) (a b:α):cond c a b=b:=by subst h;rfl
theorem cF {α:Sort _} (a b:α):cond false a b=b:=cF0 (Eq.trans rfl rfl) a b
theorem or_self_not {b:Bool}:(b||!b)=true:=by cases b<;>rfl
theorem not_or_self' {b:Bool}:(!b||b)=true:=by cases b<;>rfl
theorem bif_false' {b:Bool} {c:Bool}:(bif b then c else false)=(b&&c):=by cases b<;>rfl
theorem getD_nat {l:List α} {d:α} {i:Nat} (h:i<l.length):l.getD i d=l[i]:=by simp[List.getD,h]
end
end Dn
end Go.Proofs.YtmoiiokmfanlgaaGreat

namespace Go.Proofs.YtmoiiokmfanlgaaGreat
open Tryz Dn Dn.Sh
theorem str_beq (a b:ByteArray):List.beq (ByteArray.toList a) (ByteArray.toList b)=decide (a=b):=by
 show (a.toList ==b.toList)=_
 rw[ByteArray.toList_eq,ByteArray.toList_eq,Bool.eq_iff_iff,decide_eq_true_iff,beq_iff_eq]
 exact ⟨fun h=>ByteArray.ext (Array.toList_inj.mp h),fun h=>by rw[h]⟩
theorem lpK_some {α R:Type} {F:(α→Option R)→α→Option R} (I:α→Prop) (μ:α→Nat) (h:∀x rec,I x→(∀y,I y→μ y<μ x→(rec y).isSome=true)→(F rec x).isSome=true) {x:α} (hx:I x) (hn:μ x<1180591620717411303424):(lpK α R F x).isSome=true:=by
 have key:∀n x,I x→μ x<n→(loopF F n x).isSome=true:=by
  intro n
  induction n with
  | zero=>intro x _ h;omega
  | succ n ih =>
   intro x hx hn
   rw[loopF_succ]
   exact h x _ hx fun y hy hlt=>ih y hy (by omega)
 exact key _ x hx hn
theorem letter_same:decimal_letter=ref01_Letter:=by
 funext c
 rfl
theorem digit_same:decimal_digit=ref01_Digit:=by
 funext c
 rfl
theorem letter_some (c:Int):∃b,decimal_letter c=some b:=by
 simp only[decimal_letter,decimal_letter_b,not_or_self',or_self_not,cond_true]
 cases decide (c≥97)<;>cases decide (c≤122)<;>cases decide (c≥65)<;>exact ⟨_,rfl⟩
theorem digit_some (c:Int):∃b,decimal_digit c=some b:=by
 simp only[decimal_digit,decimal_digit_b,not_or_self',cond_true]
 exact ⟨_,rfl⟩
theorem word_some {s:ByteArray} (h:s.size≤1000000):∃n,decimal_word s=some n:=by
 rw[←Option.isSome_iff_exists]
 simp only[decimal_word,decimal_word_b]
 refine lpK_some (I:=fun (x:Int×PUnit)=>0≤x.1∧x.1≤s.size) (μ:=fun (x:Int×PUnit)=>((s.size:Int) - x.1).toNat) (x:=((0:Int),PUnit.unit)) ?_ ⟨Int.le_refl _,by simp only;omega⟩ (by simp only;omega)
 rintro ⟨i,_⟩ rec ⟨h0,h1⟩ hrec
 simp only at h0 h1 ⊢
 by_cases hi:i<s.size
 ·rw[inB_of h0 hi,decide_eq_true hi]
  obtain ⟨b,hb⟩:=letter_some (byteAt s i.toNat)
  obtain ⟨c,hc⟩:=digit_some (byteAt s i.toNat)
  have hw:IntKind.wrap .i64 (i+1)=i+1:=wrap_id (by omega) (by omega)
  have hr:=hrec (i+1,PUnit.unit) ⟨by simp only;omega,by simp only;omega⟩ (by simp only;omega)
  simp only[hb,hc,hw]
  cases b<;>cases c<;>cases decide (byteAt s i.toNat=95)<;>simp[obind_some',hr]
 ·rw[decide_eq_false hi]
  simp[obind_some']
theorem word_same (s:ByteArray):ref01_word s 0=decimal_word s:=by
 simp only[ref01_word,ref01_word_b,decimal_word,decimal_word_b,letter_same,digit_same]
noncomputable def nameB (s:ByteArray):Bool:=decide (0<s.size)&&(decide (s.size≤20)&&((decimal_letter (byteAt s 0)).getD false&&decide ((decimal_word s).getD 0=(s.size:Int))))
theorem empty_iff (s:ByteArray):s={ data:=#[] }↔s.size=0:=by
 constructor
 ·intro h;rw[h];rfl
 ·intro h
  apply ByteArray.ext
  exact Array.eq_empty_of_size_eq_zero h
theorem isName_ok (s:ByteArray):decimal_IsName s=some (nameB s):=by
 simp only[decimal_IsName,decimal_IsName_b,str_beq,not_or_self',Bool.and_self,cond_true]
 unfold nameB
 by_cases h0:s.size=0
 ·have e:decide (s={ data:=#[] })=true:=decide_eq_true ((empty_iff s).2 h0)
  simp[e,h0,obind_some']
 ·have e:decide (s={ data:=#[] })=false:=decide_eq_false fun h=>h0 ((empty_iff s).1 h)
  by_cases h1:s.size≤20
  ·obtain ⟨b,hb⟩:=letter_some (byteAt s 0)
   obtain ⟨n,hn⟩:=word_some (s:=s) (by omega)
   have h2:decide ((s.size:Int)≤20)=true:=decide_eq_true (by omega)
   rw[inB_of (show (0:Int)≤0 by omega) (show (0:Int)<s.size by omega)]
   simp only[e,h2,hb,hn]
   cases b<;>simp[obind_some',h1,show 0<s.size by omega]
  ·have h2:decide ((s.size:Int)≤20)=false:=decide_eq_false (by omega)
   simp[e,h2,h1,obind_some']
theorem refIsName_ok (s:ByteArray):ref01_IsName s=some (nameB s):=by
 simp only[ref01_IsName,ref01_IsName_b,not_or_self',or_self_not,cond_true]
 unfold nameB
 by_cases h0:s.size=0
 ·simp[h0,obind_some']
 ·have e:decide ((s.size:Int)=0)=false:=decide_eq_false (by omega)
  by_cases h1:s.size≤20
  ·obtain ⟨b,hb⟩:=letter_some (byteAt s 0)
   obtain ⟨n,hn⟩:=word_some (s:=s) (by omega)
   have h2:decide ((s.size:Int)>20)=false:=decide_eq_false (by omega)
   rw[inB_of (show (0:Int)≤0 by omega) (show (0:Int)<s.size by omega),word_same]
   simp only[e,h2,←letter_same,hb,hn]
   cases b<;>simp[obind_some',h1,show 0<s.size by omega]
  ·have h2:decide ((s.size:Int)>20)=true:=decide_eq_true (by omega)
   simp[h2,h1,obind_some']
end Go.Proofs.YtmoiiokmfanlgaaGreat

namespace Go.Proofs.YtmoiiokmfanlgaaGreat
namespace Dn
theorem lpK_up {σ α R:Type} {F:(α→Option R)→α→Option R} (n:Nat) (hn:n≤1180591620717411303423) (enc:Nat→σ→α) (b:Nat→σ→(σ→Option R)→Option R) (f:σ→Option R)
  (hb:∀again (i:Nat) s,i<n→F again (enc i s)=b i s (fun s'=>again (enc (i+1) s'))) (hf:∀again s,F again (enc n s)=f s) (s:σ) :
  lpK α R F (enc 0 s)=upF b f n 0 s:=loopF_up n hn enc b f hb hf s
def idxI {α:Type} (p:α→Bool):List α→Int→Int
 | [],_=> -1
 | a ::l,i=>bif p a then i else idxI p l (i+1)
theorem idxI_neg {α:Type} {p:α→Bool}:∀{l:List α} {i:Int},0≤i→(idxI p l i<0↔∀a ∈ l,p a=false)
 | [],i,h=>by simp[idxI]
 | a ::l,i,h=>by
  unfold idxI
  cases hp:p a with
  | true=>simp only[cond_true,List.mem_cons,forall_eq_or_imp,hp];simp;omega
  | false=>simp only[cond_false,List.mem_cons,forall_eq_or_imp,hp,true_and];exact idxI_neg (by omega)
theorem idxI_drop {α:Type} {p:α→Bool} {l:List α} {d:α} {i:Nat} (h:i<l.length):idxI p (l.drop i) i=bif p (l.getD i d) then (i:Int) else idxI p (l.drop (i+1)) ((i:Int)+1):=by
 rw[List.drop_eq_getElem_cons h,getD_nat h]
 rfl
theorem idxI_at {α:Type} {p:α→Bool} {d:α}:∀{l:List α} {i:Int},0≤i→0≤idxI p l i→i≤idxI p l i∧idxI p l i<i+l.length∧p (l.getD (idxI p l i - i).toNat d)=true
 | [],i,_,h=>by simp[idxI] at h
 | a ::l,i,hi,h=>by
  unfold idxI at h ⊢
  cases hp:p a with
  | true=>simp[hp];omega
  | false =>
   rw[hp,cond_false] at h
   obtain ⟨h1,h2,h3⟩:=idxI_at (d:=d) (show 0≤i+1 by omega) h
   rw[cond_false]
   refine ⟨by omega,by simp only[List.length_cons];omega,?_⟩
   have e:(idxI p l (i+1) - i).toNat=(idxI p l (i+1) - (i+1)).toNat+1:=by omega
   rw[e,List.getD_cons_succ]
   exact h3
theorem index_loop {α:Type} {f:(α×Unit)→Option Bool} {d:α} {p:α→Bool} {l:List α} (hl:l.length≤1000000) (h:∀a,a ∈ l→f (a,())=some (p a)) :
  lpK (Int×PUnit) Int (fun (again:Int×PUnit→Option Int) (x:Int×PUnit)=>bif decide (x.1<(↑(List.length l):Int)) then bif inB x.1 (List.length l) then obind (f
   (List.getD l (Int.toNat x.1) d,PUnit.unit)) fun (t:Bool)=>bif t then some x.1 else again
   (IntKind.wrap .i64 (x.1+(1:Int)),PUnit.unit) else none else some (-1:Int)) ((0:Int),PUnit.unit)=some (idxI p l 0):=by
 refine lpK_loop (g:=fun _=>some (idxI p l 0)) (I:=fun (x:Int×PUnit)=>0≤x.1∧x.1≤l.length∧idxI p (l.drop x.1.toNat) x.1=idxI p l 0) (μ:=fun (x:Int×PUnit)=>((l.length:Int) - x.1).toNat) ?_ ⟨by simp,by simp only;omega,rfl⟩ (by simp only;omega)
 rintro ⟨i,_⟩ rec ⟨h0,h1,h2⟩ hrec
 simp only at h0 h1 h2 ⊢
 by_cases hi:i<l.length
 ·obtain ⟨n,rfl⟩:∃n:Nat,i=n:=⟨i.toNat,by omega⟩
  rw[decide_eq_true hi,cond_true,inB_of h0 hi,cond_true,Int.toNat_natCast,h _ (by rw[getD_nat (by omega)];exact List.getElem_mem (by omega)),obind_some',wrap_id (by omega) (by omega)]
  rw[Int.toNat_natCast,idxI_drop (d:=d) (by omega)] at h2
  cases hp:p (l.getD n d) with
  | true=>rw[hp,cond_true] at h2;rw[cond_true,h2]
  | false=>rw[hp,cond_false] at h2;rw[cond_false];exact hrec _ ⟨by simp only;omega,by simp only;omega,h2⟩ (by simp only;omega)
 ·rw[decide_eq_false hi,cond_false]
  have e:i.toNat=l.length:=by omega
  rw[e,List.drop_length] at h2
  rw[←h2]
  rfl
theorem find_loop {α:Type} {p:α→Bool} {d:α} {l:List α} (hl:l.length≤1000000) :
  lpK (Int×PUnit) Int (fun (again:Int×PUnit→Option Int) (x:Int×PUnit)=>bif decide (x.1<(↑(List.length l):Int)) then bif inB x.1 (List.length l) then bif p
   (List.getD l (Int.toNat x.1) d) then some x.1 else again
   (IntKind.wrap .i64 (x.1+(1:Int)),PUnit.unit) else none else some (-1:Int)) ((0:Int),PUnit.unit)=some (idxI p l 0) :=
 index_loop (f:=fun a=>some (p a.1)) hl fun _ _=>rfl
theorem upF_all {R σ:Type} {b:Nat→σ→(σ→Option R)→Option R} {f:σ→Option R} {p:Nat→Bool} {r:Option R} {s:σ} (n:Nat) (hb:∀i (k:σ→Option R),i<n→b i s k=bif p i then k s else r) :
  ∀(k i:Nat),i+k≤n→upF b f k i s=bif (List.range' i k).all p then f s else r
 | 0,i,_=>rfl
 | k+1,i,h=>by
  simp only[upF,hb i _ (by omega),List.range'_succ,List.all_cons]
  cases hp:p i with
  | true=>exact upF_all n hb k (i+1) (by omega)
  | false=>rfl
end Dn
end Go.Proofs.YtmoiiokmfanlgaaGreat

namespace Go.Proofs.YtmoiiokmfanlgaaGreat
namespace Dn
def listF {α σ R:Type} (b:α→σ→(σ→Option R)→Option R) (f:σ→Option R):List α→σ→Option R
 | [],s=>f s
 | a ::l,s=>b a s (listF b f l)
theorem upF_list {α σ R:Type} (L:List α) (d:α) {b:α→σ→(σ→Option R)→Option R} {c:Nat→σ→(σ→Option R)→Option R} {f:σ→Option R} (h:∀i s k,i<L.length→c i s k=b (L.getD i d) s k) :
  ∀(k i:Nat) (s:σ),i+k=L.length→upF c f k i s=listF b f (L.drop i) s
 | 0,i,s,hi=>by
  rw[List.drop_of_length_le (by omega)]
  rfl
 | k+1,i,s,hi=>by
  rw[List.drop_eq_getElem_cons (show i<L.length by omega)]
  simp only[upF,listF]
  rw[h _ _ _ (by omega),getD_nat (by omega)]
  congr 1
  funext s'
  exact upF_list L d h k (i+1) s' (by omega)
theorem lpK_int {α β σ R:Type} (L:List α) (d:α) (hn:L.length≤1180591620717411303423) {F:(β→Option R)→β→Option R} (enc:Nat→σ→β) (b:α→σ→(σ→Option R)→Option R) (f:σ→Option R)
  (hb:∀again (i:Nat) s,i<L.length→F again (enc i s)=b (L.getD i d) s (fun s'=>again (enc (i+1) s'))) (hf:∀again s,F again (enc L.length s)=f s) (s:σ):lpK β R F (enc 0 s)=listF b f L s :=
 (lpK_up L.length hn enc (fun i s k=>b (L.getD i d) s k) f hb hf s).trans ((upF_list L d (b:=b) (fun _ _ _ _=>rfl) L.length 0 s (by omega)).trans (by rw[List.drop_zero]))
theorem listF_fold {α σ R:Type} {b:α→σ→(σ→Option R)→Option R} {f:σ→Option R} (g:σ→α→σ):∀{L:List α} {s:σ},(∀a ∈ L,∀s k,b a s k=k (g s a))→listF b f L s=f (L.foldl g s)
 | [],_,_=>rfl
 | a ::L,s,h=>by
  simp only[listF,List.foldl_cons]
  rw[h a (by simp)]
  exact listF_fold g fun a' ha=>h a' (by simp[ha])
end Dn
end Go.Proofs.YtmoiiokmfanlgaaGreat

namespace Go.Proofs.YtmoiiokmfanlgaaGreat
open Tryz Dn Dn.Sh
abbrev Itm:=ByteArray×Int×Int×Int×Int×Int×Int
abbrev Brk:=ByteArray×Int×Int
abbrev itm0:Itm:=({ data:={ toList:=[] } },(0:Int),(0:Int),(0:Int),(0:Int),(0:Int),(0:Int))
abbrev brk0:Brk:=({ data:={ toList:=[] } },(0:Int),(0:Int))
def btw (n a b:Int):Bool:=decide (a≤n)&&decide (n≤b)
theorem btwA_ok (n a b:Int):batten_between n a b=some (btw n a b):=by
 simp only[batten_between,batten_between_b,not_or_self',Bool.and_self,cT,bif_false',ge_iff_le,btw]
theorem btwB_ok (n a b:Int):ref21_between n a b=some (btw n a b):=by
 simp only[ref21_between,ref21_between_b,not_or_self',Bool.and_self,cT,bif_false',ge_iff_le,btw]
theorem upF_chk {σ R:Type} {b:Nat→σ→(σ→Option R)→Option R} {f:σ→Option R} {q:Nat→Bool} {g:Nat→σ→σ} {r:Option R} (n:Nat) (hb:∀i s (k:σ→Option R),i<n→b i s k=bif q i then k (g i s) else r) :
  ∀(k i:Nat) (s:σ),i+k≤n→upF b f k i s=bif (List.range' i k).all q then f ((List.range' i k).foldl (fun s i=>g i s) s) else r
 | 0,i,s,_=>rfl
 | k+1,i,s,h=>by
  simp only[upF,hb i s _ (by omega),List.range'_succ,List.all_cons,List.foldl_cons]
  cases hp:q i with
  | true=>exact upF_chk n hb k (i+1) _ (by omega)
  | false=>rfl
theorem all_and {α:Type} {p q:α→Bool} {l:List α}:(l.all fun a=>p a&&q a)=(l.all p&&l.all q):=by
 rw[Bool.eq_iff_iff,Bool.and_eq_true,List.all_eq_true,List.all_eq_true,List.all_eq_true]
 constructor
 ·exact fun h=>⟨fun a ha=>((Bool.and_eq_true _ _).mp (h a ha)).1,fun a ha=>((Bool.and_eq_true _ _).mp (h a ha)).2⟩
 ·exact fun h a ha=>(Bool.and_eq_true _ _).mpr ⟨h.1 a ha,h.2 a ha⟩
def earlyN {α:Type} (p:α→α→Bool) (d:α) (l:List α) (i:Nat):Bool:=!(l.take i).any fun a=>p a (l.getD i d)
theorem memK_str (x:ByteArray):∀l:List ByteArray,memK .str x l=true↔x ∈ l
 | []=>by simp[memK]
 | y ::l=>by
  simp only[memK,keyEq,Bool.or_eq_true,memK_str x l,List.mem_cons,decide_eq_true_iff]
def nodupB:List ByteArray→Bool
 | []=>true
 | x ::l=>!memK .str x l&&nodupB l
theorem nodupB_iff:∀{l:List ByteArray},nodupB l=true↔l.Nodup
 | []=>by simp[nodupB]
 | x ::l=>by
  rw[nodupB,Bool.and_eq_true,nodupB_iff,List.nodup_cons,←memK_str,Bool.not_eq_true',Bool.not_eq_true]
theorem addK_fold:∀(L S:List ByteArray),(L.foldl (fun s x=>addK .str x s) S).length≤S.length+L.length∧((L.foldl (fun s x=>addK .str x s) S).length=S.length+L.length↔L.Nodup∧∀x ∈ L,x ∉ S)
 | [],S=>by simp
 | x ::L,S=>by
  simp only[List.foldl_cons,List.length_cons]
  by_cases hx:x ∈ S
  ·have e:addK .str x S=S:=by unfold addK;rw[(memK_str x S).2 hx];rfl
   rw[e]
   obtain ⟨h1,_⟩:=addK_fold L S
   refine ⟨by omega,fun h=>by omega,fun h=>?_⟩
   exact absurd hx (h.2 x (by simp))
  ·have e:addK .str x S=S++[x]:=by
    unfold addK
    cases hm:memK .str x S with
    | false=>rfl
    | true=>exact absurd ((memK_str x S).1 hm) hx
   rw[e]
   obtain ⟨h1,h2⟩:=addK_fold L (S++[x])
   rw[List.length_append,List.length_singleton] at h1 h2
   refine ⟨by omega,?_⟩
   rw[show S.length+(L.length+1)=S.length+1+L.length by omega,h2,List.nodup_cons]
   constructor
   ·rintro ⟨g1,g2⟩
    refine ⟨⟨fun hm=>(g2 x hm) (by simp),g1⟩,fun y hy=>?_⟩
    rcases List.mem_cons.1 hy with rfl | hy
    ·exact hx
    ·exact fun hs=>g2 y hy (by simp[hs])
   ·rintro ⟨⟨g1,g2⟩,g3⟩
    refine ⟨g2,fun y hy hm=>?_⟩
    rcases List.mem_append.1 hm with hm | hm
    ·exact g3 y (by simp[hy]) hm
    ·rw[List.mem_singleton] at hm
     subst hm
     exact g1 hy
theorem addK_foldm {α:Type} (f:α→ByteArray) (l:List α):decide (((l.foldl (fun (s:List ByteArray) x=>addK .str (f x) s) []).length:Int)<(l.length:Int))=!nodupB (l.map f):=by
 have h:=addK_fold (l.map f) []
 have e:(l.map f).foldl (fun s x=>addK .str x s) []=l.foldl (fun (s:List ByteArray) x=>addK .str (f x) s) []:=by rw[List.foldl_map]
 rw[e] at h
 generalize (l.foldl (fun (s:List ByteArray) x=>addK .str (f x) s) []).length=N at h ⊢
 simp only[List.length_map,List.length_nil,Nat.zero_add,List.not_mem_nil,not_false_eq_true,implies_true,and_true] at h
 cases hn:nodupB (l.map f) with
 | true =>
  have:=h.2.2 (nodupB_iff.1 hn)
  rw[decide_eq_false (by omega)]
  rfl
 | false =>
  have h3:¬ (l.map f).Nodup:=fun hh=>by rw[nodupB_iff.2 hh] at hn;cases hn
  have h4:¬ N=l.length:=fun hh=>h3 (h.2.1 hh)
  have:=h.1
  rw[decide_eq_true (by omega)]
  rfl
theorem range_fold {α σ:Type} {d:α} {g:σ→α→σ} {l:List α}:∀(k i:Nat) (s:σ),i+k=l.length→(List.range' i k).foldl (fun s i=>g s (l.getD i d)) s=(l.drop i).foldl g s
 | 0,i,s,h=>by rw[List.drop_of_length_le (by omega)];rfl
 | k+1,i,s,h=>by
  rw[List.range'_succ,List.foldl_cons,range_fold k (i+1) _ (by omega),List.drop_eq_getElem_cons (show i<l.length by omega),List.foldl_cons,getD_nat (by omega)]
theorem early_nodup {α:Type} {d:α} {f:α→ByteArray} {l:List α}:(List.range' 0 l.length).all (earlyN (fun a b=>decide (f a=f b)) d l)=nodupB (l.map f):=by
 rw[Bool.eq_iff_iff,nodupB_iff,List.all_eq_true,List.nodup_iff_pairwise_ne,List.pairwise_iff_getElem]
 simp only[List.length_map,List.getElem_map]
 constructor
 ·intro h i j hi hj hij he
  have h1:=h j (List.mem_range'.2 ⟨j,hj,by omega⟩)
  unfold earlyN at h1
  rw[Bool.not_eq_true',List.any_eq_false] at h1
  have h2:=h1 l[i] (List.mem_take_iff_getElem.2 ⟨i,by omega,rfl⟩)
  rw[getD_nat hj] at h2
  exact h2 (decide_eq_true he)
 ·intro h k hk
  obtain ⟨j,hj,rfl⟩:=List.mem_range'.1 hk
  unfold earlyN
  rw[Bool.not_eq_true',List.any_eq_false]
  intro a ha he
  obtain ⟨i,hi,rfl⟩:=List.mem_take_iff_getElem.1 ha
  rw[getD_nat (by omega)] at he
  exact h i (0+1*j) (by omega) (by omega) (by omega) (of_decide_eq_true he)
theorem not_any_idx {α:Type} {p:α→Bool} {l:List α}:decide (idxI p l 0≥0)=l.any p:=by
 have:=idxI_neg (p:=p) (l:=l) (i:=0) (by omega)
 rw[Bool.eq_iff_iff,decide_eq_true_iff,List.any_eq_true]
 constructor
 ·intro h1
  by_cases h2:∃a ∈ l,p a=true
  ·exact h2
  ·have:idxI p l 0<0:=this.2 fun a ha=>by
    cases e:p a with
    | false=>rfl
    | true=>exact (h2 ⟨a,ha,e⟩).elim
   omega
 ·rintro ⟨a,ha,h3⟩
  by_cases h2:idxI p l 0<0
  ·rw[this.1 h2 a ha] at h3;cases h3
  ·omega
theorem early_loopF {α:Type} {p:α→Bool} {d:α} {l:List α} {i:Nat} (hl:l.length≤1000000) (hi:i≤l.length) {R:Type} {yes no:Option R} {F:(Int×PUnit→Option R)→Int×PUnit→Option R}
  (hb:∀again (j:Nat),j<i→F again ((j:Int),PUnit.unit)=bif p (l.getD j d) then yes else again (((j+1:Nat):Int),PUnit.unit)) (hf:∀again,F again ((i:Int),PUnit.unit)=no) :
  lpK (Int×PUnit) R F ((0:Int),PUnit.unit)=bif (l.take i).any p then yes else no:=by
 refine (lpK_up (α:=Int×PUnit) i (by omega) (fun j (_:Unit)=>((j:Int),PUnit.unit)) (fun j s k=>bif !p (l.getD j d) then k s else yes) (fun _=>no) ?_ ?_ ()).trans ?_
 ·intro again j _ hj
  rw[hb again j hj]
  cases p (l.getD j d)<;>rfl
 ·intro again _
  exact hf again
 ·refine (upF_all (p:=fun j=>!p (l.getD j d)) (r:=yes) i (fun _ _ _=>rfl) i 0 (by omega)).trans ?_
  have h:(List.range' 0 i).all (fun j=>!p (l.getD j d))=!(l.take i).any p:=by
   rw[Bool.eq_iff_iff,List.all_eq_true,Bool.not_eq_true',List.any_eq_false]
   constructor
   ·intro h1 a ha
    obtain ⟨j,hj,rfl⟩:=List.mem_take_iff_getElem.1 ha
    have:=h1 j (List.mem_range'.2 ⟨j,by omega,by omega⟩)
    rw[getD_nat (by omega)] at this
    simpa using this
   ·intro h1 j hj
    obtain ⟨k,hk,rfl⟩:=List.mem_range'.1 hj
    have h2:=h1 l[0+1*k] (List.mem_take_iff_getElem.2 ⟨0+1*k,by omega,rfl⟩)
    rw[getD_nat (by omega)]
    simpa using h2
  rw[h]
  cases (l.take i).any p<;>rfl
noncomputable def itemB (len:Int) (x:Itm):Bool:=nameB x.1&&(btw x.2.2.1 1 1048576&&(btw x.2.1 0 (IntKind.wrap .i64 (len - x.2.2.1))&&(btw x.2.2.2.1 0 1048576&&(btw x.2.2.2.2.1 0 1048576&&(btw x.2.2.2.2.2.1 0 1048576&&btw x.2.2.2.2.2.2 0 1048576)))))
def apartB (x y:Itm):Bool:=decide (IntKind.wrap .i64 (x.2.1+x.2.2.1)≤y.2.1)||decide (IntKind.wrap .i64 (y.2.1+y.2.2.1)≤x.2.1)
theorem apartB_comm (x y:Itm):apartB x y=apartB y x:=by unfold apartB;rw[Bool.or_comm]
noncomputable def itemsB (l:List Itm) (len:Int):Bool:=decide (l.length≤40)&&(l.all (itemB len)&&(nodupB (l.map fun x=>x.1)&&(List.range' 0 l.length).all (earlyN (fun a b=>!apartB a b) itm0 l)))
theorem all_range {α:Type} {p:α→Bool} {d:α} {l:List α}:(List.range' 0 l.length).all (fun i=>p (l.getD i d))=l.all p:=by
 rw[Bool.eq_iff_iff,List.all_eq_true,List.all_eq_true]
 constructor
 ·intro h a ha
  obtain ⟨j,hj,rfl⟩:=List.getElem_of_mem ha
  have:=h j (List.mem_range'.2 ⟨j,hj,by omega⟩)
  rw[getD_nat hj] at this
  exact this
 ·intro h j hj
  obtain ⟨k,hk,rfl⟩:=List.mem_range'.1 hj
  rw[getD_nat (by omega)]
  exact h _ (List.getElem_mem _)
theorem apartA_ok (x y:Itm):batten_apart x y=some (apartB x y):=by
 simp only[batten_apart,batten_apart_b,apartB]
 cases decide (IntKind.wrap .i64 (x.2.1+x.2.2.1)≤y.2.1)<;>cases decide (IntKind.wrap .i64 (y.2.1+y.2.2.1)≤x.2.1)<;>rfl
theorem apartR_ok (x y:Itm):ref21_Apart x y=some (apartB x y):=by
 simp only[ref21_Apart,ref21_Apart_b,apartB]
 cases decide (IntKind.wrap .i64 (x.2.1+x.2.2.1)≤y.2.1)<;>cases decide (IntKind.wrap .i64 (y.2.1+y.2.2.1)≤x.2.1)<;>rfl
theorem aloneA_ok (x:Itm):batten_alone x=some (nameB x.1&&(btw x.2.2.2.1 0 1048576&&(btw x.2.2.2.2.1 0 1048576&&(btw x.2.2.2.2.2.1 0 1048576&&btw x.2.2.2.2.2.2 0 1048576)))):=by
 simp only[batten_alone,batten_alone_b,isName_ok,btwA_ok,obind_some',not_or_self',cT]
 cases nameB x.1<;>cases btw x.2.2.2.1 0 1048576<;>cases btw x.2.2.2.2.1 0 1048576<;>cases btw x.2.2.2.2.2.1 0 1048576<;>cases btw x.2.2.2.2.2.2 0 1048576<;>rfl
theorem insideA_ok (x:Itm) (len:Int):batten_inside x len=some (btw x.2.2.1 1 1048576&&btw x.2.1 0 (IntKind.wrap .i64 (len - x.2.2.1))):=by
 simp only[batten_inside,batten_inside_b,btwA_ok,not_or_self',cT,Bool.and_self,ge_iff_le]
 rw[show btw x.2.1 0 (IntKind.wrap .i64 (len - x.2.2.1))=(decide (0≤x.2.1)&&decide (x.2.1≤IntKind.wrap .i64 (len - x.2.2.1))) from rfl]
 cases decide (0≤x.2.1)<;>cases btw x.2.2.1 1 1048576<;>cases decide (x.2.1≤IntKind.wrap .i64 (len - x.2.2.1))<;>rfl
theorem aloneR_ok (x:Itm) (len:Int):ref21_alone x len=some (itemB len x):=by
 simp only[ref21_alone,ref21_alone_b,refIsName_ok,btwB_ok,obind_some',not_or_self',Bool.and_self,cT,itemB]
 cases nameB x.1<;>cases btw x.2.2.1 1 1048576<;>cases btw x.2.1 0 (IntKind.wrap .i64 (len - x.2.2.1))<;>cases btw x.2.2.2.1 0 1048576<;>cases btw x.2.2.2.2.1 0 1048576<;>cases btw x.2.2.2.2.2.1 0 1048576<;>cases btw x.2.2.2.2.2.2 0 1048576<;>rfl
theorem twiceI_ok {l:List Itm} (hl:l.length≤1000000):batten_twice_140 l (fun x=>batten_items_1 x.1)=some (!nodupB (l.map fun x=>x.1)):=by
 simp only[batten_twice_140,batten_twice_140_b,batten_items_1,batten_items_1_b,obind_some']
 refine (lpK_int l itm0 (by omega) (fun i (s:List ByteArray)=>(((i:Nat):Int),s,PUnit.unit)) (fun x s k=>k (addK .str x.1 s)) (fun s=>some (decide ((s.length:Int)<(l.length:Int)))) ?_ ?_ []).trans ?_
 ·intro again i s hi
  have hw:IntKind.wrap .i64 ((i:Int)+1)=((i+1:Nat):Int):=by rw[wrap_id (by omega) (by omega)];rfl
  simp only[inB_nat,decide_eq_true hi,decide_eq_true (show (i:Int)<l.length by omega),cT,Int.toNat_natCast,hw]
 ·intro again s
  simp only[decide_eq_false (show ¬ (l.length:Int)<l.length by omega),cF]
 ·rw[listF_fold (fun (s:List ByteArray) (x:Itm)=>addK .str x.1 s) (fun _ _ _ _=>rfl)]
  congr 1
  exact addK_foldm (fun x:Itm=>x.1) l
theorem twiceB_ok {l:List Brk} (hl:l.length≤1000000):batten_twice_147 l (fun x=>batten_bricks_1 x.1)=some (!nodupB (l.map fun x=>x.1)):=by
 simp only[batten_twice_147,batten_twice_147_b,batten_bricks_1,batten_bricks_1_b,obind_some']
 refine (lpK_int l brk0 (by omega) (fun i (s:List ByteArray)=>(((i:Nat):Int),s,PUnit.unit)) (fun x s k=>k (addK .str x.1 s)) (fun s=>some (decide ((s.length:Int)<(l.length:Int)))) ?_ ?_ []).trans ?_
 ·intro again i s hi
  have hw:IntKind.wrap .i64 ((i:Int)+1)=((i+1:Nat):Int):=by rw[wrap_id (by omega) (by omega)];rfl
  simp only[inB_nat,decide_eq_true hi,decide_eq_true (show (i:Int)<l.length by omega),cT,Int.toNat_natCast,hw]
 ·intro again s
  simp only[decide_eq_false (show ¬ (l.length:Int)<l.length by omega),cF]
 ·rw[listF_fold (fun (s:List ByteArray) (x:Brk)=>addK .str x.1 s) (fun _ _ _ _=>rfl)]
  congr 1
  exact addK_foldm (fun x:Brk=>x.1) l
theorem containsI {f:(Itm×Unit)→Option Bool} {p:Itm→Bool} {l:List Itm} (hl:l.length≤1000000) (h:∀a,a ∈ l→f (a,())=some (p a)):slices_ContainsFunc_144 l f=some (l.any p):=by
 simp only[slices_ContainsFunc_144,slices_ContainsFunc_144_b]
 unfold slices_IndexFunc_159 slices_IndexFunc_159_b
 rw[index_loop (f:=f) (d:=itm0) hl h,obind_some',not_any_idx]
theorem itemsA_ok (l:List Itm) (len:Int):batten_items l len=some (itemsB l len):=by
 simp only[batten_items,batten_items_b,itemsB]
 by_cases h0:l.length≤40
 ·rw[decide_eq_false (show ¬ ((l.length:Nat):Int)>40 by omega),decide_eq_true h0]
  simp only[Bool.not_false,Bool.not_true,Bool.or_true,cT,cF,twiceI_ok (show l.length≤1000000 by omega),obind_some',Bool.true_and]
  cases hd:nodupB (l.map fun x=>x.1) with
  | false=>simp
  | true =>
   simp only[Bool.not_true,cF,Bool.true_and]
   refine (lpK_up (α:=Int×PUnit) l.length (by omega) (fun i (_:Unit)=>((i:Int),PUnit.unit)) (fun i s k=>bif itemB len (l.getD i itm0)&&earlyN (fun a b=>!apartB a b) itm0 l i then k s else some false) (fun _=>some true) ?_ ?_ ()).trans ?_
   ·intro again i _ hi
    have hw:IntKind.wrap .i64 ((i:Int)+1)=((i+1:Nat):Int):=by rw[wrap_id (by omega) (by omega)];rfl
    have hs:slB (0:Int) (i:Int) l.length=true:=slB_of (by omega) (by omega) (by omega)
    have hc:slices_ContainsFunc_144 (List.drop 0 (List.take i l)) (fun x=>batten_items_2 x.1 (l.getD i itm0))=some ((l.take i).any fun a=>!apartB a (l.getD i itm0)) :=
     containsI (l:=List.drop 0 (List.take i l)) (by rw[List.drop_zero,List.length_take];omega) fun a _=>by
      simp only[batten_items_2,batten_items_2_b,apartA_ok,obind_some']
      rw[apartB_comm]
    simp only[inB_nat,decide_eq_true hi,decide_eq_true (show (i:Int)<l.length by omega),cT,Int.toNat_natCast,hw,show List.getD l i ({ data:={ toList:=[] } },(0:Int),(0:Int),(0:Int),(0:Int),(0:Int),(0:Int))=l.getD i itm0 from rfl,aloneA_ok,insideA_ok,obind_some',hs,hc,Bool.or_true,not_or_self',Bool.and_self]
    unfold earlyN itemB
    generalize (l.take i).any (fun a=>!apartB a (l.getD i itm0))=q
    generalize l.getD i itm0=x
    cases nameB x.1<;>cases btw x.2.2.1 1 1048576<;>cases btw x.2.1 0 (IntKind.wrap .i64 (len - x.2.2.1))<;>cases btw x.2.2.2.1 0 1048576<;>cases btw x.2.2.2.2.1 0 1048576<;>cases btw x.2.2.2.2.2.1 0 1048576<;>cases btw x.2.2.2.2.2.2 0 1048576<;>cases q<;>rfl
   ·intro again _
    simp only[decide_eq_false (show ¬ (l.length:Int)<l.length by omega),cF]
   ·rw[upF_all l.length (fun i k _=>rfl) l.length 0 (by omega),all_and,all_range]
    cases l.all (itemB len)&&(List.range' 0 l.length).all (earlyN (fun a b=>!apartB a b) itm0 l)<;>rfl
 ·rw[decide_eq_true (show ((l.length:Nat):Int)>40 by omega),decide_eq_false h0]
  rfl
end Go.Proofs.YtmoiiokmfanlgaaGreat

namespace Go.Proofs.YtmoiiokmfanlgaaGreat
open Tryz Dn Dn.Sh
abbrev HS:=ByteArray×Int×Int×Int×Int×List Int×Int×Int×Int×Int×Int×List Itm×List Brk
theorem any_or {α:Type} {p q:α→Bool} {l:List α}:(l.any fun a=>p a||q a)=(l.any p||l.any q):=by
 rw[Bool.eq_iff_iff,Bool.or_eq_true,List.any_eq_true,List.any_eq_true,List.any_eq_true]
 constructor
 ·rintro ⟨a,ha,h⟩
  rcases (Bool.or_eq_true _ _).mp h with h | h
  ·exact .inl ⟨a,ha,h⟩
  ·exact .inr ⟨a,ha,h⟩
 ·rintro (⟨a,ha,h⟩ | ⟨a,ha,h⟩)
  ·exact ⟨a,ha,(Bool.or_eq_true _ _).mpr (.inl h)⟩
  ·exact ⟨a,ha,(Bool.or_eq_true _ _).mpr (.inr h)⟩
theorem itemsR_ok (nm:ByteArray) (dp lo hi len:Int) (ls:List Int) (pi ar pu mo br:Int) (l:List Itm) (bs:List Brk) (hl:l.length≤1000000):ref21_items (nm,dp,lo,hi,len,ls,pi,ar,pu,mo,br,l,bs)=some (itemsB l len):=by
 simp only[ref21_items,ref21_items_b,itemsB]
 by_cases h0:l.length≤40
 ·rw[decide_eq_false (show ¬ ((l.length:Nat):Int)>40 by omega),decide_eq_true h0]
  simp only[cF,Bool.true_and]
  refine (lpK_up (α:=Int×PUnit) l.length (by omega) (fun i (_:Unit)=>((i:Int),PUnit.unit)) (fun i s k=>bif itemB len (l.getD i itm0)&&(earlyN (fun a b=>decide (a.1=b.1)) itm0 l i&&earlyN (fun a b=>!apartB a b) itm0 l i) then k s else some false) (fun _=>some true) ?_ ?_ ()).trans ?_
  ·intro again i _ hi
   have hw:IntKind.wrap .i64 ((i:Int)+1)=((i+1:Nat):Int):=by rw[wrap_id (by omega) (by omega)];rfl
   simp only[inB_nat,decide_eq_true hi,decide_eq_true (show (i:Int)<l.length by omega),cT,Int.toNat_natCast,hw,show List.getD l i ({ data:={ toList:=[] } },(0:Int),(0:Int),(0:Int),(0:Int),(0:Int),(0:Int))=l.getD i itm0 from rfl,aloneR_ok,apartR_ok,obind_some',str_beq,not_or_self',or_self_not,Bool.and_self]
   cases hI:itemB len (l.getD i itm0) with
   | false=>simp
   | true =>
    simp only[Bool.not_true,cF,Bool.true_and]
    refine (early_loopF (p:=fun a:Itm=>decide (a.1=(l.getD i itm0).1)||!apartB a (l.getD i itm0)) (d:=itm0) (l:=l) (i:=i) (yes:=some false) (no:=again (((i+1:Nat):Int),PUnit.unit)) hl (by omega) ?_ ?_).trans ?_
    ·intro again_1 j hj
     have hw2:IntKind.wrap .i64 ((j:Int)+1)=((j+1:Nat):Int):=by rw[wrap_id (by omega) (by omega)];rfl
     simp only[inB_nat,decide_eq_true (show (j:Int)<i by omega),decide_eq_true (show j<l.length by omega),cT,Int.toNat_natCast,hw2,show List.getD l j ({ data:={ toList:=[] } },(0:Int),(0:Int),(0:Int),(0:Int),(0:Int),(0:Int))=l.getD j itm0 from rfl]
     cases decide ((l.getD j itm0).1=(l.getD i itm0).1)<;>cases apartB (l.getD j itm0) (l.getD i itm0)<;>rfl
    ·intro again_1
     simp only[decide_eq_false (show ¬ (i:Int)<i by omega),cF]
    ·rw[any_or]
     unfold earlyN
     cases (l.take i).any fun a:Itm=>decide (a.1=(l.getD i itm0).1)<;>cases (l.take i).any fun a:Itm=>!apartB a (l.getD i itm0)<;>rfl
  ·intro again _
   simp only[decide_eq_false (show ¬ (l.length:Int)<l.length by omega),cF]
  ·rw[upF_all l.length (fun i k _=>rfl) l.length 0 (by omega),all_and,all_and,all_range,early_nodup (f:=fun x:Itm=>x.1)]
   cases l.all (itemB len)&&(nodupB (l.map fun x=>x.1)&&(List.range' 0 l.length).all (earlyN (fun a b=>!apartB a b) itm0 l))<;>rfl
 ·rw[decide_eq_true (show ((l.length:Nat):Int)>40 by omega),decide_eq_false h0]
  rfl
noncomputable def brickB (b:Brk):Bool:=nameB b.1&&(btw b.2.1 1 1048576&&btw b.2.2 0 60)
def addW (s:Int) (b:Brk):Int:=IntKind.wrap .i64 (s+b.2.2)
noncomputable def bricksB (l:List Brk):Bool:=decide (l.length≤8)&&(l.all brickB&&(nodupB (l.map fun x=>x.1)&&decide (l.foldl addW 0≤60)))
theorem bricksA_ok (l:List Brk):batten_bricks l=some (bricksB l):=by
 simp only[batten_bricks,batten_bricks_b,bricksB]
 by_cases h0:l.length≤8
 ·rw[decide_eq_false (show ¬ ((l.length:Nat):Int)>8 by omega),decide_eq_true h0]
  simp only[Bool.not_false,Bool.not_true,Bool.or_true,cT,cF,twiceB_ok (show l.length≤1000000 by omega),obind_some',Bool.true_and]
  cases hd:nodupB (l.map fun x=>x.1) with
  | false=>simp
  | true =>
   simp only[Bool.not_true,cF,Bool.true_and]
   refine (lpK_up (α:=Int×Int×PUnit) l.length (by omega) (fun i (s:Int)=>(s,(i:Int),PUnit.unit)) (fun i s k=>bif brickB (l.getD i brk0) then k (addW s (l.getD i brk0)) else some false) (fun s=>some (decide (s≤60))) ?_ ?_ 0).trans ?_
   ·intro again i s hi
    have hw:IntKind.wrap .i64 ((i:Int)+1)=((i+1:Nat):Int):=by rw[wrap_id (by omega) (by omega)];rfl
    simp only[inB_nat,decide_eq_true hi,decide_eq_true (show (i:Int)<l.length by omega),cT,Int.toNat_natCast,hw,show List.getD l i ({ data:={ toList:=[] } },(0:Int),(0:Int))=l.getD i brk0 from rfl,isName_ok,btwA_ok,obind_some',not_or_self']
    unfold brickB addW
    generalize l.getD i brk0=b
    cases nameB b.1<;>cases btw b.2.1 1 1048576<;>cases btw b.2.2 0 60<;>rfl
   ·intro again s
    simp only[decide_eq_false (show ¬ (l.length:Int)<l.length by omega),cF]
   ·rw[upF_chk (q:=fun i=>brickB (l.getD i brk0)) (g:=fun i s=>addW s (l.getD i brk0)) (r:=some false) l.length (fun i s k _=>rfl) l.length 0 0 (by omega),all_range,range_fold (g:=addW) (d:=brk0) l.length 0 0 (by omega),List.drop_zero]
    cases l.all brickB<;>rfl
 ·rw[decide_eq_true (show ((l.length:Nat):Int)>8 by omega),decide_eq_false h0]
  rfl
theorem bricksR_ok (l:List Brk):ref21_Bricks l=some (bricksB l):=by
 simp only[ref21_Bricks,ref21_Bricks_b,bricksB]
 by_cases h0:l.length≤8
 ·rw[decide_eq_false (show ¬ ((l.length:Nat):Int)>8 by omega),decide_eq_true h0]
  simp only[cF,Bool.true_and]
  refine (lpK_up (α:=Int×Int×PUnit) l.length (by omega) (fun i (s:Int)=>(s,(i:Int),PUnit.unit)) (fun i s k=>bif brickB (l.getD i brk0)&&earlyN (fun a b=>decide (a.1=b.1)) brk0 l i then k (addW s (l.getD i brk0)) else some false) (fun s=>some (decide (s≤60))) ?_ ?_ 0).trans ?_
  ·intro again i s hi
   have hw:IntKind.wrap .i64 ((i:Int)+1)=((i+1:Nat):Int):=by rw[wrap_id (by omega) (by omega)];rfl
   simp only[inB_nat,decide_eq_true hi,decide_eq_true (show (i:Int)<l.length by omega),cT,Int.toNat_natCast,hw,show List.getD l i ({ data:={ toList:=[] } },(0:Int),(0:Int))=l.getD i brk0 from rfl,refIsName_ok,btwB_ok,obind_some',str_beq,not_or_self',or_self_not]
   have hB:brickB (l.getD i brk0)=(nameB (l.getD i brk0).1&&(btw (l.getD i brk0).2.1 1 1048576&&btw (l.getD i brk0).2.2 0 60)):=rfl
   rw[hB]
   cases nameB (l.getD i brk0).1 with
   | false=>rfl
   | true=>cases btw (l.getD i brk0).2.1 1 1048576 with
    | false=>rfl
    | true=>cases btw (l.getD i brk0).2.2 0 60 with
     | false=>rfl
     | true =>
      simp only[Bool.not_true,Bool.not_false,cF,cT,Bool.true_and,Bool.or_true,obind_some']
      refine (early_loopF (p:=fun a:Brk=>decide (a.1=(l.getD i brk0).1)) (d:=brk0) (l:=l) (i:=i) (yes:=some false) (no:=again (addW s (l.getD i brk0),((i+1:Nat):Int),PUnit.unit)) (by omega) (by omega) ?_ ?_).trans ?_
      ·intro again_1 j hj
       have hw2:IntKind.wrap .i64 ((j:Int)+1)=((j+1:Nat):Int):=by rw[wrap_id (by omega) (by omega)];rfl
       simp only[inB_nat,decide_eq_true (show (j:Int)<i by omega),decide_eq_true (show j<l.length by omega),cT,Int.toNat_natCast,hw2]
      ·intro again_1
       simp only[decide_eq_false (show ¬ (i:Int)<i by omega),cF]
       rfl
      ·unfold earlyN
       cases (l.take i).any fun a:Brk=>decide (a.1=(l.getD i brk0).1)<;>rfl
  ·intro again s
   simp only[decide_eq_false (show ¬ (l.length:Int)<l.length by omega),cF]
  ·rw[upF_chk (q:=fun i=>brickB (l.getD i brk0)&&earlyN (fun a b=>decide (a.1=b.1)) brk0 l i) (g:=fun i s=>addW s (l.getD i brk0)) (r:=some false) l.length (fun i s k _=>rfl) l.length 0 0 (by omega),all_and,all_range,early_nodup (f:=fun x:Brk=>x.1),range_fold (g:=addW) (d:=brk0) l.length 0 0 (by omega),List.drop_zero]
   cases l.all brickB<;>cases nodupB (l.map fun x=>x.1)<;>rfl
 ·rw[decide_eq_true (show ((l.length:Nat):Int)>8 by omega),decide_eq_false h0]
  rfl
end Go.Proofs.YtmoiiokmfanlgaaGreat
