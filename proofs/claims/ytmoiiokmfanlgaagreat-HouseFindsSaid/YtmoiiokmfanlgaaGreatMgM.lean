/- r30: what its functions answer (printed by a program), and that they do; part 2. r30: what its functions answer (printed by a program), and that they do; part 3. Plain lemmas for what functions answer: loops, machine numbers, lists. Names: both programs know the same ones. Loops over lists: searches and tests of all elements. Loops over the elements of a list, as recursions over it. Line sets: both programs know the same valid items and bricks. Line sets: bricks, lines, and valid sets. Line sets: lines, and valid sets. Beams and loads: both programs know the same valid ones. Houses: small ones, the sets' names, valid ones. Houses: what the sets load. Beams over a depth: how many, which. Fractions: rational numbers, and the pairs of numbers that stand for them. Fractions: what 'Make', 'Valid', 'Mul', 'Floor', 'Ceil' of package ratio answer. Fractions: products of two words, 'Mul', 'Floor', 'Ceil' of package ratio. Fractions of the reference: numbers of two words, their greatest common divisors and quotients. Fractions of the reference: 'Div', 'Made', 'Make', 'Times', 'Floor', 'Ceil'. Numbers of 128 bits: sums, differences, comparisons; the length of a number. The quotient of a number of 128 bits by one of 64. Fractions: 'Add' of package ratio. Fractions: 'Add', 'Valid', 'All' of the reference. Fractions: 'Sub' and 'Cmp' of both. What beams bear: the program's walk. What beams bear: the program's walk comes to the sums. What beams bear: the program's answer. What beams bear: the reference's answer. Beams and loads: what is wrong with them; Loads, Over. Houses: 'HouseLoads'. Houses: the reference's Loads; the law 'HouseLoads'. Houses: the law 'HouseLoads'. Houses: equal ones. Houses: equal ones, the reference; the law 'HouseForms'. Houses: the law 'HouseForms'. Sums of integers, and determinants. Tables of the simplex method: integers with a common denominator, as determinants of columns. -/
import Derived.Laws.StructEq
import Derived.Test.YtmoiiokmfanlgaaGreatMgL

namespace Go.Proofs.YtmoiiokmfanlgaaGreat
open Tryz Dn Dn.Sh
set_option maxRecDepth 100000
noncomputable def slices_Equal_14_b (lp:Lp) (_:Jn) (x0:List (Int×Int)) (x1:List (Int×Int)):Option Bool :=
 bif !decide ((↑(List.length x0):Int)=(↑(List.length x1):Int)) then some false else lp (Int×PUnit) Bool (fun (again:Int×PUnit→Option Bool) (x:Int×PUnit)=>bif decide
  (x.1<(↑(List.length x0):Int)) then bif inB x.1 (List.length x0) then bif inB x.1 (List.length x1) then bif !(decide ((List.getD x0 (Int.toNat x.1) ((0:Int),(0 :
  Int))).1=(List.getD x1 (Int.toNat x.1) ((0:Int),(0:Int))).1)&&(decide ((List.getD x0 (Int.toNat x.1) ((0:Int),(0:Int))).2=(List.getD x1 (Int.toNat x.1) ((0 :
  Int),(0:Int))).2)&&true)) then some false else again (IntKind.wrap .i64 (x.1+(1:Int)),PUnit.unit) else none else none else some true) ((0:Int),PUnit.unit)
noncomputable def slices_Equal_14 (x0:List (Int×Int)) (x1:List (Int×Int)):Option Bool:=slices_Equal_14_b lpK jnK x0 x1
noncomputable def c14:Ctr:=⟨[(.sl T36),(.sl T36)],[],[],.one .bool,fun x _ _=>slices_Equal_14 x.1 x.2.1⟩
theorem e14 (lp:Lp) (jn:Jn):∀(x:TsS c14.as) (F:TsF c14.fs) (y:TsS c14.cs),slices_Equal_14_b lp jn x.1 x.2.1=runC lp jn (ctxOf prog shs inls its [] [(116,r116),(115,r115),(114,r114),(69,r69),(119,r119)]) hints 4 14 f14 c14 x F y:=fun x F y=>by kernel_rfl
theorem l14:(ctxOf prog shs inls its [] [(116,r116),(115,r115),(114,r114),(69,r69),(119,r119)]).ok:=q116
theorem ok14:c14.ok prog 14:=Ctr.of_den l14 hmix (hl:=hints) (d:=4) func14 rfl (by decide) (e14 lpK jnK)
noncomputable def house_Order_1_b (_:Lp) (_:Jn) (x0:Int) (x1:Int) (y0:ByteArray×Int×(List (ByteArray×Int×Int×Int×Int×(List Int)×Int×Int×Int×Int×Int×(List (ByteArray×Int×Int×Int×Int×Int×Int))×List (ByteArray×Int×Int)))×List (ByteArray×Int×Int×Int)):Option Int :=
 bif inB x0 (List.length y0.2.2.1) then bif inB x1 (List.length y0.2.2.1) then some (IntKind.wrap .i64 ((List.getD y0.2.2.1 (Int.toNat x0) ({ data:={ toList:=[]
  } },(0:Int),(0:Int),(0:Int),(0:Int),[],(0:Int),(0:Int),(0:Int),(0:Int),(0:Int),[],[])).2.1 - (List.getD y0.2.2.1 (Int.toNat x1) ({ data:={
  toList:=[] } },(0:Int),(0:Int),(0:Int),(0:Int),[],(0:Int),(0:Int),(0:Int),(0:Int),(0:Int),[],[])).2.1)) else none else none
noncomputable def house_Order_1 (x0:Int) (x1:Int) (y0:ByteArray×Int×(List (ByteArray×Int×Int×Int×Int×(List Int)×Int×Int×Int×Int×Int×(List (ByteArray×Int×Int×Int×Int×Int×Int))×List (ByteArray×Int×Int)))×List (ByteArray×Int×Int×Int)):Option Int:=house_Order_1_b lpK jnK x0 x1 y0
noncomputable def c45:Ctr:=⟨[i64,i64],[],[T25],.one i64,fun x _ y=>house_Order_1 x.1 x.2.1 y.1⟩
theorem e45 (lp:Lp) (jn:Jn):∀(x:TsS c45.as) (F:TsF c45.fs) (y:TsS c45.cs),house_Order_1_b lp jn x.1 x.2.1 y.1=runC lp jn (ctxOf prog shs inls its [] [(116,r116),(115,r115),(114,r114),(69,r69),(119,r119)]) hints 4 45 f45 c45 x F y:=fun x F y=>by kernel_rfl
theorem l45:(ctxOf prog shs inls its [] [(116,r116),(115,r115),(114,r114),(69,r69),(119,r119)]).ok:=q116
theorem ok45:c45.ok prog 45:=Ctr.of_den l45 hmix (hl:=hints) (d:=4) func45 rfl (by decide) (e45 lpK jnK)
noncomputable def house_Order_b (lp:Lp) (_:Jn) (house_Valid:(ByteArray×Int×(List (ByteArray×Int×Int×Int×Int×(List Int)×Int×Int×Int×Int×Int×(List (ByteArray×Int×Int×Int×Int×Int×Int))×List (ByteArray×Int×Int)))×List (ByteArray×Int×Int×Int))→Option (Bool)) (house_Order_1:(Int)→(Int)→(ByteArray×Int×(List (ByteArray×Int×Int×Int×Int×(List Int)×Int×Int×Int×Int×Int×(List (ByteArray×Int×Int×Int×Int×Int×Int))×List (ByteArray×Int×Int)))×List (ByteArray×Int×Int×Int))→Option (Int)) (x0:ByteArray×Int×(List (ByteArray×Int×Int×Int×Int×(List Int)×Int×Int×Int×Int×Int×(List (ByteArray×Int×Int×Int×Int×Int×Int))×List (ByteArray×Int×Int)))×List (ByteArray×Int×Int×Int)):Option ((List Int)×Int×Unit) :=
 obind (house_Valid x0) fun (t:Bool)=>bif !t then some ([],(1:Int),PUnit.unit) else lp (List Int×Int×PUnit) (List Int×Int×PUnit) (fun (again:List Int×Int×PUnit→Option
  (List Int×Int×PUnit)) (x:List Int×Int×PUnit)=>bif decide (x.2.1<(↑(List.length x0.2.2.1):Int)) then bif fitB (List.length x.1+(1:Nat)) (8:Nat) then
  again (x.1++[x.2.1],IntKind.wrap .i64 (x.2.1+(1:Int)),PUnit.unit) else none else lp (Int×Int×List Int×PUnit) (List Int×Int×PUnit) (fun (again:Int ×
  Int×List Int×PUnit→Option (List Int×Int×PUnit)) (x_1:Int×Int×List Int×PUnit) =>
 let v8:Int×List Int×PUnit:=(IntKind.wrap .i64 (x_1.1+(1:Int)),x_1.2.2.1,PUnit.unit);bif decide (x_1.2.1≤(↑(List.length x.1):Int)) then lp (Int ×
  List Int×PUnit) (List Int×Int×PUnit) (fun (again_1:Int×List Int×PUnit→Option (List Int×Int×PUnit)) (x:Int×List Int×PUnit) =>
 let v11:List Int×PUnit:=(x.2.1,PUnit.unit);bif decide (x.1<x_1.2.1) then lp (Int×List Int×PUnit) (List Int×Int×PUnit) (fun (again:Int×List Int×PUnit →
  Option (List Int×Int×PUnit)) (x_2:Int×List Int×PUnit) =>
 let v14:Bool:=inB x_2.1 (List.length x_2.2.1);
 let v15:Int:=IntKind.wrap .i64 (x_2.1 - (1:Int));
 let v16:Bool:=Nat.ble (Nat.succ (Int.toNat x_2.1)) (List.length x_2.2.1);
 let v17:Int:=List.getD x_2.2.1 (Int.toNat x_2.1) (0:Int);
 let v18:Bool:=inB v15 (List.length x_2.2.1);
 let v19:Bool:=decide (x_2.1>x_1.1);
 let v20:Bool:=Nat.ble (Nat.succ (Int.toNat v15)) (List.length x_2.2.1);
 let v21:Bool:=!v19;
 let v22:Int:=List.getD x_2.2.1 (Int.toNat v15) (0:Int);
 let v23:Bool:=v21||v19;bif v23&&(v23&&(v21||v14)) then bif v23&&(v21||v16) then bif v23 then bif v23&&(v23&&(v21||v18)) then bif v23&&(v21||v20) then bif v23 &&
  (v23&&v23) then obind (bif v19 then house_Order_1 v17 v22 x0 else some (0:Int)) fun (t:Int)=>bif v23 then bif v23 then bif bif v19 then decide (t<(0:Int)) else false then
  bif v18 then bif v20 then bif v14 then bif v16 then bif v14 then bif v16 then bif v18 then bif v20 then again (v15,List.set (List.set x_2.2.1 (Int.toNat x_2.1) v22) (Int.toNat
  v15) v17,PUnit.unit) else none else none else none else none else none else none else none else none else again_1 (IntKind.wrap .i64 (x.1+(1:Int)),x_2.2.1,
  PUnit.unit) else none else none else none else none else none else none else none else none) (x.1,v11) else again (x_1.2.1,IntKind.wrap .i64 (x_1.2.1+(20:Int)),
  v11)) v8 else lp (Int×List Int×PUnit) (List Int×Int×PUnit) (fun (again:Int×List Int×PUnit→Option (List Int×Int×PUnit)) (x_2:Int×List Int×PUnit)=>bif decide
  (x_2.1<(↑(List.length x.1):Int)) then lp (Int×List Int×PUnit) (List Int×Int×PUnit) (fun (again_1:Int×List Int×PUnit→Option (List Int×Int×PUnit)) (x:Int ×
  List Int×PUnit) =>
 let v13:Bool:=inB x.1 (List.length x.2.1);
 let v14:Int:=IntKind.wrap .i64 (x.1 - (1:Int));
 let v15:Bool:=Nat.ble (Nat.succ (Int.toNat x.1)) (List.length x.2.1);
 let v16:Int:=List.getD x.2.1 (Int.toNat x.1) (0:Int);
 let v17:Bool:=inB v14 (List.length x.2.1);
 let v18:Bool:=decide (x.1>x_1.1);
 let v19:Bool:=Nat.ble (Nat.succ (Int.toNat v14)) (List.length x.2.1);
 let v20:Bool:=!v18;
 let v21:Int:=List.getD x.2.1 (Int.toNat v14) (0:Int);
 let v22:Bool:=v20||v18;bif v22&&(v22&&(v20||v13)) then bif v22&&(v20||v15) then bif v22 then bif v22&&(v22&&(v20||v17)) then bif v22&&(v20||v19) then bif v22 &&
  (v22&&v22) then obind (bif v18 then house_Order_1 v16 v21 x0 else some (0:Int)) fun (t:Int)=>bif v22 then bif v22 then bif bif v18 then decide (t<(0:Int)) else false then
  bif v17 then bif v19 then bif v13 then bif v15 then bif v13 then bif v15 then bif v17 then bif v19 then again_1 (v14,List.set (List.set x.2.1 (Int.toNat x.1) v21) (Int.toNat v14)
  v16,PUnit.unit) else none else none else none else none else none else none else none else none else again (IntKind.wrap .i64 (x_2.1+(1:Int)),x.2.1,PUnit.unit) else
  none else none else none else none else none else none else none else none) (x_2.1,x_2.2.1,PUnit.unit) else lp (Int×PUnit) (List Int×Int×PUnit) (fun (again:Int×PUnit →
  Option (List Int×Int×PUnit)) (x_3:Int×PUnit)=>bif decide (x_3.1<(↑(List.length x.1):Int)) then lp (Int×Int×PUnit) (List Int×Int×PUnit) (fun (again_1:Int ×
  Int×PUnit→Option (List Int×Int×PUnit)) (x_4:Int×Int×PUnit)=>bif decide (x_4.2.1≤(↑(List.length x.1):Int)) then none else bif decide (IntKind.wrap .i64
  (x_4.1+x_3.1)<(↑(List.length x.1):Int)) then none else again (IntKind.wrap .i64 (x_3.1*(2:Int)),PUnit.unit)) ((0:Int),IntKind.wrap .i64 ((2:Int) *
  x_3.1),PUnit.unit) else some (x_2.2.1,(0:Int),PUnit.unit)) ((20:Int),PUnit.unit)) v8) ((0:Int),(20:Int),x.1,PUnit.unit)) ([],(0:Int),PUnit.unit)
noncomputable def house_Order (x0:ByteArray×Int×(List (ByteArray×Int×Int×Int×Int×(List Int)×Int×Int×Int×Int×Int×(List (ByteArray×Int×Int×Int×Int×Int×Int))×List (ByteArray×Int×Int)))×List (ByteArray×Int×Int×Int)):Option ((List Int)×Int×Unit):=house_Order_b lpK jnK house_Valid house_Order_1 x0
noncomputable def c16:Ctr:=⟨[T25],[],[],.tup [(.sl i64),i64],fun x _ _=>house_Order x.1⟩
theorem e16 (lp:Lp) (jn:Jn) (house_Valid:(ByteArray×Int×(List (ByteArray×Int×Int×Int×Int×(List Int)×Int×Int×Int×Int×Int×(List (ByteArray×Int×Int×Int×Int×Int×Int))×List (ByteArray×Int×Int)))×List (ByteArray×Int×Int×Int))→Option (Bool)) (house_Order_1:(Int)→(Int)→(ByteArray×Int×(List (ByteArray×Int×Int×Int×Int×(List Int)×Int×Int×Int×Int×Int×(List (ByteArray×Int×Int×Int×Int×Int×Int))×List (ByteArray×Int×Int)))×List (ByteArray×Int×Int×Int))→Option (Int)):∀(x:TsS c16.as) (F:TsF c16.fs) (y:TsS c16.cs),house_Order_b lp jn house_Valid house_Order_1 x.1=runC lp jn (ctxOf prog shs inls its [(45,⟨[i64,i64],[],[T25],.one i64,fun x _ y=>house_Order_1 x.1 x.2.1 y.1⟩),(32,⟨[T25],[],[],.one .bool,fun x _ _=>house_Valid x.1⟩)] [(116,r116),(115,r115),(114,r114),(69,r69),(119,r119)]) hints 4 16 f16 c16 x F y:=fun x F y=>by kernel_rfl
theorem l16:(ctxOf prog shs inls its [(45,c45),(32,c32)] [(116,r116),(115,r115),(114,r114),(69,r69),(119,r119)]).ok:=ctxOf_cons (ctxOf_cons (q116) (by kernel_rfl) ok32) (by kernel_rfl) ok45
theorem ok16:c16.ok prog 16:=Ctr.of_den l16 hmix (hl:=hints) (d:=4) func16 rfl (by decide) (e16 lpK jnK house_Valid house_Order_1)
noncomputable def slices_Index_46_b (lp:Lp) (_:Jn) (x0:List Int) (x1:Int):Option Int :=
 lp (Int×PUnit) Int (fun (again:Int×PUnit→Option Int) (x:Int×PUnit)=>bif decide (x.1<(↑(List.length x0):Int)) then bif inB x.1 (List.length x0) then bif decide (x1 =
  List.getD x0 (Int.toNat x.1) (0:Int)) then some x.1 else again (IntKind.wrap .i64 (x.1+(1:Int)),PUnit.unit) else none else some (-1:Int)) ((0:Int),PUnit.unit)
noncomputable def slices_Index_46 (x0:List Int) (x1:Int):Option Int:=slices_Index_46_b lpK jnK x0 x1
noncomputable def c46:Ctr:=⟨[(.sl i64),i64],[],[],.one i64,fun x _ _=>slices_Index_46 x.1 x.2.1⟩
theorem e46 (lp:Lp) (jn:Jn):∀(x:TsS c46.as) (F:TsF c46.fs) (y:TsS c46.cs),slices_Index_46_b lp jn x.1 x.2.1=runC lp jn (ctxOf prog shs inls its [] [(116,r116),(115,r115),(114,r114),(69,r69),(119,r119)]) hints 4 46 f46 c46 x F y:=fun x F y=>by kernel_rfl
theorem l46:(ctxOf prog shs inls its [] [(116,r116),(115,r115),(114,r114),(69,r69),(119,r119)]).ok:=q116
theorem ok46:c46.ok prog 46:=Ctr.of_den l46 hmix (hl:=hints) (d:=4) func46 rfl (by decide) (e46 lpK jnK)
noncomputable def house_back_b (lp:Lp) (_:Jn) (x0:ByteArray×Int×Int×Int×Int×(List Int)×Int×Int×Int×Int×Int×(List (ByteArray×Int×Int×Int×Int×Int×Int))×List (ByteArray×Int×Int)):Option Int :=
 lp (Int×Int×PUnit) Int (fun (again:Int×Int×PUnit→Option Int) (x:Int×Int×PUnit)=>bif decide (x.2.1<(↑(List.length
  x0.2.2.2.2.2.2.2.2.2.2.2.1):Int)) then bif inB x.2.1 (List.length x0.2.2.2.2.2.2.2.2.2.2.2.1) then again (if (List.getD
  x0.2.2.2.2.2.2.2.2.2.2.2.1 (Int.toNat x.2.1) ({ data:={ toList:=[] } },(0:Int),(0:Int),(0:Int),(0:Int),(0:Int),(0 :
  Int))).2.2.2.2.2.2>x.1 then (List.getD x0.2.2.2.2.2.2.2.2.2.2.2.1 (Int.toNat x.2.1) ({ data:={ toList:=[] } },(0:Int),(0:Int),(0 :
  Int),(0:Int),(0:Int),(0:Int))).2.2.2.2.2.2 else x.1,IntKind.wrap .i64 (x.2.1+(1:Int)),PUnit.unit) else none else some (IntKind.wrap .i64
  (x0.2.1 - x.1))) ((0:Int),(0:Int),PUnit.unit)
noncomputable def house_back (x0:ByteArray×Int×Int×Int×Int×(List Int)×Int×Int×Int×Int×Int×(List (ByteArray×Int×Int×Int×Int×Int×Int))×List (ByteArray×Int×Int)):Option Int:=house_back_b lpK jnK x0
noncomputable def c48:Ctr:=⟨[T44],[],[],.one i64,fun x _ _=>house_back x.1⟩
theorem e48 (lp:Lp) (jn:Jn):∀(x:TsS c48.as) (F:TsF c48.fs) (y:TsS c48.cs),house_back_b lp jn x.1=runC lp jn (ctxOf prog shs inls its [] [(116,r116),(115,r115),(114,r114),(69,r69),(119,r119)]) hints 4 48 f48 c48 x F y:=fun x F y=>by kernel_rfl
theorem l48:(ctxOf prog shs inls its [] [(116,r116),(115,r115),(114,r114),(69,r69),(119,r119)]).ok:=q116
theorem ok48:c48.ok prog 48:=Ctr.of_den l48 hmix (hl:=hints) (d:=4) func48 rfl (by decide) (e48 lpK jnK)
noncomputable def house_front_b (lp:Lp) (_:Jn) (x0:ByteArray×Int×Int×Int×Int×(List Int)×Int×Int×Int×Int×Int×(List (ByteArray×Int×Int×Int×Int×Int×Int))×List (ByteArray×Int×Int)):Option Int :=
 lp (Int×Int×PUnit) Int (fun (again:Int×Int×PUnit→Option Int) (x:Int×Int×PUnit)=>bif decide (x.2.1<(↑(List.length
  x0.2.2.2.2.2.2.2.2.2.2.2.1):Int)) then bif inB x.2.1 (List.length x0.2.2.2.2.2.2.2.2.2.2.2.1) then again (if (List.getD
  x0.2.2.2.2.2.2.2.2.2.2.2.1 (Int.toNat x.2.1) ({ data:={ toList:=[] } },(0:Int),(0:Int),(0:Int),(0:Int),(0:Int),(0 :
  Int))).2.2.2.2.2.1>x.1 then (List.getD x0.2.2.2.2.2.2.2.2.2.2.2.1 (Int.toNat x.2.1) ({ data:={ toList:=[] } },(0:Int),(0:Int),(0 :
  Int),(0:Int),(0:Int),(0:Int))).2.2.2.2.2.1 else x.1,IntKind.wrap .i64 (x.2.1+(1:Int)),PUnit.unit) else none else some (IntKind.wrap .i64
  (x0.2.1+x.1))) ((0:Int),(0:Int),PUnit.unit)
noncomputable def house_front (x0:ByteArray×Int×Int×Int×Int×(List Int)×Int×Int×Int×Int×Int×(List (ByteArray×Int×Int×Int×Int×Int×Int))×List (ByteArray×Int×Int)):Option Int:=house_front_b lpK jnK x0
noncomputable def c49:Ctr:=⟨[T44],[],[],.one i64,fun x _ _=>house_front x.1⟩
theorem e49 (lp:Lp) (jn:Jn):∀(x:TsS c49.as) (F:TsF c49.fs) (y:TsS c49.cs),house_front_b lp jn x.1=runC lp jn (ctxOf prog shs inls its [] [(116,r116),(115,r115),(114,r114),(69,r69),(119,r119)]) hints 4 49 f49 c49 x F y:=fun x F y=>by kernel_rfl
theorem l49:(ctxOf prog shs inls its [] [(116,r116),(115,r115),(114,r114),(69,r69),(119,r119)]).ok:=q116
theorem ok49:c49.ok prog 49:=Ctr.of_den l49 hmix (hl:=hints) (d:=4) func49 rfl (by decide) (e49 lpK jnK)
noncomputable def house_Gap_b (_:Lp) (_:Jn) (house_find:(ByteArray×Int×(List (ByteArray×Int×Int×Int×Int×(List Int)×Int×Int×Int×Int×Int×(List (ByteArray×Int×Int×Int×Int×Int×Int))×List (ByteArray×Int×Int)))×List (ByteArray×Int×Int×Int))→(ByteArray)→Option (Int)) (house_Order:(ByteArray×Int×(List (ByteArray×Int×Int×Int×Int×(List Int)×Int×Int×Int×Int×Int×(List (ByteArray×Int×Int×Int×Int×Int×Int))×List (ByteArray×Int×Int)))×List (ByteArray×Int×Int×Int))→Option ((List Int)×Int×Unit)) (slices_Index_46:(List Int)→(Int)→Option (Int)) (house_back:(ByteArray×Int×Int×Int×Int×(List Int)×Int×Int×Int×Int×Int×(List (ByteArray×Int×Int×Int×Int×Int×Int))×List (ByteArray×Int×Int))→Option (Int)) (house_front:(ByteArray×Int×Int×Int×Int×(List Int)×Int×Int×Int×Int×Int×(List (ByteArray×Int×Int×Int×Int×Int×Int))×List (ByteArray×Int×Int))→Option (Int)) (x0:ByteArray×Int×(List (ByteArray×Int×Int×Int×Int×(List Int)×Int×Int×Int×Int×Int×(List (ByteArray×Int×Int×Int×Int×Int×Int))×List (ByteArray×Int×Int)))×List (ByteArray×Int×Int×Int)) (x1:ByteArray) (x2:ByteArray):Option (Int×Int×Unit) :=
 obind (house_Order x0) fun (t:List Int×Int×PUnit)=>bif !decide (t.2.1=(0:Int)) then some ((0:Int),t.2.1,PUnit.unit) else obind (house_find x0 x1) fun (t_1:Int) =>
 let v7:Bool:=decide (t_1<(0:Int));
 let v8:Bool:=!v7;
 let v9:ByteArray×Int×Int×Int×Int×List Int×Int×Int×Int×Int×Int×List (ByteArray×Int×Int×Int×Int×Int×Int)×List (ByteArray×Int×Int):=List.getD
  x0.2.2.1 (Int.toNat t_1) ({ data:={ toList:=[] } },(0:Int),(0:Int),(0:Int),(0:Int),[],(0:Int),(0:Int),(0:Int),(0:Int),(0:Int),[],[]);obind
  (house_find x0 x2) fun (t_2:Int) =>
 let v11:ByteArray×Int×Int×Int×Int×List Int×Int×Int×Int×Int×Int×List (ByteArray×Int×Int×Int×Int×Int×Int)×List (ByteArray×Int×Int):=List.getD
  x0.2.2.1 (Int.toNat t_2) ({ data:={ toList:=[] } },(0:Int),(0:Int),(0:Int),(0:Int),[],(0:Int),(0:Int),(0:Int),(0:Int),(0:Int),[],[]);bif !v8 ||
  v8 then bif v7||v8 then bif bif v7 then true else decide (t_2<(0:Int)) then some ((0:Int),(9:Int),PUnit.unit) else bif decide (t_1=t_2) then some ((0:Int),(10:Int),
  PUnit.unit) else bif inB t_1 (List.length x0.2.2.1) then bif inB t_2 (List.length x0.2.2.1) then obind (slices_Index_46 t.1 t_1) fun (t_3:Int)=>obind (slices_Index_46
  t.1 t_2) fun (t:Int)=>bif decide (t_3>t) then obind (house_back v9) fun (t:Int)=>obind (house_front v11) fun (t_4:Int)=>some (IntKind.wrap .i64 (t - t_4),(0 :
  Int),PUnit.unit) else obind (house_back v11) fun (t:Int)=>obind (house_front v9) fun (t_4:Int)=>some (IntKind.wrap .i64 (t - t_4),(0:Int),PUnit.unit) else none else
  none else none else none
noncomputable def house_Gap (x0:ByteArray×Int×(List (ByteArray×Int×Int×Int×Int×(List Int)×Int×Int×Int×Int×Int×(List (ByteArray×Int×Int×Int×Int×Int×Int))×List (ByteArray×Int×Int)))×List (ByteArray×Int×Int×Int)) (x1:ByteArray) (x2:ByteArray):Option (Int×Int×Unit):=house_Gap_b lpK jnK house_find house_Order slices_Index_46 house_back house_front x0 x1 x2
noncomputable def c18:Ctr:=⟨[T25,.str,.str],[],[],.tup [i64,i64],fun x _ _=>house_Gap x.1 x.2.1 x.2.2.1⟩
theorem e18 (lp:Lp) (jn:Jn) (house_find:(ByteArray×Int×(List (ByteArray×Int×Int×Int×Int×(List Int)×Int×Int×Int×Int×Int×(List (ByteArray×Int×Int×Int×Int×Int×Int))×List (ByteArray×Int×Int)))×List (ByteArray×Int×Int×Int))→(ByteArray)→Option (Int)) (house_Order:(ByteArray×Int×(List (ByteArray×Int×Int×Int×Int×(List Int)×Int×Int×Int×Int×Int×(List (ByteArray×Int×Int×Int×Int×Int×Int))×List (ByteArray×Int×Int)))×List (ByteArray×Int×Int×Int))→Option ((List Int)×Int×Unit)) (slices_Index_46:(List Int)→(Int)→Option (Int)) (house_back:(ByteArray×Int×Int×Int×Int×(List Int)×Int×Int×Int×Int×Int×(List (ByteArray×Int×Int×Int×Int×Int×Int))×List (ByteArray×Int×Int))→Option (Int)) (house_front:(ByteArray×Int×Int×Int×Int×(List Int)×Int×Int×Int×Int×Int×(List (ByteArray×Int×Int×Int×Int×Int×Int))×List (ByteArray×Int×Int))→Option (Int)):∀(x:TsS c18.as) (F:TsF c18.fs) (y:TsS c18.cs),house_Gap_b lp jn house_find house_Order slices_Index_46 house_back house_front x.1 x.2.1 x.2.2.1=runC lp jn (ctxOf prog shs inls its [(49,⟨[T44],[],[],.one i64,fun x _ _=>house_front x.1⟩),(48,⟨[T44],[],[],.one i64,fun x _ _=>house_back x.1⟩),(46,⟨[(.sl i64),i64],[],[],.one i64,fun x _ _=>slices_Index_46 x.1 x.2.1⟩),(16,⟨[T25],[],[],.tup [(.sl i64),i64],fun x _ _=>house_Order x.1⟩),(47,⟨[T25,.str],[],[],.one i64,fun x _ _=>house_find x.1 x.2.1⟩)] [(116,r116),(115,r115),(114,r114),(69,r69),(119,r119)]) hints 4 18 f18 c18 x F y:=fun x F y=>by kernel_rfl
theorem l18:(ctxOf prog shs inls its [(49,c49),(48,c48),(46,c46),(16,c16),(47,c47)] [(116,r116),(115,r115),(114,r114),(69,r69),(119,r119)]).ok:=ctxOf_cons (ctxOf_cons (ctxOf_cons (ctxOf_cons (ctxOf_cons (q116) (by kernel_rfl) ok47) (by kernel_rfl) ok16) (by kernel_rfl) ok46) (by kernel_rfl) ok48) (by kernel_rfl) ok49
theorem ok18:c18.ok prog 18:=Ctr.of_den l18 hmix (hl:=hints) (d:=4) func18 rfl (by decide) (e18 lpK jnK house_find house_Order slices_Index_46 house_back house_front)
noncomputable def slices_Equal_26_b (lp:Lp) (_:Jn) (x0:List Int) (x1:List Int):Option Bool :=
 bif !decide ((↑(List.length x0):Int)=(↑(List.length x1):Int)) then some false else lp (Int×PUnit) Bool (fun (again:Int×PUnit→Option Bool) (x:Int×PUnit)=>bif decide
  (x.1<(↑(List.length x0):Int)) then bif inB x.1 (List.length x0) then bif inB x.1 (List.length x1) then bif !decide (List.getD x0 (Int.toNat x.1) (0:Int)=List.getD x1
  (Int.toNat x.1) (0:Int)) then some false else again (IntKind.wrap .i64 (x.1+(1:Int)),PUnit.unit) else none else none else some true) ((0:Int),PUnit.unit)
noncomputable def slices_Equal_26 (x0:List Int) (x1:List Int):Option Bool:=slices_Equal_26_b lpK jnK x0 x1
noncomputable def c26:Ctr:=⟨[(.sl i64),(.sl i64)],[],[],.one .bool,fun x _ _=>slices_Equal_26 x.1 x.2.1⟩
theorem e26 (lp:Lp) (jn:Jn):∀(x:TsS c26.as) (F:TsF c26.fs) (y:TsS c26.cs),slices_Equal_26_b lp jn x.1 x.2.1=runC lp jn (ctxOf prog shs inls its [] [(116,r116),(115,r115),(114,r114),(69,r69),(119,r119)]) hints 4 26 f26 c26 x F y:=fun x F y=>by kernel_rfl
theorem l26:(ctxOf prog shs inls its [] [(116,r116),(115,r115),(114,r114),(69,r69),(119,r119)]).ok:=q116
theorem ok26:c26.ok prog 26:=Ctr.of_den l26 hmix (hl:=hints) (d:=4) func26 rfl (by decide) (e26 lpK jnK)
noncomputable def law30_example_1_b (_:Lp) (_:Jn) (x0:ByteArray) (x1:Int) (x2:Int) (x3:Int):Option (ByteArray×Int×Int×Int×Int×(List Int)×Int×Int×Int×Int×Int×(List (ByteArray×Int×Int×Int×Int×Int×Int))×List (ByteArray×Int×Int)) :=
 some (x0,x1,(0:Int),(5000:Int),(2000:Int),[(0:Int),(2000:Int)],(0:Int),(0:Int),(1:Int),(1:Int),(0:Int),[({ data:=#[(100:UInt8),(114:UInt8),(111 :
  UInt8),(112:UInt8)] },(0:Int),(2000:Int),(700:Int),(0:Int),x2,x3)],[])
noncomputable def law30_example_1 (x0:ByteArray) (x1:Int) (x2:Int) (x3:Int):Option (ByteArray×Int×Int×Int×Int×(List Int)×Int×Int×Int×Int×Int×(List (ByteArray×Int×Int×Int×Int×Int×Int))×List (ByteArray×Int×Int)):=law30_example_1_b lpK jnK x0 x1 x2 x3
noncomputable def c71:Ctr:=⟨[.str,i64,i64,i64],[],[],.one T44,fun x _ _=>law30_example_1 x.1 x.2.1 x.2.2.1 x.2.2.2.1⟩
theorem e71 (lp:Lp) (jn:Jn):∀(x:TsS c71.as) (F:TsF c71.fs) (y:TsS c71.cs),law30_example_1_b lp jn x.1 x.2.1 x.2.2.1 x.2.2.2.1=runC lp jn (ctxOf prog shs inls its [] [(116,r116),(115,r115),(114,r114),(69,r69),(119,r119)]) hints 4 71 f71 c71 x F y:=fun x F y=>by kernel_rfl
theorem l71:(ctxOf prog shs inls its [] [(116,r116),(115,r115),(114,r114),(69,r69),(119,r119)]).ok:=q116
theorem ok71:c71.ok prog 71:=Ctr.of_den l71 hmix (hl:=hints) (d:=4) func71 rfl (by decide) (e71 lpK jnK)
noncomputable def law30_example_b (_:Lp) (_:Jn) (law30_example_1:(ByteArray)→(Int)→(Int)→(Int)→Option (ByteArray×Int×Int×Int×Int×(List Int)×Int×Int×Int×Int×Int×(List (ByteArray×Int×Int×Int×Int×Int×Int))×List (ByteArray×Int×Int))):Option (ByteArray×Int×(List (ByteArray×Int×Int×Int×Int×(List Int)×Int×Int×Int×Int×Int×(List (ByteArray×Int×Int×Int×Int×Int×Int))×List (ByteArray×Int×Int)))×List (ByteArray×Int×Int×Int)) :=
 obind (law30_example_1 { data:={ toList:=[{ toBitVec:={ toFin:=⟨(102:Nat),Nat.mod_lt (102:Nat) (BitVec.ofNat._proof_1 (8:Nat))⟩ } },{ toBitVec:={ toFin:=⟨(97:Nat),
  Nat.mod_lt (97:Nat) (BitVec.ofNat._proof_1 (8:Nat))⟩ } },{ toBitVec:={ toFin:=⟨(114:Nat),Nat.mod_lt (114:Nat) (BitVec.ofNat._proof_1 (8:Nat))⟩ } }] } } (500:Int) (0 :
  Int) (60:Int)) fun (t:ByteArray×Int×Int×Int×Int×List Int×Int×Int×Int×Int×Int×List (ByteArray×Int×Int×Int×Int×Int×Int)×List (ByteArray×Int ×
  Int))=>obind (law30_example_1 { data:={ toList:=[{ toBitVec:={ toFin:=⟨(110:Nat),Nat.mod_lt (110:Nat) (BitVec.ofNat._proof_1 (8:Nat))⟩ } },{ toBitVec:={ toFin :=
  ⟨(101:Nat),Nat.mod_lt (101:Nat) (BitVec.ofNat._proof_1 (8:Nat))⟩ } },{ toBitVec:={ toFin:=⟨(97:Nat),Nat.mod_lt (97:Nat) (BitVec.ofNat._proof_1 (8:Nat))⟩ } },{
  toBitVec:={ toFin:=⟨(114:Nat),Nat.mod_lt (114:Nat) (BitVec.ofNat._proof_1 (8:Nat))⟩ } }] } } (300:Int) (40:Int) (0:Int)) fun (t_1:ByteArray×Int×Int×Int×Int ×
  List Int×Int×Int×Int×Int×Int×List (ByteArray×Int×Int×Int×Int×Int×Int)×List (ByteArray×Int×Int))=>some ({ data:=#[(104:UInt8)] },(5000:Int),[t,
  t_1],[({ data:=#[(114:UInt8)] },(0:Int),(400:Int),(1:Int)),({ data:=#[(113:UInt8)] },(0:Int),(1000:Int),(1:Int))])
noncomputable def law30_example:Option (ByteArray×Int×(List (ByteArray×Int×Int×Int×Int×(List Int)×Int×Int×Int×Int×Int×(List (ByteArray×Int×Int×Int×Int×Int×Int))×List (ByteArray×Int×Int)))×List (ByteArray×Int×Int×Int)):=law30_example_b lpK jnK law30_example_1
noncomputable def c39:Ctr:=⟨[],[],[],.one T25,fun _ _ _=>law30_example⟩
theorem e39 (lp:Lp) (jn:Jn) (law30_example_1:(ByteArray)→(Int)→(Int)→(Int)→Option (ByteArray×Int×Int×Int×Int×(List Int)×Int×Int×Int×Int×Int×(List (ByteArray×Int×Int×Int×Int×Int×Int))×List (ByteArray×Int×Int))):∀(x:TsS c39.as) (F:TsF c39.fs) (y:TsS c39.cs),law30_example_b lp jn law30_example_1=runC lp jn (ctxOf prog shs inls its [(71,⟨[.str,i64,i64,i64],[],[],.one T44,fun x _ _=>law30_example_1 x.1 x.2.1 x.2.2.1 x.2.2.2.1⟩)] [(116,r116),(115,r115),(114,r114),(69,r69),(119,r119)]) hints 4 39 f39 c39 x F y:=fun x F y=>by kernel_rfl
theorem l39:(ctxOf prog shs inls its [(71,c71)] [(116,r116),(115,r115),(114,r114),(69,r69),(119,r119)]).ok:=ctxOf_cons (q116) (by kernel_rfl) ok71
theorem ok39:c39.ok prog 39:=Ctr.of_den l39 hmix (hl:=hints) (d:=4) func39 rfl (by decide) (e39 lpK jnK law30_example_1)
noncomputable def law30_awake_b (_:Lp) (_:Jn) (house_Valid:(ByteArray×Int×(List (ByteArray×Int×Int×Int×Int×(List Int)×Int×Int×Int×Int×Int×(List (ByteArray×Int×Int×Int×Int×Int×Int))×List (ByteArray×Int×Int)))×List (ByteArray×Int×Int×Int))→Option (Bool)) (house_Loads:(ByteArray×Int×(List (ByteArray×Int×Int×Int×Int×(List Int)×Int×Int×Int×Int×Int×(List (ByteArray×Int×Int×Int×Int×Int×Int))×List (ByteArray×Int×Int)))×List (ByteArray×Int×Int×Int))→Option ((List (Int×Int))×Int×Unit)) (slices_Equal_14:(List (Int×Int))→(List (Int×Int))→Option (Bool)) (house_Order:(ByteArray×Int×(List (ByteArray×Int×Int×Int×Int×(List Int)×Int×Int×Int×Int×Int×(List (ByteArray×Int×Int×Int×Int×Int×Int))×List (ByteArray×Int×Int)))×List (ByteArray×Int×Int×Int))→Option ((List Int)×Int×Unit)) (house_Gap:(ByteArray×Int×(List (ByteArray×Int×Int×Int×Int×(List Int)×Int×Int×Int×Int×Int×(List (ByteArray×Int×Int×Int×Int×Int×Int))×List (ByteArray×Int×Int)))×List (ByteArray×Int×Int×Int))→(ByteArray)→(ByteArray)→Option (Int×Int×Unit)) (slices_Equal_26:(List Int)→(List Int)→Option (Bool)) (law30_example:Option (ByteArray×Int×(List (ByteArray×Int×Int×Int×Int×(List Int)×Int×Int×Int×Int×Int×(List (ByteArray×Int×Int×Int×Int×Int×Int))×List (ByteArray×Int×Int)))×List (ByteArray×Int×Int×Int))):Option Bool :=
 obind law30_example fun (t:ByteArray×Int×List (ByteArray×Int×Int×Int×Int×List Int×Int×Int×Int×Int×Int×List (ByteArray×Int×Int×Int×Int×Int×Int)×List
  (ByteArray×Int×Int))×List (ByteArray×Int×Int×Int))=>obind (house_Gap t { data:={ toList:=[{ toBitVec:={ toFin:=⟨(110:Nat),Nat.mod_lt (110:Nat)
  (BitVec.ofNat._proof_1 (8:Nat))⟩ } },{ toBitVec:={ toFin:=⟨(101:Nat),Nat.mod_lt (101:Nat) (BitVec.ofNat._proof_1 (8:Nat))⟩ } },{ toBitVec:={ toFin:=⟨(97:Nat),
  Nat.mod_lt (97:Nat) (BitVec.ofNat._proof_1 (8:Nat))⟩ } },{ toBitVec:={ toFin:=⟨(114:Nat),Nat.mod_lt (114:Nat) (BitVec.ofNat._proof_1 (8:Nat))⟩ } }] } } { data:={
  toList:=[{ toBitVec:={ toFin:=⟨(102:Nat),Nat.mod_lt (102:Nat) (BitVec.ofNat._proof_1 (8:Nat))⟩ } },{ toBitVec:={ toFin:=⟨(97:Nat),Nat.mod_lt (97:Nat)
  (BitVec.ofNat._proof_1 (8:Nat))⟩ } },{ toBitVec:={ toFin:=⟨(114:Nat),Nat.mod_lt (114:Nat) (BitVec.ofNat._proof_1 (8:Nat))⟩ } }] } }) fun (t:Int×Int×PUnit) =>
 let v4:Bool:=decide (t.1=(100:Int));
 let v5:Bool:=decide (t.2.1=(0:Int));obind law30_example fun (t:ByteArray×Int×List (ByteArray×Int×Int×Int×Int×List Int×Int×Int×Int×Int×Int×List
  (ByteArray×Int×Int×Int×Int×Int×Int)×List (ByteArray×Int×Int))×List (ByteArray×Int×Int×Int))=>obind (house_Order t) fun (t:List Int×Int×PUnit) =>
 let v8:Bool:=decide (t.2.1=(0:Int));obind law30_example fun (t_1:ByteArray×Int×List (ByteArray×Int×Int×Int×Int×List Int×Int×Int×Int×Int×Int×List
  (ByteArray×Int×Int×Int×Int×Int×Int)×List (ByteArray×Int×Int))×List (ByteArray×Int×Int×Int))=>obind (house_Loads t_1) fun (t_2:List (Int×Int)×Int ×
  PUnit) =>
 let v11:Bool:=decide (t_2.2.1=(0:Int));obind law30_example fun (t_3:ByteArray×Int×List (ByteArray×Int×Int×Int×Int×List Int×Int×Int×Int×Int×Int ×
  List (ByteArray×Int×Int×Int×Int×Int×Int)×List (ByteArray×Int×Int))×List (ByteArray×Int×Int×Int))=>obind (house_Valid t_3) fun (t_4:Bool) =>
 let v14:Bool:=!t_4||t_4;
 let v15:Bool:=bif t_4 then v5 else false;
 let v16:Bool:=bif v15 then v4 else false;
 let v17:Bool:=!v15||v15;
 let v18:Bool:=bif v16 then v8 else false;
 let v19:Bool:=!v16||v16;
 let v20:Bool:=!v18||v18;bif v14 then bif v14 then bif v17 then bif v17 then bif v19 then bif v19 then bif v20&&v20 then obind (bif v18 then slices_Equal_26 t.1 [(1:Int),(0 :
  Int)] else some false) fun (t:Bool) =>
 let v22:Bool:=bif v18 then t else false;
 let v23:Bool:=bif v22 then v11 else false;
 let v24:Bool:=!v22||v22;
 let v25:Bool:=!v23||v23;
 let v26:Bool:=v25&&v25;bif v20 then bif v24 then bif v24 then bif v26 then bif v26 then obind (bif v23 then slices_Equal_14 t_2.1 [((350:Int),(1:Int)),((1050:Int),(1 :
  Int))] else some false) fun (t:Bool)=>bif v25 then some (bif v23 then t else false) else none else none else none else none else none else none else none else none else none else
  none else none else none else none
noncomputable def law30_awake:Option Bool:=law30_awake_b lpK jnK house_Valid house_Loads slices_Equal_14 house_Order house_Gap slices_Equal_26 law30_example
noncomputable def c10:Ctr:=⟨[],[],[],.one .bool,fun _ _ _=>law30_awake⟩
theorem e10 (lp:Lp) (jn:Jn) (house_Valid:(ByteArray×Int×(List (ByteArray×Int×Int×Int×Int×(List Int)×Int×Int×Int×Int×Int×(List (ByteArray×Int×Int×Int×Int×Int×Int))×List (ByteArray×Int×Int)))×List (ByteArray×Int×Int×Int))→Option (Bool)) (house_Loads:(ByteArray×Int×(List (ByteArray×Int×Int×Int×Int×(List Int)×Int×Int×Int×Int×Int×(List (ByteArray×Int×Int×Int×Int×Int×Int))×List (ByteArray×Int×Int)))×List (ByteArray×Int×Int×Int))→Option ((List (Int×Int))×Int×Unit)) (slices_Equal_14:(List (Int×Int))→(List (Int×Int))→Option (Bool)) (house_Order:(ByteArray×Int×(List (ByteArray×Int×Int×Int×Int×(List Int)×Int×Int×Int×Int×Int×(List (ByteArray×Int×Int×Int×Int×Int×Int))×List (ByteArray×Int×Int)))×List (ByteArray×Int×Int×Int))→Option ((List Int)×Int×Unit)) (house_Gap:(ByteArray×Int×(List (ByteArray×Int×Int×Int×Int×(List Int)×Int×Int×Int×Int×Int×(List (ByteArray×Int×Int×Int×Int×Int×Int))×List (ByteArray×Int×Int)))×List (ByteArray×Int×Int×Int))→(ByteArray)→(ByteArray)→Option (Int×Int×Unit)) (slices_Equal_26:(List Int)→(List Int)→Option (Bool)) (law30_example:Option (ByteArray×Int×(List (ByteArray×Int×Int×Int×Int×(List Int)×Int×Int×Int×Int×Int×(List (ByteArray×Int×Int×Int×Int×Int×Int))×List (ByteArray×Int×Int)))×List (ByteArray×Int×Int×Int))):∀(x:TsS c10.as) (F:TsF c10.fs) (y:TsS c10.cs),law30_awake_b lp jn house_Valid house_Loads slices_Equal_14 house_Order house_Gap slices_Equal_26 law30_example=runC lp jn (ctxOf prog shs inls its [(39,⟨[],[],[],.one T25,fun _ _ _=>law30_example⟩),(26,⟨[(.sl i64),(.sl i64)],[],[],.one .bool,fun x _ _=>slices_Equal_26 x.1 x.2.1⟩),(18,⟨[T25,.str,.str],[],[],.tup [i64,i64],fun x _ _=>house_Gap x.1 x.2.1 x.2.2.1⟩),(16,⟨[T25],[],[],.tup [(.sl i64),i64],fun x _ _=>house_Order x.1⟩),(14,⟨[(.sl T36),(.sl T36)],[],[],.one .bool,fun x _ _=>slices_Equal_14 x.1 x.2.1⟩),(12,⟨[T25],[],[],.tup [(.sl T36),i64],fun x _ _=>house_Loads x.1⟩),(32,⟨[T25],[],[],.one .bool,fun x _ _=>house_Valid x.1⟩)] [(116,r116),(115,r115),(114,r114),(69,r69),(119,r119)]) hints 4 10 f10 c10 x F y:=fun x F y=>by kernel_rfl
theorem l10:(ctxOf prog shs inls its [(39,c39),(26,c26),(18,c18),(16,c16),(14,c14),(12,c12),(32,c32)] [(116,r116),(115,r115),(114,r114),(69,r69),(119,r119)]).ok:=ctxOf_cons (ctxOf_cons (ctxOf_cons (ctxOf_cons (ctxOf_cons (ctxOf_cons (ctxOf_cons (q116) (by kernel_rfl) ok32) (by kernel_rfl) ok12) (by kernel_rfl) ok14) (by kernel_rfl) ok16) (by kernel_rfl) ok18) (by kernel_rfl) ok26) (by kernel_rfl) ok39
theorem ok10:c10.ok prog 10:=Ctr.of_den l10 hmix (hl:=hints) (d:=4) func10 rfl (by decide) (e10 lpK jnK house_Valid house_Loads slices_Equal_14 house_Order house_Gap slices_Equal_26 law30_example)
noncomputable def ref21_Small_b (lp:Lp) (_:Jn) (x0:ByteArray×Int×Int×Int×Int×(List Int)×Int×Int×Int×Int×Int×(List (ByteArray×Int×Int×Int×Int×Int×Int))×List (ByteArray×Int×Int)) (x1:Int):Option Bool :=
 
 let v4:Bool:=decide ((↑(ByteArray.size x0.1):Int)>(60:Int));
 let v5:Bool:=!v4;
 let v6:Bool:=!v5||v5;
 let v7:Bool:=bif v4 then true else decide ((↑(List.length x0.2.2.2.2.2.1):Int)>(12:Int));
 let v8:Bool:=!v7;
 let v9:Bool:=!v8;
 let v10:Bool:=decide ((↑(List.length x0.2.2.2.2.2.2.2.2.2.2.2.1):Int)>x1);
 let v11:Bool:=v9||v8;
 let v12:Bool:=v8&&v10;
 let v13:Bool:=bif v7 then true else bif v10 then decide ((↑(List.length x0.2.2.2.2.2.2.2.2.2.2.2.1):Int)≤(40:Int)) else false;
 let v14:Bool:=!v13;
 let v15:Bool:=!v12||v12;
 let v16:Bool:=bif v13 then true else decide ((↑(List.length x0.2.2.2.2.2.2.2.2.2.2.2.1):Int)>(45:Int));
 let v17:Bool:=!v16;
 let v18:Bool:=!v14||v14;
 let v19:Bool:=!v17||v17;bif v6 then bif v6 then bif v6 then bif v4||v5 then bif v11 then bif v11 then bif v11&&v11 then bif v11 then bif v15 then bif v15 then bif v15 then bif
  (v9||v11)&&(v9||(!v10||(v9||v12))) then bif v7||v8 then bif v18 then bif v18 then bif v18 then bif v13||v14 then bif v19 then bif v19 then bif v19 then bif v16||v17 then
  bif bif v16 then true else decide ((↑(List.length x0.2.2.2.2.2.2.2.2.2.2.2.2):Int)>(10:Int)) then some false else lp (Int×PUnit) Bool (fun (again:Int ×
  PUnit→Option Bool) (x:Int×PUnit)=>bif decide (x.1<(↑(List.length x0.2.2.2.2.2.2.2.2.2.2.2.1):Int)) then bif inB x.1 (List.length
  x0.2.2.2.2.2.2.2.2.2.2.2.1) then bif decide ((↑(ByteArray.size (List.getD x0.2.2.2.2.2.2.2.2.2.2.2.1 (Int.toNat x.1) ({ data:={
  toList:=[] } },(0:Int),(0:Int),(0:Int),(0:Int),(0:Int),(0:Int))).1):Int)>(60:Int)) then some false else again (IntKind.wrap .i64 (x.1+(1:Int)),
  PUnit.unit) else none else lp (Int×PUnit) Bool (fun (again:Int×PUnit→Option Bool) (x:Int×PUnit)=>bif decide (x.1<(↑(List.length
  x0.2.2.2.2.2.2.2.2.2.2.2.2):Int)) then bif inB x.1 (List.length x0.2.2.2.2.2.2.2.2.2.2.2.2) then bif decide ((↑(ByteArray.size
  (List.getD x0.2.2.2.2.2.2.2.2.2.2.2.2 (Int.toNat x.1) ({ data:={ toList:=[] } },(0:Int),(0:Int))).1):Int)>(60:Int)) then some false else
  again (IntKind.wrap .i64 (x.1+(1:Int)),PUnit.unit) else none else some true) ((0:Int),PUnit.unit)) ((0:Int),PUnit.unit) else none else none else none else none else
  none else none else none else none else none else none else none else none else none else none else none else none else none else none else none else none else none
noncomputable def ref21_Small (x0:ByteArray×Int×Int×Int×Int×(List Int)×Int×Int×Int×Int×Int×(List (ByteArray×Int×Int×Int×Int×Int×Int))×List (ByteArray×Int×Int)) (x1:Int):Option Bool:=ref21_Small_b lpK jnK x0 x1
noncomputable def c35:Ctr:=⟨[T44,i64],[],[],.one .bool,fun x _ _=>ref21_Small x.1 x.2.1⟩
theorem e35 (lp:Lp) (jn:Jn):∀(x:TsS c35.as) (F:TsF c35.fs) (y:TsS c35.cs),ref21_Small_b lp jn x.1 x.2.1=runC lp jn (ctxOf prog shs inls its [] [(116,r116),(115,r115),(114,r114),(69,r69),(119,r119)]) hints 4 35 f35 c35 x F y:=fun x F y=>by kernel_rfl
theorem l35:(ctxOf prog shs inls its [] [(116,r116),(115,r115),(114,r114),(69,r69),(119,r119)]).ok:=q116
theorem ok35:c35.ok prog 35:=Ctr.of_den l35 hmix (hl:=hints) (d:=4) func35 rfl (by decide) (e35 lpK jnK)
noncomputable def ref30_Small_b (lp:Lp) (_:Jn) (ref21_Small:(ByteArray×Int×Int×Int×Int×(List Int)×Int×Int×Int×Int×Int×(List (ByteArray×Int×Int×Int×Int×Int×Int))×List (ByteArray×Int×Int))→(Int)→Option (Bool)) (x0:ByteArray×Int×(List (ByteArray×Int×Int×Int×Int×(List Int)×Int×Int×Int×Int×Int×(List (ByteArray×Int×Int×Int×Int×Int×Int))×List (ByteArray×Int×Int)))×List (ByteArray×Int×Int×Int)) (x1:Int):Option Bool :=
 
 let v4:Bool:=decide ((↑(List.length x0.2.2.1):Int)>x1);
 let v5:Bool:=!v4;
 let v6:Bool:=bif v4 then true else decide ((↑(List.length x0.2.2.2):Int)>IntKind.wrap .i64 (x1+(10:Int)));
 let v7:Bool:=!v6;
 let v8:Bool:=!v5||v5;
 let v9:Bool:=!v7||v7;bif v8 then bif v8 then bif v8 then bif v8&&v8 then bif v4||v5 then bif v9 then bif v9 then bif v9 then bif v6||v7 then bif bif v6 then true else decide
  ((↑(ByteArray.size x0.1):Int)>(60:Int)) then some false else lp (Int×PUnit) Bool (fun (again:Int×PUnit→Option Bool) (x:Int×PUnit)=>bif decide (x.1 <
  (↑(List.length x0.2.2.1):Int)) then bif inB x.1 (List.length x0.2.2.1) then obind (ref21_Small (List.getD x0.2.2.1 (Int.toNat x.1) ({ data:={ toList:=[] } },
  (0:Int),(0:Int),(0:Int),(0:Int),[],(0:Int),(0:Int),(0:Int),(0:Int),(0:Int),[],[])) (8:Int)) fun (t:Bool)=>bif !t then some false else again
  (IntKind.wrap .i64 (x.1+(1:Int)),PUnit.unit) else none else lp (Int×PUnit) Bool (fun (again:Int×PUnit→Option Bool) (x:Int×PUnit)=>bif decide (x.1 <
  (↑(List.length x0.2.2.2):Int)) then bif inB x.1 (List.length x0.2.2.2) then bif decide ((↑(ByteArray.size (List.getD x0.2.2.2 (Int.toNat x.1) ({ data:={ toList
  :=[] } },(0:Int),(0:Int),(0:Int))).1):Int)>(60:Int)) then some false else again (IntKind.wrap .i64 (x.1+(1:Int)),PUnit.unit) else none else some true)
  ((0:Int),PUnit.unit)) ((0:Int),PUnit.unit) else none else none else none else none else none else none else none else none else none
noncomputable def ref30_Small (x0:ByteArray×Int×(List (ByteArray×Int×Int×Int×Int×(List Int)×Int×Int×Int×Int×Int×(List (ByteArray×Int×Int×Int×Int×Int×Int))×List (ByteArray×Int×Int)))×List (ByteArray×Int×Int×Int)) (x1:Int):Option Bool:=ref30_Small_b lpK jnK ref21_Small x0 x1
noncomputable def c40:Ctr:=⟨[T25,i64],[],[],.one .bool,fun x _ _=>ref30_Small x.1 x.2.1⟩
theorem e40 (lp:Lp) (jn:Jn) (ref21_Small:(ByteArray×Int×Int×Int×Int×(List Int)×Int×Int×Int×Int×Int×(List (ByteArray×Int×Int×Int×Int×Int×Int))×List (ByteArray×Int×Int))→(Int)→Option (Bool)):∀(x:TsS c40.as) (F:TsF c40.fs) (y:TsS c40.cs),ref30_Small_b lp jn ref21_Small x.1 x.2.1=runC lp jn (ctxOf prog shs inls its [(35,⟨[T44,i64],[],[],.one .bool,fun x _ _=>ref21_Small x.1 x.2.1⟩)] [(116,r116),(115,r115),(114,r114),(69,r69),(119,r119)]) hints 4 40 f40 c40 x F y:=fun x F y=>by kernel_rfl
theorem l40:(ctxOf prog shs inls its [(35,c35)] [(116,r116),(115,r115),(114,r114),(69,r69),(119,r119)]).ok:=ctxOf_cons (q116) (by kernel_rfl) ok35
theorem ok40:c40.ok prog 40:=Ctr.of_den l40 hmix (hl:=hints) (d:=4) func40 rfl (by decide) (e40 lpK jnK ref21_Small)
noncomputable def law30_small_b (_:Lp) (_:Jn) (ref30_Small:(ByteArray×Int×(List (ByteArray×Int×Int×Int×Int×(List Int)×Int×Int×Int×Int×Int×(List (ByteArray×Int×Int×Int×Int×Int×Int))×List (ByteArray×Int×Int)))×List (ByteArray×Int×Int×Int))→(Int)→Option (Bool)) (x0:ByteArray×Int×(List (ByteArray×Int×Int×Int×Int×(List Int)×Int×Int×Int×Int×Int×(List (ByteArray×Int×Int×Int×Int×Int×Int))×List (ByteArray×Int×Int)))×List (ByteArray×Int×Int×Int)):Option Bool :=
 obind (ref30_Small x0 (6:Int)) fun (t:Bool)=>some t
noncomputable def law30_small (x0:ByteArray×Int×(List (ByteArray×Int×Int×Int×Int×(List Int)×Int×Int×Int×Int×Int×(List (ByteArray×Int×Int×Int×Int×Int×Int))×List (ByteArray×Int×Int)))×List (ByteArray×Int×Int×Int)):Option Bool:=law30_small_b lpK jnK ref30_Small x0
noncomputable def c11:Ctr:=⟨[T25],[],[],.one .bool,fun x _ _=>law30_small x.1⟩
theorem e11 (lp:Lp) (jn:Jn) (ref30_Small:(ByteArray×Int×(List (ByteArray×Int×Int×Int×Int×(List Int)×Int×Int×Int×Int×Int×(List (ByteArray×Int×Int×Int×Int×Int×Int))×List (ByteArray×Int×Int)))×List (ByteArray×Int×Int×Int))→(Int)→Option (Bool)):∀(x:TsS c11.as) (F:TsF c11.fs) (y:TsS c11.cs),law30_small_b lp jn ref30_Small x.1=runC lp jn (ctxOf prog shs inls its [(40,⟨[T25,i64],[],[],.one .bool,fun x _ _=>ref30_Small x.1 x.2.1⟩)] [(116,r116),(115,r115),(114,r114),(69,r69),(119,r119)]) hints 4 11 f11 c11 x F y:=fun x F y=>by kernel_rfl
theorem l11:(ctxOf prog shs inls its [(40,c40)] [(116,r116),(115,r115),(114,r114),(69,r69),(119,r119)]).ok:=ctxOf_cons (q116) (by kernel_rfl) ok40
theorem ok11:c11.ok prog 11:=Ctr.of_den l11 hmix (hl:=hints) (d:=4) func11 rfl (by decide) (e11 lpK jnK ref30_Small)
noncomputable def ref30_FindSet_b (lp:Lp) (_:Jn) (x0:ByteArray×Int×(List (ByteArray×Int×Int×Int×Int×(List Int)×Int×Int×Int×Int×Int×(List (ByteArray×Int×Int×Int×Int×Int×Int))×List (ByteArray×Int×Int)))×List (ByteArray×Int×Int×Int)) (x1:ByteArray):Option Int :=
 lp (Int×PUnit) Int (fun (again:Int×PUnit→Option Int) (x:Int×PUnit)=>bif decide (x.1<(↑(List.length x0.2.2.1):Int)) then bif inB x.1 (List.length x0.2.2.1)
  then bif List.beq (ByteArray.toList (List.getD x0.2.2.1 (Int.toNat x.1) ({ data:={ toList:=[] } },(0:Int),(0:Int),(0:Int),(0:Int),[],(0:Int),(0:Int),(0 :
  Int),(0:Int),(0:Int),[],[])).1) (ByteArray.toList x1) then some x.1 else again (IntKind.wrap .i64 (x.1+(1:Int)),PUnit.unit) else none else some (-1:Int)) ((0
  : Int),PUnit.unit)
noncomputable def ref30_FindSet (x0:ByteArray×Int×(List (ByteArray×Int×Int×Int×Int×(List Int)×Int×Int×Int×Int×Int×(List (ByteArray×Int×Int×Int×Int×Int×Int))×List (ByteArray×Int×Int)))×List (ByteArray×Int×Int×Int)) (x1:ByteArray):Option Int:=ref30_FindSet_b lpK jnK x0 x1
noncomputable def c28:Ctr:=⟨[T25,.str],[],[],.one i64,fun x _ _=>ref30_FindSet x.1 x.2.1⟩
theorem e28 (lp:Lp) (jn:Jn):∀(x:TsS c28.as) (F:TsF c28.fs) (y:TsS c28.cs),ref30_FindSet_b lp jn x.1 x.2.1=runC lp jn (ctxOf prog shs inls its [] [(116,r116),(115,r115),(114,r114),(69,r69),(119,r119)]) hints 4 28 f28 c28 x F y:=fun x F y=>by kernel_rfl
theorem l28:(ctxOf prog shs inls its [] [(116,r116),(115,r115),(114,r114),(69,r69),(119,r119)]).ok:=q116
theorem ok28:c28.ok prog 28:=Ctr.of_den l28 hmix (hl:=hints) (d:=4) func28 rfl (by decide) (e28 lpK jnK)
noncomputable def ref01_Letter_b (_:Lp) (_:Jn) (x0:Int):Option Bool :=
 
 let v3:Bool:=decide (x0≥(97:Int));
 let v4:Bool:=decide (x0≥(65:Int));
 let v5:Bool:=!v3||v3;
 let v6:Bool:=bif v3 then decide (x0≤(122:Int)) else false;
 let v7:Bool:=!v6;
 let v8:Bool:=!v7;
 let v9:Bool:=v7&&v4;
 let v10:Bool:=v8||v7;bif v5 then bif v5 then bif v10 then bif v10 then bif !v9||v9 then bif (v8||v10)&&(v8||(!v4||(v8||v9))) then bif v6||v7 then some (bif v6 then
  true else bif v4 then decide (x0≤(90:Int)) else false) else none else none else none else none else none else none else none
noncomputable def ref01_Letter (x0:Int):Option Bool:=ref01_Letter_b lpK jnK x0
noncomputable def c84:Ctr:=⟨[(.int .u8)],[],[],.one .bool,fun x _ _=>ref01_Letter x.1⟩
theorem e84 (lp:Lp) (jn:Jn):∀(x:TsS c84.as) (F:TsF c84.fs) (y:TsS c84.cs),ref01_Letter_b lp jn x.1=runC lp jn (ctxOf prog shs inls its [] [(116,r116),(115,r115),(114,r114),(69,r69),(119,r119)]) hints 4 84 f84 c84 x F y:=fun x F y=>by kernel_rfl
theorem l84:(ctxOf prog shs inls its [] [(116,r116),(115,r115),(114,r114),(69,r69),(119,r119)]).ok:=q116
theorem ok84:c84.ok prog 84:=Ctr.of_den l84 hmix (hl:=hints) (d:=4) func84 rfl (by decide) (e84 lpK jnK)
noncomputable def ref01_Digit_b (_:Lp) (_:Jn) (x0:Int):Option Bool :=
 
 let v3:Bool:=decide (x0≥(48:Int));
 let v4:Bool:=!v3||v3;bif v4 then bif v4 then some (bif v3 then decide (x0≤(57:Int)) else false) else none else none
noncomputable def ref01_Digit (x0:Int):Option Bool:=ref01_Digit_b lpK jnK x0
noncomputable def c133:Ctr:=⟨[(.int .u8)],[],[],.one .bool,fun x _ _=>ref01_Digit x.1⟩
theorem e133 (lp:Lp) (jn:Jn):∀(x:TsS c133.as) (F:TsF c133.fs) (y:TsS c133.cs),ref01_Digit_b lp jn x.1=runC lp jn (ctxOf prog shs inls its [] [(116,r116),(115,r115),(114,r114),(69,r69),(119,r119)]) hints 4 133 f133 c133 x F y:=fun x F y=>by kernel_rfl
theorem l133:(ctxOf prog shs inls its [] [(116,r116),(115,r115),(114,r114),(69,r69),(119,r119)]).ok:=q116
theorem ok133:c133.ok prog 133:=Ctr.of_den l133 hmix (hl:=hints) (d:=4) func133 rfl (by decide) (e133 lpK jnK)
noncomputable def ref01_word_b (lp:Lp) (_:Jn) (ref01_Letter:(Int)→Option (Bool)) (ref01_Digit:(Int)→Option (Bool)) (x0:ByteArray) (x1:Int):Option Int :=
 lp (Int×PUnit) Int (fun (again:Int×PUnit→Option Int) (x:Int×PUnit) =>
 let v6:Bool:=inB x.1 (ByteArray.size x0);
 let v7:Int:=byteAt x0 (Int.toNat x.1);
 let v8:Bool:=decide (x.1<(↑(ByteArray.size x0):Int));
 let v9:Bool:=!v8;
 let v10:Bool:=v9||v8;
 let v11:Bool:=v9||v10;bif v10&&(v10&&(v9||v6)) then bif v10 then obind (bif v8 then ref01_Letter v7 else some false) fun (t:Bool) =>
 let v13:Bool:=v8&&!t;
 let v14:Bool:=!v13;
 let v15:Bool:=v14||v13;bif v10 then bif v15&&(v15&&(v14||v6)) then bif v15 then obind (bif v13 then ref01_Digit v7 else some false) fun (t_1:Bool) =>
 let v17:Bool:=bif t then true else t_1;
 let v18:Bool:=v8&&!v17;
 let v19:Bool:=!v18;
 let v20:Bool:=v19||v18;bif v11&&(v9||(t||(v9||v13))) then bif v10 then bif v20&&(v20&&(v19||v6)) then bif v20 then bif v11&&(v9||(v17||(v9||v18))) then bif
  v10 then bif bif v8 then bif v17 then true else decide (v7=(95:Int)) else false then again (IntKind.wrap .i64 (x.1+(1:Int)),PUnit.unit) else some x.1 else none else
  none else none else none else none else none else none else none else none else none else none) (x1,PUnit.unit)
noncomputable def ref01_word (x0:ByteArray) (x1:Int):Option Int:=ref01_word_b lpK jnK ref01_Letter ref01_Digit x0 x1
noncomputable def c85:Ctr:=⟨[.str,i64],[],[],.one i64,fun x _ _=>ref01_word x.1 x.2.1⟩
theorem e85 (lp:Lp) (jn:Jn) (ref01_Letter:(Int)→Option (Bool)) (ref01_Digit:(Int)→Option (Bool)):∀(x:TsS c85.as) (F:TsF c85.fs) (y:TsS c85.cs),ref01_word_b lp jn ref01_Letter ref01_Digit x.1 x.2.1=runC lp jn (ctxOf prog shs inls its [(133,⟨[(.int .u8)],[],[],.one .bool,fun x _ _=>ref01_Digit x.1⟩),(84,⟨[(.int .u8)],[],[],.one .bool,fun x _ _=>ref01_Letter x.1⟩)] [(116,r116),(115,r115),(114,r114),(69,r69),(119,r119)]) hints 4 85 f85 c85 x F y:=fun x F y=>by kernel_rfl
theorem l85:(ctxOf prog shs inls its [(133,c133),(84,c84)] [(116,r116),(115,r115),(114,r114),(69,r69),(119,r119)]).ok:=ctxOf_cons (ctxOf_cons (q116) (by kernel_rfl) ok84) (by kernel_rfl) ok133
theorem ok85:c85.ok prog 85:=Ctr.of_den l85 hmix (hl:=hints) (d:=4) func85 rfl (by decide) (e85 lpK jnK ref01_Letter ref01_Digit)
noncomputable def ref01_IsName_b (_:Lp) (_:Jn) (ref01_Letter:(Int)→Option (Bool)) (ref01_word:(ByteArray)→(Int)→Option (Int)) (x0:ByteArray):Option Bool :=
 
 let v3:Bool:=decide ((↑(ByteArray.size x0):Int)=(0:Int));
 let v4:Bool:=!v3;
 let v5:Bool:=!v4||v4;
 let v6:Bool:=bif v3 then true else decide ((↑(ByteArray.size x0):Int)>(20:Int));
 let v7:Bool:=!v6;
 let v8:Bool:=!v7;
 let v9:Bool:=v8||v7;bif v5 then bif v5 then bif v3||v4 then bif v9&&(v8||inB (0:Int) (ByteArray.size x0)) then bif v9 then obind (bif v7 then ref01_Letter (byteAt x0 (0 :
  Nat)) else some false) fun (t:Bool)=>bif v9 then bif v6||v7 then bif bif v6 then true else !t then some false else obind (ref01_word x0 (0:Int)) fun (t:Int)=>some (decide (t
  = (↑(ByteArray.size x0):Int))) else none else none else none else none else none else none else none
noncomputable def ref01_IsName (x0:ByteArray):Option Bool:=ref01_IsName_b lpK jnK ref01_Letter ref01_word x0
noncomputable def c54:Ctr:=⟨[.str],[],[],.one .bool,fun x _ _=>ref01_IsName x.1⟩
theorem e54 (lp:Lp) (jn:Jn) (ref01_Letter:(Int)→Option (Bool)) (ref01_word:(ByteArray)→(Int)→Option (Int)):∀(x:TsS c54.as) (F:TsF c54.fs) (y:TsS c54.cs),ref01_IsName_b lp jn ref01_Letter ref01_word x.1=runC lp jn (ctxOf prog shs inls its [(85,⟨[.str,i64],[],[],.one i64,fun x _ _=>ref01_word x.1 x.2.1⟩),(84,⟨[(.int .u8)],[],[],.one .bool,fun x _ _=>ref01_Letter x.1⟩)] [(116,r116),(115,r115),(114,r114),(69,r69),(119,r119)]) hints 4 54 f54 c54 x F y:=fun x F y=>by kernel_rfl
theorem l54:(ctxOf prog shs inls its [(85,c85),(84,c84)] [(116,r116),(115,r115),(114,r114),(69,r69),(119,r119)]).ok:=ctxOf_cons (ctxOf_cons (q116) (by kernel_rfl) ok84) (by kernel_rfl) ok85
theorem ok54:c54.ok prog 54:=Ctr.of_den l54 hmix (hl:=hints) (d:=4) func54 rfl (by decide) (e54 lpK jnK ref01_Letter ref01_word)
noncomputable def ref19_between_b (_:Lp) (_:Jn) (x0:Int) (x1:Int) (x2:Int):Option Bool :=
 
 let v5:Bool:=decide (x0≥x1);
 let v6:Bool:=!v5||v5;bif v6&&v6 then bif v6 then some (bif v5 then decide (x0≤x2) else false) else none else none
noncomputable def ref19_between (x0:Int) (x1:Int) (x2:Int):Option Bool:=ref19_between_b lpK jnK x0 x1 x2
noncomputable def c86:Ctr:=⟨[i64,i64,i64],[],[],.one .bool,fun x _ _=>ref19_between x.1 x.2.1 x.2.2.1⟩
theorem e86 (lp:Lp) (jn:Jn):∀(x:TsS c86.as) (F:TsF c86.fs) (y:TsS c86.cs),ref19_between_b lp jn x.1 x.2.1 x.2.2.1=runC lp jn (ctxOf prog shs inls its [] [(116,r116),(115,r115),(114,r114),(69,r69),(119,r119)]) hints 4 86 f86 c86 x F y:=fun x F y=>by kernel_rfl
theorem l86:(ctxOf prog shs inls its [] [(116,r116),(115,r115),(114,r114),(69,r69),(119,r119)]).ok:=q116
theorem ok86:c86.ok prog 86:=Ctr.of_den l86 hmix (hl:=hints) (d:=4) func86 rfl (by decide) (e86 lpK jnK)
noncomputable def ref19_Valid_b (lp:Lp) (_:Jn) (ref01_IsName:(ByteArray)→Option (Bool)) (ref19_between:(Int)→(Int)→(Int)→Option (Bool)) (x0:List (ByteArray×Int×Int×Int)):Option Bool :=
 bif decide ((↑(List.length x0):Int)>(20:Int)) then some false else lp (Int×PUnit) Bool (fun (again:Int×PUnit→Option Bool) (x:Int×PUnit) =>
 let v5:ByteArray×Int×Int×Int:=List.getD x0 (Int.toNat x.1) ({ data:={ toList:=[] } },(0:Int),(0:Int),(0:Int));bif decide (x.1<(↑(List.length x0):Int)) then
  bif inB x.1 (List.length x0) then obind (ref01_IsName v5.1) fun (t:Bool) =>
 let v7:Bool:=!t;
 let v8:Bool:=!v7;
 let v9:Bool:=!v8||v8;bif v9 then bif v9 then bif v9&&v9 then obind (bif v8 then ref19_between v5.2.1 (0:Int) v5.2.2.1 else some false) fun (t:Bool) =>
 let v11:Bool:=bif v7 then true else !t;
 let v12:Bool:=!v11;
 let v13:Bool:=!v12||v12;bif v9 then bif v7||v8 then bif v13 then bif v13 then obind (bif v12 then ref19_between v5.2.2.1 (0:Int) (1048576:Int) else some false) fun (t :
  Bool) =>
 let v15:Bool:=bif v11 then true else !t;
 let v16:Bool:=!v15;
 let v17:Bool:=!v16||v16;bif v13 then bif v11||v12 then bif v17 then bif v17 then obind (bif v16 then ref19_between v5.2.2.2 (0:Int) (67108864:Int) else some false) fun
  (t:Bool)=>bif v17 then bif v15||v16 then bif bif v15 then true else !t then some false else lp (Int×PUnit) Bool (fun (again_1:Int×PUnit→Option Bool) (x_1:Int×PUnit) =>
  bif decide (x_1.1<x.1) then bif inB x_1.1 (List.length x0) then bif List.beq (ByteArray.toList (List.getD x0 (Int.toNat x_1.1) ({ data:={ toList:=[] } },(0:Int),(0 :
  Int),(0:Int))).1) (ByteArray.toList v5.1) then some false else again_1 (IntKind.wrap .i64 (x_1.1+(1:Int)),PUnit.unit) else none else again (IntKind.wrap .i64
  (x.1+(1:Int)),PUnit.unit)) ((0:Int),PUnit.unit) else none else none else none else none else none else none else none else none else none else none else none else none else
  none else none else some true) ((0:Int),PUnit.unit)
noncomputable def ref19_Valid (x0:List (ByteArray×Int×Int×Int)):Option Bool:=ref19_Valid_b lpK jnK ref01_IsName ref19_between x0
noncomputable def c55:Ctr:=⟨[(.sl T96)],[],[],.one .bool,fun x _ _=>ref19_Valid x.1⟩
theorem e55 (lp:Lp) (jn:Jn) (ref01_IsName:(ByteArray)→Option (Bool)) (ref19_between:(Int)→(Int)→(Int)→Option (Bool)):∀(x:TsS c55.as) (F:TsF c55.fs) (y:TsS c55.cs),ref19_Valid_b lp jn ref01_IsName ref19_between x.1=runC lp jn (ctxOf prog shs inls its [(86,⟨[i64,i64,i64],[],[],.one .bool,fun x _ _=>ref19_between x.1 x.2.1 x.2.2.1⟩),(54,⟨[.str],[],[],.one .bool,fun x _ _=>ref01_IsName x.1⟩)] [(116,r116),(115,r115),(114,r114),(69,r69),(119,r119)]) hints 4 55 f55 c55 x F y:=fun x F y=>by kernel_rfl
theorem l55:(ctxOf prog shs inls its [(86,c86),(54,c54)] [(116,r116),(115,r115),(114,r114),(69,r69),(119,r119)]).ok:=ctxOf_cons (ctxOf_cons (q116) (by kernel_rfl) ok54) (by kernel_rfl) ok86
theorem ok55:c55.ok prog 55:=Ctr.of_den l55 hmix (hl:=hints) (d:=4) func55 rfl (by decide) (e55 lpK jnK ref01_IsName ref19_between)
noncomputable def ref21_between_b (_:Lp) (_:Jn) (x0:Int) (x1:Int) (x2:Int):Option Bool :=
 
 let v5:Bool:=decide (x0≥x1);
 let v6:Bool:=!v5||v5;bif v6&&v6 then bif v6 then some (bif v5 then decide (x0≤x2) else false) else none else none
noncomputable def ref21_between (x0:Int) (x1:Int) (x2:Int):Option Bool:=ref21_between_b lpK jnK x0 x1 x2
noncomputable def c87:Ctr:=⟨[i64,i64,i64],[],[],.one .bool,fun x _ _=>ref21_between x.1 x.2.1 x.2.2.1⟩
theorem e87 (lp:Lp) (jn:Jn):∀(x:TsS c87.as) (F:TsF c87.fs) (y:TsS c87.cs),ref21_between_b lp jn x.1 x.2.1 x.2.2.1=runC lp jn (ctxOf prog shs inls its [] [(116,r116),(115,r115),(114,r114),(69,r69),(119,r119)]) hints 4 87 f87 c87 x F y:=fun x F y=>by kernel_rfl
theorem l87:(ctxOf prog shs inls its [] [(116,r116),(115,r115),(114,r114),(69,r69),(119,r119)]).ok:=q116
theorem ok87:c87.ok prog 87:=Ctr.of_den l87 hmix (hl:=hints) (d:=4) func87 rfl (by decide) (e87 lpK jnK)
noncomputable def ref21_alone_b (_:Lp) (_:Jn) (ref01_IsName:(ByteArray)→Option (Bool)) (ref21_between:(Int)→(Int)→(Int)→Option (Bool)) (x0:ByteArray×Int×Int×Int×Int×Int×Int) (x1:Int):Option Bool :=
 obind (ref01_IsName x0.1) fun (t:Bool) =>
 let v5:Bool:=!t||t;bif v5 then bif v5 then obind (bif t then ref21_between x0.2.2.1 (1:Int) (1048576:Int) else some false) fun (t_1:Bool) =>
 let v7:Bool:=bif t then t_1 else false;
 let v8:Bool:=!v7||v7;
 let v9:Bool:=v8&&v8;bif v5 then bif v8 then bif v8 then bif v9 then bif v9 then obind (bif v7 then ref21_between x0.2.1 (0:Int) (IntKind.wrap .i64 (x1 -
  x0.2.2.1)) else some false) fun (t:Bool) =>
 let v11:Bool:=bif v7 then t else false;
 let v12:Bool:=!v11||v11;bif v8 then bif v12 then bif v12 then obind (bif v11 then ref21_between x0.2.2.2.1 (0:Int) (1048576:Int) else some false) fun (t:Bool) =>
 let v14:Bool:=bif v11 then t else false;
 let v15:Bool:=!v14||v14;bif v12 then bif v15 then bif v15 then obind (bif v14 then ref21_between x0.2.2.2.2.1 (0:Int) (1048576:Int) else some false) fun (t:Bool) =>
 let v17:Bool:=bif v14 then t else false;
 let v18:Bool:=!v17||v17;bif v15 then bif v18 then bif v18 then obind (bif v17 then ref21_between x0.2.2.2.2.2.1 (0:Int) (1048576:Int) else some false) fun (t :
  Bool) =>
 let v20:Bool:=bif v17 then t else false;
 let v21:Bool:=!v20||v20;bif v18 then bif v21 then bif v21 then obind (bif v20 then ref21_between x0.2.2.2.2.2.2 (0:Int) (1048576:Int) else some false) fun (t :
  Bool)=>bif v21 then some (bif v20 then t else false) else none else none else none else none else none else none else none else none else none else none else none else none else none
  else none else none else none else none else none else none else none
noncomputable def ref21_alone (x0:ByteArray×Int×Int×Int×Int×Int×Int) (x1:Int):Option Bool:=ref21_alone_b lpK jnK ref01_IsName ref21_between x0 x1
noncomputable def c134:Ctr:=⟨[T48,i64],[],[],.one .bool,fun x _ _=>ref21_alone x.1 x.2.1⟩
theorem e134 (lp:Lp) (jn:Jn) (ref01_IsName:(ByteArray)→Option (Bool)) (ref21_between:(Int)→(Int)→(Int)→Option (Bool)):∀(x:TsS c134.as) (F:TsF c134.fs) (y:TsS c134.cs),ref21_alone_b lp jn ref01_IsName ref21_between x.1 x.2.1=runC lp jn (ctxOf prog shs inls its [(87,⟨[i64,i64,i64],[],[],.one .bool,fun x _ _=>ref21_between x.1 x.2.1 x.2.2.1⟩),(54,⟨[.str],[],[],.one .bool,fun x _ _=>ref01_IsName x.1⟩)] [(116,r116),(115,r115),(114,r114),(69,r69),(119,r119)]) hints 4 134 f134 c134 x F y:=fun x F y=>by kernel_rfl
theorem l134:(ctxOf prog shs inls its [(87,c87),(54,c54)] [(116,r116),(115,r115),(114,r114),(69,r69),(119,r119)]).ok:=ctxOf_cons (ctxOf_cons (q116) (by kernel_rfl) ok54) (by kernel_rfl) ok87
theorem ok134:c134.ok prog 134:=Ctr.of_den l134 hmix (hl:=hints) (d:=4) func134 rfl (by decide) (e134 lpK jnK ref01_IsName ref21_between)
noncomputable def ref21_Apart_b (_:Lp) (_:Jn) (x0:ByteArray×Int×Int×Int×Int×Int×Int) (x1:ByteArray×Int×Int×Int×Int×Int×Int):Option Bool :=
 
 let v4:Bool:=decide (IntKind.wrap .i64 (x0.2.1+x0.2.2.1)≤x1.2.1);
 let v5:Bool:=!v4;
 let v6:Bool:=!v5||v5;
 let v7:Bool:=v6&&v6;bif v6 then bif v6 then bif v7 then bif v6 then bif v7 then bif v4||v5 then some (bif v4 then true else decide (IntKind.wrap .i64 (x1.2.1 +
  x1.2.2.1)≤x0.2.1)) else none else none else none else none else none else none
noncomputable def ref21_Apart (x0:ByteArray×Int×Int×Int×Int×Int×Int) (x1:ByteArray×Int×Int×Int×Int×Int×Int):Option Bool:=ref21_Apart_b lpK jnK x0 x1
noncomputable def c135:Ctr:=⟨[T48,T48],[],[],.one .bool,fun x _ _=>ref21_Apart x.1 x.2.1⟩
theorem e135 (lp:Lp) (jn:Jn):∀(x:TsS c135.as) (F:TsF c135.fs) (y:TsS c135.cs),ref21_Apart_b lp jn x.1 x.2.1=runC lp jn (ctxOf prog shs inls its [] [(116,r116),(115,r115),(114,r114),(69,r69),(119,r119)]) hints 4 135 f135 c135 x F y:=fun x F y=>by kernel_rfl
theorem l135:(ctxOf prog shs inls its [] [(116,r116),(115,r115),(114,r114),(69,r69),(119,r119)]).ok:=q116
theorem ok135:c135.ok prog 135:=Ctr.of_den l135 hmix (hl:=hints) (d:=4) func135 rfl (by decide) (e135 lpK jnK)
noncomputable def ref21_items_b (lp:Lp) (_:Jn) (ref21_alone:(ByteArray×Int×Int×Int×Int×Int×Int)→(Int)→Option (Bool)) (ref21_Apart:(ByteArray×Int×Int×Int×Int×Int×Int)→(ByteArray×Int×Int×Int×Int×Int×Int)→Option (Bool)) (x0:ByteArray×Int×Int×Int×Int×(List Int)×Int×Int×Int×Int×Int×(List (ByteArray×Int×Int×Int×Int×Int×Int))×List (ByteArray×Int×Int)):Option Bool :=
 bif decide ((↑(List.length x0.2.2.2.2.2.2.2.2.2.2.2.1):Int)>(40:Int)) then some false else lp (Int×PUnit) Bool (fun (again:Int×PUnit→Option Bool) (x :
  Int×PUnit) =>
 let v5:Bool:=inB x.1 (List.length x0.2.2.2.2.2.2.2.2.2.2.2.1);
 let v6:ByteArray×Int×Int×Int×Int×Int×Int:=List.getD x0.2.2.2.2.2.2.2.2.2.2.2.1 (Int.toNat x.1) ({ data:={ toList:=[] } },(0:Int),(0 :
  Int),(0:Int),(0:Int),(0:Int),(0:Int));
 let v7:List UInt8:=ByteArray.toList v6.1;bif decide (x.1<(↑(List.length x0.2.2.2.2.2.2.2.2.2.2.2.1):Int)) then bif v5 then obind (ref21_alone v6
  x0.2.2.2.2.1) fun (t:Bool)=>bif !t then some false else lp (Int×PUnit) Bool (fun (again_1:Int×PUnit→Option Bool) (x_1:Int×PUnit) =>
 let v11:Bool:=inB x_1.1 (List.length x0.2.2.2.2.2.2.2.2.2.2.2.1);
 let v12:ByteArray×Int×Int×Int×Int×Int×Int:=List.getD x0.2.2.2.2.2.2.2.2.2.2.2.1 (Int.toNat x_1.1) ({ data:={ toList:=[] } },(0:Int),(0 :
  Int),(0:Int),(0:Int),(0:Int),(0:Int));
 let v13:Bool:=List.beq (ByteArray.toList v12.1) v7;
 let v14:Bool:=!v13;
 let v15:Bool:=!v14;
 let v16:Bool:=v15||v14;bif decide (x_1.1<x.1) then bif v11 then bif v5 then bif v16 then bif v16&&(v16&&(v15||v11)) then bif v16 then bif v16 then bif v16&&(v16 &&
  (v15||v5)) then bif v16 then bif v16&&v16 then obind (bif v14 then ref21_Apart v12 v6 else some false) fun (t:Bool)=>bif v16 then bif v13||v14 then bif bif v13 then true else
  !t then some false else again_1 (IntKind.wrap .i64 (x_1.1+(1:Int)),PUnit.unit) else none else none else none else none else none else none else none else none else none
  else none else none else again (IntKind.wrap .i64 (x.1+(1:Int)),PUnit.unit)) ((0:Int),PUnit.unit) else none else some true) ((0:Int),PUnit.unit)
noncomputable def ref21_items (x0:ByteArray×Int×Int×Int×Int×(List Int)×Int×Int×Int×Int×Int×(List (ByteArray×Int×Int×Int×Int×Int×Int))×List (ByteArray×Int×Int)):Option Bool:=ref21_items_b lpK jnK ref21_alone ref21_Apart x0
noncomputable def c88:Ctr:=⟨[T44],[],[],.one .bool,fun x _ _=>ref21_items x.1⟩
theorem e88 (lp:Lp) (jn:Jn) (ref21_alone:(ByteArray×Int×Int×Int×Int×Int×Int)→(Int)→Option (Bool)) (ref21_Apart:(ByteArray×Int×Int×Int×Int×Int×Int)→(ByteArray×Int×Int×Int×Int×Int×Int)→Option (Bool)):∀(x:TsS c88.as) (F:TsF c88.fs) (y:TsS c88.cs),ref21_items_b lp jn ref21_alone ref21_Apart x.1=runC lp jn (ctxOf prog shs inls its [(135,⟨[T48,T48],[],[],.one .bool,fun x _ _=>ref21_Apart x.1 x.2.1⟩),(134,⟨[T48,i64],[],[],.one .bool,fun x _ _=>ref21_alone x.1 x.2.1⟩)] [(116,r116),(115,r115),(114,r114),(69,r69),(119,r119)]) hints 4 88 f88 c88 x F y:=fun x F y=>by kernel_rfl
theorem l88:(ctxOf prog shs inls its [(135,c135),(134,c134)] [(116,r116),(115,r115),(114,r114),(69,r69),(119,r119)]).ok:=ctxOf_cons (ctxOf_cons (q116) (by kernel_rfl) ok134) (by kernel_rfl) ok135
theorem ok88:c88.ok prog 88:=Ctr.of_den l88 hmix (hl:=hints) (d:=4) func88 rfl (by decide) (e88 lpK jnK ref21_alone ref21_Apart)
noncomputable def ref21_Bricks_b (lp:Lp) (_:Jn) (ref01_IsName:(ByteArray)→Option (Bool)) (ref21_between:(Int)→(Int)→(Int)→Option (Bool)) (x0:List (ByteArray×Int×Int)):Option Bool :=
 bif decide ((↑(List.length x0):Int)>(8:Int)) then some false else lp (Int×Int×PUnit) Bool (fun (again:Int×Int×PUnit→Option Bool) (x:Int×Int×PUnit) =>
 let v5:Bool:=inB x.2.1 (List.length x0);
 let v6:ByteArray×Int×Int:=List.getD x0 (Int.toNat x.2.1) ({ data:={ toList:=[] } },(0:Int),(0:Int));bif decide (x.2.1<(↑(List.length x0):Int)) then bif v5
  then obind (ref01_IsName v6.1) fun (t:Bool) =>
 let v8:Bool:=!t;
 let v9:Bool:=!v8;
 let v10:Bool:=!v9;
 let v11:Bool:=v10||v9;bif v11&&(v11&&(v10||v5)) then bif v11 then bif v11 then bif v11 then obind (bif v9 then ref21_between v6.2.1 (1:Int) (1048576:Int) else some
  false) fun (t:Bool) =>
 let v13:Bool:=bif v8 then true else !t;
 let v14:Bool:=!v13;
 let v15:Bool:=!v14;
 let v16:Bool:=v15||v14;bif v11 then bif v8||v9 then bif v16&&(v16&&(v15||v5)) then bif v16 then bif v16 then bif v16 then obind (bif v14 then ref21_between v6.2.2 (0 :
  Int) (60:Int) else some false) fun (t:Bool)=>bif v16 then bif v13||v14 then bif bif v13 then true else !t then some false else bif v5 then lp (Int×PUnit) Bool (fun (again_1 :
  Int×PUnit→Option Bool) (x_1:Int×PUnit)=>bif decide (x_1.1<x.2.1) then bif inB x_1.1 (List.length x0) then bif v5 then bif List.beq (ByteArray.toList (List.getD x0
  (Int.toNat x_1.1) ({ data:={ toList:=[] } },(0:Int),(0:Int))).1) (ByteArray.toList v6.1) then some false else again_1 (IntKind.wrap .i64 (x_1.1+(1:Int)),
  PUnit.unit) else none else none else again (IntKind.wrap .i64 (x.1+v6.2.2),IntKind.wrap .i64 (x.2.1+(1:Int)),PUnit.unit)) ((0:Int),PUnit.unit) else
  none else none else none else none else none else none else none else none else none else none else none else none else none else none else some (decide (x.1≤(60:Int)))) ((0 :
  Int),(0:Int),PUnit.unit)
noncomputable def ref21_Bricks (x0:List (ByteArray×Int×Int)):Option Bool:=ref21_Bricks_b lpK jnK ref01_IsName ref21_between x0
noncomputable def c89:Ctr:=⟨[(.sl T64)],[],[],.one .bool,fun x _ _=>ref21_Bricks x.1⟩
theorem e89 (lp:Lp) (jn:Jn) (ref01_IsName:(ByteArray)→Option (Bool)) (ref21_between:(Int)→(Int)→(Int)→Option (Bool)):∀(x:TsS c89.as) (F:TsF c89.fs) (y:TsS c89.cs),ref21_Bricks_b lp jn ref01_IsName ref21_between x.1=runC lp jn (ctxOf prog shs inls its [(87,⟨[i64,i64,i64],[],[],.one .bool,fun x _ _=>ref21_between x.1 x.2.1 x.2.2.1⟩),(54,⟨[.str],[],[],.one .bool,fun x _ _=>ref01_IsName x.1⟩)] [(116,r116),(115,r115),(114,r114),(69,r69),(119,r119)]) hints 4 89 f89 c89 x F y:=fun x F y=>by kernel_rfl
theorem l89:(ctxOf prog shs inls its [(87,c87),(54,c54)] [(116,r116),(115,r115),(114,r114),(69,r69),(119,r119)]).ok:=ctxOf_cons (ctxOf_cons (q116) (by kernel_rfl) ok54) (by kernel_rfl) ok87
theorem ok89:c89.ok prog 89:=Ctr.of_den l89 hmix (hl:=hints) (d:=4) func89 rfl (by decide) (e89 lpK jnK ref01_IsName ref21_between)
noncomputable def ref21_Valid_b (lp:Lp) (_:Jn) (ref01_IsName:(ByteArray)→Option (Bool)) (ref21_between:(Int)→(Int)→(Int)→Option (Bool)) (ref21_items:(ByteArray×Int×Int×Int×Int×(List Int)×Int×Int×Int×Int×Int×(List (ByteArray×Int×Int×Int×Int×Int×Int))×List (ByteArray×Int×Int))→Option (Bool)) (ref21_Bricks:(List (ByteArray×Int×Int))→Option (Bool)) (x0:ByteArray×Int×Int×Int×Int×(List Int)×Int×Int×Int×Int×Int×(List (ByteArray×Int×Int×Int×Int×Int×Int))×List (ByteArray×Int×Int)):Option Bool :=
 obind (ref01_IsName x0.1) fun (t:Bool) =>
 let v4:Bool:=!t;
 let v5:Bool:=!v4;
 let v6:Bool:=!v5||v5;bif v6 then bif v6 then obind (bif v5 then ref21_between x0.2.1 (0:Int) (1048576:Int) else some false) fun (t:Bool) =>
 let v8:Bool:=bif v4 then true else !t;
 let v9:Bool:=!v8;
 let v10:Bool:=!v9||v9;bif v6 then bif v4||v5 then bif v10 then bif v10 then bif v10&&v10 then obind (bif v9 then ref21_between x0.2.2.1 (0:Int) x0.2.2.2.1 else
  some false) fun (t:Bool) =>
 let v12:Bool:=bif v8 then true else !t;
 let v13:Bool:=!v12;
 let v14:Bool:=!v13||v13;bif v10 then bif v8||v9 then bif v14 then bif v14 then obind (bif v13 then ref21_between x0.2.2.2.1 (0:Int) (1048576:Int) else some false) fun
  (t:Bool) =>
 let v16:Bool:=bif v12 then true else !t;
 let v17:Bool:=!v16;
 let v18:Bool:=!v17||v17;bif v14 then bif v12||v13 then bif v18 then bif v18 then obind (bif v17 then ref21_between x0.2.2.2.2.1 (1000:Int) (1048576:Int) else some
  false) fun (t:Bool) =>
 let v20:Bool:=bif v16 then true else !t;
 let v21:Bool:=!v20;
 let v22:Bool:=!v21;
 let v23:Bool:=v22||v21;bif v18 then bif v16||v17 then bif v23 then bif v23&&(v22||true) then bif v23 then bif v20||v21 then bif bif v20 then true else !decide (Int.tmod
  x0.2.2.2.2.1 (1000:Int)=(0:Int)) then some false else obind (ref21_between (↑(List.length x0.2.2.2.2.2.1):Int) (2:Int) (10:Int)) fun (t:Bool) =>
 let v25:Bool:=!t;
 let v26:Bool:=!v25;
 let v27:Bool:=!v26||v26;bif v27 then bif v27 then obind (bif v26 then ref21_between x0.2.2.2.2.2.2.1 (0:Int) (1048576:Int) else some false) fun (t:Bool) =>
 let v29:Bool:=bif v25 then true else !t;
 let v30:Bool:=!v29;
 let v31:Bool:=!v30||v30;bif v27 then bif v25||v26 then bif v31 then bif v31 then obind (bif v30 then ref21_between x0.2.2.2.2.2.2.2.1 (0:Int) (1048576:Int)
  else some false) fun (t:Bool) =>
 let v33:Bool:=bif v29 then true else !t;
 let v34:Bool:=!v33;
 let v35:Bool:=!v34||v34;bif v31 then bif v29||v30 then bif v35 then bif v35 then obind (bif v34 then ref21_between x0.2.2.2.2.2.2.2.2.1 (1:Int) (2:Int) else
  some false) fun (t:Bool) =>
 let v37:Bool:=bif v33 then true else !t;
 let v38:Bool:=!v37;
 let v39:Bool:=!v38||v38;bif v35 then bif v33||v34 then bif v39 then bif v39 then obind (bif v38 then ref21_between x0.2.2.2.2.2.2.2.2.2.1 (1:Int) (67108864
  : Int) else some false) fun (t:Bool) =>
 let v41:Bool:=bif v37 then true else !t;
 let v42:Bool:=!v41;
 let v43:Bool:=!v42||v42;bif v39 then bif v37||v38 then bif v43 then bif v43 then obind (bif v42 then ref21_between x0.2.2.2.2.2.2.2.2.2.2.1 (0:Int)
  (67108864:Int) else some false) fun (t:Bool)=>bif v43 then bif v41||v42 then bif bif v41 then true else !t then some false else lp (Int×PUnit) Bool (fun (again:Int×PUnit →
  Option Bool) (x:Int×PUnit) =>
 let v47:Bool:=decide (x.1>(0:Int));
 let v48:Bool:=inB x.1 (List.length x0.2.2.2.2.2.1);bif decide (x.1<(↑(List.length x0.2.2.2.2.2.1):Int)) then bif v48 then obind (ref21_between
  (List.getD x0.2.2.2.2.2.1 (Int.toNat x.1) (0:Int)) (0:Int) x0.2.2.2.2.1) fun (t:Bool) =>
 let v50:Bool:=!t;
 let v51:Bool:=!v50;
 let v52:Bool:=!v51;
 let v53:Bool:=v51&&v47;
 let v54:Bool:=!v53;
 let v55:Bool:=v52||v51;
 let v56:Bool:=v54||v53;bif v55 then bif v55 then bif v56 then bif v56&&(v56&&(v54||v48)) then bif v56 then bif v56 then bif v56 then bif v56&&(v56&&(v54||inB
  (IntKind.wrap .i64 (x.1 - (1:Int))) (List.length x0.2.2.2.2.2.1))) then bif v56 then bif v56&&v56 then bif (v52||v55)&&(v52||(!v47||(v52||v53))) then
  bif v50||v51 then bif bif v50 then true else bif v47 then decide (List.getD x0.2.2.2.2.2.1 (Int.toNat x.1) (0:Int)≤List.getD x0.2.2.2.2.2.1 (Int.toNat
  (IntKind.wrap .i64 (x.1 - (1:Int)))) (0:Int)) else false then some false else again (IntKind.wrap .i64 (x.1+(1:Int)),PUnit.unit) else none else none else none
  else none else none else none else none else none else none else none else none else none else none else obind (ref21_items x0) fun (t:Bool) =>
 let v50:Bool:=!t||t;bif v50 then bif v50 then obind (bif t then ref21_Bricks x0.2.2.2.2.2.2.2.2.2.2.2.2 else some false) fun (t_1:Bool)=>bif v50 then
  some (bif t then t_1 else false) else none else none else none) ((0:Int),PUnit.unit) else none else none else none else none else none else none else none else none else none else
  none else none else none else none else none else none else none else none else none else none else none else none else none else none else none else none else none else none else none
  else none else none else none else none else none else none else none else none else none else none else none else none else none
noncomputable def ref21_Valid (x0:ByteArray×Int×Int×Int×Int×(List Int)×Int×Int×Int×Int×Int×(List (ByteArray×Int×Int×Int×Int×Int×Int))×List (ByteArray×Int×Int)):Option Bool:=ref21_Valid_b lpK jnK ref01_IsName ref21_between ref21_items ref21_Bricks x0
noncomputable def c56:Ctr:=⟨[T44],[],[],.one .bool,fun x _ _=>ref21_Valid x.1⟩
theorem e56 (lp:Lp) (jn:Jn) (ref01_IsName:(ByteArray)→Option (Bool)) (ref21_between:(Int)→(Int)→(Int)→Option (Bool)) (ref21_items:(ByteArray×Int×Int×Int×Int×(List Int)×Int×Int×Int×Int×Int×(List (ByteArray×Int×Int×Int×Int×Int×Int))×List (ByteArray×Int×Int))→Option (Bool)) (ref21_Bricks:(List (ByteArray×Int×Int))→Option (Bool)):∀(x:TsS c56.as) (F:TsF c56.fs) (y:TsS c56.cs),ref21_Valid_b lp jn ref01_IsName ref21_between ref21_items ref21_Bricks x.1=runC lp jn (ctxOf prog shs inls its [(89,⟨[(.sl T64)],[],[],.one .bool,fun x _ _=>ref21_Bricks x.1⟩),(88,⟨[T44],[],[],.one .bool,fun x _ _=>ref21_items x.1⟩),(87,⟨[i64,i64,i64],[],[],.one .bool,fun x _ _=>ref21_between x.1 x.2.1 x.2.2.1⟩),(54,⟨[.str],[],[],.one .bool,fun x _ _=>ref01_IsName x.1⟩)] [(116,r116),(115,r115),(114,r114),(69,r69),(119,r119)]) hints 4 56 f56 c56 x F y:=fun x F y=>by kernel_rfl
theorem l56:(ctxOf prog shs inls its [(89,c89),(88,c88),(87,c87),(54,c54)] [(116,r116),(115,r115),(114,r114),(69,r69),(119,r119)]).ok:=ctxOf_cons (ctxOf_cons (ctxOf_cons (ctxOf_cons (q116) (by kernel_rfl) ok54) (by kernel_rfl) ok87) (by kernel_rfl) ok88) (by kernel_rfl) ok89
theorem ok56:c56.ok prog 56:=Ctr.of_den l56 hmix (hl:=hints) (d:=4) func56 rfl (by decide) (e56 lpK jnK ref01_IsName ref21_between ref21_items ref21_Bricks)
noncomputable def ref30_Valid_b (lp:Lp) (_:Jn) (ref30_FindSet:(ByteArray×Int×(List (ByteArray×Int×Int×Int×Int×(List Int)×Int×Int×Int×Int×Int×(List (ByteArray×Int×Int×Int×Int×Int×Int))×List (ByteArray×Int×Int)))×List (ByteArray×Int×Int×Int))→(ByteArray)→Option (Int)) (ref01_IsName:(ByteArray)→Option (Bool)) (ref19_Valid:(List (ByteArray×Int×Int×Int))→Option (Bool)) (ref21_Valid:(ByteArray×Int×Int×Int×Int×(List Int)×Int×Int×Int×Int×Int×(List (ByteArray×Int×Int×Int×Int×Int×Int))×List (ByteArray×Int×Int))→Option (Bool)) (x0:ByteArray×Int×(List (ByteArray×Int×Int×Int×Int×(List Int)×Int×Int×Int×Int×Int×(List (ByteArray×Int×Int×Int×Int×Int×Int))×List (ByteArray×Int×Int)))×List (ByteArray×Int×Int×Int)):Option Bool :=
 
 let v3:Bool:=decide (x0.2.1<(1:Int));
 let v4:Bool:=decide (x0.2.1>(1048576:Int));
 let v5:Bool:=decide ((↑(List.length x0.2.2.1):Int)>(60:Int));obind (ref01_IsName x0.1) fun (t:Bool) =>
 let v7:Bool:=!t;
 let v8:Bool:=!v7;
 let v9:Bool:=bif v7 then true else v3;
 let v10:Bool:=!v9;
 let v11:Bool:=!v8||v8;
 let v12:Bool:=bif v9 then true else v4;
 let v13:Bool:=!v12;
 let v14:Bool:=bif v12 then true else v5;
 let v15:Bool:=!v14;
 let v16:Bool:=!v10||v10;
 let v17:Bool:=!v13||v13;
 let v18:Bool:=!v15||v15;bif v11 then bif v11 then bif v7||v8 then bif v16 then bif v16 then bif v9||v10 then bif v17 then bif v17 then bif v17 then bif v12||v13 then bif v18
  then bif v18 then obind (bif v15 then ref19_Valid x0.2.2.2 else some false) fun (t:Bool)=>bif v18 then bif v14||v15 then bif bif v14 then true else !t then some false else
  lp (Int×PUnit) Bool (fun (again:Int×PUnit→Option Bool) (x:Int×PUnit) =>
 let v22:Bool:=inB x.1 (List.length x0.2.2.1);
 let v23:ByteArray×Int×Int×Int×Int×List Int×Int×Int×Int×Int×Int×List (ByteArray×Int×Int×Int×Int×Int×Int)×List (ByteArray×Int×Int):=List.getD
  x0.2.2.1 (Int.toNat x.1) ({ data:={ toList:=[] } },(0:Int),(0:Int),(0:Int),(0:Int),[],(0:Int),(0:Int),(0:Int),(0:Int),(0:Int),[],[]);
 let v24:Bool:=decide (v23.2.2.2.1>x0.2.1);bif decide (x.1<(↑(List.length x0.2.2.1):Int)) then bif v22 then obind (ref21_Valid v23) fun (t:Bool) =>
 let v26:Bool:=!t;
 let v27:Bool:=!v26;
 let v28:Bool:=!v27;
 let v29:Bool:=bif v26 then true else v24;
 let v30:Bool:=!v29;
 let v31:Bool:=v28||v27;
 let v32:Bool:=!v30;
 let v33:Bool:=v32||v30;
 let v34:Bool:=v33&&v33;bif v31 then bif v31&&(v31&&(v28||v22)) then bif v31 then bif v31 then bif v31 then bif v31&&v31 then bif v26||v27 then bif v33 then bif v33 &&
  (v33&&(v32||v22)) then bif v33 then bif v33 then bif v34 then obind (bif v30 then ref30_FindSet x0 v23.1 else some (0:Int)) fun (t:Int)=>bif v34 then bif v29||v30 then bif
  bif v29 then true else !decide (t=x.1) then some false else again (IntKind.wrap .i64 (x.1+(1:Int)),PUnit.unit) else none else none else none else none else none else
  none else none else none else none else none else none else none else none else none else none else some true) ((0:Int),PUnit.unit) else none else none else none else none else none
  else none else none else none else none else none else none else none else none else none
noncomputable def ref30_Valid (x0:ByteArray×Int×(List (ByteArray×Int×Int×Int×Int×(List Int)×Int×Int×Int×Int×Int×(List (ByteArray×Int×Int×Int×Int×Int×Int))×List (ByteArray×Int×Int)))×List (ByteArray×Int×Int×Int)):Option Bool:=ref30_Valid_b lpK jnK ref30_FindSet ref01_IsName ref19_Valid ref21_Valid x0
noncomputable def c25:Ctr:=⟨[T25],[],[],.one .bool,fun x _ _=>ref30_Valid x.1⟩
theorem e25 (lp:Lp) (jn:Jn) (ref30_FindSet:(ByteArray×Int×(List (ByteArray×Int×Int×Int×Int×(List Int)×Int×Int×Int×Int×Int×(List (ByteArray×Int×Int×Int×Int×Int×Int))×List (ByteArray×Int×Int)))×List (ByteArray×Int×Int×Int))→(ByteArray)→Option (Int)) (ref01_IsName:(ByteArray)→Option (Bool)) (ref19_Valid:(List (ByteArray×Int×Int×Int))→Option (Bool)) (ref21_Valid:(ByteArray×Int×Int×Int×Int×(List Int)×Int×Int×Int×Int×Int×(List (ByteArray×Int×Int×Int×Int×Int×Int))×List (ByteArray×Int×Int))→Option (Bool)):∀(x:TsS c25.as) (F:TsF c25.fs) (y:TsS c25.cs),ref30_Valid_b lp jn ref30_FindSet ref01_IsName ref19_Valid ref21_Valid x.1=runC lp jn (ctxOf prog shs inls its [(56,⟨[T44],[],[],.one .bool,fun x _ _=>ref21_Valid x.1⟩),(55,⟨[(.sl T96)],[],[],.one .bool,fun x _ _=>ref19_Valid x.1⟩),(54,⟨[.str],[],[],.one .bool,fun x _ _=>ref01_IsName x.1⟩),(28,⟨[T25,.str],[],[],.one i64,fun x _ _=>ref30_FindSet x.1 x.2.1⟩)] [(116,r116),(115,r115),(114,r114),(69,r69),(119,r119)]) hints 4 25 f25 c25 x F y:=fun x F y=>by kernel_rfl
theorem l25:(ctxOf prog shs inls its [(56,c56),(55,c55),(54,c54),(28,c28)] [(116,r116),(115,r115),(114,r114),(69,r69),(119,r119)]).ok:=ctxOf_cons (ctxOf_cons (ctxOf_cons (ctxOf_cons (q116) (by kernel_rfl) ok28) (by kernel_rfl) ok54) (by kernel_rfl) ok55) (by kernel_rfl) ok56
theorem ok25:c25.ok prog 25:=Ctr.of_den l25 hmix (hl:=hints) (d:=4) func25 rfl (by decide) (e25 lpK jnK ref30_FindSet ref01_IsName ref19_Valid ref21_Valid)
noncomputable def ref21_Pipe_b (_:Lp) (_:Jn) (x0:ByteArray×Int×Int×Int×Int×(List Int)×Int×Int×Int×Int×Int×(List (ByteArray×Int×Int×Int×Int×Int×Int))×List (ByteArray×Int×Int)):Option Int :=
 some (IntKind.wrap .i64 (x0.2.2.2.2.2.2.1*IntKind.wrap .i64 (Int.tdiv x0.2.2.2.2.1 (1000:Int))))
noncomputable def ref21_Pipe (x0:ByteArray×Int×Int×Int×Int×(List Int)×Int×Int×Int×Int×Int×(List (ByteArray×Int×Int×Int×Int×Int×Int))×List (ByteArray×Int×Int)):Option Int:=ref21_Pipe_b lpK jnK x0
noncomputable def c124:Ctr:=⟨[T44],[],[],.one i64,fun x _ _=>ref21_Pipe x.1⟩
theorem e124 (lp:Lp) (jn:Jn):∀(x:TsS c124.as) (F:TsF c124.fs) (y:TsS c124.cs),ref21_Pipe_b lp jn x.1=runC lp jn (ctxOf prog shs inls its [] [(116,r116),(115,r115),(114,r114),(69,r69),(119,r119)]) hints 4 124 f124 c124 x F y:=fun x F y=>by kernel_rfl
theorem l124:(ctxOf prog shs inls its [] [(116,r116),(115,r115),(114,r114),(69,r69),(119,r119)]).ok:=q116
theorem ok124:c124.ok prog 124:=Ctr.of_den l124 hmix (hl:=hints) (d:=4) func124 rfl (by decide) (e124 lpK jnK)
noncomputable def ref21_Weight_b (lp:Lp) (_:Jn) (ref21_Pipe:(ByteArray×Int×Int×Int×Int×(List Int)×Int×Int×Int×Int×Int×(List (ByteArray×Int×Int×Int×Int×Int×Int))×List (ByteArray×Int×Int))→Option (Int)) (x0:ByteArray×Int×Int×Int×Int×(List Int)×Int×Int×Int×Int×Int×(List (ByteArray×Int×Int×Int×Int×Int×Int))×List (ByteArray×Int×Int)):Option Int :=
 obind (ref21_Pipe x0) fun (t:Int)=>lp (Int×Int×PUnit) Int (fun (again:Int×Int×PUnit→Option Int) (x:Int×Int×PUnit)=>bif decide (x.2.1<(↑(List.length
  x0.2.2.2.2.2.2.2.2.2.2.2.1):Int)) then bif inB x.2.1 (List.length x0.2.2.2.2.2.2.2.2.2.2.2.1) then again (IntKind.wrap .i64
  (x.1+(List.getD x0.2.2.2.2.2.2.2.2.2.2.2.1 (Int.toNat x.2.1) ({ data:={ toList:=[] } },(0:Int),(0:Int),(0:Int),(0:Int),(0:Int),(0 :
  Int))).2.2.2.1),IntKind.wrap .i64 (x.2.1+(1:Int)),PUnit.unit) else none else some x.1) (t,(0:Int),PUnit.unit)
noncomputable def ref21_Weight (x0:ByteArray×Int×Int×Int×Int×(List Int)×Int×Int×Int×Int×Int×(List (ByteArray×Int×Int×Int×Int×Int×Int))×List (ByteArray×Int×Int)):Option Int:=ref21_Weight_b lpK jnK ref21_Pipe x0
noncomputable def c74:Ctr:=⟨[T44],[],[],.one i64,fun x _ _=>ref21_Weight x.1⟩
theorem e74 (lp:Lp) (jn:Jn) (ref21_Pipe:(ByteArray×Int×Int×Int×Int×(List Int)×Int×Int×Int×Int×Int×(List (ByteArray×Int×Int×Int×Int×Int×Int))×List (ByteArray×Int×Int))→Option (Int)):∀(x:TsS c74.as) (F:TsF c74.fs) (y:TsS c74.cs),ref21_Weight_b lp jn ref21_Pipe x.1=runC lp jn (ctxOf prog shs inls its [(124,⟨[T44],[],[],.one i64,fun x _ _=>ref21_Pipe x.1⟩)] [(116,r116),(115,r115),(114,r114),(69,r69),(119,r119)]) hints 4 74 f74 c74 x F y:=fun x F y=>by kernel_rfl
theorem l74:(ctxOf prog shs inls its [(124,c124)] [(116,r116),(115,r115),(114,r114),(69,r69),(119,r119)]).ok:=ctxOf_cons (q116) (by kernel_rfl) ok124
theorem ok74:c74.ok prog 74:=Ctr.of_den l74 hmix (hl:=hints) (d:=4) func74 rfl (by decide) (e74 lpK jnK ref21_Pipe)
noncomputable def ref25_Sum_b (lp:Lp) (_:Jn) (x0:List (ByteArray×Int×Int)) (x1:List Int):Option Int :=
 lp (Int×Int×PUnit) Int (fun (again:Int×Int×PUnit→Option Int) (x:Int×Int×PUnit)=>bif decide (x.2.1<(↑(List.length x0):Int)) then bif inB x.2.1 (List.length
  x0) then bif inB x.2.1 (List.length x1) then again (IntKind.wrap .i64 (x.1+IntKind.wrap .i64 ((List.getD x0 (Int.toNat x.2.1) ({ data:={ toList:=[] } },(0
  : Int),(0:Int))).2.1*List.getD x1 (Int.toNat x.2.1) (0:Int))),IntKind.wrap .i64 (x.2.1+(1:Int)),PUnit.unit) else none else none else some x.1) ((0 :
  Int),(0:Int),PUnit.unit)
noncomputable def ref25_Sum (x0:List (ByteArray×Int×Int)) (x1:List Int):Option Int:=ref25_Sum_b lpK jnK x0 x1
noncomputable def c75:Ctr:=⟨[(.sl T64),(.sl i64)],[],[],.one i64,fun x _ _=>ref25_Sum x.1 x.2.1⟩
theorem e75 (lp:Lp) (jn:Jn):∀(x:TsS c75.as) (F:TsF c75.fs) (y:TsS c75.cs),ref25_Sum_b lp jn x.1 x.2.1=runC lp jn (ctxOf prog shs inls its [] [(116,r116),(115,r115),(114,r114),(69,r69),(119,r119)]) hints 4 75 f75 c75 x F y:=fun x F y=>by kernel_rfl
theorem l75:(ctxOf prog shs inls its [] [(116,r116),(115,r115),(114,r114),(69,r69),(119,r119)]).ok:=q116
theorem ok75:c75.ok prog 75:=Ctr.of_den l75 hmix (hl:=hints) (d:=4) func75 rfl (by decide) (e75 lpK jnK)
noncomputable def ref25_Counts_b (lp:Lp) (_:Jn) (x0:List (ByteArray×Int×Int)):Option (List Int) :=
 lp (List Int×Int×PUnit) (List Int) (fun (again:List Int×Int×PUnit→Option (List Int)) (x:List Int×Int×PUnit)=>bif decide (x.2.1<(↑(List.length x0):Int)) then bif
  inB x.2.1 (List.length x0) then bif fitB (List.length x.1+(1:Nat)) (8:Nat) then again (x.1++[(List.getD x0 (Int.toNat x.2.1) ({ data:={ toList:=[] } },(0 :
  Int),(0:Int))).2.2],IntKind.wrap .i64 (x.2.1+(1:Int)),PUnit.unit) else none else none else some x.1) ([],(0:Int),PUnit.unit)
noncomputable def ref25_Counts (x0:List (ByteArray×Int×Int)):Option (List Int):=ref25_Counts_b lpK jnK x0
noncomputable def c76:Ctr:=⟨[(.sl T64)],[],[],.one (.sl i64),fun x _ _=>ref25_Counts x.1⟩
theorem e76 (lp:Lp) (jn:Jn):∀(x:TsS c76.as) (F:TsF c76.fs) (y:TsS c76.cs),ref25_Counts_b lp jn x.1=runC lp jn (ctxOf prog shs inls its [] [(116,r116),(115,r115),(114,r114),(69,r69),(119,r119)]) hints 4 76 f76 c76 x F y:=fun x F y=>by kernel_rfl
theorem l76:(ctxOf prog shs inls its [] [(116,r116),(115,r115),(114,r114),(69,r69),(119,r119)]).ok:=q116
theorem ok76:c76.ok prog 76:=Ctr.of_den l76 hmix (hl:=hints) (d:=4) func76 rfl (by decide) (e76 lpK jnK)
noncomputable def ref30_Points_b (lp:Lp) (_:Jn) (ref21_Weight:(ByteArray×Int×Int×Int×Int×(List Int)×Int×Int×Int×Int×Int×(List (ByteArray×Int×Int×Int×Int×Int×Int))×List (ByteArray×Int×Int))→Option (Int)) (ref25_Sum:(List (ByteArray×Int×Int))→(List Int)→Option (Int)) (ref25_Counts:(List (ByteArray×Int×Int))→Option (List Int)) (x0:ByteArray×Int×(List (ByteArray×Int×Int×Int×Int×(List Int)×Int×Int×Int×Int×Int×(List (ByteArray×Int×Int×Int×Int×Int×Int))×List (ByteArray×Int×Int)))×List (ByteArray×Int×Int×Int)):Option (List (Int×Int)) :=
 lp (List (Int×Int)×Int×PUnit) (List (Int×Int)) (fun (again:List (Int×Int)×Int×PUnit→Option (List (Int×Int))) (x:List (Int×Int)×Int×PUnit) =>
 let v5:ByteArray×Int×Int×Int×Int×List Int×Int×Int×Int×Int×Int×List (ByteArray×Int×Int×Int×Int×Int×Int)×List (ByteArray×Int×Int):=List.getD
  x0.2.2.1 (Int.toNat x.2.1) ({ data:={ toList:=[] } },(0:Int),(0:Int),(0:Int),(0:Int),[],(0:Int),(0:Int),(0:Int),(0:Int),(0:Int),[],[]);bif
  decide (x.2.1<(↑(List.length x0.2.2.1):Int)) then bif inB x.2.1 (List.length x0.2.2.1) then obind (ref21_Weight v5) fun (t:Int)=>obind (ref25_Counts
  v5.2.2.2.2.2.2.2.2.2.2.2.2) fun (t_1:List Int)=>obind (ref25_Sum v5.2.2.2.2.2.2.2.2.2.2.2.2 t_1) fun (t_2:Int)=>bif fitB
  (List.length x.1+(1:Nat)) (16:Nat) then again (x.1++[(v5.2.1,IntKind.wrap .i64 (IntKind.wrap .i64 (t+v5.2.2.2.2.2.2.2.1)+t_2))],
  IntKind.wrap .i64 (x.2.1+(1:Int)),PUnit.unit) else none else none else some x.1) ([],(0:Int),PUnit.unit)
noncomputable def ref30_Points (x0:ByteArray×Int×(List (ByteArray×Int×Int×Int×Int×(List Int)×Int×Int×Int×Int×Int×(List (ByteArray×Int×Int×Int×Int×Int×Int))×List (ByteArray×Int×Int)))×List (ByteArray×Int×Int×Int)):Option (List (Int×Int)):=ref30_Points_b lpK jnK ref21_Weight ref25_Sum ref25_Counts x0
noncomputable def c42:Ctr:=⟨[T25],[],[],.one (.sl T78),fun x _ _=>ref30_Points x.1⟩
theorem e42 (lp:Lp) (jn:Jn) (ref21_Weight:(ByteArray×Int×Int×Int×Int×(List Int)×Int×Int×Int×Int×Int×(List (ByteArray×Int×Int×Int×Int×Int×Int))×List (ByteArray×Int×Int))→Option (Int)) (ref25_Sum:(List (ByteArray×Int×Int))→(List Int)→Option (Int)) (ref25_Counts:(List (ByteArray×Int×Int))→Option (List Int)):∀(x:TsS c42.as) (F:TsF c42.fs) (y:TsS c42.cs),ref30_Points_b lp jn ref21_Weight ref25_Sum ref25_Counts x.1=runC lp jn (ctxOf prog shs inls its [(76,⟨[(.sl T64)],[],[],.one (.sl i64),fun x _ _=>ref25_Counts x.1⟩),(75,⟨[(.sl T64),(.sl i64)],[],[],.one i64,fun x _ _=>ref25_Sum x.1 x.2.1⟩),(74,⟨[T44],[],[],.one i64,fun x _ _=>ref21_Weight x.1⟩)] [(116,r116),(115,r115),(114,r114),(69,r69),(119,r119)]) hints 4 42 f42 c42 x F y:=fun x F y=>by kernel_rfl
theorem l42:(ctxOf prog shs inls its [(76,c76),(75,c75),(74,c74)] [(116,r116),(115,r115),(114,r114),(69,r69),(119,r119)]).ok:=ctxOf_cons (ctxOf_cons (ctxOf_cons (q116) (by kernel_rfl) ok74) (by kernel_rfl) ok75) (by kernel_rfl) ok76
theorem ok42:c42.ok prog 42:=Ctr.of_den l42 hmix (hl:=hints) (d:=4) func42 rfl (by decide) (e42 lpK jnK ref21_Weight ref25_Sum ref25_Counts)
noncomputable def ref19_Is_b (_:Lp) (_:Jn) (ref19_between:(Int)→(Int)→(Int)→Option (Bool)) (x0:ByteArray×Int×Int×Int) (x1:Int):Option Bool :=
 obind (ref19_between x1 x0.2.1 x0.2.2.1) fun (t:Bool)=>some t
noncomputable def ref19_Is (x0:ByteArray×Int×Int×Int) (x1:Int):Option Bool:=ref19_Is_b lpK jnK ref19_between x0 x1
noncomputable def c79:Ctr:=⟨[T96,i64],[],[],.one .bool,fun x _ _=>ref19_Is x.1 x.2.1⟩
theorem e79 (lp:Lp) (jn:Jn) (ref19_between:(Int)→(Int)→(Int)→Option (Bool)):∀(x:TsS c79.as) (F:TsF c79.fs) (y:TsS c79.cs),ref19_Is_b lp jn ref19_between x.1 x.2.1=runC lp jn (ctxOf prog shs inls its [(86,⟨[i64,i64,i64],[],[],.one .bool,fun x _ _=>ref19_between x.1 x.2.1 x.2.2.1⟩)] [(116,r116),(115,r115),(114,r114),(69,r69),(119,r119)]) hints 4 79 f79 c79 x F y:=fun x F y=>by kernel_rfl
theorem l79:(ctxOf prog shs inls its [(86,c86)] [(116,r116),(115,r115),(114,r114),(69,r69),(119,r119)]).ok:=ctxOf_cons (q116) (by kernel_rfl) ok86
theorem ok79:c79.ok prog 79:=Ctr.of_den l79 hmix (hl:=hints) (d:=4) func79 rfl (by decide) (e79 lpK jnK ref19_between)
noncomputable def ref19_Count_b (lp:Lp) (_:Jn) (ref19_Is:(ByteArray×Int×Int×Int)→(Int)→Option (Bool)) (x0:List (ByteArray×Int×Int×Int)) (x1:Int):Option Int :=
 lp (Int×Int×PUnit) Int (fun (again:Int×Int×PUnit→Option Int) (x:Int×Int×PUnit) =>
 let v6:Int×PUnit:=(IntKind.wrap .i64 (x.2.1+(1:Int)),PUnit.unit);bif decide (x.2.1<(↑(List.length x0):Int)) then bif inB x.2.1 (List.length x0) then
  obind (ref19_Is (List.getD x0 (Int.toNat x.2.1) ({ data:={ toList:=[] } },(0:Int),(0:Int),(0:Int))) x1) fun (t:Bool)=>bif t then again (IntKind.wrap .i64
  (x.1+(1:Int)),v6) else again (x.1,v6) else none else some x.1) ((0:Int),(0:Int),PUnit.unit)
noncomputable def ref19_Count (x0:List (ByteArray×Int×Int×Int)) (x1:Int):Option Int:=ref19_Count_b lpK jnK ref19_Is x0 x1
noncomputable def c77:Ctr:=⟨[(.sl T96),i64],[],[],.one i64,fun x _ _=>ref19_Count x.1 x.2.1⟩
theorem e77 (lp:Lp) (jn:Jn) (ref19_Is:(ByteArray×Int×Int×Int)→(Int)→Option (Bool)):∀(x:TsS c77.as) (F:TsF c77.fs) (y:TsS c77.cs),ref19_Count_b lp jn ref19_Is x.1 x.2.1=runC lp jn (ctxOf prog shs inls its [(79,⟨[T96,i64],[],[],.one .bool,fun x _ _=>ref19_Is x.1 x.2.1⟩)] [(116,r116),(115,r115),(114,r114),(69,r69),(119,r119)]) hints 4 77 f77 c77 x F y:=fun x F y=>by kernel_rfl
theorem l77:(ctxOf prog shs inls its [(79,c79)] [(116,r116),(115,r115),(114,r114),(69,r69),(119,r119)]).ok:=ctxOf_cons (q116) (by kernel_rfl) ok79
theorem ok77:c77.ok prog 77:=Ctr.of_den l77 hmix (hl:=hints) (d:=4) func77 rfl (by decide) (e77 lpK jnK ref19_Is)
noncomputable def ref02_Of_b (_:Lp) (_:Jn) (x0:Int):Option (Int×Int) :=
 some (x0,(1:Int))
noncomputable def ref02_Of (x0:Int):Option (Int×Int):=ref02_Of_b lpK jnK x0
noncomputable def c78:Ctr:=⟨[i64],[],[],.one T36,fun x _ _=>ref02_Of x.1⟩
theorem e78 (lp:Lp) (jn:Jn):∀(x:TsS c78.as) (F:TsF c78.fs) (y:TsS c78.cs),ref02_Of_b lp jn x.1=runC lp jn (ctxOf prog shs inls its [] [(116,r116),(115,r115),(114,r114),(69,r69),(119,r119)]) hints 4 78 f78 c78 x F y:=fun x F y=>by kernel_rfl
theorem l78:(ctxOf prog shs inls its [] [(116,r116),(115,r115),(114,r114),(69,r69),(119,r119)]).ok:=q116
theorem ok78:c78.ok prog 78:=Ctr.of_den l78 hmix (hl:=hints) (d:=4) func78 rfl (by decide) (e78 lpK jnK)
noncomputable def ref02_Plus_b (_:Lp) (_:Jn) (x0:Int×Int) (x1:Int×Int):Option (Int×Int) :=
 
 let v4:Int:=IntKind.wrap .u64 (x0.1+x1.1);
 let v5:Int:=IntKind.wrap .u64 (x0.2+x1.2);bif decide (v5<x0.2) then some (IntKind.wrap .u64 (v4+(1:Int)),v5) else some (v4,v5)
noncomputable def ref02_Plus (x0:Int×Int) (x1:Int×Int):Option (Int×Int):=ref02_Plus_b lpK jnK x0 x1
noncomputable def c128:Ctr:=⟨[T148,T148],[],[],.one T148,fun x _ _=>ref02_Plus x.1 x.2.1⟩
theorem e128 (lp:Lp) (jn:Jn):∀(x:TsS c128.as) (F:TsF c128.fs) (y:TsS c128.cs),ref02_Plus_b lp jn x.1 x.2.1=runC lp jn (ctxOf prog shs inls its [] [(116,r116),(115,r115),(114,r114),(69,r69),(119,r119)]) hints 4 128 f128 c128 x F y:=fun x F y=>by kernel_rfl
theorem l128:(ctxOf prog shs inls its [] [(116,r116),(115,r115),(114,r114),(69,r69),(119,r119)]).ok:=q116
theorem ok128:c128.ok prog 128:=Ctr.of_den l128 hmix (hl:=hints) (d:=4) func128 rfl (by decide) (e128 lpK jnK)
noncomputable def ref02_Less_b (_:Lp) (_:Jn) (x0:Int×Int) (x1:Int×Int):Option Bool :=
 
 let v4:Bool:=decide (x0.1=x1.1);
 let v5:Bool:=decide (x0.1<x1.1);
 let v6:Bool:=!v5;
 let v7:Bool:=!v6;
 let v8:Bool:=v6&&v4;
 let v9:Bool:=v7||v6;
 let v10:Bool:=!v8||v8;bif v9 then bif v9 then bif v9&&v9 then bif v9 then bif v10 then bif v10 then bif v10&&v10 then bif (v7||v9)&&(v7||(!v4||(v7||v8))) then bif v5
  || v6 then some (bif v5 then true else bif v4 then decide (x0.2<x1.2) else false) else none else none else none else none else none else none else none else none else none
noncomputable def ref02_Less (x0:Int×Int) (x1:Int×Int):Option Bool:=ref02_Less_b lpK jnK x0 x1
noncomputable def c129:Ctr:=⟨[T148,T148],[],[],.one .bool,fun x _ _=>ref02_Less x.1 x.2.1⟩
theorem e129 (lp:Lp) (jn:Jn):∀(x:TsS c129.as) (F:TsF c129.fs) (y:TsS c129.cs),ref02_Less_b lp jn x.1 x.2.1=runC lp jn (ctxOf prog shs inls its [] [(116,r116),(115,r115),(114,r114),(69,r69),(119,r119)]) hints 4 129 f129 c129 x F y:=fun x F y=>by kernel_rfl
theorem l129:(ctxOf prog shs inls its [] [(116,r116),(115,r115),(114,r114),(69,r69),(119,r119)]).ok:=q116
theorem ok129:c129.ok prog 129:=Ctr.of_den l129 hmix (hl:=hints) (d:=4) func129 rfl (by decide) (e129 lpK jnK)
noncomputable def ref02_Minus_b (_:Lp) (_:Jn) (x0:Int×Int) (x1:Int×Int):Option (Int×Int) :=
 
 let v4:Int:=IntKind.wrap .u64 (x0.1 - x1.1);
 let v5:Int:=IntKind.wrap .u64 (x0.2 - x1.2);bif decide (x0.2<x1.2) then some (IntKind.wrap .u64 (v4 - (1:Int)),v5) else some (v4,v5)
noncomputable def ref02_Minus (x0:Int×Int) (x1:Int×Int):Option (Int×Int):=ref02_Minus_b lpK jnK x0 x1
noncomputable def c130:Ctr:=⟨[T148,T148],[],[],.one T148,fun x _ _=>ref02_Minus x.1 x.2.1⟩
theorem e130 (lp:Lp) (jn:Jn):∀(x:TsS c130.as) (F:TsF c130.fs) (y:TsS c130.cs),ref02_Minus_b lp jn x.1 x.2.1=runC lp jn (ctxOf prog shs inls its [] [(116,r116),(115,r115),(114,r114),(69,r69),(119,r119)]) hints 4 130 f130 c130 x F y:=fun x F y=>by kernel_rfl
theorem l130:(ctxOf prog shs inls its [] [(116,r116),(115,r115),(114,r114),(69,r69),(119,r119)]).ok:=q116
theorem ok130:c130.ok prog 130:=Ctr.of_den l130 hmix (hl:=hints) (d:=4) func130 rfl (by decide) (e130 lpK jnK)
noncomputable def ref02_Half_b (_:Lp) (_:Jn) (x0:Int×Int):Option (Int×Int) :=
 
 let v3:Int:=(2:Int) ^ (1:Nat);
 let v4:Bool:=decide ((0:Int)≤(1:Int));bif v4 then bif v4 then bif decide ((0:Int)≤(63:Int)) then some (Int.fdiv x0.1 v3,IntKind.wrap .u64 (Int.fdiv x0.2 v3 +
  IntKind.wrap .u64 (x0.1*(2:Int) ^ (63:Nat)))) else none else none else none
noncomputable def ref02_Half (x0:Int×Int):Option (Int×Int):=ref02_Half_b lpK jnK x0
noncomputable def c161:Ctr:=⟨[T148],[],[],.one T148,fun x _ _=>ref02_Half x.1⟩
theorem e161 (lp:Lp) (jn:Jn):∀(x:TsS c161.as) (F:TsF c161.fs) (y:TsS c161.cs),ref02_Half_b lp jn x.1=runC lp jn (ctxOf prog shs inls its [] [(116,r116),(115,r115),(114,r114),(69,r69),(119,r119)]) hints 4 161 f161 c161 x F y:=fun x F y=>by kernel_rfl
theorem l161:(ctxOf prog shs inls its [] [(116,r116),(115,r115),(114,r114),(69,r69),(119,r119)]).ok:=q116
theorem ok161:c161.ok prog 161:=Ctr.of_den l161 hmix (hl:=hints) (d:=4) func161 rfl (by decide) (e161 lpK jnK)
noncomputable def ref02_Gcd_b (lp:Lp) (_:Jn) (ref02_Plus:(Int×Int)→(Int×Int)→Option (Int×Int)) (ref02_Less:(Int×Int)→(Int×Int)→Option (Bool)) (ref02_Minus:(Int×Int)→(Int×Int)→Option (Int×Int)) (ref02_Half:(Int×Int)→Option (Int×Int)) (x0:Int×Int) (x1:Int×Int):Option (Int×Int) :=
 bif decide (x0.1=(0:Int))&&(decide (x0.2=(0:Int))&&true) then some x1 else lp (Int×(Int×Int)×(Int×Int)×PUnit) (Int×Int) (fun (again:Int×(Int×Int)×(Int ×
  Int)×PUnit→Option (Int×Int)) (x:Int×(Int×Int)×(Int×Int)×PUnit) =>
 let v6:Bool:=decide (IntKind.wrap .u64 (↑(Nat.land (Int.toNat (x.2.1.2 % Int.ofNat (18446744073709551616:Nat))) (Int.toNat ((1:Int) % Int.ofNat (18446744073709551616
  : Nat)))):Int)=(0:Int));
 let v7:Bool:=!v6||v6;bif v7 then bif v7 then bif v7 then bif v7 then bif bif v6 then decide (IntKind.wrap .u64 (↑(Nat.land (Int.toNat (x.2.2.1.2 % Int.ofNat
  (18446744073709551616:Nat))) (Int.toNat ((1:Int) % Int.ofNat (18446744073709551616:Nat)))):Int)=(0:Int)) else false then obind (ref02_Half x.2.1) fun (t:Int×Int) =>
  obind (ref02_Half x.2.2.1) fun (t_1:Int×Int)=>again (IntKind.wrap .i64 (x.1+(1:Int)),t,t_1,PUnit.unit) else lp ((Int×Int)×(Int×Int)×PUnit) (Int ×
  Int) (fun (again:(Int×Int)×(Int×Int)×PUnit→Option (Int×Int)) (x_1:(Int×Int)×(Int×Int)×PUnit) =>
 let v10:(Int×Int)×PUnit:=(x_1.2.1,PUnit.unit);bif !(decide (x_1.1.1=(0:Int))&&(decide (x_1.1.2=(0:Int))&&true)) then lp ((Int×Int)×PUnit) (Int×Int)
  (fun (again_1:(Int×Int)×PUnit→Option (Int×Int)) (x:(Int×Int)×PUnit)=>bif decide (IntKind.wrap .u64 (↑(Nat.land (Int.toNat (x.1.2 % Int.ofNat
  (18446744073709551616:Nat))) (Int.toNat ((1:Int) % Int.ofNat (18446744073709551616:Nat)))):Int)=(0:Int)) then obind (ref02_Half x.1) fun (t:Int×Int)=>again_1 (t,
  PUnit.unit) else lp ((Int×Int)×PUnit) (Int×Int) (fun (again_2:(Int×Int)×PUnit→Option (Int×Int)) (x_2:(Int×Int)×PUnit)=>bif decide (IntKind.wrap .u64
  (↑(Nat.land (Int.toNat (x_2.1.2 % Int.ofNat (18446744073709551616:Nat))) (Int.toNat ((1:Int) % Int.ofNat (18446744073709551616:Nat)))):Int)=(0:Int)) then obind
  (ref02_Half x_2.1) fun (t:Int×Int)=>again_2 (t,PUnit.unit) else obind (ref02_Less x.1 x_2.1) fun (t:Bool)=>bif t then obind (ref02_Minus x_2.1 x.1) fun (t:Int ×
  Int)=>again (t,x.1,PUnit.unit) else obind (ref02_Minus x.1 x_2.1) fun (t:Int×Int)=>again (t,x_2.1,PUnit.unit)) v10) (x_1.1,PUnit.unit) else lp (Int×(Int×Int)
  × PUnit) (Int×Int) (fun (again:Int×(Int×Int)×PUnit→Option (Int×Int)) (x:Int×(Int×Int)×PUnit)=>bif decide (x.1>(0:Int)) then obind (ref02_Plus x.2.1
  x.2.1) fun (t:Int×Int)=>again (IntKind.wrap .i64 (x.1 - (1:Int)),t,PUnit.unit) else some x.2.1) (x.1,v10)) (x.2.1,x.2.2.1,PUnit.unit) else none
  else none else none else none) ((0:Int),x0,x1,PUnit.unit)
noncomputable def ref02_Gcd (x0:Int×Int) (x1:Int×Int):Option (Int×Int):=ref02_Gcd_b lpK jnK ref02_Plus ref02_Less ref02_Minus ref02_Half x0 x1
noncomputable def c155:Ctr:=⟨[T148,T148],[],[],.one T148,fun x _ _=>ref02_Gcd x.1 x.2.1⟩
theorem e155 (lp:Lp) (jn:Jn) (ref02_Plus:(Int×Int)→(Int×Int)→Option (Int×Int)) (ref02_Less:(Int×Int)→(Int×Int)→Option (Bool)) (ref02_Minus:(Int×Int)→(Int×Int)→Option (Int×Int)) (ref02_Half:(Int×Int)→Option (Int×Int)):∀(x:TsS c155.as) (F:TsF c155.fs) (y:TsS c155.cs),ref02_Gcd_b lp jn ref02_Plus ref02_Less ref02_Minus ref02_Half x.1 x.2.1=runC lp jn (ctxOf prog shs inls its [(161,⟨[T148],[],[],.one T148,fun x _ _=>ref02_Half x.1⟩),(130,⟨[T148,T148],[],[],.one T148,fun x _ _=>ref02_Minus x.1 x.2.1⟩),(129,⟨[T148,T148],[],[],.one .bool,fun x _ _=>ref02_Less x.1 x.2.1⟩),(128,⟨[T148,T148],[],[],.one T148,fun x _ _=>ref02_Plus x.1 x.2.1⟩)] [(116,r116),(115,r115),(114,r114),(69,r69),(119,r119)]) hints 4 155 f155 c155 x F y:=fun x F y=>by kernel_rfl
theorem l155:(ctxOf prog shs inls its [(161,c161),(130,c130),(129,c129),(128,c128)] [(116,r116),(115,r115),(114,r114),(69,r69),(119,r119)]).ok:=ctxOf_cons (ctxOf_cons (ctxOf_cons (ctxOf_cons (q116) (by kernel_rfl) ok128) (by kernel_rfl) ok129) (by kernel_rfl) ok130) (by kernel_rfl) ok161
theorem ok155:c155.ok prog 155:=Ctr.of_den l155 hmix (hl:=hints) (d:=4) func155 rfl (by decide) (e155 lpK jnK ref02_Plus ref02_Less ref02_Minus ref02_Half)
noncomputable def ref02_Div_b (lp:Lp) (_:Jn) (ref02_Less:(Int×Int)→(Int×Int)→Option (Bool)) (ref02_Minus:(Int×Int)→(Int×Int)→Option (Int×Int)) (x0:Int×Int) (x1:Int×Int):Option ((Int×Int)×(Int×Int)×Unit) :=
 
 let v4:Bool:=nzB x1.2;
 let v5:Int:=(2:Int) ^ (63:Nat);
 let v6:Int:=(2:Int) ^ (1:Nat);
 let v7:Bool:=decide (x0.1=(0:Int));
 let v8:Bool:=decide ((0:Int)≤(63:Int));
 let v9:Bool:=decide ((0:Int)≤(1:Int));
 let v10:Bool:=!v7||v7;bif v10 then bif v10 then bif v10 then bif bif v7 then decide (x1.1=(0:Int)) else false then bif v4 then bif v4 then some (((0:Int),IntKind.wrap
  IntKind.u64 (Int.tdiv x0.2 x1.2)),((0:Int),Int.tmod x0.2 x1.2),PUnit.unit) else none else none else lp (Int×(Int×Int)×(Int×Int)×(Int×Int)×PUnit) ((Int×Int)
  × (Int×Int)×PUnit) (fun (again:Int×(Int×Int)×(Int×Int)×(Int×Int)×PUnit→Option ((Int×Int)×(Int×Int)×PUnit)) (x:Int×(Int×Int)×(Int×Int)×(Int ×
  Int)×PUnit) =>
 let v13:Int:=IntKind.wrap .i64 (x.1+(1:Int));
 let v14:Int:=IntKind.wrap .u64 (x.2.2.1.2*v6);
 let v15:Int:=IntKind.wrap .u64 (IntKind.wrap .u64 (x.2.2.1.1*v6)+Int.fdiv x.2.2.1.2 v5);
 let v16:Bool:=decide (Int.fdiv x.2.2.2.1.1 v5>(0:Int));
 let v17:Bool:=!v16;
 let v18:Int×Int:=(IntKind.wrap .u64 (IntKind.wrap .u64 (x.2.1.1*v6)+Int.fdiv x.2.1.2 v5),IntKind.wrap .u64 (x.2.1.2*v6));
 let v19:Int×Int:=(IntKind.wrap .u64 (IntKind.wrap .u64 (x.2.2.2.1.1*v6)+Int.fdiv x.2.2.2.1.2 v5),IntKind.wrap .u64 (IntKind.wrap
  IntKind.u64 (x.2.2.2.1.2*v6)+Int.fdiv x.2.1.1 v5));
 let v20:Bool:=!v17||v17;bif decide (x.1<(128:Int)) then bif v8 then bif v9 then bif v8 then bif v9 then bif v8 then bif v9 then bif v8 then bif v9 then bif v9 then bif v8
  then bif v9 then bif v20&&v20 then obind (bif v17 then ref02_Less v19 x1 else some false) fun (t:Bool)=>bif v20 then bif v16||v17 then bif bif v16 then true else !t then obind
  (ref02_Minus v19 x1) fun (t:Int×Int)=>again (v13,v18,(v15,IntKind.wrap .u64 (v14+(1:Int))),t,PUnit.unit) else again (v13,v18,(v15,v14),v19,PUnit.unit) else
  none else none else none else none else none else none else none else none else none else none else none else none else none else none else some (x.2.2.1,x.2.2.2.1,
  PUnit.unit)) ((0:Int),x0,((0:Int),(0:Int)),((0:Int),(0:Int)),PUnit.unit) else none else none else none
noncomputable def ref02_Div (x0:Int×Int) (x1:Int×Int):Option ((Int×Int)×(Int×Int)×Unit):=ref02_Div_b lpK jnK ref02_Less ref02_Minus x0 x1
noncomputable def c156:Ctr:=⟨[T148,T148],[],[],.tup [T148,T148],fun x _ _=>ref02_Div x.1 x.2.1⟩
theorem e156 (lp:Lp) (jn:Jn) (ref02_Less:(Int×Int)→(Int×Int)→Option (Bool)) (ref02_Minus:(Int×Int)→(Int×Int)→Option (Int×Int)):∀(x:TsS c156.as) (F:TsF c156.fs) (y:TsS c156.cs),ref02_Div_b lp jn ref02_Less ref02_Minus x.1 x.2.1=runC lp jn (ctxOf prog shs inls its [(130,⟨[T148,T148],[],[],.one T148,fun x _ _=>ref02_Minus x.1 x.2.1⟩),(129,⟨[T148,T148],[],[],.one .bool,fun x _ _=>ref02_Less x.1 x.2.1⟩)] [(116,r116),(115,r115),(114,r114),(69,r69),(119,r119)]) hints 4 156 f156 c156 x F y:=fun x F y=>by kernel_rfl
theorem l156:(ctxOf prog shs inls its [(130,c130),(129,c129)] [(116,r116),(115,r115),(114,r114),(69,r69),(119,r119)]).ok:=ctxOf_cons (ctxOf_cons (q116) (by kernel_rfl) ok129) (by kernel_rfl) ok130
theorem ok156:c156.ok prog 156:=Ctr.of_den l156 hmix (hl:=hints) (d:=4) func156 rfl (by decide) (e156 lpK jnK ref02_Less ref02_Minus)
noncomputable def ref02_Made_b (_:Lp) (_:Jn) (ref02_Gcd:(Int×Int)→(Int×Int)→Option (Int×Int)) (ref02_Div:(Int×Int)→(Int×Int)→Option ((Int×Int)×(Int×Int)×Unit)) (x0:Int×Int) (x1:Bool) (x2:Int×Int):Option ((Int×Int)×Int×Unit) :=
 bif decide (x2.1=(0:Int))&&(decide (x2.2=(0:Int))&&true) then some (((0:Int),(0:Int)),(16:Int),PUnit.unit) else obind (ref02_Gcd x0 x2) fun (t:Int×Int)=>obind
  (ref02_Div x0 t) fun (t_1:(Int×Int)×(Int×Int)×PUnit) =>
 let v7:Int:=IntKind.wrap .i64 t_1.1.2;
 let v8:Bool:=decide (t_1.1.1>(0:Int));
 let v9:Bool:=!v8;
 let v10:Bool:=bif v8 then true else decide (t_1.1.2>(1152921504606846976:Int));
 let v11:Bool:=!v9||v9;
 let v12:Bool:=!v10;
 let v13:Bool:=!v12||v12;obind (ref02_Div x2 t) fun (t:(Int×Int)×(Int×Int)×PUnit) =>
 let v15:Int:=IntKind.wrap .i64 t.1.2;
 let v16:Bool:=bif v10 then true else decide (t.1.1>(0:Int));
 let v17:Bool:=!v16;
 let v18:Bool:=!v17||v17;bif v11 then bif v11 then bif v8||v9 then bif v13 then bif v13 then bif v10||v12 then bif v18 then bif v18 then bif v16||v17 then bif bif v16 then
  true else decide (t.1.2>(1152921504606846976:Int)) then some (((0:Int),(0:Int)),(5:Int),PUnit.unit) else bif x1 then some ((IntKind.wrap .i64 ((0:Int) - v7),
  v15),(0:Int),PUnit.unit) else some ((v7,v15),(0:Int),PUnit.unit) else none else none else none else none else none else none else none else none else none
noncomputable def ref02_Made (x0:Int×Int) (x1:Bool) (x2:Int×Int):Option ((Int×Int)×Int×Unit):=ref02_Made_b lpK jnK ref02_Gcd ref02_Div x0 x1 x2
noncomputable def c125:Ctr:=⟨[T148,.bool,T148],[],[],.tup [T36,i64],fun x _ _=>ref02_Made x.1 x.2.1 x.2.2.1⟩
theorem e125 (lp:Lp) (jn:Jn) (ref02_Gcd:(Int×Int)→(Int×Int)→Option (Int×Int)) (ref02_Div:(Int×Int)→(Int×Int)→Option ((Int×Int)×(Int×Int)×Unit)):∀(x:TsS c125.as) (F:TsF c125.fs) (y:TsS c125.cs),ref02_Made_b lp jn ref02_Gcd ref02_Div x.1 x.2.1 x.2.2.1=runC lp jn (ctxOf prog shs inls its [(156,⟨[T148,T148],[],[],.tup [T148,T148],fun x _ _=>ref02_Div x.1 x.2.1⟩),(155,⟨[T148,T148],[],[],.one T148,fun x _ _=>ref02_Gcd x.1 x.2.1⟩)] [(116,r116),(115,r115),(114,r114),(69,r69),(119,r119)]) hints 4 125 f125 c125 x F y:=fun x F y=>by kernel_rfl
theorem l125:(ctxOf prog shs inls its [(156,c156),(155,c155)] [(116,r116),(115,r115),(114,r114),(69,r69),(119,r119)]).ok:=ctxOf_cons (ctxOf_cons (q116) (by kernel_rfl) ok155) (by kernel_rfl) ok156
theorem ok125:c125.ok prog 125:=Ctr.of_den l125 hmix (hl:=hints) (d:=4) func125 rfl (by decide) (e125 lpK jnK ref02_Gcd ref02_Div)
noncomputable def ref02_Size_b (_:Lp) (_:Jn) (x0:Int):Option Int :=
 
 let v3:Int:=IntKind.wrap .u64 x0;bif decide (x0<(0:Int)) then some (IntKind.wrap .u64 ((0:Int) - v3)) else some v3
noncomputable def ref02_Size (x0:Int):Option Int:=ref02_Size_b lpK jnK x0
noncomputable def c126:Ctr:=⟨[i64],[],[],.one (.int .u64),fun x _ _=>ref02_Size x.1⟩
theorem e126 (lp:Lp) (jn:Jn):∀(x:TsS c126.as) (F:TsF c126.fs) (y:TsS c126.cs),ref02_Size_b lp jn x.1=runC lp jn (ctxOf prog shs inls its [] [(116,r116),(115,r115),(114,r114),(69,r69),(119,r119)]) hints 4 126 f126 c126 x F y:=fun x F y=>by kernel_rfl
theorem l126:(ctxOf prog shs inls its [] [(116,r116),(115,r115),(114,r114),(69,r69),(119,r119)]).ok:=q116
theorem ok126:c126.ok prog 126:=Ctr.of_den l126 hmix (hl:=hints) (d:=4) func126 rfl (by decide) (e126 lpK jnK)
noncomputable def ref02_Make_b (_:Lp) (_:Jn) (ref02_Made:(Int×Int)→(Bool)→(Int×Int)→Option ((Int×Int)×Int×Unit)) (ref02_Size:(Int)→Option (Int)) (x0:Int) (x1:Int):Option ((Int×Int)×Int×Unit) :=
 obind (ref02_Size x0) fun (t:Int)=>obind (ref02_Size x1) fun (t_1:Int)=>obind (ref02_Made ((0:Int),t) (!decide (decide (x0<(0:Int))=decide (x1<(0:Int)))) ((0:Int),
  t_1)) fun (t:(Int×Int)×Int×PUnit)=>some (t.1,t.2.1,PUnit.unit)
noncomputable def ref02_Make (x0:Int) (x1:Int):Option ((Int×Int)×Int×Unit):=ref02_Make_b lpK jnK ref02_Made ref02_Size x0 x1
noncomputable def c80:Ctr:=⟨[i64,i64],[],[],.tup [T36,i64],fun x _ _=>ref02_Make x.1 x.2.1⟩
theorem e80 (lp:Lp) (jn:Jn) (ref02_Made:(Int×Int)→(Bool)→(Int×Int)→Option ((Int×Int)×Int×Unit)) (ref02_Size:(Int)→Option (Int)):∀(x:TsS c80.as) (F:TsF c80.fs) (y:TsS c80.cs),ref02_Make_b lp jn ref02_Made ref02_Size x.1 x.2.1=runC lp jn (ctxOf prog shs inls its [(126,⟨[i64],[],[],.one (.int .u64),fun x _ _=>ref02_Size x.1⟩),(125,⟨[T148,.bool,T148],[],[],.tup [T36,i64],fun x _ _=>ref02_Made x.1 x.2.1 x.2.2.1⟩)] [(116,r116),(115,r115),(114,r114),(69,r69),(119,r119)]) hints 4 80 f80 c80 x F y:=fun x F y=>by kernel_rfl
theorem l80:(ctxOf prog shs inls its [(126,c126),(125,c125)] [(116,r116),(115,r115),(114,r114),(69,r69),(119,r119)]).ok:=ctxOf_cons (ctxOf_cons (q116) (by kernel_rfl) ok125) (by kernel_rfl) ok126
theorem ok80:c80.ok prog 80:=Ctr.of_den l80 hmix (hl:=hints) (d:=4) func80 rfl (by decide) (e80 lpK jnK ref02_Made ref02_Size)
noncomputable def ref02_Mul_b (_:Lp) (_:Jn) (x0:Int) (x1:Int):Option (Int×Int) :=
 
 let v4:Int:=(2:Int) ^ (32:Nat);
 let v5:Int:=Int.fdiv x0 v4;
 let v6:Int:=Int.fdiv x1 v4;
 let v7:Bool:=decide ((0:Int)≤(32:Int));
 let v8:Int:=IntKind.wrap .u64 (↑(Nat.land (Int.toNat (x1 % Int.ofNat (18446744073709551616:Nat))) (Int.toNat ((4294967295:Int) % Int.ofNat (18446744073709551616:Nat)))) :
  Int);
 let v9:Int:=IntKind.wrap .u64 (↑(Nat.land (Int.toNat (x0 % Int.ofNat (18446744073709551616:Nat))) (Int.toNat ((4294967295:Int) % Int.ofNat (18446744073709551616:Nat)))) :
  Int);
 let v10:Int:=IntKind.wrap .u64 (v9*v8);
 let v11:Int:=IntKind.wrap .u64 (IntKind.wrap .u64 (v5*v8)+Int.fdiv v10 v4);
 let v12:Int:=IntKind.wrap .u64 (IntKind.wrap .u64 (v9*v6)+IntKind.wrap .u64 (↑(Nat.land (Int.toNat (v11 % Int.ofNat (18446744073709551616:Nat))) (Int.toNat
  ((4294967295:Int) % Int.ofNat (18446744073709551616:Nat)))):Int));bif v7 then bif v7 then bif v7 then bif v7 then bif v7 then bif v7 then some (IntKind.wrap .u64
  (IntKind.wrap .u64 (IntKind.wrap .u64 (v5*v6)+Int.fdiv v11 v4)+Int.fdiv v12 v4),IntKind.wrap .u64 (IntKind.wrap .u64 (v12*v4)+IntKind.wrap
  IntKind.u64 (↑(Nat.land (Int.toNat (v10 % Int.ofNat (18446744073709551616:Nat))) (Int.toNat ((4294967295:Int) % Int.ofNat (18446744073709551616:Nat)))):Int))) else none else
  none else none else none else none else none
noncomputable def ref02_Mul (x0:Int) (x1:Int):Option (Int×Int):=ref02_Mul_b lpK jnK x0 x1
noncomputable def c127:Ctr:=⟨[(.int .u64),(.int .u64)],[],[],.one T148,fun x _ _=>ref02_Mul x.1 x.2.1⟩
theorem e127 (lp:Lp) (jn:Jn):∀(x:TsS c127.as) (F:TsF c127.fs) (y:TsS c127.cs),ref02_Mul_b lp jn x.1 x.2.1=runC lp jn (ctxOf prog shs inls its [] [(116,r116),(115,r115),(114,r114),(69,r69),(119,r119)]) hints 4 127 f127 c127 x F y:=fun x F y=>by kernel_rfl
theorem l127:(ctxOf prog shs inls its [] [(116,r116),(115,r115),(114,r114),(69,r69),(119,r119)]).ok:=q116
theorem ok127:c127.ok prog 127:=Ctr.of_den l127 hmix (hl:=hints) (d:=4) func127 rfl (by decide) (e127 lpK jnK)
noncomputable def ref02_Add_b (_:Lp) (_:Jn) (ref02_Plus:(Int×Int)→(Int×Int)→Option (Int×Int)) (ref02_Less:(Int×Int)→(Int×Int)→Option (Bool)) (ref02_Minus:(Int×Int)→(Int×Int)→Option (Int×Int)) (ref02_Made:(Int×Int)→(Bool)→(Int×Int)→Option ((Int×Int)×Int×Unit)) (ref02_Size:(Int)→Option (Int)) (ref02_Mul:(Int)→(Int)→Option (Int×Int)) (x0:Int×Int) (x1:Int×Int):Option ((Int×Int)×Int×Unit) :=
 
 let v4:Bool:=decide (x0.1<(0:Int));obind (ref02_Size x0.1) fun (t:Int)=>obind (ref02_Size x1.2) fun (t_1:Int)=>obind (ref02_Mul t t_1) fun (t:Int×Int)=>obind
  (ref02_Size x1.1) fun (t_2:Int)=>obind (ref02_Size x0.2) fun (t_3:Int)=>obind (ref02_Mul t_2 t_3) fun (t_4:Int×Int)=>obind (ref02_Size x0.2) fun (t_5:Int)=>obind
  (ref02_Size x1.2) fun (t_6:Int)=>obind (ref02_Mul t_5 t_6) fun (t_7:Int×Int)=>bif decide (v4=decide (x1.1<(0:Int))) then obind (ref02_Plus t t_4) fun (t:Int×Int)
  =>obind (ref02_Made t v4 t_7) fun (t:(Int×Int)×Int×PUnit)=>some (t.1,t.2.1,PUnit.unit) else obind (ref02_Less t t_4) fun (t_8:Bool)=>bif t_8 then obind
  (ref02_Minus t_4 t) fun (t:Int×Int)=>obind (ref02_Made t (decide (x1.1<(0:Int))) t_7) fun (t:(Int×Int)×Int×PUnit)=>some (t.1,t.2.1,PUnit.unit) else obind
  (ref02_Minus t t_4) fun (t:Int×Int)=>obind (ref02_Made t v4 t_7) fun (t:(Int×Int)×Int×PUnit)=>some (t.1,t.2.1,PUnit.unit)
noncomputable def ref02_Add (x0:Int×Int) (x1:Int×Int):Option ((Int×Int)×Int×Unit):=ref02_Add_b lpK jnK ref02_Plus ref02_Less ref02_Minus ref02_Made ref02_Size ref02_Mul x0 x1
noncomputable def c81:Ctr:=⟨[T36,T36],[],[],.tup [T36,i64],fun x _ _=>ref02_Add x.1 x.2.1⟩
theorem e81 (lp:Lp) (jn:Jn) (ref02_Plus:(Int×Int)→(Int×Int)→Option (Int×Int)) (ref02_Less:(Int×Int)→(Int×Int)→Option (Bool)) (ref02_Minus:(Int×Int)→(Int×Int)→Option (Int×Int)) (ref02_Made:(Int×Int)→(Bool)→(Int×Int)→Option ((Int×Int)×Int×Unit)) (ref02_Size:(Int)→Option (Int)) (ref02_Mul:(Int)→(Int)→Option (Int×Int)):∀(x:TsS c81.as) (F:TsF c81.fs) (y:TsS c81.cs),ref02_Add_b lp jn ref02_Plus ref02_Less ref02_Minus ref02_Made ref02_Size ref02_Mul x.1 x.2.1=runC lp jn (ctxOf prog shs inls its [(127,⟨[(.int .u64),(.int .u64)],[],[],.one T148,fun x _ _=>ref02_Mul x.1 x.2.1⟩),(126,⟨[i64],[],[],.one (.int .u64),fun x _ _=>ref02_Size x.1⟩),(125,⟨[T148,.bool,T148],[],[],.tup [T36,i64],fun x _ _=>ref02_Made x.1 x.2.1 x.2.2.1⟩),(130,⟨[T148,T148],[],[],.one T148,fun x _ _=>ref02_Minus x.1 x.2.1⟩),(129,⟨[T148,T148],[],[],.one .bool,fun x _ _=>ref02_Less x.1 x.2.1⟩),(128,⟨[T148,T148],[],[],.one T148,fun x _ _=>ref02_Plus x.1 x.2.1⟩)] [(116,r116),(115,r115),(114,r114),(69,r69),(119,r119)]) hints 4 81 f81 c81 x F y:=fun x F y=>by kernel_rfl
theorem l81:(ctxOf prog shs inls its [(127,c127),(126,c126),(125,c125),(130,c130),(129,c129),(128,c128)] [(116,r116),(115,r115),(114,r114),(69,r69),(119,r119)]).ok:=ctxOf_cons (ctxOf_cons (ctxOf_cons (ctxOf_cons (ctxOf_cons (ctxOf_cons (q116) (by kernel_rfl) ok128) (by kernel_rfl) ok129) (by kernel_rfl) ok130) (by kernel_rfl) ok125) (by kernel_rfl) ok126) (by kernel_rfl) ok127
theorem ok81:c81.ok prog 81:=Ctr.of_den l81 hmix (hl:=hints) (d:=4) func81 rfl (by decide) (e81 lpK jnK ref02_Plus ref02_Less ref02_Minus ref02_Made ref02_Size ref02_Mul)
noncomputable def ref19_Loads_b (lp:Lp) (_:Jn) (ref19_Is:(ByteArray×Int×Int×Int)→(Int)→Option (Bool)) (ref19_Count:(List (ByteArray×Int×Int×Int))→(Int)→Option (Int)) (ref02_Of:(Int)→Option (Int×Int)) (ref02_Make:(Int)→(Int)→Option ((Int×Int)×Int×Unit)) (ref02_Add:(Int×Int)→(Int×Int)→Option ((Int×Int)×Int×Unit)) (x0:List (ByteArray×Int×Int×Int)) (x1:List (Int×Int)):Option ((List (Int×Int))×Int×Unit) :=
 lp (Int×PUnit) (List (Int×Int)×Int×PUnit) (fun (again:Int×PUnit→Option (List (Int×Int)×Int×PUnit)) (x:Int×PUnit)=>bif decide (x.1<(↑(List.length x1):Int))
  then bif inB x.1 (List.length x1) then obind (ref19_Count x0 (List.getD x1 (Int.toNat x.1) ((0:Int),(0:Int))).1) fun (t:Int)=>bif decide (t=(0:Int)) then some ([],
  (12:Int),PUnit.unit) else again (IntKind.wrap .i64 (x.1+(1:Int)),PUnit.unit) else none else lp (List (Int×Int)×Int×PUnit) (List (Int×Int)×Int×PUnit) (fun
  (again:List (Int×Int)×Int×PUnit→Option (List (Int×Int)×Int×PUnit)) (x:List (Int×Int)×Int×PUnit)=>bif decide (x.2.1<(↑(List.length x0):Int)) then obind
  (ref02_Of (0:Int)) fun (t:Int×Int)=>lp (Int×(Int×Int)×PUnit) (List (Int×Int)×Int×PUnit) (fun (again_1:Int×(Int×Int)×PUnit→Option (List (Int×Int)×Int ×
  PUnit)) (x_1:Int×(Int×Int)×PUnit) =>
 let v11:Bool:=inB x_1.1 (List.length x1);
 let v12:Int:=IntKind.wrap .i64 (x_1.1+(1:Int));
 let v13:Int×Int:=List.getD x1 (Int.toNat x_1.1) ((0:Int),(0:Int));bif decide (x_1.1<(↑(List.length x1):Int)) then bif inB x.2.1 (List.length x0) then bif v11 then
  obind (ref19_Is (List.getD x0 (Int.toNat x.2.1) ({ data:={ toList:=[] } },(0:Int),(0:Int),(0:Int))) v13.1) fun (t:Bool)=>bif !t then again_1 (v12,x_1.2.1,
  PUnit.unit) else bif v11 then bif v11 then obind (ref19_Count x0 v13.1) fun (t:Int)=>obind (ref02_Make v13.2 t) fun (t:(Int×Int)×Int×PUnit)=>bif !decide (t.2.1 =
  (0:Int)) then some ([],t.2.1,PUnit.unit) else obind (ref02_Add x_1.2.1 t.1) fun (t:(Int×Int)×Int×PUnit)=>bif !decide (t.2.1=(0:Int)) then some ([],
  t.2.1,PUnit.unit) else again_1 (v12,t.1,PUnit.unit) else none else none else none else none else bif fitB (List.length x.1+(1:Nat)) (16:Nat) then again (x.1 ++
  [x_1.2.1],IntKind.wrap .i64 (x.2.1+(1:Int)),PUnit.unit) else none) ((0:Int),t,PUnit.unit) else some (x.1,(0:Int),PUnit.unit)) ([],(0:Int),PUnit.unit))
  ((0:Int),PUnit.unit)
noncomputable def ref19_Loads (x0:List (ByteArray×Int×Int×Int)) (x1:List (Int×Int)):Option ((List (Int×Int))×Int×Unit):=ref19_Loads_b lpK jnK ref19_Is ref19_Count ref02_Of ref02_Make ref02_Add x0 x1
noncomputable def c43:Ctr:=⟨[(.sl T96),(.sl T78)],[],[],.tup [(.sl T36),i64],fun x _ _=>ref19_Loads x.1 x.2.1⟩
theorem e43 (lp:Lp) (jn:Jn) (ref19_Is:(ByteArray×Int×Int×Int)→(Int)→Option (Bool)) (ref19_Count:(List (ByteArray×Int×Int×Int))→(Int)→Option (Int)) (ref02_Of:(Int)→Option (Int×Int)) (ref02_Make:(Int)→(Int)→Option ((Int×Int)×Int×Unit)) (ref02_Add:(Int×Int)→(Int×Int)→Option ((Int×Int)×Int×Unit)):∀(x:TsS c43.as) (F:TsF c43.fs) (y:TsS c43.cs),ref19_Loads_b lp jn ref19_Is ref19_Count ref02_Of ref02_Make ref02_Add x.1 x.2.1=runC lp jn (ctxOf prog shs inls its [(81,⟨[T36,T36],[],[],.tup [T36,i64],fun x _ _=>ref02_Add x.1 x.2.1⟩),(80,⟨[i64,i64],[],[],.tup [T36,i64],fun x _ _=>ref02_Make x.1 x.2.1⟩),(78,⟨[i64],[],[],.one T36,fun x _ _=>ref02_Of x.1⟩),(77,⟨[(.sl T96),i64],[],[],.one i64,fun x _ _=>ref19_Count x.1 x.2.1⟩),(79,⟨[T96,i64],[],[],.one .bool,fun x _ _=>ref19_Is x.1 x.2.1⟩)] [(116,r116),(115,r115),(114,r114),(69,r69),(119,r119)]) hints 4 43 f43 c43 x F y:=fun x F y=>by kernel_rfl
theorem l43:(ctxOf prog shs inls its [(81,c81),(80,c80),(78,c78),(77,c77),(79,c79)] [(116,r116),(115,r115),(114,r114),(69,r69),(119,r119)]).ok:=ctxOf_cons (ctxOf_cons (ctxOf_cons (ctxOf_cons (ctxOf_cons (q116) (by kernel_rfl) ok79) (by kernel_rfl) ok77) (by kernel_rfl) ok78) (by kernel_rfl) ok80) (by kernel_rfl) ok81
theorem ok43:c43.ok prog 43:=Ctr.of_den l43 hmix (hl:=hints) (d:=4) func43 rfl (by decide) (e43 lpK jnK ref19_Is ref19_Count ref02_Of ref02_Make ref02_Add)
noncomputable def ref30_Loads_b (lp:Lp) (_:Jn) (ref30_Valid:(ByteArray×Int×(List (ByteArray×Int×Int×Int×Int×(List Int)×Int×Int×Int×Int×Int×(List (ByteArray×Int×Int×Int×Int×Int×Int))×List (ByteArray×Int×Int)))×List (ByteArray×Int×Int×Int))→Option (Bool)) (ref30_Points:(ByteArray×Int×(List (ByteArray×Int×Int×Int×Int×(List Int)×Int×Int×Int×Int×Int×(List (ByteArray×Int×Int×Int×Int×Int×Int))×List (ByteArray×Int×Int)))×List (ByteArray×Int×Int×Int))→Option (List (Int×Int))) (ref19_Loads:(List (ByteArray×Int×Int×Int))→(List (Int×Int))→Option ((List (Int×Int))×Int×Unit)) (x0:ByteArray×Int×(List (ByteArray×Int×Int×Int×Int×(List Int)×Int×Int×Int×Int×Int×(List (ByteArray×Int×Int×Int×Int×Int×Int))×List (ByteArray×Int×Int)))×List (ByteArray×Int×Int×Int)):Option ((List (Int×Int))×Int×Unit) :=
 obind (ref30_Valid x0) fun (t:Bool)=>bif !t then some ([],(1:Int),PUnit.unit) else obind (ref30_Points x0) fun (t:List (Int×Int))=>lp (Int×PUnit) (List (Int×Int)×Int ×
  PUnit) (fun (again:Int×PUnit→Option (List (Int×Int)×Int×PUnit)) (x:Int×PUnit)=>bif decide (x.1<(↑(List.length t):Int)) then bif inB x.1 (List.length t) then
  bif decide ((List.getD t (Int.toNat x.1) ((0:Int),(0:Int))).2>(67108864:Int)) then some ([],(5:Int),PUnit.unit) else again (IntKind.wrap .i64 (x.1+(1 :
  Int)),PUnit.unit) else none else obind (ref19_Loads x0.2.2.2 t) fun (t:List (Int×Int)×Int×PUnit)=>some (t.1,t.2.1,PUnit.unit)) ((0:Int),PUnit.unit)
noncomputable def ref30_Loads (x0:ByteArray×Int×(List (ByteArray×Int×Int×Int×Int×(List Int)×Int×Int×Int×Int×Int×(List (ByteArray×Int×Int×Int×Int×Int×Int))×List (ByteArray×Int×Int)))×List (ByteArray×Int×Int×Int)):Option ((List (Int×Int))×Int×Unit):=ref30_Loads_b lpK jnK ref30_Valid ref30_Points ref19_Loads x0
noncomputable def c13:Ctr:=⟨[T25],[],[],.tup [(.sl T36),i64],fun x _ _=>ref30_Loads x.1⟩
theorem e13 (lp:Lp) (jn:Jn) (ref30_Valid:(ByteArray×Int×(List (ByteArray×Int×Int×Int×Int×(List Int)×Int×Int×Int×Int×Int×(List (ByteArray×Int×Int×Int×Int×Int×Int))×List (ByteArray×Int×Int)))×List (ByteArray×Int×Int×Int))→Option (Bool)) (ref30_Points:(ByteArray×Int×(List (ByteArray×Int×Int×Int×Int×(List Int)×Int×Int×Int×Int×Int×(List (ByteArray×Int×Int×Int×Int×Int×Int))×List (ByteArray×Int×Int)))×List (ByteArray×Int×Int×Int))→Option (List (Int×Int))) (ref19_Loads:(List (ByteArray×Int×Int×Int))→(List (Int×Int))→Option ((List (Int×Int))×Int×Unit)):∀(x:TsS c13.as) (F:TsF c13.fs) (y:TsS c13.cs),ref30_Loads_b lp jn ref30_Valid ref30_Points ref19_Loads x.1=runC lp jn (ctxOf prog shs inls its [(43,⟨[(.sl T96),(.sl T78)],[],[],.tup [(.sl T36),i64],fun x _ _=>ref19_Loads x.1 x.2.1⟩),(42,⟨[T25],[],[],.one (.sl T78),fun x _ _=>ref30_Points x.1⟩),(25,⟨[T25],[],[],.one .bool,fun x _ _=>ref30_Valid x.1⟩)] [(116,r116),(115,r115),(114,r114),(69,r69),(119,r119)]) hints 4 13 f13 c13 x F y:=fun x F y=>by kernel_rfl
theorem l13:(ctxOf prog shs inls its [(43,c43),(42,c42),(25,c25)] [(116,r116),(115,r115),(114,r114),(69,r69),(119,r119)]).ok:=ctxOf_cons (ctxOf_cons (ctxOf_cons (q116) (by kernel_rfl) ok25) (by kernel_rfl) ok42) (by kernel_rfl) ok43
theorem ok13:c13.ok prog 13:=Ctr.of_den l13 hmix (hl:=hints) (d:=4) func13 rfl (by decide) (e13 lpK jnK ref30_Valid ref30_Points ref19_Loads)
noncomputable def law30_HouseLoads_b (_:Lp) (_:Jn) (house_Loads:(ByteArray×Int×(List (ByteArray×Int×Int×Int×Int×(List Int)×Int×Int×Int×Int×Int×(List (ByteArray×Int×Int×Int×Int×Int×Int))×List (ByteArray×Int×Int)))×List (ByteArray×Int×Int×Int))→Option ((List (Int×Int))×Int×Unit)) (slices_Equal_14:(List (Int×Int))→(List (Int×Int))→Option (Bool)) (law30_awake:Option (Bool)) (law30_small:(ByteArray×Int×(List (ByteArray×Int×Int×Int×Int×(List Int)×Int×Int×Int×Int×Int×(List (ByteArray×Int×Int×Int×Int×Int×Int))×List (ByteArray×Int×Int)))×List (ByteArray×Int×Int×Int))→Option (Bool)) (ref30_Loads:(ByteArray×Int×(List (ByteArray×Int×Int×Int×Int×(List Int)×Int×Int×Int×Int×Int×(List (ByteArray×Int×Int×Int×Int×Int×Int))×List (ByteArray×Int×Int)))×List (ByteArray×Int×Int×Int))→Option ((List (Int×Int))×Int×Unit)) (x0:ByteArray×Int×(List (ByteArray×Int×Int×Int×Int×(List Int)×Int×Int×Int×Int×Int×(List (ByteArray×Int×Int×Int×Int×Int×Int))×List (ByteArray×Int×Int)))×List (ByteArray×Int×Int×Int)):Option Bool :=
 obind law30_awake fun (t:Bool)=>bif !t then some false else obind (law30_small x0) fun (t:Bool)=>bif !t then some true else obind (house_Loads x0) fun (t:List (Int×Int)×Int ×
  PUnit)=>obind (ref30_Loads x0) fun (t_1:List (Int×Int)×Int×PUnit)=>obind (slices_Equal_14 t.1 t_1.1) fun (t_2:Bool) =>
 let v8:Bool:=!t_2||t_2;bif v8&&v8 then bif v8 then some (bif t_2 then decide (t.2.1=t_1.2.1) else false) else none else none
noncomputable def law30_HouseLoads (x0:ByteArray×Int×(List (ByteArray×Int×Int×Int×Int×(List Int)×Int×Int×Int×Int×Int×(List (ByteArray×Int×Int×Int×Int×Int×Int))×List (ByteArray×Int×Int)))×List (ByteArray×Int×Int×Int)):Option Bool:=law30_HouseLoads_b lpK jnK house_Loads slices_Equal_14 law30_awake law30_small ref30_Loads x0
noncomputable def c3:Ctr:=⟨[T25],[],[],.one .bool,fun x _ _=>law30_HouseLoads x.1⟩
theorem e3 (lp:Lp) (jn:Jn) (house_Loads:(ByteArray×Int×(List (ByteArray×Int×Int×Int×Int×(List Int)×Int×Int×Int×Int×Int×(List (ByteArray×Int×Int×Int×Int×Int×Int))×List (ByteArray×Int×Int)))×List (ByteArray×Int×Int×Int))→Option ((List (Int×Int))×Int×Unit)) (slices_Equal_14:(List (Int×Int))→(List (Int×Int))→Option (Bool)) (law30_awake:Option (Bool)) (law30_small:(ByteArray×Int×(List (ByteArray×Int×Int×Int×Int×(List Int)×Int×Int×Int×Int×Int×(List (ByteArray×Int×Int×Int×Int×Int×Int))×List (ByteArray×Int×Int)))×List (ByteArray×Int×Int×Int))→Option (Bool)) (ref30_Loads:(ByteArray×Int×(List (ByteArray×Int×Int×Int×Int×(List Int)×Int×Int×Int×Int×Int×(List (ByteArray×Int×Int×Int×Int×Int×Int))×List (ByteArray×Int×Int)))×List (ByteArray×Int×Int×Int))→Option ((List (Int×Int))×Int×Unit)):∀(x:TsS c3.as) (F:TsF c3.fs) (y:TsS c3.cs),law30_HouseLoads_b lp jn house_Loads slices_Equal_14 law30_awake law30_small ref30_Loads x.1=runC lp jn (ctxOf prog shs inls its [(13,⟨[T25],[],[],.tup [(.sl T36),i64],fun x _ _=>ref30_Loads x.1⟩),(11,⟨[T25],[],[],.one .bool,fun x _ _=>law30_small x.1⟩),(10,⟨[],[],[],.one .bool,fun _ _ _=>law30_awake⟩),(14,⟨[(.sl T36),(.sl T36)],[],[],.one .bool,fun x _ _=>slices_Equal_14 x.1 x.2.1⟩),(12,⟨[T25],[],[],.tup [(.sl T36),i64],fun x _ _=>house_Loads x.1⟩)] [(116,r116),(115,r115),(114,r114),(69,r69),(119,r119)]) hints 4 3 f3 c3 x F y:=fun x F y=>by kernel_rfl
theorem l3:(ctxOf prog shs inls its [(13,c13),(11,c11),(10,c10),(14,c14),(12,c12)] [(116,r116),(115,r115),(114,r114),(69,r69),(119,r119)]).ok:=ctxOf_cons (ctxOf_cons (ctxOf_cons (ctxOf_cons (ctxOf_cons (q116) (by kernel_rfl) ok12) (by kernel_rfl) ok14) (by kernel_rfl) ok10) (by kernel_rfl) ok11) (by kernel_rfl) ok13
noncomputable def law30_ready_b (_:Lp) (_:Jn) (law30_small:(ByteArray×Int×(List (ByteArray×Int×Int×Int×Int×(List Int)×Int×Int×Int×Int×Int×(List (ByteArray×Int×Int×Int×Int×Int×Int))×List (ByteArray×Int×Int)))×List (ByteArray×Int×Int×Int))→Option (Bool)) (ref30_Valid:(ByteArray×Int×(List (ByteArray×Int×Int×Int×Int×(List Int)×Int×Int×Int×Int×Int×(List (ByteArray×Int×Int×Int×Int×Int×Int))×List (ByteArray×Int×Int)))×List (ByteArray×Int×Int×Int))→Option (Bool)) (x0:ByteArray×Int×(List (ByteArray×Int×Int×Int×Int×(List Int)×Int×Int×Int×Int×Int×(List (ByteArray×Int×Int×Int×Int×Int×Int))×List (ByteArray×Int×Int)))×List (ByteArray×Int×Int×Int)):Option Bool :=
 obind (law30_small x0) fun (t:Bool) =>
 let v4:Bool:=!t||t;bif v4 then obind (bif t then ref30_Valid x0 else some false) fun (t_1:Bool)=>bif v4 then some (bif t then t_1 else false) else none else none
noncomputable def law30_ready (x0:ByteArray×Int×(List (ByteArray×Int×Int×Int×Int×(List Int)×Int×Int×Int×Int×Int×(List (ByteArray×Int×Int×Int×Int×Int×Int))×List (ByteArray×Int×Int)))×List (ByteArray×Int×Int×Int)):Option Bool:=law30_ready_b lpK jnK law30_small ref30_Valid x0
noncomputable def slices_Contains_17_b (_:Lp) (_:Jn) (slices_Index_46:(List Int)→(Int)→Option (Int)) (x0:List Int) (x1:Int):Option Bool :=
 obind (slices_Index_46 x0 x1) fun (t:Int)=>some (decide (t≥(0:Int)))
noncomputable def slices_Contains_17 (x0:List Int) (x1:Int):Option Bool:=slices_Contains_17_b lpK jnK slices_Index_46 x0 x1
noncomputable def law30_HouseOrder_b (lp:Lp) (_:Jn) (house_Order:(ByteArray×Int×(List (ByteArray×Int×Int×Int×Int×(List Int)×Int×Int×Int×Int×Int×(List (ByteArray×Int×Int×Int×Int×Int×Int))×List (ByteArray×Int×Int)))×List (ByteArray×Int×Int×Int))→Option ((List Int)×Int×Unit)) (house_Gap:(ByteArray×Int×(List (ByteArray×Int×Int×Int×Int×(List Int)×Int×Int×Int×Int×Int×(List (ByteArray×Int×Int×Int×Int×Int×Int))×List (ByteArray×Int×Int)))×List (ByteArray×Int×Int×Int))→(ByteArray)→(ByteArray)→Option (Int×Int×Unit)) (law30_awake:Option (Bool)) (law30_ready:(ByteArray×Int×(List (ByteArray×Int×Int×Int×Int×(List Int)×Int×Int×Int×Int×Int×(List (ByteArray×Int×Int×Int×Int×Int×Int))×List (ByteArray×Int×Int)))×List (ByteArray×Int×Int×Int))→Option (Bool)) (slices_Contains_17:(List Int)→(Int)→Option (Bool)) (x0:ByteArray×Int×(List (ByteArray×Int×Int×Int×Int×(List Int)×Int×Int×Int×Int×Int×(List (ByteArray×Int×Int×Int×Int×Int×Int))×List (ByteArray×Int×Int)))×List (ByteArray×Int×Int×Int)):Option Bool :=
 obind law30_awake fun (t:Bool)=>bif !t then some false else obind (law30_ready x0) fun (t:Bool)=>bif !t then some true else obind (house_Order x0) fun (t:List Int×Int×PUnit) =>
 let v6:Bool:=!decide (t.2.1=(0:Int));
 let v7:Bool:=!v6;
 let v8:Bool:=!v7||v7;bif v8 then bif v8 then bif v8 then bif v8&&v8 then bif v6||v7 then bif bif v6 then true else !decide ((↑(List.length t.1):Int)=(↑(List.length
  x0.2.2.1):Int)) then some false else lp (Int×PUnit) Bool (fun (again:Int×PUnit→Option Bool) (x:Int×PUnit) =>
 let v11:Int:=IntKind.wrap .i64 (x.1 - (1:Int));
 let v12:Int:=List.getD t.1 (Int.toNat x.1) (0:Int);
 let v13:Bool:=inB v11 (List.length t.1);
 let v14:Int:=List.getD t.1 (Int.toNat v11) (0:Int);
 let v15:Bool:=decide (v12<(0:Int));
 let v16:Bool:=!v15;
 let v17:Bool:=!v16||v16;
 let v18:Bool:=bif v15 then true else decide (v12≥(↑(List.length x0.2.2.1):Int));
 let v19:Bool:=!v18;
 let v20:Bool:=!v19;
 let v21:ByteArray×Int×Int×Int×Int×List Int×Int×Int×Int×Int×Int×List (ByteArray×Int×Int×Int×Int×Int×Int)×List (ByteArray×Int×Int):=List.getD
  x0.2.2.1 (Int.toNat v12) ({ data:={ toList:=[] } },(0:Int),(0:Int),(0:Int),(0:Int),[],(0:Int),(0:Int),(0:Int),(0:Int),(0:Int),[],[]);
 let v22:ByteArray×Int×Int×Int×Int×List Int×Int×Int×Int×Int×Int×List (ByteArray×Int×Int×Int×Int×Int×Int)×List (ByteArray×Int×Int):=List.getD
  x0.2.2.1 (Int.toNat v14) ({ data:={ toList:=[] } },(0:Int),(0:Int),(0:Int),(0:Int),[],(0:Int),(0:Int),(0:Int),(0:Int),(0:Int),[],[]);
 let v23:Bool:=v20||v19;
 let v24:Int:=IntKind.wrap .i64 (v21.2.1 - v22.2.1);
 let v25:Bool:=decide (v22.2.1=v21.2.1);
 let v26:Bool:=decide (v22.2.1>v21.2.1);
 let v27:Bool:=!v26;
 let v28:Bool:=!v27;
 let v29:Bool:=v27&&v25;
 let v30:Bool:=!v29;
 let v31:Bool:=v28||v27;
 let v32:Bool:=bif v26 then true else bif v25 then decide (v14>v12) else false;
 let v33:Bool:=!v32;
 let v34:Bool:=v30||v29;bif decide (x.1<(↑(List.length t.1):Int)) then bif inB x.1 (List.length t.1) then bif v17 then bif v17 then bif v17&&v17 then bif v15||v16
  then bif v23&&(v23&&(v20||slB (0:Int) x.1 (List.length t.1))) then bif v23&&v23 then obind (bif v19 then slices_Contains_17 (List.drop (0:Nat) (List.take (Int.toNat
  x.1) t.1)) v12 else some false) fun (t:Bool)=>bif v18||v19 then bif bif v18 then true else t then some false else bif decide (x.1=(0:Int)) then again (IntKind.wrap
  IntKind.i64 (x.1+(1:Int)),PUnit.unit) else bif v13 then bif inB v14 (List.length x0.2.2.1) then bif inB v12 (List.length x0.2.2.1) then obind (house_Gap x0 v22.1
  v21.1) fun (t:Int×Int×PUnit) =>
 let v37:Bool:=bif v32 then true else !decide (t.2.1=(0:Int));
 let v38:Bool:=!v37;obind (house_Gap x0 v21.1 v22.1) fun (t_1:Int×Int×PUnit) =>
 let v40:Bool:=bif v37 then true else !decide (t_1.2.1=(0:Int));
 let v41:Bool:=!v40;
 let v42:Bool:=bif v40 then true else !decide (t.1=t_1.1);
 let v43:Bool:=!v42;
 let v44:Bool:=!v41||v41;
 let v45:Bool:=!v43||v43;
 let v46:Bool:=v45&&v45;bif v31 then bif v31 then bif v31&&v31 then bif v31 then bif v34 then bif v34&&(v34&&(v30||v13)) then bif v34 then bif v34&&v34 then bif (v28 ||
  v31)&&(v28||(!v25||(v28||v29))) then bif v26||v27 then bif !v33||v33 then bif v32||v33 then bif !v38||v38 then bif v37||v38 then bif v44&&v44 then bif v40||v41
  then bif v45 then bif v45 then bif v46 then bif v46 then bif v42||v43 then bif bif v42 then true else decide (t.1>v24) then some false else lp (Int×PUnit) Bool (fun (again_1 :
  Int×PUnit→Option Bool) (x_1:Int×PUnit)=>bif decide (x_1.1<(↑(List.length v22.2.2.2.2.2.2.2.2.2.2.2.1):Int)) then bif inB x_1.1 (List.length
  v22.2.2.2.2.2.2.2.2.2.2.2.1) then lp (Int×PUnit) Bool (fun (again:Int×PUnit→Option Bool) (x:Int×PUnit)=>bif decide (x.1<(↑(List.length
  v21.2.2.2.2.2.2.2.2.2.2.2.1):Int)) then bif inB x.1 (List.length v21.2.2.2.2.2.2.2.2.2.2.2.1) then bif decide (IntKind.wrap
  IntKind.i64 (IntKind.wrap .i64 (v21.2.1 - (List.getD v21.2.2.2.2.2.2.2.2.2.2.2.1 (Int.toNat x.1) ({ data:={ toList:=[] } },(0:Int),(0 :
  Int),(0:Int),(0:Int),(0:Int),(0:Int))).2.2.2.2.2.2) - IntKind.wrap .i64 (v22.2.1+(List.getD v22.2.2.2.2.2.2.2.2.2.2.2.1
  (Int.toNat x_1.1) ({ data:={ toList:=[] } },(0:Int),(0:Int),(0:Int),(0:Int),(0:Int),(0:Int))).2.2.2.2.2.1))<t.1) then some false else again
  (IntKind.wrap .i64 (x.1+(1:Int)),PUnit.unit) else none else again_1 (IntKind.wrap .i64 (x_1.1+(1:Int)),PUnit.unit)) ((0:Int),PUnit.unit) else none else
  again (IntKind.wrap .i64 (x.1+(1:Int)),PUnit.unit)) ((0:Int),PUnit.unit) else none else none else none else none else none else none else none else none else none else
  none else none else none else none else none else none else none else none else none else none else none else none else none else none else none else none else none else none else none
  else none else none else none else none else some true) ((0:Int),PUnit.unit) else none else none else none else none else none
noncomputable def law30_HouseOrder (x0:ByteArray×Int×(List (ByteArray×Int×Int×Int×Int×(List Int)×Int×Int×Int×Int×Int×(List (ByteArray×Int×Int×Int×Int×Int×Int))×List (ByteArray×Int×Int)))×List (ByteArray×Int×Int×Int)):Option Bool:=law30_HouseOrder_b lpK jnK house_Order house_Gap law30_awake law30_ready slices_Contains_17 x0
noncomputable def c4:Ctr:=⟨[T25],[],[],.one .bool,fun x _ _=>law30_HouseOrder x.1⟩
theorem e4 (lp:Lp) (jn:Jn) (house_Order:(ByteArray×Int×(List (ByteArray×Int×Int×Int×Int×(List Int)×Int×Int×Int×Int×Int×(List (ByteArray×Int×Int×Int×Int×Int×Int))×List (ByteArray×Int×Int)))×List (ByteArray×Int×Int×Int))→Option ((List Int)×Int×Unit)) (house_Gap:(ByteArray×Int×(List (ByteArray×Int×Int×Int×Int×(List Int)×Int×Int×Int×Int×Int×(List (ByteArray×Int×Int×Int×Int×Int×Int))×List (ByteArray×Int×Int)))×List (ByteArray×Int×Int×Int))→(ByteArray)→(ByteArray)→Option (Int×Int×Unit)) (law30_awake:Option (Bool)) (law30_ready:(ByteArray×Int×(List (ByteArray×Int×Int×Int×Int×(List Int)×Int×Int×Int×Int×Int×(List (ByteArray×Int×Int×Int×Int×Int×Int))×List (ByteArray×Int×Int)))×List (ByteArray×Int×Int×Int))→Option (Bool)) (slices_Contains_17:(List Int)→(Int)→Option (Bool)):∀(x:TsS c4.as) (F:TsF c4.fs) (y:TsS c4.cs),law30_HouseOrder_b lp jn house_Order house_Gap law30_awake law30_ready slices_Contains_17 x.1=runC lp jn (ctxOf prog shs inls its [(17,⟨[(.sl i64),i64],[],[],.one .bool,fun x _ _=>slices_Contains_17 x.1 x.2.1⟩),(15,⟨[T25],[],[],.one .bool,fun x _ _=>law30_ready x.1⟩),(10,⟨[],[],[],.one .bool,fun _ _ _=>law30_awake⟩),(18,⟨[T25,.str,.str],[],[],.tup [i64,i64],fun x _ _=>house_Gap x.1 x.2.1 x.2.2.1⟩),(16,⟨[T25],[],[],.tup [(.sl i64),i64],fun x _ _=>house_Order x.1⟩)] [(116,r116),(115,r115),(114,r114),(69,r69),(119,r119)]) hints 4 4 f4 c4 x F y:=fun x F y=>by kernel_rfl
end Go.Proofs.YtmoiiokmfanlgaaGreat

namespace Go.Proofs.YtmoiiokmfanlgaaGreat
open Tryz Dn Dn.Sh
set_option maxRecDepth 100000
noncomputable def slices_ContainsFunc_19_b (_:Lp) (_:Jn) (slices_IndexFunc_50:(List (ByteArray×Int×Int×Int×Int×(List Int)×Int×Int×Int×Int×Int×(List (ByteArray×Int×Int×Int×Int×Int×Int))×List (ByteArray×Int×Int)))→((((ByteArray×Int×Int×Int×Int×(List Int)×Int×Int×Int×Int×Int×(List (ByteArray×Int×Int×Int×Int×Int×Int))×List (ByteArray×Int×Int))×Unit)→Option Bool))→Option (Int)) (x0:List (ByteArray×Int×Int×Int×Int×(List Int)×Int×Int×Int×Int×Int×(List (ByteArray×Int×Int×Int×Int×Int×Int))×List (ByteArray×Int×Int))) (f0:(((ByteArray×Int×Int×Int×Int×(List Int)×Int×Int×Int×Int×Int×(List (ByteArray×Int×Int×Int×Int×Int×Int))×List (ByteArray×Int×Int))×Unit)→Option Bool)):Option Bool :=
 obind (slices_IndexFunc_50 x0 f0) fun (t:Int)=>some (decide (t≥(0:Int)))
noncomputable def slices_ContainsFunc_19 (x0:List (ByteArray×Int×Int×Int×Int×(List Int)×Int×Int×Int×Int×Int×(List (ByteArray×Int×Int×Int×Int×Int×Int))×List (ByteArray×Int×Int))) (f0:(((ByteArray×Int×Int×Int×Int×(List Int)×Int×Int×Int×Int×Int×(List (ByteArray×Int×Int×Int×Int×Int×Int))×List (ByteArray×Int×Int))×Unit)→Option Bool)):Option Bool:=slices_ContainsFunc_19_b lpK jnK slices_IndexFunc_50 x0 f0
noncomputable def law30_HouseMoved_1_b (_:Lp) (_:Jn) (x0:ByteArray×Int×Int×Int×Int×(List Int)×Int×Int×Int×Int×Int×(List (ByteArray×Int×Int×Int×Int×Int×Int))×List (ByteArray×Int×Int)) (y0:ByteArray×Int×Int×Int×Int×(List Int)×Int×Int×Int×Int×Int×(List (ByteArray×Int×Int×Int×Int×Int×Int))×List (ByteArray×Int×Int)):Option Bool :=
 some (decide (x0.2.1=y0.2.1))
noncomputable def law30_HouseMoved_1 (x0:ByteArray×Int×Int×Int×Int×(List Int)×Int×Int×Int×Int×Int×(List (ByteArray×Int×Int×Int×Int×Int×Int))×List (ByteArray×Int×Int)) (y0:ByteArray×Int×Int×Int×Int×(List Int)×Int×Int×Int×Int×Int×(List (ByteArray×Int×Int×Int×Int×Int×Int))×List (ByteArray×Int×Int)):Option Bool:=law30_HouseMoved_1_b lpK jnK x0 y0
noncomputable def ref21_Copy_b (_:Lp) (_:Jn) (x0:ByteArray×Int×Int×Int×Int×(List Int)×Int×Int×Int×Int×Int×(List (ByteArray×Int×Int×Int×Int×Int×Int))×List (ByteArray×Int×Int)):Option (ByteArray×Int×Int×Int×Int×(List Int)×Int×Int×Int×Int×Int×(List (ByteArray×Int×Int×Int×Int×Int×Int))×List (ByteArray×Int×Int)) :=
 bif fitB ((0:Nat)+List.length x0.2.2.2.2.2.1) (8:Nat) then bif fitB ((0:Nat)+List.length x0.2.2.2.2.2.2.2.2.2.2.2.1) (64:Nat) then bif fitB
  ((0:Nat)+List.length x0.2.2.2.2.2.2.2.2.2.2.2.2) (32:Nat) then some x0 else none else none else none
noncomputable def ref21_Copy (x0:ByteArray×Int×Int×Int×Int×(List Int)×Int×Int×Int×Int×Int×(List (ByteArray×Int×Int×Int×Int×Int×Int))×List (ByteArray×Int×Int)):Option (ByteArray×Int×Int×Int×Int×(List Int)×Int×Int×Int×Int×Int×(List (ByteArray×Int×Int×Int×Int×Int×Int))×List (ByteArray×Int×Int)):=ref21_Copy_b lpK jnK x0
noncomputable def law30_HouseMoved_b (lp:Lp) (_:Jn) (house_Loads:(ByteArray×Int×(List (ByteArray×Int×Int×Int×Int×(List Int)×Int×Int×Int×Int×Int×(List (ByteArray×Int×Int×Int×Int×Int×Int))×List (ByteArray×Int×Int)))×List (ByteArray×Int×Int×Int))→Option ((List (Int×Int))×Int×Unit)) (slices_Equal_14:(List (Int×Int))→(List (Int×Int))→Option (Bool)) (house_Gap:(ByteArray×Int×(List (ByteArray×Int×Int×Int×Int×(List Int)×Int×Int×Int×Int×Int×(List (ByteArray×Int×Int×Int×Int×Int×Int))×List (ByteArray×Int×Int)))×List (ByteArray×Int×Int×Int))→(ByteArray)→(ByteArray)→Option (Int×Int×Unit)) (law30_awake:Option (Bool)) (law30_ready:(ByteArray×Int×(List (ByteArray×Int×Int×Int×Int×(List Int)×Int×Int×Int×Int×Int×(List (ByteArray×Int×Int×Int×Int×Int×Int))×List (ByteArray×Int×Int)))×List (ByteArray×Int×Int×Int))→Option (Bool)) (slices_ContainsFunc_19:(List (ByteArray×Int×Int×Int×Int×(List Int)×Int×Int×Int×Int×Int×(List (ByteArray×Int×Int×Int×Int×Int×Int))×List (ByteArray×Int×Int)))→((((ByteArray×Int×Int×Int×Int×(List Int)×Int×Int×Int×Int×Int×(List (ByteArray×Int×Int×Int×Int×Int×Int))×List (ByteArray×Int×Int))×Unit)→Option Bool))→Option (Bool)) (law30_HouseMoved_1:(ByteArray×Int×Int×Int×Int×(List Int)×Int×Int×Int×Int×Int×(List (ByteArray×Int×Int×Int×Int×Int×Int))×List (ByteArray×Int×Int))→(ByteArray×Int×Int×Int×Int×(List Int)×Int×Int×Int×Int×Int×(List (ByteArray×Int×Int×Int×Int×Int×Int))×List (ByteArray×Int×Int))→Option (Bool)) (ref21_Copy:(ByteArray×Int×Int×Int×Int×(List Int)×Int×Int×Int×Int×Int×(List (ByteArray×Int×Int×Int×Int×Int×Int))×List (ByteArray×Int×Int))→Option (ByteArray×Int×Int×Int×Int×(List Int)×Int×Int×Int×Int×Int×(List (ByteArray×Int×Int×Int×Int×Int×Int))×List (ByteArray×Int×Int))) (x0:ByteArray×Int×(List (ByteArray×Int×Int×Int×Int×(List Int)×Int×Int×Int×Int×Int×(List (ByteArray×Int×Int×Int×Int×Int×Int))×List (ByteArray×Int×Int)))×List (ByteArray×Int×Int×Int)):Option Bool :=
 
 let v3:List (ByteArray×Int×Int×Int×Int×List Int×Int×Int×Int×Int×Int×List (ByteArray×Int×Int×Int×Int×Int×Int)×List (ByteArray×Int×Int)):=[];
 let v4:Bool:=inB (0:Int) (List.length x0.2.2.1);obind law30_awake fun (t:Bool)=>bif !t then some false else obind (law30_ready x0) fun (t:Bool)=>bif !t then some true
  else lp (Int×PUnit) Bool (fun (again:Int×PUnit→Option Bool) (x:Int×PUnit)=>bif decide (x.1<(↑(List.length x0.2.2.1):Int)) then bif inB x.1 (List.length
  x0.2.2.1) then bif slB (0:Int) x.1 (List.length x0.2.2.1) then obind (slices_ContainsFunc_19 (List.drop (0:Nat) (List.take (Int.toNat x.1) x0.2.2.1)) fun (x_1
  : (ByteArray×Int×Int×Int×Int×List Int×Int×Int×Int×Int×Int×List (ByteArray×Int×Int×Int×Int×Int×Int)×List (ByteArray×Int×Int))×PUnit) =>
  law30_HouseMoved_1 x_1.1 (List.getD x0.2.2.1 (Int.toNat x.1) ({ data:={ toList:=[] } },(0:Int),(0:Int),(0:Int),(0:Int),[],(0:Int),(0:Int),(0:Int),(0
  : Int),(0:Int),[],[]))) fun (t:Bool)=>bif t then some true else again (IntKind.wrap .i64 (x.1+(1:Int)),PUnit.unit) else none else none else bif fitB ((0:Nat) +
  List.length x0.2.2.2) (40:Nat) then lp (Int×ByteArray×Int×List (ByteArray×Int×Int×Int×Int×List Int×Int×Int×Int×Int×Int×List (ByteArray×Int×Int ×
  Int×Int×Int×Int)×List (ByteArray×Int×Int))×List (ByteArray×Int×Int×Int)×PUnit) Bool (fun (again:Int×ByteArray×Int×List (ByteArray×Int×Int×Int×Int ×
  List Int×Int×Int×Int×Int×Int×List (ByteArray×Int×Int×Int×Int×Int×Int)×List (ByteArray×Int×Int))×List (ByteArray×Int×Int×Int)×PUnit→Option Bool)
  (x:Int×ByteArray×Int×List (ByteArray×Int×Int×Int×Int×List Int×Int×Int×Int×Int×Int×List (ByteArray×Int×Int×Int×Int×Int×Int)×List (ByteArray ×
  Int×Int))×List (ByteArray×Int×Int×Int)×PUnit)=>bif decide (x.1<(↑(List.length x0.2.2.1):Int)) then bif inB x.1 (List.length x0.2.2.1) then obind
  (ref21_Copy (List.getD x0.2.2.1 (Int.toNat x.1) ({ data:={ toList:=[] } },(0:Int),(0:Int),(0:Int),(0:Int),[],(0:Int),(0:Int),(0:Int),(0:Int),(0 :
  Int),[],[]))) fun (t:ByteArray×Int×Int×Int×Int×List Int×Int×Int×Int×Int×Int×List (ByteArray×Int×Int×Int×Int×Int×Int)×List (ByteArray×Int ×
  Int))=>bif fitB (List.length x.2.2.2.1+(1:Nat)) (160:Nat) then again (IntKind.wrap .i64 (x.1+(1:Int)),x.2.1,x.2.2.1,x.2.2.2.1++t ::
  v3,x.2.2.2.2.1,PUnit.unit) else none else none else lp (Int×Int×List (ByteArray×Int×Int×Int×Int×List Int×Int×Int×Int×Int×Int×List (ByteArray×Int
  × Int×Int×Int×Int×Int)×List (ByteArray×Int×Int))×PUnit) Bool (fun (again:Int×Int×List (ByteArray×Int×Int×Int×Int×List Int×Int×Int×Int×Int×Int ×
  List (ByteArray×Int×Int×Int×Int×Int×Int)×List (ByteArray×Int×Int))×PUnit→Option Bool) (x_1:Int×Int×List (ByteArray×Int×Int×Int×Int×List Int×Int ×
  Int×Int×Int×Int×List (ByteArray×Int×Int×Int×Int×Int×Int)×List (ByteArray×Int×Int))×PUnit) =>
 let v13:Bool:=inB x_1.1 (List.length x_1.2.2.1);
 let v14:Bool:=Nat.ble (Nat.succ (Int.toNat x_1.1)) (List.length x_1.2.2.1);
 let v15:Bool:=inB x_1.2.1 (List.length x_1.2.2.1);
 let v16:Bool:=Nat.ble (Nat.succ (Int.toNat x_1.2.1)) (List.length x_1.2.2.1);bif decide (x_1.1<x_1.2.1) then bif v15 then bif v16 then bif v13 then bif v14 then bif
  v13 then bif v14 then bif v15 then bif v16 then again (IntKind.wrap .i64 (x_1.1+(1:Int)),IntKind.wrap .i64 (x_1.2.1 - (1:Int)),List.set (List.set
  x_1.2.2.1 (Int.toNat x_1.1) (List.getD x_1.2.2.1 (Int.toNat x_1.2.1) ({ data:={ toList:=[] } },(0:Int),(0:Int),(0:Int),(0:Int),[],(0:Int),(0 :
  Int),(0:Int),(0:Int),(0:Int),[],[]))) (Int.toNat x_1.2.1) (List.getD x_1.2.2.1 (Int.toNat x_1.1) ({ data:={ toList:=[] } },(0:Int),(0:Int),(0:Int),
  (0:Int),[],(0:Int),(0:Int),(0:Int),(0:Int),(0:Int),[],[])),PUnit.unit) else none else none else none else none else none else none else none else none else obind
  (house_Loads x0) fun (t:List (Int×Int)×Int×PUnit) =>
 let v18:Bool:=!decide (t.2.1=(5:Int));
 let v19:Bool:=!v18||v18;obind (house_Loads (x.2.1,x.2.2.1,x_1.2.2.1,x.2.2.2.2.1)) fun (t_1:List (Int×Int)×Int×PUnit) =>
 let v21:Bool:=bif v18 then !decide (t_1.2.1=(5:Int)) else false;
 let v22:Bool:=!v21;
 let v23:Bool:=!decide (t.2.1=t_1.2.1);
 let v24:Bool:=v22||v21;
 let v25:Bool:=v21&&!v23;
 let v26:Bool:=!v25||v25;bif v19 then bif v19 then bif v24&&v24 then bif v24 then bif v26&&v26 then obind (bif v25 then slices_Equal_14 t.1 t_1.1 else some false) fun (t :
  Bool)=>bif v26 then bif (v22||v24)&&(v22||(v23||(v22||v25))) then bif v24 then bif bif v21 then bif v23 then true else !t else false then some false else lp (Int×PUnit)
  Bool (fun (again:Int×PUnit→Option Bool) (x:Int×PUnit) =>
 let v30:Bool:=inB x.1 (List.length x0.2.2.1);bif decide (x.1<(↑(List.length x0.2.2.1):Int)) then bif v4 then bif v30 then obind (house_Gap x0 (List.getD
  x0.2.2.1 (0:Nat) ({ data:={ toList:=[] } },(0:Int),(0:Int),(0:Int),(0:Int),[],(0:Int),(0:Int),(0:Int),(0:Int),(0:Int),[],[])).1 (List.getD
  x0.2.2.1 (Int.toNat x.1) ({ data:={ toList:=[] } },(0:Int),(0:Int),(0:Int),(0:Int),[],(0:Int),(0:Int),(0:Int),(0:Int),(0:Int),[],[])).1) fun
  (t:Int×Int×PUnit)=>bif v4 then bif v30 then none else none else none else none else none else some true) ((1:Int),PUnit.unit) else none else none else none else none else
  none else none else none else none) ((0:Int),IntKind.wrap .i64 ((↑(List.length x.2.2.2.1):Int) - (1:Int)),x.2.2.2.1,PUnit.unit)) ((0:Int),x0.1,
  x0.2.1,v3,x0.2.2.2,PUnit.unit) else none) ((0:Int),PUnit.unit)
noncomputable def law30_HouseMoved (x0:ByteArray×Int×(List (ByteArray×Int×Int×Int×Int×(List Int)×Int×Int×Int×Int×Int×(List (ByteArray×Int×Int×Int×Int×Int×Int))×List (ByteArray×Int×Int)))×List (ByteArray×Int×Int×Int)):Option Bool:=law30_HouseMoved_b lpK jnK house_Loads slices_Equal_14 house_Gap law30_awake law30_ready slices_ContainsFunc_19 law30_HouseMoved_1 ref21_Copy x0
noncomputable def c5:Ctr:=⟨[T25],[],[],.one .bool,fun x _ _=>law30_HouseMoved x.1⟩
theorem e5 (lp:Lp) (jn:Jn) (house_Loads:(ByteArray×Int×(List (ByteArray×Int×Int×Int×Int×(List Int)×Int×Int×Int×Int×Int×(List (ByteArray×Int×Int×Int×Int×Int×Int))×List (ByteArray×Int×Int)))×List (ByteArray×Int×Int×Int))→Option ((List (Int×Int))×Int×Unit)) (slices_Equal_14:(List (Int×Int))→(List (Int×Int))→Option (Bool)) (house_Gap:(ByteArray×Int×(List (ByteArray×Int×Int×Int×Int×(List Int)×Int×Int×Int×Int×Int×(List (ByteArray×Int×Int×Int×Int×Int×Int))×List (ByteArray×Int×Int)))×List (ByteArray×Int×Int×Int))→(ByteArray)→(ByteArray)→Option (Int×Int×Unit)) (law30_awake:Option (Bool)) (law30_ready:(ByteArray×Int×(List (ByteArray×Int×Int×Int×Int×(List Int)×Int×Int×Int×Int×Int×(List (ByteArray×Int×Int×Int×Int×Int×Int))×List (ByteArray×Int×Int)))×List (ByteArray×Int×Int×Int))→Option (Bool)) (slices_ContainsFunc_19:(List (ByteArray×Int×Int×Int×Int×(List Int)×Int×Int×Int×Int×Int×(List (ByteArray×Int×Int×Int×Int×Int×Int))×List (ByteArray×Int×Int)))→((((ByteArray×Int×Int×Int×Int×(List Int)×Int×Int×Int×Int×Int×(List (ByteArray×Int×Int×Int×Int×Int×Int))×List (ByteArray×Int×Int))×Unit)→Option Bool))→Option (Bool)) (law30_HouseMoved_1:(ByteArray×Int×Int×Int×Int×(List Int)×Int×Int×Int×Int×Int×(List (ByteArray×Int×Int×Int×Int×Int×Int))×List (ByteArray×Int×Int))→(ByteArray×Int×Int×Int×Int×(List Int)×Int×Int×Int×Int×Int×(List (ByteArray×Int×Int×Int×Int×Int×Int))×List (ByteArray×Int×Int))→Option (Bool)) (ref21_Copy:(ByteArray×Int×Int×Int×Int×(List Int)×Int×Int×Int×Int×Int×(List (ByteArray×Int×Int×Int×Int×Int×Int))×List (ByteArray×Int×Int))→Option (ByteArray×Int×Int×Int×Int×(List Int)×Int×Int×Int×Int×Int×(List (ByteArray×Int×Int×Int×Int×Int×Int))×List (ByteArray×Int×Int))):∀(x:TsS c5.as) (F:TsF c5.fs) (y:TsS c5.cs),law30_HouseMoved_b lp jn house_Loads slices_Equal_14 house_Gap law30_awake law30_ready slices_ContainsFunc_19 law30_HouseMoved_1 ref21_Copy x.1=runC lp jn (ctxOf prog shs inls its [(51,⟨[T44],[],[],.one T44,fun x _ _=>ref21_Copy x.1⟩),(20,⟨[T44],[],[T44],.one .bool,fun x _ y=>law30_HouseMoved_1 x.1 y.1⟩),(19,⟨[(.sl T44)],[([T44],.bool)],[],.one .bool,fun x F _=>slices_ContainsFunc_19 x.1 F.1⟩),(15,⟨[T25],[],[],.one .bool,fun x _ _=>law30_ready x.1⟩),(10,⟨[],[],[],.one .bool,fun _ _ _=>law30_awake⟩),(18,⟨[T25,.str,.str],[],[],.tup [i64,i64],fun x _ _=>house_Gap x.1 x.2.1 x.2.2.1⟩),(14,⟨[(.sl T36),(.sl T36)],[],[],.one .bool,fun x _ _=>slices_Equal_14 x.1 x.2.1⟩),(12,⟨[T25],[],[],.tup [(.sl T36),i64],fun x _ _=>house_Loads x.1⟩)] [(116,r116),(115,r115),(114,r114),(69,r69),(119,r119)]) hints 4 5 f5 c5 x F y:=fun x F y=>by kernel_rfl
noncomputable def house_Find_b (_:Lp) (_:Jn) (house_find:(ByteArray×Int×(List (ByteArray×Int×Int×Int×Int×(List Int)×Int×Int×Int×Int×Int×(List (ByteArray×Int×Int×Int×Int×Int×Int))×List (ByteArray×Int×Int)))×List (ByteArray×Int×Int×Int))→(ByteArray)→Option (Int)) (house_Valid:(ByteArray×Int×(List (ByteArray×Int×Int×Int×Int×(List Int)×Int×Int×Int×Int×Int×(List (ByteArray×Int×Int×Int×Int×Int×Int))×List (ByteArray×Int×Int)))×List (ByteArray×Int×Int×Int))→Option (Bool)) (x0:ByteArray×Int×(List (ByteArray×Int×Int×Int×Int×(List Int)×Int×Int×Int×Int×Int×(List (ByteArray×Int×Int×Int×Int×Int×Int))×List (ByteArray×Int×Int)))×List (ByteArray×Int×Int×Int)) (x1:ByteArray):Option (Int×Int×Unit) :=
 obind (house_Valid x0) fun (t:Bool)=>bif !t then some ((0:Int),(1:Int),PUnit.unit) else obind (house_find x0 x1) fun (t:Int)=>bif decide (t<(0:Int)) then some ((0:Int),
  (9:Int),PUnit.unit) else some (t,(0:Int),PUnit.unit)
noncomputable def house_Find (x0:ByteArray×Int×(List (ByteArray×Int×Int×Int×Int×(List Int)×Int×Int×Int×Int×Int×(List (ByteArray×Int×Int×Int×Int×Int×Int))×List (ByteArray×Int×Int)))×List (ByteArray×Int×Int×Int)) (x1:ByteArray):Option (Int×Int×Unit):=house_Find_b lpK jnK house_find house_Valid x0 x1
noncomputable def c23:Ctr:=⟨[T25,.str],[],[],.tup [i64,i64],fun x _ _=>house_Find x.1 x.2.1⟩
theorem e23 (lp:Lp) (jn:Jn) (house_find:(ByteArray×Int×(List (ByteArray×Int×Int×Int×Int×(List Int)×Int×Int×Int×Int×Int×(List (ByteArray×Int×Int×Int×Int×Int×Int))×List (ByteArray×Int×Int)))×List (ByteArray×Int×Int×Int))→(ByteArray)→Option (Int)) (house_Valid:(ByteArray×Int×(List (ByteArray×Int×Int×Int×Int×(List Int)×Int×Int×Int×Int×Int×(List (ByteArray×Int×Int×Int×Int×Int×Int))×List (ByteArray×Int×Int)))×List (ByteArray×Int×Int×Int))→Option (Bool)):∀(x:TsS c23.as) (F:TsF c23.fs) (y:TsS c23.cs),house_Find_b lp jn house_find house_Valid x.1 x.2.1=runC lp jn (ctxOf prog shs inls its [(32,⟨[T25],[],[],.one .bool,fun x _ _=>house_Valid x.1⟩),(47,⟨[T25,.str],[],[],.one i64,fun x _ _=>house_find x.1 x.2.1⟩)] [(116,r116),(115,r115),(114,r114),(69,r69),(119,r119)]) hints 4 23 f23 c23 x F y:=fun x F y=>by kernel_rfl
theorem l23:(ctxOf prog shs inls its [(32,c32),(47,c47)] [(116,r116),(115,r115),(114,r114),(69,r69),(119,r119)]).ok:=ctxOf_cons (ctxOf_cons (q116) (by kernel_rfl) ok47) (by kernel_rfl) ok32
theorem ok23:c23.ok prog 23:=Ctr.of_den l23 hmix (hl:=hints) (d:=4) func23 rfl (by decide) (e23 lpK jnK house_find house_Valid)
noncomputable def ref30_Back_b (lp:Lp) (_:Jn) (x0:ByteArray×Int×Int×Int×Int×(List Int)×Int×Int×Int×Int×Int×(List (ByteArray×Int×Int×Int×Int×Int×Int))×List (ByteArray×Int×Int)):Option Int :=
 lp (Int×Int×PUnit) Int (fun (again:Int×Int×PUnit→Option Int) (x:Int×Int×PUnit) =>
 let v5:Int×PUnit:=(IntKind.wrap .i64 (x.2.1+(1:Int)),PUnit.unit);
 let v6:Bool:=inB x.2.1 (List.length x0.2.2.2.2.2.2.2.2.2.2.2.1);bif decide (x.2.1<(↑(List.length x0.2.2.2.2.2.2.2.2.2.2.2.1)
  : Int)) then bif v6 then bif decide ((List.getD x0.2.2.2.2.2.2.2.2.2.2.2.1 (Int.toNat x.2.1) ({ data:={ toList:=[] } },(0:Int),(0:Int),(0:Int),
  (0:Int),(0:Int),(0:Int))).2.2.2.2.2.2>x.1) then bif v6 then again ((List.getD x0.2.2.2.2.2.2.2.2.2.2.2.1 (Int.toNat x.2.1) ({ data :=
  {toList:=[] } },(0:Int),(0:Int),(0:Int),(0:Int),(0:Int),(0:Int))).2.2.2.2.2.2,v5) else none else again (x.1,v5) else none else some (IntKind.wrap
  IntKind.i64 (x0.2.1 - x.1))) ((0:Int),(0:Int),PUnit.unit)
noncomputable def ref30_Back (x0:ByteArray×Int×Int×Int×Int×(List Int)×Int×Int×Int×Int×Int×(List (ByteArray×Int×Int×Int×Int×Int×Int))×List (ByteArray×Int×Int)):Option Int:=ref30_Back_b lpK jnK x0
noncomputable def c52:Ctr:=⟨[T44],[],[],.one i64,fun x _ _=>ref30_Back x.1⟩
theorem e52 (lp:Lp) (jn:Jn):∀(x:TsS c52.as) (F:TsF c52.fs) (y:TsS c52.cs),ref30_Back_b lp jn x.1=runC lp jn (ctxOf prog shs inls its [] [(116,r116),(115,r115),(114,r114),(69,r69),(119,r119)]) hints 4 52 f52 c52 x F y:=fun x F y=>by kernel_rfl
theorem l52:(ctxOf prog shs inls its [] [(116,r116),(115,r115),(114,r114),(69,r69),(119,r119)]).ok:=q116
theorem ok52:c52.ok prog 52:=Ctr.of_den l52 hmix (hl:=hints) (d:=4) func52 rfl (by decide) (e52 lpK jnK)
noncomputable def ref30_Front_b (lp:Lp) (_:Jn) (x0:ByteArray×Int×Int×Int×Int×(List Int)×Int×Int×Int×Int×Int×(List (ByteArray×Int×Int×Int×Int×Int×Int))×List (ByteArray×Int×Int)):Option Int :=
 lp (Int×Int×PUnit) Int (fun (again:Int×Int×PUnit→Option Int) (x:Int×Int×PUnit) =>
 let v5:Int×PUnit:=(IntKind.wrap .i64 (x.2.1+(1:Int)),PUnit.unit);
 let v6:Bool:=inB x.2.1 (List.length x0.2.2.2.2.2.2.2.2.2.2.2.1);bif decide (x.2.1<(↑(List.length x0.2.2.2.2.2.2.2.2.2.2.2.1)
  : Int)) then bif v6 then bif decide ((List.getD x0.2.2.2.2.2.2.2.2.2.2.2.1 (Int.toNat x.2.1) ({ data:={ toList:=[] } },(0:Int),(0:Int),(0:Int),
  (0:Int),(0:Int),(0:Int))).2.2.2.2.2.1>x.1) then bif v6 then again ((List.getD x0.2.2.2.2.2.2.2.2.2.2.2.1 (Int.toNat x.2.1) ({ data :=
  {toList:=[] } },(0:Int),(0:Int),(0:Int),(0:Int),(0:Int),(0:Int))).2.2.2.2.2.1,v5) else none else again (x.1,v5) else none else some (IntKind.wrap
  IntKind.i64 (x0.2.1+x.1))) ((0:Int),(0:Int),PUnit.unit)
noncomputable def ref30_Front (x0:ByteArray×Int×Int×Int×Int×(List Int)×Int×Int×Int×Int×Int×(List (ByteArray×Int×Int×Int×Int×Int×Int))×List (ByteArray×Int×Int)):Option Int:=ref30_Front_b lpK jnK x0
noncomputable def c53:Ctr:=⟨[T44],[],[],.one i64,fun x _ _=>ref30_Front x.1⟩
theorem e53 (lp:Lp) (jn:Jn):∀(x:TsS c53.as) (F:TsF c53.fs) (y:TsS c53.cs),ref30_Front_b lp jn x.1=runC lp jn (ctxOf prog shs inls its [] [(116,r116),(115,r115),(114,r114),(69,r69),(119,r119)]) hints 4 53 f53 c53 x F y:=fun x F y=>by kernel_rfl
theorem l53:(ctxOf prog shs inls its [] [(116,r116),(115,r115),(114,r114),(69,r69),(119,r119)]).ok:=q116
theorem ok53:c53.ok prog 53:=Ctr.of_den l53 hmix (hl:=hints) (d:=4) func53 rfl (by decide) (e53 lpK jnK)
noncomputable def ref30_Gap_b (_:Lp) (jn:Jn) (ref30_FindSet:(ByteArray×Int×(List (ByteArray×Int×Int×Int×Int×(List Int)×Int×Int×Int×Int×Int×(List (ByteArray×Int×Int×Int×Int×Int×Int))×List (ByteArray×Int×Int)))×List (ByteArray×Int×Int×Int))→(ByteArray)→Option (Int)) (ref30_Valid:(ByteArray×Int×(List (ByteArray×Int×Int×Int×Int×(List Int)×Int×Int×Int×Int×Int×(List (ByteArray×Int×Int×Int×Int×Int×Int))×List (ByteArray×Int×Int)))×List (ByteArray×Int×Int×Int))→Option (Bool)) (ref30_Back:(ByteArray×Int×Int×Int×Int×(List Int)×Int×Int×Int×Int×Int×(List (ByteArray×Int×Int×Int×Int×Int×Int))×List (ByteArray×Int×Int))→Option (Int)) (ref30_Front:(ByteArray×Int×Int×Int×Int×(List Int)×Int×Int×Int×Int×Int×(List (ByteArray×Int×Int×Int×Int×Int×Int))×List (ByteArray×Int×Int))→Option (Int)) (x0:ByteArray×Int×(List (ByteArray×Int×Int×Int×Int×(List Int)×Int×Int×Int×Int×Int×(List (ByteArray×Int×Int×Int×Int×Int×Int))×List (ByteArray×Int×Int)))×List (ByteArray×Int×Int×Int)) (x1:ByteArray) (x2:ByteArray):Option (Int×Int×Unit) :=
 obind (ref30_Valid x0) fun (t:Bool)=>bif !t then some ((0:Int),(1:Int),PUnit.unit) else obind (ref30_FindSet x0 x1) fun (t:Int) =>
 let v7:Bool:=decide (t<(0:Int));
 let v8:Bool:=!v7;
 let v9:Bool:=inB t (List.length x0.2.2.1);obind (ref30_FindSet x0 x2) fun (t_1:Int) =>
 let v11:Bool:=inB t_1 (List.length x0.2.2.1);
 let v12:Bool:=decide ((List.getD x0.2.2.1 (Int.toNat t_1) ({ data:={ toList:=[] } },(0:Int),(0:Int),(0:Int),(0:Int),[],(0:Int),(0:Int),(0:Int),(0 :
  Int),(0:Int),[],[])).2.1=(List.getD x0.2.2.1 (Int.toNat t) ({ data:={ toList:=[] } },(0:Int),(0:Int),(0:Int),(0:Int),[],(0:Int),(0:Int),(0 :
  Int),(0:Int),(0:Int),[],[])).2.1);
 let v13:Bool:=decide ((List.getD x0.2.2.1 (Int.toNat t_1) ({ data:={ toList:=[] } },(0:Int),(0:Int),(0:Int),(0:Int),[],(0:Int),(0:Int),(0:Int),(0 :
  Int),(0:Int),[],[])).2.1<(List.getD x0.2.2.1 (Int.toNat t) ({ data:={ toList:=[] } },(0:Int),(0:Int),(0:Int),(0:Int),[],(0:Int),(0:Int),(0 :
  Int),(0:Int),(0:Int),[],[])).2.1);
 let v14:Bool:=!v13;
 let v15:Bool:=!v14;
 let v16:Bool:=v14&&v12;
 let v17:Bool:=v15||v14;
 let v18:Bool:=!v16||v16;bif !v8||v8 then bif v7||v8 then bif bif v7 then true else decide (t_1<(0:Int)) then some ((0:Int),(9:Int),PUnit.unit) else bif decide (t =
  t_1) then some ((0:Int),(10:Int),PUnit.unit) else bif v11 then bif v9 then bif v17 then bif v17&&(v17&&(v15||v11)) then bif v17 then bif v17 then bif v17 then bif v17 &&
  (v17&&(v15||v9)) then bif v17 then bif v17 then bif v17&&v17 then bif v17 then bif v18&&v18 then bif (v15||v17)&&(v15||(!v12||(v15||v16))) then bif v13||v14 then jn
  (Int×Int×PUnit) (Int×Int×PUnit) (fun (x:Int×Int×PUnit)=>bif inB x.2.1 (List.length x0.2.2.1) then obind (ref30_Back (List.getD x0.2.2.1 (Int.toNat
  x.2.1) ({ data:={ toList:=[] } },(0:Int),(0:Int),(0:Int),(0:Int),[],(0:Int),(0:Int),(0:Int),(0:Int),(0:Int),[],[]))) fun (t:Int)=>bif inB x.1
  (List.length x0.2.2.1) then obind (ref30_Front (List.getD x0.2.2.1 (Int.toNat x.1) ({ data:={ toList:=[] } },(0:Int),(0:Int),(0:Int),(0:Int),[],(0 :
  Int),(0:Int),(0:Int),(0:Int),(0:Int),[],[]))) fun (t_2:Int)=>some (IntKind.wrap .i64 (t - t_2),(0:Int),PUnit.unit) else none else none) fun (j:Int×Int ×
  PUnit→Option (Int×Int×PUnit))=>bif bif v13 then true else bif v12 then decide (t_1<t) else false then j (t_1,t,PUnit.unit) else j (t,t_1,PUnit.unit) else none else none
  else none else none else none else none else none else none else none else none else none else none else none else none else none else none else none
noncomputable def ref30_Gap (x0:ByteArray×Int×(List (ByteArray×Int×Int×Int×Int×(List Int)×Int×Int×Int×Int×Int×(List (ByteArray×Int×Int×Int×Int×Int×Int))×List (ByteArray×Int×Int)))×List (ByteArray×Int×Int×Int)) (x1:ByteArray) (x2:ByteArray):Option (Int×Int×Unit):=ref30_Gap_b lpK jnK ref30_FindSet ref30_Valid ref30_Back ref30_Front x0 x1 x2
noncomputable def c24:Ctr:=⟨[T25,.str,.str],[],[],.tup [i64,i64],fun x _ _=>ref30_Gap x.1 x.2.1 x.2.2.1⟩
theorem e24 (lp:Lp) (jn:Jn) (ref30_FindSet:(ByteArray×Int×(List (ByteArray×Int×Int×Int×Int×(List Int)×Int×Int×Int×Int×Int×(List (ByteArray×Int×Int×Int×Int×Int×Int))×List (ByteArray×Int×Int)))×List (ByteArray×Int×Int×Int))→(ByteArray)→Option (Int)) (ref30_Valid:(ByteArray×Int×(List (ByteArray×Int×Int×Int×Int×(List Int)×Int×Int×Int×Int×Int×(List (ByteArray×Int×Int×Int×Int×Int×Int))×List (ByteArray×Int×Int)))×List (ByteArray×Int×Int×Int))→Option (Bool)) (ref30_Back:(ByteArray×Int×Int×Int×Int×(List Int)×Int×Int×Int×Int×Int×(List (ByteArray×Int×Int×Int×Int×Int×Int))×List (ByteArray×Int×Int))→Option (Int)) (ref30_Front:(ByteArray×Int×Int×Int×Int×(List Int)×Int×Int×Int×Int×Int×(List (ByteArray×Int×Int×Int×Int×Int×Int))×List (ByteArray×Int×Int))→Option (Int)):∀(x:TsS c24.as) (F:TsF c24.fs) (y:TsS c24.cs),ref30_Gap_b lp jn ref30_FindSet ref30_Valid ref30_Back ref30_Front x.1 x.2.1 x.2.2.1=runC lp jn (ctxOf prog shs inls its [(53,⟨[T44],[],[],.one i64,fun x _ _=>ref30_Front x.1⟩),(52,⟨[T44],[],[],.one i64,fun x _ _=>ref30_Back x.1⟩),(25,⟨[T25],[],[],.one .bool,fun x _ _=>ref30_Valid x.1⟩),(28,⟨[T25,.str],[],[],.one i64,fun x _ _=>ref30_FindSet x.1 x.2.1⟩)] [(116,r116),(115,r115),(114,r114),(69,r69),(119,r119)]) hints 4 24 f24 c24 x F y:=fun x F y=>by kernel_rfl
theorem l24:(ctxOf prog shs inls its [(53,c53),(52,c52),(25,c25),(28,c28)] [(116,r116),(115,r115),(114,r114),(69,r69),(119,r119)]).ok:=ctxOf_cons (ctxOf_cons (ctxOf_cons (ctxOf_cons (q116) (by kernel_rfl) ok28) (by kernel_rfl) ok25) (by kernel_rfl) ok52) (by kernel_rfl) ok53
theorem ok24:c24.ok prog 24:=Ctr.of_den l24 hmix (hl:=hints) (d:=4) func24 rfl (by decide) (e24 lpK jnK ref30_FindSet ref30_Valid ref30_Back ref30_Front)
noncomputable def ref30_Order_b (lp:Lp) (_:Jn) (x0:ByteArray×Int×(List (ByteArray×Int×Int×Int×Int×(List Int)×Int×Int×Int×Int×Int×(List (ByteArray×Int×Int×Int×Int×Int×Int))×List (ByteArray×Int×Int)))×List (ByteArray×Int×Int×Int)):Option (List Int) :=
 lp (List Int×Int×PUnit) (List Int) (fun (again:List Int×Int×PUnit→Option (List Int)) (x:List Int×Int×PUnit)=>bif decide (x.2.1<(↑(List.length x0.2.2.1) :
  Int)) then lp (Int×PUnit) (List Int) (fun (again_1:Int×PUnit→Option (List Int)) (x_1:Int×PUnit) =>
 let v7:Int:=IntKind.wrap .i64 (x_1.1 - (1:Int));
 let v8:List Int:=List.drop (0:Nat) (List.take (Int.toNat x_1.1) x.1);
 let v9:Bool:=decide (x_1.1>(0:Int));
 let v10:Bool:=!v9;
 let v11:List Int:=List.drop (Int.toNat x_1.1) (List.take (Int.toNat (↑(List.length x.1):Int)) x.1);
 let v12:List Int:=v8++[x.2.1];
 let v13:Bool:=v10||v9;bif v13 then bif v13 then bif v13&&(v13&&(v10||inB v7 (List.length x.1))) then bif v13&&(v10||Nat.ble (Nat.succ (Int.toNat v7)) (List.length
  x.1)) then bif v13&&(v13&&(v10||inB (List.getD x.1 (Int.toNat v7) (0:Int)) (List.length x0.2.2.1))) then bif v13 then bif v13 then bif v13 then bif v13&&(v13&&(v10
  || inB x.2.1 (List.length x0.2.2.1))) then bif v13 then bif v13 then bif v13&&v13 then bif v13 then bif bif v9 then decide ((List.getD x0.2.2.1 (Int.toNat (List.getD
  x.1 (Int.toNat v7) (0:Int))) ({ data:={ toList:=[] } },(0:Int),(0:Int),(0:Int),(0:Int),[],(0:Int),(0:Int),(0:Int),(0:Int),(0:Int),[],[])).2.1 >
  (List.getD x0.2.2.1 (Int.toNat x.2.1) ({ data:={ toList:=[] } },(0:Int),(0:Int),(0:Int),(0:Int),[],(0:Int),(0:Int),(0:Int),(0:Int),(0:Int),[],
  [])).2.1) else false then again_1 (v7,PUnit.unit) else bif slB (0:Int) x_1.1 (List.length x.1) then bif fitB ((0:Nat)+List.length v8) (8:Nat)&&Nat.ble (Int.toNat
  x_1.1) (List.length x.1) then bif fitB (List.length v8+(1:Nat)) (8:Nat) then bif slB x_1.1 (↑(List.length x.1):Int) (List.length x.1) then bif fitB (List.length v12 +
  List.length v11) (8:Nat)&&(Nat.ble (Int.toNat x_1.1) (Int.toNat (↑(List.length x.1):Int))&&Nat.ble (Int.toNat (↑(List.length x.1):Int)) (List.length x.1)) then again
  (v12++v11,IntKind.wrap .i64 (x.2.1+(1:Int)),PUnit.unit) else none else none else none else none else none else none else none else none else none else none else none
  else none else none else none else none else none else none else none) ((↑(List.length x.1):Int),PUnit.unit) else some x.1) ([],(0:Int),PUnit.unit)
noncomputable def ref30_Order (x0:ByteArray×Int×(List (ByteArray×Int×Int×Int×Int×(List Int)×Int×Int×Int×Int×Int×(List (ByteArray×Int×Int×Int×Int×Int×Int))×List (ByteArray×Int×Int)))×List (ByteArray×Int×Int×Int)):Option (List Int):=ref30_Order_b lpK jnK x0
noncomputable def c27:Ctr:=⟨[T25],[],[],.one (.sl i64),fun x _ _=>ref30_Order x.1⟩
theorem e27 (lp:Lp) (jn:Jn):∀(x:TsS c27.as) (F:TsF c27.fs) (y:TsS c27.cs),ref30_Order_b lp jn x.1=runC lp jn (ctxOf prog shs inls its [] [(116,r116),(115,r115),(114,r114),(69,r69),(119,r119)]) hints 4 27 f27 c27 x F y:=fun x F y=>by kernel_rfl
theorem l27:(ctxOf prog shs inls its [] [(116,r116),(115,r115),(114,r114),(69,r69),(119,r119)]).ok:=q116
theorem ok27:c27.ok prog 27:=Ctr.of_den l27 hmix (hl:=hints) (d:=4) func27 rfl (by decide) (e27 lpK jnK)
noncomputable def law30_HouseFinds_b (_:Lp) (_:Jn) (house_Order:(ByteArray×Int×(List (ByteArray×Int×Int×Int×Int×(List Int)×Int×Int×Int×Int×Int×(List (ByteArray×Int×Int×Int×Int×Int×Int))×List (ByteArray×Int×Int)))×List (ByteArray×Int×Int×Int))→Option ((List Int)×Int×Unit)) (house_Gap:(ByteArray×Int×(List (ByteArray×Int×Int×Int×Int×(List Int)×Int×Int×Int×Int×Int×(List (ByteArray×Int×Int×Int×Int×Int×Int))×List (ByteArray×Int×Int)))×List (ByteArray×Int×Int×Int))→(ByteArray)→(ByteArray)→Option (Int×Int×Unit)) (slices_Equal_26:(List Int)→(List Int)→Option (Bool)) (law30_awake:Option (Bool)) (law30_small:(ByteArray×Int×(List (ByteArray×Int×Int×Int×Int×(List Int)×Int×Int×Int×Int×Int×(List (ByteArray×Int×Int×Int×Int×Int×Int))×List (ByteArray×Int×Int)))×List (ByteArray×Int×Int×Int))→Option (Bool)) (ref30_FindSet:(ByteArray×Int×(List (ByteArray×Int×Int×Int×Int×(List Int)×Int×Int×Int×Int×Int×(List (ByteArray×Int×Int×Int×Int×Int×Int))×List (ByteArray×Int×Int)))×List (ByteArray×Int×Int×Int))→(ByteArray)→Option (Int)) (ref30_Valid:(ByteArray×Int×(List (ByteArray×Int×Int×Int×Int×(List Int)×Int×Int×Int×Int×Int×(List (ByteArray×Int×Int×Int×Int×Int×Int))×List (ByteArray×Int×Int)))×List (ByteArray×Int×Int×Int))→Option (Bool)) (house_Find:(ByteArray×Int×(List (ByteArray×Int×Int×Int×Int×(List Int)×Int×Int×Int×Int×Int×(List (ByteArray×Int×Int×Int×Int×Int×Int))×List (ByteArray×Int×Int)))×List (ByteArray×Int×Int×Int))→(ByteArray)→Option (Int×Int×Unit)) (ref30_Gap:(ByteArray×Int×(List (ByteArray×Int×Int×Int×Int×(List Int)×Int×Int×Int×Int×Int×(List (ByteArray×Int×Int×Int×Int×Int×Int))×List (ByteArray×Int×Int)))×List (ByteArray×Int×Int×Int))→(ByteArray)→(ByteArray)→Option (Int×Int×Unit)) (ref30_Order:(ByteArray×Int×(List (ByteArray×Int×Int×Int×Int×(List Int)×Int×Int×Int×Int×Int×(List (ByteArray×Int×Int×Int×Int×Int×Int))×List (ByteArray×Int×Int)))×List (ByteArray×Int×Int×Int))→Option (List Int)) (x0:ByteArray×Int×(List (ByteArray×Int×Int×Int×Int×(List Int)×Int×Int×Int×Int×Int×(List (ByteArray×Int×Int×Int×Int×Int×Int))×List (ByteArray×Int×Int)))×List (ByteArray×Int×Int×Int)) (x1:ByteArray) (x2:ByteArray):Option Bool :=
 obind law30_awake fun (t:Bool)=>bif !t then some false else obind (law30_small x0) fun (t:Bool) =>
 let v7:Bool:=!t;
 let v8:Bool:=!v7;
 let v9:Bool:=!v8||v8;
 let v10:Bool:=bif v7 then true else decide ((↑(ByteArray.size x1):Int)>(100:Int));
 let v11:Bool:=!v10;
 let v12:Bool:=!v11||v11;bif v9 then bif v9 then bif v7||v8 then bif v12 then bif v12 then bif v10||v11 then bif bif v10 then true else decide ((↑(ByteArray.size x2):Int) >
  (100:Int)) then some true else obind (house_Find x0 x1) fun (t:Int×Int×PUnit) =>
 let v14:Bool:=decide (t.1=(0:Int));
 let v15:Bool:=decide (t.2.1=(0:Int));
 let v16:Bool:=!v14||v14;
 let v17:Bool:=bif v14 then decide (t.2.1=(1:Int)) else false;
 let v18:Bool:=!v15||v15;
 let v19:Bool:=!v17||v17;
 let v20:Bool:=v18&&v18;obind (house_Order x0) fun (t_1:List Int×Int×PUnit) =>
 let v22:Bool:=!decide (t_1.2.1=(0:Int));
 let v23:Bool:=!v22;
 let v24:Bool:=bif v17 then decide ((↑(List.length t_1.1):Int)=(0:Int)) else false;
 let v25:Bool:=!v23||v23;
 let v26:Bool:=!v24||v24;obind (house_Gap x0 x1 x2) fun (t_2:Int×Int×PUnit)=>obind (ref30_Gap x0 x1 x2) fun (t_3:Int×Int×PUnit) =>
 let v29:Bool:=!decide (t_2.1=t_3.1);
 let v30:Bool:=!v29;
 let v31:Bool:=!v30||v30;bif v31&&v31 then bif v29||v30 then bif bif v29 then true else !decide (t_2.2.1=t_3.2.1) then some false else obind (ref30_Valid x0) fun (t_4
  : Bool)=>bif !t_4 then bif v16 then bif v16 then bif v19 then bif v19 then bif v19 then bif v26 then bif v26 then some (bif v24 then decide (t_1.2.1=(1:Int)) else false) else
  none else none else none else none else none else none else none else bif v25 then obind (bif v23 then ref30_Order x0 else some []) fun (t_5:List Int)=>bif v25&&v25 then obind
  (bif v23 then slices_Equal_26 t_1.1 t_5 else some false) fun (t_6:Bool)=>bif v25 then bif v22||v23 then bif bif v22 then true else !t_6 then some false else obind (ref30_FindSet
  x0 x1) fun (t_7:Int)=>bif decide (t_7<(0:Int)) then bif v16 then bif v16 then some (bif v14 then decide (t.2.1=(9:Int)) else false) else none else none else bif v20 then
  obind (bif v15 then ref30_FindSet x0 x1 else some (0:Int)) fun (t_8:Int)=>bif v20 then bif v18 then some (bif v15 then decide (t.1=t_8) else false) else none else none else
  none else none else none else none else none else none else none else none else none else none else none else none else none
noncomputable def law30_HouseFinds (x0:ByteArray×Int×(List (ByteArray×Int×Int×Int×Int×(List Int)×Int×Int×Int×Int×Int×(List (ByteArray×Int×Int×Int×Int×Int×Int))×List (ByteArray×Int×Int)))×List (ByteArray×Int×Int×Int)) (x1:ByteArray) (x2:ByteArray):Option Bool:=law30_HouseFinds_b lpK jnK house_Order house_Gap slices_Equal_26 law30_awake law30_small ref30_FindSet ref30_Valid house_Find ref30_Gap ref30_Order x0 x1 x2
noncomputable def c6:Ctr:=⟨[T25,.str,.str],[],[],.one .bool,fun x _ _=>law30_HouseFinds x.1 x.2.1 x.2.2.1⟩
theorem e6 (lp:Lp) (jn:Jn) (house_Order:(ByteArray×Int×(List (ByteArray×Int×Int×Int×Int×(List Int)×Int×Int×Int×Int×Int×(List (ByteArray×Int×Int×Int×Int×Int×Int))×List (ByteArray×Int×Int)))×List (ByteArray×Int×Int×Int))→Option ((List Int)×Int×Unit)) (house_Gap:(ByteArray×Int×(List (ByteArray×Int×Int×Int×Int×(List Int)×Int×Int×Int×Int×Int×(List (ByteArray×Int×Int×Int×Int×Int×Int))×List (ByteArray×Int×Int)))×List (ByteArray×Int×Int×Int))→(ByteArray)→(ByteArray)→Option (Int×Int×Unit)) (slices_Equal_26:(List Int)→(List Int)→Option (Bool)) (law30_awake:Option (Bool)) (law30_small:(ByteArray×Int×(List (ByteArray×Int×Int×Int×Int×(List Int)×Int×Int×Int×Int×Int×(List (ByteArray×Int×Int×Int×Int×Int×Int))×List (ByteArray×Int×Int)))×List (ByteArray×Int×Int×Int))→Option (Bool)) (ref30_FindSet:(ByteArray×Int×(List (ByteArray×Int×Int×Int×Int×(List Int)×Int×Int×Int×Int×Int×(List (ByteArray×Int×Int×Int×Int×Int×Int))×List (ByteArray×Int×Int)))×List (ByteArray×Int×Int×Int))→(ByteArray)→Option (Int)) (ref30_Valid:(ByteArray×Int×(List (ByteArray×Int×Int×Int×Int×(List Int)×Int×Int×Int×Int×Int×(List (ByteArray×Int×Int×Int×Int×Int×Int))×List (ByteArray×Int×Int)))×List (ByteArray×Int×Int×Int))→Option (Bool)) (house_Find:(ByteArray×Int×(List (ByteArray×Int×Int×Int×Int×(List Int)×Int×Int×Int×Int×Int×(List (ByteArray×Int×Int×Int×Int×Int×Int))×List (ByteArray×Int×Int)))×List (ByteArray×Int×Int×Int))→(ByteArray)→Option (Int×Int×Unit)) (ref30_Gap:(ByteArray×Int×(List (ByteArray×Int×Int×Int×Int×(List Int)×Int×Int×Int×Int×Int×(List (ByteArray×Int×Int×Int×Int×Int×Int))×List (ByteArray×Int×Int)))×List (ByteArray×Int×Int×Int))→(ByteArray)→(ByteArray)→Option (Int×Int×Unit)) (ref30_Order:(ByteArray×Int×(List (ByteArray×Int×Int×Int×Int×(List Int)×Int×Int×Int×Int×Int×(List (ByteArray×Int×Int×Int×Int×Int×Int))×List (ByteArray×Int×Int)))×List (ByteArray×Int×Int×Int))→Option (List Int)):∀(x:TsS c6.as) (F:TsF c6.fs) (y:TsS c6.cs),law30_HouseFinds_b lp jn house_Order house_Gap slices_Equal_26 law30_awake law30_small ref30_FindSet ref30_Valid house_Find ref30_Gap ref30_Order x.1 x.2.1 x.2.2.1=runC lp jn (ctxOf prog shs inls its [(27,⟨[T25],[],[],.one (.sl i64),fun x _ _=>ref30_Order x.1⟩),(24,⟨[T25,.str,.str],[],[],.tup [i64,i64],fun x _ _=>ref30_Gap x.1 x.2.1 x.2.2.1⟩),(23,⟨[T25,.str],[],[],.tup [i64,i64],fun x _ _=>house_Find x.1 x.2.1⟩),(25,⟨[T25],[],[],.one .bool,fun x _ _=>ref30_Valid x.1⟩),(28,⟨[T25,.str],[],[],.one i64,fun x _ _=>ref30_FindSet x.1 x.2.1⟩),(11,⟨[T25],[],[],.one .bool,fun x _ _=>law30_small x.1⟩),(10,⟨[],[],[],.one .bool,fun _ _ _=>law30_awake⟩),(26,⟨[(.sl i64),(.sl i64)],[],[],.one .bool,fun x _ _=>slices_Equal_26 x.1 x.2.1⟩),(18,⟨[T25,.str,.str],[],[],.tup [i64,i64],fun x _ _=>house_Gap x.1 x.2.1 x.2.2.1⟩),(16,⟨[T25],[],[],.tup [(.sl i64),i64],fun x _ _=>house_Order x.1⟩)] [(116,r116),(115,r115),(114,r114),(69,r69),(119,r119)]) hints 4 6 f6 c6 x F y:=fun x F y=>by kernel_rfl
theorem l6:(ctxOf prog shs inls its [(27,c27),(24,c24),(23,c23),(25,c25),(28,c28),(11,c11),(10,c10),(26,c26),(18,c18),(16,c16)] [(116,r116),(115,r115),(114,r114),(69,r69),(119,r119)]).ok:=ctxOf_cons (ctxOf_cons (ctxOf_cons (ctxOf_cons (ctxOf_cons (ctxOf_cons (ctxOf_cons (ctxOf_cons (ctxOf_cons (ctxOf_cons (q116) (by kernel_rfl) ok16) (by kernel_rfl) ok18) (by kernel_rfl) ok26) (by kernel_rfl) ok10) (by kernel_rfl) ok11) (by kernel_rfl) ok28) (by kernel_rfl) ok25) (by kernel_rfl) ok23) (by kernel_rfl) ok24) (by kernel_rfl) ok27
theorem ok6:c6.ok prog 6:=Ctr.of_den l6 hmix (hl:=hints) (d:=4) func6 rfl (by decide) (e6 lpK jnK house_Order house_Gap slices_Equal_26 law30_awake law30_small ref30_FindSet ref30_Valid house_Find ref30_Gap ref30_Order)
end Go.Proofs.YtmoiiokmfanlgaaGreat

namespace Go.Proofs.YtmoiiokmfanlgaaGreat
namespace Dn
section
variable {T R α σ:Type}
theorem obind_some' {t:T} {k:T→Option R}:obind (some t) k=k t:=rfl
theorem loopF_eq {F:(α→Option R)→α→Option R} {g:α→Option R} (I:α→Prop) (μ:α→Nat)
  (h:∀x rec,I x→(∀y,I y→μ y<μ x→rec y=g y)→F rec x=g x):∀{n:Nat} {x:α},I x→μ x<n→loopF F n x=g x
 | 0,x,_,hn=>by omega
 | n+1,x,hx,hn=>by
  rw[loopF_succ]
  exact h x _ hx fun y hy hlt=>loopF_eq I μ h hy (by omega)
theorem lpK_loop {F:(α→Option R)→α→Option R} {g:α→Option R} (I:α→Prop) (μ:α→Nat)
  (h:∀x rec,I x→(∀y,I y→μ y<μ x→rec y=g y)→F rec x=g x) {x:α} (hx:I x) (hn:μ x<1180591620717411303424):lpK α R F x=g x:=loopF_eq I μ h hx hn
theorem wrap_id {x:Int} (h1: -9223372036854775808≤x) (h2:x<9223372036854775808):IntKind.wrap .i64 x=x:=by
 rw[IntKind.wrap_i64];omega
def upF (b:Nat→σ→(σ→Option R)→Option R) (f:σ→Option R):Nat→Nat→σ→Option R
 | 0,_,s=>f s
 | k+1,i,s=>b i s (upF b f k (i+1))
theorem loopF_up {F:(α→Option R)→α→Option R} (n:Nat) (hn:n≤1180591620717411303423) (enc:Nat→σ→α) (b:Nat→σ→(σ→Option R)→Option R) (f:σ→Option R)
  (hb:∀again (i:Nat) s,i<n→F again (enc i s)=b i s (fun s'=>again (enc (i+1) s'))) (hf:∀again s,F again (enc n s)=f s) (s:σ) :
  loopF F K0 (enc 0 s)=upF b f n 0 s:=by
 have key:∀(k:Nat) (i:Nat) (m:Nat) (s:σ),i+k=n→k<m→loopF F m (enc i s)=upF b f k i s:=by
  intro k
  induction k with
  | zero =>
   intro i m s h1 h2
   obtain ⟨m,rfl⟩:∃m',m=m'+1:=⟨m - 1,by omega⟩
   have:i=n:=by omega
   subst this
   simp only[loopF_succ,hf,upF]
  | succ k ih =>
   intro i m s h1 h2
   obtain ⟨m,rfl⟩:∃m',m=m'+1:=⟨m - 1,by omega⟩
   simp only[loopF_succ,upF]
   rw[hb _ _ _ (by omega)]
   congr 1
   funext s'
   exact ih (i+1) m s' (by omega) (by omega)
 exact key n 0 K0 s (by omega) (by unfold K0;omega)
theorem inB_nat {i n:Nat}:inB (i:Int) n=decide (i<n):=by
 rw[Bool.eq_iff_iff,inB_iff,decide_eq_true_iff];omega
theorem inB_of {i:Int} {n:Nat} (h1:0≤i) (h2:i<n):inB i n=true:=inB_iff.2 ⟨h1,h2⟩
theorem slB_of {lo hi:Int} {n:Nat} (h1:0≤lo) (h2:lo≤hi) (h3:hi≤n):slB lo hi n=true:=slB_iff.2 ⟨h1,h2,h3⟩
theorem fitB_of {n k:Nat} (h:n*k≤140737488355328):fitB n k=true:=fitB_iff.2 h
theorem ble_of {n m:Nat} (h:n≤m):Nat.ble n m=true:=by rw[Nat.ble_eq];exact h
theorem cT0 {α:Sort _} {c:Bool} (h:c=true) (a b:α):cond c a b=a:=by subst h;rfl
theorem cT {α:Sort _} (a b:α):cond true a b=a:=cT0 (Eq.trans rfl rfl) a b
theorem cF0 {α:Sort _} {c:Bool} (h:c=false) (a b:α):cond c a b=b:=by subst h;rfl
theorem cF {α:Sort _} (a b:α):cond false a b=b:=cF0 (Eq.trans rfl rfl) a b
theorem or_self_not {b:Bool}:(b||!b)=true:=by cases b<;>rfl
theorem not_or_self' {b:Bool}:(!b||b)=true:=by cases b<;>rfl
theorem bif_false' {b:Bool} {c:Bool}:(bif b then c else false)=(b&&c):=by cases b<;>rfl
theorem getD_nat {l:List α} {d:α} {i:Nat} (h:i<l.length):l.getD i d=l[i]:=by simp[List.getD,h]
end
end Dn
end Go.Proofs.YtmoiiokmfanlgaaGreat

namespace Go.Proofs.YtmoiiokmfanlgaaGreat
open Tryz Dn Dn.Sh
theorem str_beq (a b:ByteArray):List.beq (ByteArray.toList a) (ByteArray.toList b)=decide (a=b):=by
 show (a.toList ==b.toList)=_
 rw[ByteArray.toList_eq,ByteArray.toList_eq,Bool.eq_iff_iff,decide_eq_true_iff,beq_iff_eq]
 exact ⟨fun h=>ByteArray.ext (Array.toList_inj.mp h),fun h=>by rw[h]⟩
theorem lpK_some {α R:Type} {F:(α→Option R)→α→Option R} (I:α→Prop) (μ:α→Nat) (h:∀x rec,I x→(∀y,I y→μ y<μ x→(rec y).isSome=true)→(F rec x).isSome=true) {x:α} (hx:I x) (hn:μ x<1180591620717411303424):(lpK α R F x).isSome=true:=by
 have key:∀n x,I x→μ x<n→(loopF F n x).isSome=true:=by
  intro n
  induction n with
  | zero=>intro x _ h;omega
  | succ n ih =>
   intro x hx hn
   rw[loopF_succ]
   exact h x _ hx fun y hy hlt=>ih y hy (by omega)
 exact key _ x hx hn
theorem letter_same:decimal_letter=ref01_Letter:=by
 funext c
 rfl
theorem digit_same:decimal_digit=ref01_Digit:=by
 funext c
 rfl
theorem letter_some (c:Int):∃b,decimal_letter c=some b:=by
 simp only[decimal_letter,decimal_letter_b,not_or_self',or_self_not,cond_true]
 cases decide (c≥97)<;>cases decide (c≤122)<;>cases decide (c≥65)<;>exact ⟨_,rfl⟩
theorem digit_some (c:Int):∃b,decimal_digit c=some b:=by
 simp only[decimal_digit,decimal_digit_b,not_or_self',cond_true]
 exact ⟨_,rfl⟩
theorem word_some {s:ByteArray} (h:s.size≤1000000):∃n,decimal_word s=some n:=by
 rw[←Option.isSome_iff_exists]
 simp only[decimal_word,decimal_word_b]
 refine lpK_some (I:=fun (x:Int×PUnit)=>0≤x.1∧x.1≤s.size) (μ:=fun (x:Int×PUnit)=>((s.size:Int) - x.1).toNat) (x:=((0:Int),PUnit.unit)) ?_ ⟨Int.le_refl _,by simp only;omega⟩ (by simp only;omega)
 rintro ⟨i,_⟩ rec ⟨h0,h1⟩ hrec
 simp only at h0 h1 ⊢
 by_cases hi:i<s.size
 ·rw[inB_of h0 hi,decide_eq_true hi]
  obtain ⟨b,hb⟩:=letter_some (byteAt s i.toNat)
  obtain ⟨c,hc⟩:=digit_some (byteAt s i.toNat)
  have hw:IntKind.wrap .i64 (i+1)=i+1:=wrap_id (by omega) (by omega)
  have hr:=hrec (i+1,PUnit.unit) ⟨by simp only;omega,by simp only;omega⟩ (by simp only;omega)
  simp only[hb,hc,hw]
  cases b<;>cases c<;>cases decide (byteAt s i.toNat=95)<;>simp[obind_some',hr]
 ·rw[decide_eq_false hi]
  simp[obind_some']
theorem word_same (s:ByteArray):ref01_word s 0=decimal_word s:=by
 simp only[ref01_word,ref01_word_b,decimal_word,decimal_word_b,letter_same,digit_same]
noncomputable def nameB (s:ByteArray):Bool:=decide (0<s.size)&&(decide (s.size≤20)&&((decimal_letter (byteAt s 0)).getD false&&decide ((decimal_word s).getD 0=(s.size:Int))))
theorem empty_iff (s:ByteArray):s={ data:=#[] }↔s.size=0:=by
 constructor
 ·intro h;rw[h];rfl
 ·intro h
  apply ByteArray.ext
  exact Array.eq_empty_of_size_eq_zero h
theorem isName_ok (s:ByteArray):decimal_IsName s=some (nameB s):=by
 simp only[decimal_IsName,decimal_IsName_b,str_beq,not_or_self',Bool.and_self,cond_true]
 unfold nameB
 by_cases h0:s.size=0
 ·have e:decide (s={ data:=#[] })=true:=decide_eq_true ((empty_iff s).2 h0)
  simp[e,h0,obind_some']
 ·have e:decide (s={ data:=#[] })=false:=decide_eq_false fun h=>h0 ((empty_iff s).1 h)
  by_cases h1:s.size≤20
  ·obtain ⟨b,hb⟩:=letter_some (byteAt s 0)
   obtain ⟨n,hn⟩:=word_some (s:=s) (by omega)
   have h2:decide ((s.size:Int)≤20)=true:=decide_eq_true (by omega)
   rw[inB_of (show (0:Int)≤0 by omega) (show (0:Int)<s.size by omega)]
   simp only[e,h2,hb,hn]
   cases b<;>simp[obind_some',h1,show 0<s.size by omega]
  ·have h2:decide ((s.size:Int)≤20)=false:=decide_eq_false (by omega)
   simp[e,h2,h1,obind_some']
theorem refIsName_ok (s:ByteArray):ref01_IsName s=some (nameB s):=by
 simp only[ref01_IsName,ref01_IsName_b,not_or_self',or_self_not,cond_true]
 unfold nameB
 by_cases h0:s.size=0
 ·simp[h0,obind_some']
 ·have e:decide ((s.size:Int)=0)=false:=decide_eq_false (by omega)
  by_cases h1:s.size≤20
  ·obtain ⟨b,hb⟩:=letter_some (byteAt s 0)
   obtain ⟨n,hn⟩:=word_some (s:=s) (by omega)
   have h2:decide ((s.size:Int)>20)=false:=decide_eq_false (by omega)
   rw[inB_of (show (0:Int)≤0 by omega) (show (0:Int)<s.size by omega),word_same]
   simp only[e,h2,←letter_same,hb,hn]
   cases b<;>simp[obind_some',h1,show 0<s.size by omega]
  ·have h2:decide ((s.size:Int)>20)=true:=decide_eq_true (by omega)
   simp[h2,h1,obind_some']
end Go.Proofs.YtmoiiokmfanlgaaGreat

namespace Go.Proofs.YtmoiiokmfanlgaaGreat
namespace Dn
theorem lpK_up {σ α R:Type} {F:(α→Option R)→α→Option R} (n:Nat) (hn:n≤1180591620717411303423) (enc:Nat→σ→α) (b:Nat→σ→(σ→Option R)→Option R) (f:σ→Option R)
  (hb:∀again (i:Nat) s,i<n→F again (enc i s)=b i s (fun s'=>again (enc (i+1) s'))) (hf:∀again s,F again (enc n s)=f s) (s:σ) :
  lpK α R F (enc 0 s)=upF b f n 0 s:=loopF_up n hn enc b f hb hf s
def idxI {α:Type} (p:α→Bool):List α→Int→Int
 | [],_=> -1
 | a ::l,i=>bif p a then i else idxI p l (i+1)
theorem idxI_neg {α:Type} {p:α→Bool}:∀{l:List α} {i:Int},0≤i→(idxI p l i<0↔∀a ∈ l,p a=false)
 | [],i,h=>by simp[idxI]
 | a ::l,i,h=>by
  unfold idxI
  cases hp:p a with
  | true=>simp only[cond_true,List.mem_cons,forall_eq_or_imp,hp];simp;omega
  | false=>simp only[cond_false,List.mem_cons,forall_eq_or_imp,hp,true_and];exact idxI_neg (by omega)
theorem idxI_drop {α:Type} {p:α→Bool} {l:List α} {d:α} {i:Nat} (h:i<l.length):idxI p (l.drop i) i=bif p (l.getD i d) then (i:Int) else idxI p (l.drop (i+1)) ((i:Int)+1):=by
 rw[List.drop_eq_getElem_cons h,getD_nat h]
 rfl
theorem idxI_at {α:Type} {p:α→Bool} {d:α}:∀{l:List α} {i:Int},0≤i→0≤idxI p l i→i≤idxI p l i∧idxI p l i<i+l.length∧p (l.getD (idxI p l i - i).toNat d)=true
 | [],i,_,h=>by simp[idxI] at h
 | a ::l,i,hi,h=>by
  unfold idxI at h ⊢
  cases hp:p a with
  | true=>simp[hp];omega
  | false =>
   rw[hp,cond_false] at h
   obtain ⟨h1,h2,h3⟩:=idxI_at (d:=d) (show 0≤i+1 by omega) h
   rw[cond_false]
   refine ⟨by omega,by simp only[List.length_cons];omega,?_⟩
   have e:(idxI p l (i+1) - i).toNat=(idxI p l (i+1) - (i+1)).toNat+1:=by omega
   rw[e,List.getD_cons_succ]
   exact h3
theorem index_loop {α:Type} {f:(α×Unit)→Option Bool} {d:α} {p:α→Bool} {l:List α} (hl:l.length≤1000000) (h:∀a,a ∈ l→f (a,())=some (p a)) :
  lpK (Int×PUnit) Int (fun (again:Int×PUnit→Option Int) (x:Int×PUnit)=>bif decide (x.1<(↑(List.length l):Int)) then bif inB x.1 (List.length l) then obind (f
   (List.getD l (Int.toNat x.1) d,PUnit.unit)) fun (t:Bool)=>bif t then some x.1 else again
   (IntKind.wrap .i64 (x.1+(1:Int)),PUnit.unit) else none else some (-1:Int)) ((0:Int),PUnit.unit)=some (idxI p l 0):=by
 refine lpK_loop (g:=fun _=>some (idxI p l 0)) (I:=fun (x:Int×PUnit)=>0≤x.1∧x.1≤l.length∧idxI p (l.drop x.1.toNat) x.1=idxI p l 0) (μ:=fun (x:Int×PUnit)=>((l.length:Int) - x.1).toNat) ?_ ⟨by simp,by simp only;omega,rfl⟩ (by simp only;omega)
 rintro ⟨i,_⟩ rec ⟨h0,h1,h2⟩ hrec
 simp only at h0 h1 h2 ⊢
 by_cases hi:i<l.length
 ·obtain ⟨n,rfl⟩:∃n:Nat,i=n:=⟨i.toNat,by omega⟩
  rw[decide_eq_true hi,cond_true,inB_of h0 hi,cond_true,Int.toNat_natCast,h _ (by rw[getD_nat (by omega)];exact List.getElem_mem (by omega)),obind_some',wrap_id (by omega) (by omega)]
  rw[Int.toNat_natCast,idxI_drop (d:=d) (by omega)] at h2
  cases hp:p (l.getD n d) with
  | true=>rw[hp,cond_true] at h2;rw[cond_true,h2]
  | false=>rw[hp,cond_false] at h2;rw[cond_false];exact hrec _ ⟨by simp only;omega,by simp only;omega,h2⟩ (by simp only;omega)
 ·rw[decide_eq_false hi,cond_false]
  have e:i.toNat=l.length:=by omega
  rw[e,List.drop_length] at h2
  rw[←h2]
  rfl
theorem find_loop {α:Type} {p:α→Bool} {d:α} {l:List α} (hl:l.length≤1000000) :
  lpK (Int×PUnit) Int (fun (again:Int×PUnit→Option Int) (x:Int×PUnit)=>bif decide (x.1<(↑(List.length l):Int)) then bif inB x.1 (List.length l) then bif p
   (List.getD l (Int.toNat x.1) d) then some x.1 else again
   (IntKind.wrap .i64 (x.1+(1:Int)),PUnit.unit) else none else some (-1:Int)) ((0:Int),PUnit.unit)=some (idxI p l 0) :=
 index_loop (f:=fun a=>some (p a.1)) hl fun _ _=>rfl
theorem upF_all {R σ:Type} {b:Nat→σ→(σ→Option R)→Option R} {f:σ→Option R} {p:Nat→Bool} {r:Option R} {s:σ} (n:Nat) (hb:∀i (k:σ→Option R),i<n→b i s k=bif p i then k s else r) :
  ∀(k i:Nat),i+k≤n→upF b f k i s=bif (List.range' i k).all p then f s else r
 | 0,i,_=>rfl
 | k+1,i,h=>by
  simp only[upF,hb i _ (by omega),List.range'_succ,List.all_cons]
  cases hp:p i with
  | true=>exact upF_all n hb k (i+1) (by omega)
  | false=>rfl
end Dn
end Go.Proofs.YtmoiiokmfanlgaaGreat

namespace Go.Proofs.YtmoiiokmfanlgaaGreat
namespace Dn
def listF {α σ R:Type} (b:α→σ→(σ→Option R)→Option R) (f:σ→Option R):List α→σ→Option R
 | [],s=>f s
 | a ::l,s=>b a s (listF b f l)
theorem upF_list {α σ R:Type} (L:List α) (d:α) {b:α→σ→(σ→Option R)→Option R} {c:Nat→σ→(σ→Option R)→Option R} {f:σ→Option R} (h:∀i s k,i<L.length→c i s k=b (L.getD i d) s k) :
  ∀(k i:Nat) (s:σ),i+k=L.length→upF c f k i s=listF b f (L.drop i) s
 | 0,i,s,hi=>by
  rw[List.drop_of_length_le (by omega)]
  rfl
 | k+1,i,s,hi=>by
  rw[List.drop_eq_getElem_cons (show i<L.length by omega)]
  simp only[upF,listF]
  rw[h _ _ _ (by omega),getD_nat (by omega)]
  congr 1
  funext s'
  exact upF_list L d h k (i+1) s' (by omega)
theorem lpK_int {α β σ R:Type} (L:List α) (d:α) (hn:L.length≤1180591620717411303423) {F:(β→Option R)→β→Option R} (enc:Nat→σ→β) (b:α→σ→(σ→Option R)→Option R) (f:σ→Option R)
  (hb:∀again (i:Nat) s,i<L.length→F again (enc i s)=b (L.getD i d) s (fun s'=>again (enc (i+1) s'))) (hf:∀again s,F again (enc L.length s)=f s) (s:σ):lpK β R F (enc 0 s)=listF b f L s :=
 (lpK_up L.length hn enc (fun i s k=>b (L.getD i d) s k) f hb hf s).trans ((upF_list L d (b:=b) (fun _ _ _ _=>rfl) L.length 0 s (by omega)).trans (by rw[List.drop_zero]))
theorem listF_fold {α σ R:Type} {b:α→σ→(σ→Option R)→Option R} {f:σ→Option R} (g:σ→α→σ):∀{L:List α} {s:σ},(∀a ∈ L,∀s k,b a s k=k (g s a))→listF b f L s=f (L.foldl g s)
 | [],_,_=>rfl
 | a ::L,s,h=>by
  simp only[listF,List.foldl_cons]
  rw[h a (by simp)]
  exact listF_fold g fun a' ha=>h a' (by simp[ha])
end Dn
end Go.Proofs.YtmoiiokmfanlgaaGreat

namespace Go.Proofs.YtmoiiokmfanlgaaGreat
open Tryz Dn Dn.Sh
abbrev Itm:=ByteArray×Int×Int×Int×Int×Int×Int
abbrev Brk:=ByteArray×Int×Int
abbrev itm0:Itm:=({ data:={ toList:=[] } },(0:Int),(0:Int),(0:Int),(0:Int),(0:Int),(0:Int))
abbrev brk0:Brk:=({ data:={ toList:=[] } },(0:Int),(0:Int))
def btw (n a b:Int):Bool:=decide (a≤n)&&decide (n≤b)
theorem btwA_ok (n a b:Int):batten_between n a b=some (btw n a b):=by
 simp only[batten_between,batten_between_b,not_or_self',Bool.and_self,cT,bif_false',ge_iff_le,btw]
theorem btwB_ok (n a b:Int):ref21_between n a b=some (btw n a b):=by
 simp only[ref21_between,ref21_between_b,not_or_self',Bool.and_self,cT,bif_false',ge_iff_le,btw]
theorem upF_chk {σ R:Type} {b:Nat→σ→(σ→Option R)→Option R} {f:σ→Option R} {q:Nat→Bool} {g:Nat→σ→σ} {r:Option R} (n:Nat) (hb:∀i s (k:σ→Option R),i<n→b i s k=bif q i then k (g i s) else r) :
  ∀(k i:Nat) (s:σ),i+k≤n→upF b f k i s=bif (List.range' i k).all q then f ((List.range' i k).foldl (fun s i=>g i s) s) else r
 | 0,i,s,_=>rfl
 | k+1,i,s,h=>by
  simp only[upF,hb i s _ (by omega),List.range'_succ,List.all_cons,List.foldl_cons]
  cases hp:q i with
  | true=>exact upF_chk n hb k (i+1) _ (by omega)
  | false=>rfl
theorem all_and {α:Type} {p q:α→Bool} {l:List α}:(l.all fun a=>p a&&q a)=(l.all p&&l.all q):=by
 rw[Bool.eq_iff_iff,Bool.and_eq_true,List.all_eq_true,List.all_eq_true,List.all_eq_true]
 constructor
 ·exact fun h=>⟨fun a ha=>((Bool.and_eq_true _ _).mp (h a ha)).1,fun a ha=>((Bool.and_eq_true _ _).mp (h a ha)).2⟩
 ·exact fun h a ha=>(Bool.and_eq_true _ _).mpr ⟨h.1 a ha,h.2 a ha⟩
def earlyN {α:Type} (p:α→α→Bool) (d:α) (l:List α) (i:Nat):Bool:=!(l.take i).any fun a=>p a (l.getD i d)
theorem memK_str (x:ByteArray):∀l:List ByteArray,memK .str x l=true↔x ∈ l
 | []=>by simp[memK]
 | y ::l=>by
  simp only[memK,keyEq,Bool.or_eq_true,memK_str x l,List.mem_cons,decide_eq_true_iff]
def nodupB:List ByteArray→Bool
 | []=>true
 | x ::l=>!memK .str x l&&nodupB l
theorem nodupB_iff:∀{l:List ByteArray},nodupB l=true↔l.Nodup
 | []=>by simp[nodupB]
 | x ::l=>by
  rw[nodupB,Bool.and_eq_true,nodupB_iff,List.nodup_cons,←memK_str,Bool.not_eq_true',Bool.not_eq_true]
theorem addK_fold:∀(L S:List ByteArray),(L.foldl (fun s x=>addK .str x s) S).length≤S.length+L.length∧((L.foldl (fun s x=>addK .str x s) S).length=S.length+L.length↔L.Nodup∧∀x ∈ L,x ∉ S)
 | [],S=>by simp
 | x ::L,S=>by
  simp only[List.foldl_cons,List.length_cons]
  by_cases hx:x ∈ S
  ·have e:addK .str x S=S:=by unfold addK;rw[(memK_str x S).2 hx];rfl
   rw[e]
   obtain ⟨h1,_⟩:=addK_fold L S
   refine ⟨by omega,fun h=>by omega,fun h=>?_⟩
   exact absurd hx (h.2 x (by simp))
  ·have e:addK .str x S=S++[x]:=by
    unfold addK
    cases hm:memK .str x S with
    | false=>rfl
    | true=>exact absurd ((memK_str x S).1 hm) hx
   rw[e]
   obtain ⟨h1,h2⟩:=addK_fold L (S++[x])
   rw[List.length_append,List.length_singleton] at h1 h2
   refine ⟨by omega,?_⟩
   rw[show S.length+(L.length+1)=S.length+1+L.length by omega,h2,List.nodup_cons]
   constructor
   ·rintro ⟨g1,g2⟩
    refine ⟨⟨fun hm=>(g2 x hm) (by simp),g1⟩,fun y hy=>?_⟩
    rcases List.mem_cons.1 hy with rfl | hy
    ·exact hx
    ·exact fun hs=>g2 y hy (by simp[hs])
   ·rintro ⟨⟨g1,g2⟩,g3⟩
    refine ⟨g2,fun y hy hm=>?_⟩
    rcases List.mem_append.1 hm with hm | hm
    ·exact g3 y (by simp[hy]) hm
    ·rw[List.mem_singleton] at hm
     subst hm
     exact g1 hy
theorem addK_foldm {α:Type} (f:α→ByteArray) (l:List α):decide (((l.foldl (fun (s:List ByteArray) x=>addK .str (f x) s) []).length:Int)<(l.length:Int))=!nodupB (l.map f):=by
 have h:=addK_fold (l.map f) []
 have e:(l.map f).foldl (fun s x=>addK .str x s) []=l.foldl (fun (s:List ByteArray) x=>addK .str (f x) s) []:=by rw[List.foldl_map]
 rw[e] at h
 generalize (l.foldl (fun (s:List ByteArray) x=>addK .str (f x) s) []).length=N at h ⊢
 simp only[List.length_map,List.length_nil,Nat.zero_add,List.not_mem_nil,not_false_eq_true,implies_true,and_true] at h
 cases hn:nodupB (l.map f) with
 | true =>
  have:=h.2.2 (nodupB_iff.1 hn)
  rw[decide_eq_false (by omega)]
  rfl
 | false =>
  have h3:¬ (l.map f).Nodup:=fun hh=>by rw[nodupB_iff.2 hh] at hn;cases hn
  have h4:¬ N=l.length:=fun hh=>h3 (h.2.1 hh)
  have:=h.1
  rw[decide_eq_true (by omega)]
  rfl
theorem range_fold {α σ:Type} {d:α} {g:σ→α→σ} {l:List α}:∀(k i:Nat) (s:σ),i+k=l.length→(List.range' i k).foldl (fun s i=>g s (l.getD i d)) s=(l.drop i).foldl g s
 | 0,i,s,h=>by rw[List.drop_of_length_le (by omega)];rfl
 | k+1,i,s,h=>by
  rw[List.range'_succ,List.foldl_cons,range_fold k (i+1) _ (by omega),List.drop_eq_getElem_cons (show i<l.length by omega),List.foldl_cons,getD_nat (by omega)]
theorem early_nodup {α:Type} {d:α} {f:α→ByteArray} {l:List α}:(List.range' 0 l.length).all (earlyN (fun a b=>decide (f a=f b)) d l)=nodupB (l.map f):=by
 rw[Bool.eq_iff_iff,nodupB_iff,List.all_eq_true,List.nodup_iff_pairwise_ne,List.pairwise_iff_getElem]
 simp only[List.length_map,List.getElem_map]
 constructor
 ·intro h i j hi hj hij he
  have h1:=h j (List.mem_range'.2 ⟨j,hj,by omega⟩)
  unfold earlyN at h1
  rw[Bool.not_eq_true',List.any_eq_false] at h1
  have h2:=h1 l[i] (List.mem_take_iff_getElem.2 ⟨i,by omega,rfl⟩)
  rw[getD_nat hj] at h2
  exact h2 (decide_eq_true he)
 ·intro h k hk
  obtain ⟨j,hj,rfl⟩:=List.mem_range'.1 hk
  unfold earlyN
  rw[Bool.not_eq_true',List.any_eq_false]
  intro a ha he
  obtain ⟨i,hi,rfl⟩:=List.mem_take_iff_getElem.1 ha
  rw[getD_nat (by omega)] at he
  exact h i (0+1*j) (by omega) (by omega) (by omega) (of_decide_eq_true he)
theorem not_any_idx {α:Type} {p:α→Bool} {l:List α}:decide (idxI p l 0≥0)=l.any p:=by
 have:=idxI_neg (p:=p) (l:=l) (i:=0) (by omega)
 rw[Bool.eq_iff_iff,decide_eq_true_iff,List.any_eq_true]
 constructor
 ·intro h1
  by_cases h2:∃a ∈ l,p a=true
  ·exact h2
  ·have:idxI p l 0<0:=this.2 fun a ha=>by
    cases e:p a with
    | false=>rfl
    | true=>exact (h2 ⟨a,ha,e⟩).elim
   omega
 ·rintro ⟨a,ha,h3⟩
  by_cases h2:idxI p l 0<0
  ·rw[this.1 h2 a ha] at h3;cases h3
  ·omega
theorem early_loopF {α:Type} {p:α→Bool} {d:α} {l:List α} {i:Nat} (hl:l.length≤1000000) (hi:i≤l.length) {R:Type} {yes no:Option R} {F:(Int×PUnit→Option R)→Int×PUnit→Option R}
  (hb:∀again (j:Nat),j<i→F again ((j:Int),PUnit.unit)=bif p (l.getD j d) then yes else again (((j+1:Nat):Int),PUnit.unit)) (hf:∀again,F again ((i:Int),PUnit.unit)=no) :
  lpK (Int×PUnit) R F ((0:Int),PUnit.unit)=bif (l.take i).any p then yes else no:=by
 refine (lpK_up (α:=Int×PUnit) i (by omega) (fun j (_:Unit)=>((j:Int),PUnit.unit)) (fun j s k=>bif !p (l.getD j d) then k s else yes) (fun _=>no) ?_ ?_ ()).trans ?_
 ·intro again j _ hj
  rw[hb again j hj]
  cases p (l.getD j d)<;>rfl
 ·intro again _
  exact hf again
 ·refine (upF_all (p:=fun j=>!p (l.getD j d)) (r:=yes) i (fun _ _ _=>rfl) i 0 (by omega)).trans ?_
  have h:(List.range' 0 i).all (fun j=>!p (l.getD j d))=!(l.take i).any p:=by
   rw[Bool.eq_iff_iff,List.all_eq_true,Bool.not_eq_true',List.any_eq_false]
   constructor
   ·intro h1 a ha
    obtain ⟨j,hj,rfl⟩:=List.mem_take_iff_getElem.1 ha
    have:=h1 j (List.mem_range'.2 ⟨j,by omega,by omega⟩)
    rw[getD_nat (by omega)] at this
    simpa using this
   ·intro h1 j hj
    obtain ⟨k,hk,rfl⟩:=List.mem_range'.1 hj
    have h2:=h1 l[0+1*k] (List.mem_take_iff_getElem.2 ⟨0+1*k,by omega,rfl⟩)
    rw[getD_nat (by omega)]
    simpa using h2
  rw[h]
  cases (l.take i).any p<;>rfl
noncomputable def itemB (len:Int) (x:Itm):Bool:=nameB x.1&&(btw x.2.2.1 1 1048576&&(btw x.2.1 0 (IntKind.wrap .i64 (len - x.2.2.1))&&(btw x.2.2.2.1 0 1048576&&(btw x.2.2.2.2.1 0 1048576&&(btw x.2.2.2.2.2.1 0 1048576&&btw x.2.2.2.2.2.2 0 1048576)))))
def apartB (x y:Itm):Bool:=decide (IntKind.wrap .i64 (x.2.1+x.2.2.1)≤y.2.1)||decide (IntKind.wrap .i64 (y.2.1+y.2.2.1)≤x.2.1)
theorem apartB_comm (x y:Itm):apartB x y=apartB y x:=by unfold apartB;rw[Bool.or_comm]
noncomputable def itemsB (l:List Itm) (len:Int):Bool:=decide (l.length≤40)&&(l.all (itemB len)&&(nodupB (l.map fun x=>x.1)&&(List.range' 0 l.length).all (earlyN (fun a b=>!apartB a b) itm0 l)))
theorem all_range {α:Type} {p:α→Bool} {d:α} {l:List α}:(List.range' 0 l.length).all (fun i=>p (l.getD i d))=l.all p:=by
 rw[Bool.eq_iff_iff,List.all_eq_true,List.all_eq_true]
 constructor
 ·intro h a ha
  obtain ⟨j,hj,rfl⟩:=List.getElem_of_mem ha
  have:=h j (List.mem_range'.2 ⟨j,hj,by omega⟩)
  rw[getD_nat hj] at this
  exact this
 ·intro h j hj
  obtain ⟨k,hk,rfl⟩:=List.mem_range'.1 hj
  rw[getD_nat (by omega)]
  exact h _ (List.getElem_mem _)
theorem apartA_ok (x y:Itm):batten_apart x y=some (apartB x y):=by
 simp only[batten_apart,batten_apart_b,apartB]
 cases decide (IntKind.wrap .i64 (x.2.1+x.2.2.1)≤y.2.1)<;>cases decide (IntKind.wrap .i64 (y.2.1+y.2.2.1)≤x.2.1)<;>rfl
theorem apartR_ok (x y:Itm):ref21_Apart x y=some (apartB x y):=by
 simp only[ref21_Apart,ref21_Apart_b,apartB]
 cases decide (IntKind.wrap .i64 (x.2.1+x.2.2.1)≤y.2.1)<;>cases decide (IntKind.wrap .i64 (y.2.1+y.2.2.1)≤x.2.1)<;>rfl
theorem aloneA_ok (x:Itm):batten_alone x=some (nameB x.1&&(btw x.2.2.2.1 0 1048576&&(btw x.2.2.2.2.1 0 1048576&&(btw x.2.2.2.2.2.1 0 1048576&&btw x.2.2.2.2.2.2 0 1048576)))):=by
 simp only[batten_alone,batten_alone_b,isName_ok,btwA_ok,obind_some',not_or_self',cT]
 cases nameB x.1<;>cases btw x.2.2.2.1 0 1048576<;>cases btw x.2.2.2.2.1 0 1048576<;>cases btw x.2.2.2.2.2.1 0 1048576<;>cases btw x.2.2.2.2.2.2 0 1048576<;>rfl
theorem insideA_ok (x:Itm) (len:Int):batten_inside x len=some (btw x.2.2.1 1 1048576&&btw x.2.1 0 (IntKind.wrap .i64 (len - x.2.2.1))):=by
 simp only[batten_inside,batten_inside_b,btwA_ok,not_or_self',cT,Bool.and_self,ge_iff_le]
 rw[show btw x.2.1 0 (IntKind.wrap .i64 (len - x.2.2.1))=(decide (0≤x.2.1)&&decide (x.2.1≤IntKind.wrap .i64 (len - x.2.2.1))) from rfl]
 cases decide (0≤x.2.1)<;>cases btw x.2.2.1 1 1048576<;>cases decide (x.2.1≤IntKind.wrap .i64 (len - x.2.2.1))<;>rfl
theorem aloneR_ok (x:Itm) (len:Int):ref21_alone x len=some (itemB len x):=by
 simp only[ref21_alone,ref21_alone_b,refIsName_ok,btwB_ok,obind_some',not_or_self',Bool.and_self,cT,itemB]
 cases nameB x.1<;>cases btw x.2.2.1 1 1048576<;>cases btw x.2.1 0 (IntKind.wrap .i64 (len - x.2.2.1))<;>cases btw x.2.2.2.1 0 1048576<;>cases btw x.2.2.2.2.1 0 1048576<;>cases btw x.2.2.2.2.2.1 0 1048576<;>cases btw x.2.2.2.2.2.2 0 1048576<;>rfl
theorem twiceI_ok {l:List Itm} (hl:l.length≤1000000):batten_twice_140 l (fun x=>batten_items_1 x.1)=some (!nodupB (l.map fun x=>x.1)):=by
 simp only[batten_twice_140,batten_twice_140_b,batten_items_1,batten_items_1_b,obind_some']
 refine (lpK_int l itm0 (by omega) (fun i (s:List ByteArray)=>(((i:Nat):Int),s,PUnit.unit)) (fun x s k=>k (addK .str x.1 s)) (fun s=>some (decide ((s.length:Int)<(l.length:Int)))) ?_ ?_ []).trans ?_
 ·intro again i s hi
  have hw:IntKind.wrap .i64 ((i:Int)+1)=((i+1:Nat):Int):=by rw[wrap_id (by omega) (by omega)];rfl
  simp only[inB_nat,decide_eq_true hi,decide_eq_true (show (i:Int)<l.length by omega),cT,Int.toNat_natCast,hw]
 ·intro again s
  simp only[decide_eq_false (show ¬ (l.length:Int)<l.length by omega),cF]
 ·rw[listF_fold (fun (s:List ByteArray) (x:Itm)=>addK .str x.1 s) (fun _ _ _ _=>rfl)]
  congr 1
  exact addK_foldm (fun x:Itm=>x.1) l
theorem twiceB_ok {l:List Brk} (hl:l.length≤1000000):batten_twice_147 l (fun x=>batten_bricks_1 x.1)=some (!nodupB (l.map fun x=>x.1)):=by
 simp only[batten_twice_147,batten_twice_147_b,batten_bricks_1,batten_bricks_1_b,obind_some']
 refine (lpK_int l brk0 (by omega) (fun i (s:List ByteArray)=>(((i:Nat):Int),s,PUnit.unit)) (fun x s k=>k (addK .str x.1 s)) (fun s=>some (decide ((s.length:Int)<(l.length:Int)))) ?_ ?_ []).trans ?_
 ·intro again i s hi
  have hw:IntKind.wrap .i64 ((i:Int)+1)=((i+1:Nat):Int):=by rw[wrap_id (by omega) (by omega)];rfl
  simp only[inB_nat,decide_eq_true hi,decide_eq_true (show (i:Int)<l.length by omega),cT,Int.toNat_natCast,hw]
 ·intro again s
  simp only[decide_eq_false (show ¬ (l.length:Int)<l.length by omega),cF]
 ·rw[listF_fold (fun (s:List ByteArray) (x:Brk)=>addK .str x.1 s) (fun _ _ _ _=>rfl)]
  congr 1
  exact addK_foldm (fun x:Brk=>x.1) l
theorem containsI {f:(Itm×Unit)→Option Bool} {p:Itm→Bool} {l:List Itm} (hl:l.length≤1000000) (h:∀a,a ∈ l→f (a,())=some (p a)):slices_ContainsFunc_144 l f=some (l.any p):=by
 simp only[slices_ContainsFunc_144,slices_ContainsFunc_144_b]
 unfold slices_IndexFunc_159 slices_IndexFunc_159_b
 rw[index_loop (f:=f) (d:=itm0) hl h,obind_some',not_any_idx]
theorem itemsA_ok (l:List Itm) (len:Int):batten_items l len=some (itemsB l len):=by
 simp only[batten_items,batten_items_b,itemsB]
 by_cases h0:l.length≤40
 ·rw[decide_eq_false (show ¬ ((l.length:Nat):Int)>40 by omega),decide_eq_true h0]
  simp only[Bool.not_false,Bool.not_true,Bool.or_true,cT,cF,twiceI_ok (show l.length≤1000000 by omega),obind_some',Bool.true_and]
  cases hd:nodupB (l.map fun x=>x.1) with
  | false=>simp
  | true =>
   simp only[Bool.not_true,cF,Bool.true_and]
   refine (lpK_up (α:=Int×PUnit) l.length (by omega) (fun i (_:Unit)=>((i:Int),PUnit.unit)) (fun i s k=>bif itemB len (l.getD i itm0)&&earlyN (fun a b=>!apartB a b) itm0 l i then k s else some false) (fun _=>some true) ?_ ?_ ()).trans ?_
   ·intro again i _ hi
    have hw:IntKind.wrap .i64 ((i:Int)+1)=((i+1:Nat):Int):=by rw[wrap_id (by omega) (by omega)];rfl
    have hs:slB (0:Int) (i:Int) l.length=true:=slB_of (by omega) (by omega) (by omega)
    have hc:slices_ContainsFunc_144 (List.drop 0 (List.take i l)) (fun x=>batten_items_2 x.1 (l.getD i itm0))=some ((l.take i).any fun a=>!apartB a (l.getD i itm0)) :=
     containsI (l:=List.drop 0 (List.take i l)) (by rw[List.drop_zero,List.length_take];omega) fun a _=>by
      simp only[batten_items_2,batten_items_2_b,apartA_ok,obind_some']
      rw[apartB_comm]
    simp only[inB_nat,decide_eq_true hi,decide_eq_true (show (i:Int)<l.length by omega),cT,Int.toNat_natCast,hw,show List.getD l i ({ data:={ toList:=[] } },(0:Int),(0:Int),(0:Int),(0:Int),(0:Int),(0:Int))=l.getD i itm0 from rfl,aloneA_ok,insideA_ok,obind_some',hs,hc,Bool.or_true,not_or_self',Bool.and_self]
    unfold earlyN itemB
    generalize (l.take i).any (fun a=>!apartB a (l.getD i itm0))=q
    generalize l.getD i itm0=x
    cases nameB x.1<;>cases btw x.2.2.1 1 1048576<;>cases btw x.2.1 0 (IntKind.wrap .i64 (len - x.2.2.1))<;>cases btw x.2.2.2.1 0 1048576<;>cases btw x.2.2.2.2.1 0 1048576<;>cases btw x.2.2.2.2.2.1 0 1048576<;>cases btw x.2.2.2.2.2.2 0 1048576<;>cases q<;>rfl
   ·intro again _
    simp only[decide_eq_false (show ¬ (l.length:Int)<l.length by omega),cF]
   ·rw[upF_all l.length (fun i k _=>rfl) l.length 0 (by omega),all_and,all_range]
    cases l.all (itemB len)&&(List.range' 0 l.length).all (earlyN (fun a b=>!apartB a b) itm0 l)<;>rfl
 ·rw[decide_eq_true (show ((l.length:Nat):Int)>40 by omega),decide_eq_false h0]
  rfl
end Go.Proofs.YtmoiiokmfanlgaaGreat

namespace Go.Proofs.YtmoiiokmfanlgaaGreat
open Tryz Dn Dn.Sh
abbrev HS:=ByteArray×Int×Int×Int×Int×List Int×Int×Int×Int×Int×Int×List Itm×List Brk
theorem any_or {α:Type} {p q:α→Bool} {l:List α}:(l.any fun a=>p a||q a)=(l.any p||l.any q):=by
 rw[Bool.eq_iff_iff,Bool.or_eq_true,List.any_eq_true,List.any_eq_true,List.any_eq_true]
 constructor
 ·rintro ⟨a,ha,h⟩
  rcases (Bool.or_eq_true _ _).mp h with h | h
  ·exact .inl ⟨a,ha,h⟩
  ·exact .inr ⟨a,ha,h⟩
 ·rintro (⟨a,ha,h⟩ | ⟨a,ha,h⟩)
  ·exact ⟨a,ha,(Bool.or_eq_true _ _).mpr (.inl h)⟩
  ·exact ⟨a,ha,(Bool.or_eq_true _ _).mpr (.inr h)⟩
theorem itemsR_ok (nm:ByteArray) (dp lo hi len:Int) (ls:List Int) (pi ar pu mo br:Int) (l:List Itm) (bs:List Brk) (hl:l.length≤1000000):ref21_items (nm,dp,lo,hi,len,ls,pi,ar,pu,mo,br,l,bs)=some (itemsB l len):=by
 simp only[ref21_items,ref21_items_b,itemsB]
 by_cases h0:l.length≤40
 ·rw[decide_eq_false (show ¬ ((l.length:Nat):Int)>40 by omega),decide_eq_true h0]
  simp only[cF,Bool.true_and]
  refine (lpK_up (α:=Int×PUnit) l.length (by omega) (fun i (_:Unit)=>((i:Int),PUnit.unit)) (fun i s k=>bif itemB len (l.getD i itm0)&&(earlyN (fun a b=>decide (a.1=b.1)) itm0 l i&&earlyN (fun a b=>!apartB a b) itm0 l i) then k s else some false) (fun _=>some true) ?_ ?_ ()).trans ?_
  ·intro again i _ hi
   have hw:IntKind.wrap .i64 ((i:Int)+1)=((i+1:Nat):Int):=by rw[wrap_id (by omega) (by omega)];rfl
   simp only[inB_nat,decide_eq_true hi,decide_eq_true (show (i:Int)<l.length by omega),cT,Int.toNat_natCast,hw,show List.getD l i ({ data:={ toList:=[] } },(0:Int),(0:Int),(0:Int),(0:Int),(0:Int),(0:Int))=l.getD i itm0 from rfl,aloneR_ok,apartR_ok,obind_some',str_beq,not_or_self',or_self_not,Bool.and_self]
   cases hI:itemB len (l.getD i itm0) with
   | false=>simp
   | true =>
    simp only[Bool.not_true,cF,Bool.true_and]
    refine (early_loopF (p:=fun a:Itm=>decide (a.1=(l.getD i itm0).1)||!apartB a (l.getD i itm0)) (d:=itm0) (l:=l) (i:=i) (yes:=some false) (no:=again (((i+1:Nat):Int),PUnit.unit)) hl (by omega) ?_ ?_).trans ?_
    ·intro again_1 j hj
     have hw2:IntKind.wrap .i64 ((j:Int)+1)=((j+1:Nat):Int):=by rw[wrap_id (by omega) (by omega)];rfl
     simp only[inB_nat,decide_eq_true (show (j:Int)<i by omega),decide_eq_true (show j<l.length by omega),cT,Int.toNat_natCast,hw2,show List.getD l j ({ data:={ toList:=[] } },(0:Int),(0:Int),(0:Int),(0:Int),(0:Int),(0:Int))=l.getD j itm0 from rfl]
     cases decide ((l.getD j itm0).1=(l.getD i itm0).1)<;>cases apartB (l.getD j itm0) (l.getD i itm0)<;>rfl
    ·intro again_1
     simp only[decide_eq_false (show ¬ (i:Int)<i by omega),cF]
    ·rw[any_or]
     unfold earlyN
     cases (l.take i).any fun a:Itm=>decide (a.1=(l.getD i itm0).1)<;>cases (l.take i).any fun a:Itm=>!apartB a (l.getD i itm0)<;>rfl
  ·intro again _
   simp only[decide_eq_false (show ¬ (l.length:Int)<l.length by omega),cF]
  ·rw[upF_all l.length (fun i k _=>rfl) l.length 0 (by omega),all_and,all_and,all_range,early_nodup (f:=fun x:Itm=>x.1)]
   cases l.all (itemB len)&&(nodupB (l.map fun x=>x.1)&&(List.range' 0 l.length).all (earlyN (fun a b=>!apartB a b) itm0 l))<;>rfl
 ·rw[decide_eq_true (show ((l.length:Nat):Int)>40 by omega),decide_eq_false h0]
  rfl
noncomputable def brickB (b:Brk):Bool:=nameB b.1&&(btw b.2.1 1 1048576&&btw b.2.2 0 60)
def addW (s:Int) (b:Brk):Int:=IntKind.wrap .i64 (s+b.2.2)
noncomputable def bricksB (l:List Brk):Bool:=decide (l.length≤8)&&(l.all brickB&&(nodupB (l.map fun x=>x.1)&&decide (l.foldl addW 0≤60)))
theorem bricksA_ok (l:List Brk):batten_bricks l=some (bricksB l):=by
 simp only[batten_bricks,batten_bricks_b,bricksB]
 by_cases h0:l.length≤8
 ·rw[decide_eq_false (show ¬ ((l.length:Nat):Int)>8 by omega),decide_eq_true h0]
  simp only[Bool.not_false,Bool.not_true,Bool.or_true,cT,cF,twiceB_ok (show l.length≤1000000 by omega),obind_some',Bool.true_and]
  cases hd:nodupB (l.map fun x=>x.1) with
  | false=>simp
  | true =>
   simp only[Bool.not_true,cF,Bool.true_and]
   refine (lpK_up (α:=Int×Int×PUnit) l.length (by omega) (fun i (s:Int)=>(s,(i:Int),PUnit.unit)) (fun i s k=>bif brickB (l.getD i brk0) then k (addW s (l.getD i brk0)) else some false) (fun s=>some (decide (s≤60))) ?_ ?_ 0).trans ?_
   ·intro again i s hi
    have hw:IntKind.wrap .i64 ((i:Int)+1)=((i+1:Nat):Int):=by rw[wrap_id (by omega) (by omega)];rfl
    simp only[inB_nat,decide_eq_true hi,decide_eq_true (show (i:Int)<l.length by omega),cT,Int.toNat_natCast,hw,show List.getD l i ({ data:={ toList:=[] } },(0:Int),(0:Int))=l.getD i brk0 from rfl,isName_ok,btwA_ok,obind_some',not_or_self']
    unfold brickB addW
    generalize l.getD i brk0=b
    cases nameB b.1<;>cases btw b.2.1 1 1048576<;>cases btw b.2.2 0 60<;>rfl
   ·intro again s
    simp only[decide_eq_false (show ¬ (l.length:Int)<l.length by omega),cF]
   ·rw[upF_chk (q:=fun i=>brickB (l.getD i brk0)) (g:=fun i s=>addW s (l.getD i brk0)) (r:=some false) l.length (fun i s k _=>rfl) l.length 0 0 (by omega),all_range,range_fold (g:=addW) (d:=brk0) l.length 0 0 (by omega),List.drop_zero]
    cases l.all brickB<;>rfl
 ·rw[decide_eq_true (show ((l.length:Nat):Int)>8 by omega),decide_eq_false h0]
  rfl
theorem bricksR_ok (l:List Brk):ref21_Bricks l=some (bricksB l):=by
 simp only[ref21_Bricks,ref21_Bricks_b,bricksB]
 by_cases h0:l.length≤8
 ·rw[decide_eq_false (show ¬ ((l.length:Nat):Int)>8 by omega),decide_eq_true h0]
  simp only[cF,Bool.true_and]
  refine (lpK_up (α:=Int×Int×PUnit) l.length (by omega) (fun i (s:Int)=>(s,(i:Int),PUnit.unit)) (fun i s k=>bif brickB (l.getD i brk0)&&earlyN (fun a b=>decide (a.1=b.1)) brk0 l i then k (addW s (l.getD i brk0)) else some false) (fun s=>some (decide (s≤60))) ?_ ?_ 0).trans ?_
  ·intro again i s hi
   have hw:IntKind.wrap .i64 ((i:Int)+1)=((i+1:Nat):Int):=by rw[wrap_id (by omega) (by omega)];rfl
   simp only[inB_nat,decide_eq_true hi,decide_eq_true (show (i:Int)<l.length by omega),cT,Int.toNat_natCast,hw,show List.getD l i ({ data:={ toList:=[] } },(0:Int),(0:Int))=l.getD i brk0 from rfl,refIsName_ok,btwB_ok,obind_some',str_beq,not_or_self',or_self_not]
   have hB:brickB (l.getD i brk0)=(nameB (l.getD i brk0).1&&(btw (l.getD i brk0).2.1 1 1048576&&btw (l.getD i brk0).2.2 0 60)):=rfl
   rw[hB]
   cases nameB (l.getD i brk0).1 with
   | false=>rfl
   | true=>cases btw (l.getD i brk0).2.1 1 1048576 with
    | false=>rfl
    | true=>cases btw (l.getD i brk0).2.2 0 60 with
     | false=>rfl
     | true =>
      simp only[Bool.not_true,Bool.not_false,cF,cT,Bool.true_and,Bool.or_true,obind_some']
      refine (early_loopF (p:=fun a:Brk=>decide (a.1=(l.getD i brk0).1)) (d:=brk0) (l:=l) (i:=i) (yes:=some false) (no:=again (addW s (l.getD i brk0),((i+1:Nat):Int),PUnit.unit)) (by omega) (by omega) ?_ ?_).trans ?_
      ·intro again_1 j hj
       have hw2:IntKind.wrap .i64 ((j:Int)+1)=((j+1:Nat):Int):=by rw[wrap_id (by omega) (by omega)];rfl
       simp only[inB_nat,decide_eq_true (show (j:Int)<i by omega),decide_eq_true (show j<l.length by omega),cT,Int.toNat_natCast,hw2]
      ·intro again_1
       simp only[decide_eq_false (show ¬ (i:Int)<i by omega),cF]
       rfl
      ·unfold earlyN
       cases (l.take i).any fun a:Brk=>decide (a.1=(l.getD i brk0).1)<;>rfl
  ·intro again s
   simp only[decide_eq_false (show ¬ (l.length:Int)<l.length by omega),cF]
  ·rw[upF_chk (q:=fun i=>brickB (l.getD i brk0)&&earlyN (fun a b=>decide (a.1=b.1)) brk0 l i) (g:=fun i s=>addW s (l.getD i brk0)) (r:=some false) l.length (fun i s k _=>rfl) l.length 0 0 (by omega),all_and,all_range,early_nodup (f:=fun x:Brk=>x.1),range_fold (g:=addW) (d:=brk0) l.length 0 0 (by omega),List.drop_zero]
   cases l.all brickB<;>cases nodupB (l.map fun x=>x.1)<;>rfl
 ·rw[decide_eq_true (show ((l.length:Nat):Int)>8 by omega),decide_eq_false h0]
  rfl
end Go.Proofs.YtmoiiokmfanlgaaGreat

namespace Go.Proofs.YtmoiiokmfanlgaaGreat
open Tryz Dn Dn.Sh
def lineB (l:List Int) (len:Int) (i:Nat):Bool:=btw (l.getD i 0) 0 len&&(decide (i=0)||decide (l.getD (i - 1) 0<l.getD i 0))
def linesB (l:List Int) (len:Int):Bool:=btw (l.length:Int) 2 10&&(List.range' 0 l.length).all (lineB l len)
theorem lines_eq {l:List Int} {len:Int} (h2:2≤l.length):(decide (0≤l.getD 0 0)&&(decide (l.getD (l.length - 1) 0≤len)&&(List.range' 0 (l.length - 1)).all fun i=>decide (l.getD i 0<l.getD (i+1) 0)))=(List.range' 0 l.length).all (lineB l len):=by
 rw[Bool.eq_iff_iff,Bool.and_eq_true,Bool.and_eq_true,List.all_eq_true,List.all_eq_true,decide_eq_true_iff,decide_eq_true_iff]
 constructor
 ·rintro ⟨h0,h1,h3⟩ i hi
  obtain ⟨k,hk,rfl⟩:=List.mem_range'.1 hi
  have step:∀i,i+1<l.length→l.getD i 0<l.getD (i+1) 0:=fun i hi=>of_decide_eq_true (h3 i (List.mem_range'.2 ⟨i,by omega,by omega⟩))
  have mono:∀d i,i+d<l.length→l.getD i 0≤l.getD (i+d) 0:=by
   intro d
   induction d with
   | zero=>intro i _;exact Int.le_refl _
   | succ d ih =>
    intro i hi
    have g1:=ih i (by omega)
    have g2:=step (i+d) (by omega)
    rw[show i+(d+1)=i+d+1 by omega]
    omega
  have g1:=mono (0+1*k) 0 (by omega)
  have g2:=mono (l.length - 1 - (0+1*k)) (0+1*k) (by omega)
  rw[Nat.zero_add] at g1
  rw[show 0+1*k+(l.length - 1 - (0+1*k))=l.length - 1 by omega] at g2
  unfold lineB btw
  rw[Bool.and_eq_true,Bool.and_eq_true,Bool.or_eq_true,decide_eq_true_iff,decide_eq_true_iff,decide_eq_true_iff,decide_eq_true_iff]
  refine ⟨⟨by omega,by omega⟩,?_⟩
  by_cases hz:0+1*k=0
  ·exact .inl hz
  ·right
   have:=step (0+1*k - 1) (by omega)
   rw[show 0+1*k - 1+1=0+1*k by omega] at this
   exact this
 ·intro h
  have at':∀i,i<l.length→(0≤l.getD i 0∧l.getD i 0≤len)∧(i=0∨l.getD (i - 1) 0<l.getD i 0):=fun i hi=>by
   have:=h i (List.mem_range'.2 ⟨i,hi,by omega⟩)
   unfold lineB btw at this
   rw[Bool.and_eq_true,Bool.and_eq_true,Bool.or_eq_true,decide_eq_true_iff,decide_eq_true_iff,decide_eq_true_iff,decide_eq_true_iff] at this
   exact this
  refine ⟨(at' 0 (by omega)).1.1,(at' (l.length - 1) (by omega)).1.2,fun i hi=>?_⟩
  obtain ⟨k,hk,rfl⟩:=List.mem_range'.1 hi
  have:=(at' (0+1*k+1) (by omega)).2
  rw[decide_eq_true_iff]
  rcases this with h | h
  ·omega
  ·rw[Nat.add_sub_cancel] at h
   exact h
theorem linesA_ok (l:List Int) (len:Int):batten_lines l len=some (linesB l len):=by
 simp only[batten_lines,batten_lines_b,btwA_ok,obind_some',linesB]
 cases hb:btw (l.length:Int) 2 10 with
 | false=>rfl
 | true =>
  have h2:2≤l.length∧l.length≤10:=by
   unfold btw at hb
   rw[Bool.and_eq_true,decide_eq_true_iff,decide_eq_true_iff] at hb
   omega
  have hw0:IntKind.wrap .i64 ((l.length:Int) - 1)=((l.length - 1:Nat):Int):=by rw[wrap_id (by omega) (by omega)];omega
  rw[←lines_eq h2.1]
  simp only[hw0,Int.toNat_natCast,inB_nat,inB_of (show (0:Int)≤0 by omega) (show (0:Int)<(l.length:Nat) by omega),decide_eq_true (show l.length - 1<l.length by omega),Bool.not_true,Bool.not_false,Bool.or_true,Bool.and_self,Bool.true_and,cT,cF,not_or_self',or_self_not]
  by_cases g0:l.getD 0 0<0
  ·rw[decide_eq_true g0,decide_eq_false (show ¬ 0≤l.getD 0 0 by omega)]
   rfl
  ·rw[decide_eq_false g0,decide_eq_true (show 0≤l.getD 0 0 by omega)]
   by_cases g1:l.getD (l.length - 1) 0>len
   ·rw[decide_eq_true g1,decide_eq_false (show ¬ l.getD (l.length - 1) 0≤len by omega)]
    rfl
   ·rw[decide_eq_false g1,decide_eq_true (show l.getD (l.length - 1) 0≤len by omega)]
    simp only[Bool.true_and,cF]
    refine (lpK_up (α:=Int×PUnit) (l.length - 1) (by omega) (fun i (_:Unit)=>(((i+1:Nat):Int),PUnit.unit)) (fun i s k=>bif decide (l.getD i 0<l.getD (i+1) 0) then k s else some false) (fun _=>some true) ?_ ?_ ()).trans ?_
    ·intro again i _ hi
     have hw:IntKind.wrap .i64 (((i+1:Nat):Int)+1)=((i+1+1:Nat):Int):=by rw[wrap_id (by omega) (by omega)];omega
     have hw1:IntKind.wrap .i64 (((i+1:Nat):Int) - 1)=((i:Nat):Int):=by rw[wrap_id (by omega) (by omega)];omega
     simp only[hw,hw1,inB_nat,decide_eq_true (show ((i+1:Nat):Int)<l.length by omega),decide_eq_true (show i+1<l.length by omega),decide_eq_true (show i<l.length by omega),cT,Int.toNat_natCast]
     by_cases hc:l.getD i 0<l.getD (i+1) 0
     ·rw[decide_eq_true hc,decide_eq_false (show ¬ l.getD (i+1) 0≤l.getD i 0 by omega)];rfl
     ·rw[decide_eq_false hc,decide_eq_true (show l.getD (i+1) 0≤l.getD i 0 by omega)];rfl
    ·intro again _
     simp only[decide_eq_false (show ¬ ((l.length - 1+1:Nat):Int)<l.length by omega),cF]
    ·rw[upF_all (l.length - 1) (fun i k _=>rfl) (l.length - 1) 0 (by omega)]
     cases (List.range' 0 (l.length - 1)).all fun i=>decide (l.getD i 0<l.getD (i+1) 0)<;>rfl
noncomputable def setB (s:HS):Bool:=nameB s.1&&(btw s.2.1 0 1048576&&(btw s.2.2.1 0 s.2.2.2.1&&(btw s.2.2.2.1 0 1048576&&(btw s.2.2.2.2.1 1000 1048576&&(decide (Int.tmod s.2.2.2.2.1 1000=0)&&(linesB s.2.2.2.2.2.1 s.2.2.2.2.1 &&
 (btw s.2.2.2.2.2.2.1 0 1048576&&(btw s.2.2.2.2.2.2.2.1 0 1048576&&(btw s.2.2.2.2.2.2.2.2.1 1 2&&(btw s.2.2.2.2.2.2.2.2.2.1 1 67108864&&(btw s.2.2.2.2.2.2.2.2.2.2.1 0 67108864&&(itemsB s.2.2.2.2.2.2.2.2.2.2.2.1 s.2.2.2.2.1&&bricksB s.2.2.2.2.2.2.2.2.2.2.2.2))))))))))))
theorem obind_bif {R:Type} {b x:Bool} {k:Bool→Option R}:(obind (bif b then some x else some false) k)=k (b&&x):=by cases b<;>rfl
theorem validA_ok (s:HS):batten_Valid s=some (setB s):=by
 obtain ⟨nm,dp,lo,hi,len,ls,pi,ar,pu,mo,br,l,bs⟩:=s
 simp only[batten_Valid,batten_Valid_b,isName_ok,btwA_ok,linesA_ok,itemsA_ok,bricksA_ok,obind_bif,obind_some',not_or_self',Bool.and_self,Bool.or_true,cT,bif_false',setB]
 have e:(decide (0≤lo)&&(decide (lo≤hi)&&decide (hi≤1048576)))=(btw lo 0 hi&&btw hi 0 1048576):=by
  unfold btw
  by_cases h1:0≤lo<;>by_cases h2:lo≤hi<;>by_cases h3:hi≤1048576
  all_goals first | (rw[decide_eq_true h1]) | (rw[decide_eq_false h1])
  all_goals first | (rw[decide_eq_true h2]) | (rw[decide_eq_false h2])
  all_goals first | (rw[decide_eq_true h3]) | (rw[decide_eq_false h3])
  all_goals simp
  omega
 have e2:∀R:Bool,(decide (0≤lo)&&(decide (lo≤hi)&&(decide (hi≤1048576)&&R)))=(btw lo 0 hi&&(btw hi 0 1048576&&R)):=fun R=>by
  have:=congrArg (·&&R) e
  simpa only[Bool.and_assoc] using this
 rw[←e2]
 congr 1
 generalize nameB nm=b1
 generalize btw dp 0 1048576=b2
 generalize decide (0≤lo)=b3
 generalize decide (lo≤hi)=b4
 generalize decide (hi≤1048576)=b5
 generalize btw len 1000 1048576=b6
 generalize decide (Int.tmod len 1000=0)=b7
 generalize linesB ls len=b8
 generalize btw pi 0 1048576=b9
 generalize btw ar 0 1048576=b10
 generalize btw pu 1 2=b11
 generalize btw mo 1 67108864=b12
 generalize btw br 0 67108864=b13
 generalize itemsB l len=b14
 generalize bricksB bs=b15
 cases b1;· rfl
 cases b2;· rfl
 cases b3;· rfl
 cases b4;· rfl
 cases b5;· rfl
 cases b6;· rfl
 cases b7;· rfl
 cases b8;· rfl
 cases b9;· rfl
 cases b10;· rfl
 cases b11;· rfl
 cases b12;· rfl
 cases b13;· rfl
 cases b14;· rfl
 cases b15<;>rfl
theorem validR_ok (s:HS) (hl:s.2.2.2.2.2.2.2.2.2.2.2.1.length≤1000000):ref21_Valid s=some (setB s):=by
 obtain ⟨nm,dp,lo,hi,len,ls,pi,ar,pu,mo,br,l,bs⟩:=s
 simp only at hl
 simp only[ref21_Valid,ref21_Valid_b,refIsName_ok,btwB_ok,itemsR_ok _ _ _ _ _ _ _ _ _ _ _ _ _ hl,bricksR_ok,obind_bif,obind_some',setB,linesB]
 generalize nameB nm=b1
 generalize btw dp 0 1048576=b2
 generalize btw lo 0 hi=b3
 generalize btw hi 0 1048576=b4
 generalize btw len 1000 1048576=b6
 generalize decide (Int.tmod len 1000=0)=b7
 generalize hb:btw (ls.length:Int) 2 10=b8
 generalize btw pi 0 1048576=b9
 generalize btw ar 0 1048576=b10
 generalize btw pu 1 2=b11
 generalize btw mo 1 67108864=b12
 generalize btw br 0 67108864=b13
 cases b1;· rfl
 cases b2;· rfl
 cases b3;· rfl
 cases b4;· rfl
 cases b6;· rfl
 cases b7;· rfl
 cases b8;· rfl
 have h2:2≤ls.length∧ls.length≤10:=by
  unfold btw at hb
  rw[Bool.and_eq_true,decide_eq_true_iff,decide_eq_true_iff] at hb
  omega
 cases b9;· (simp only[Bool.false_and,Bool.and_false];rfl)
 cases b10;· (simp only[Bool.false_and,Bool.and_false];rfl)
 cases b11;· (simp only[Bool.false_and,Bool.and_false];rfl)
 cases b12;· (simp only[Bool.false_and,Bool.and_false];rfl)
 cases b13;· (simp only[Bool.false_and,Bool.and_false];rfl)
 simp only[Bool.not_true,Bool.not_false,Bool.or_true,Bool.and_self,Bool.true_and,cT,cF,not_or_self',or_self_not]
 refine (lpK_up (α:=Int×PUnit) ls.length (by omega) (fun i (_:Unit)=>((i:Int),PUnit.unit)) (fun i s k=>bif lineB ls len i then k s else some false) (fun _=>some (itemsB l len&&bricksB bs)) ?_ ?_ ()).trans ?_
 ·intro again i _ hi
  have hw:IntKind.wrap .i64 ((i:Int)+1)=((i+1:Nat):Int):=by rw[wrap_id (by omega) (by omega)];rfl
  simp only[inB_nat,decide_eq_true hi,decide_eq_true (show (i:Int)<ls.length by omega),cT,Int.toNat_natCast,hw]
  unfold lineB
  by_cases hz:i=0
  ·rw[decide_eq_false (show ¬ (i:Int)>0 by omega),decide_eq_true hz]
   cases btw (ls.getD i 0) 0 len<;>rfl
  ·have hw1:IntKind.wrap .i64 ((i:Int) - 1)=((i - 1:Nat):Int):=by rw[wrap_id (by omega) (by omega)];omega
   rw[decide_eq_true (show (i:Int)>0 by omega),decide_eq_false hz]
   simp only[hw1,inB_nat,decide_eq_true (show i - 1<ls.length by omega),Int.toNat_natCast]
   by_cases hc:ls.getD (i - 1) 0<ls.getD i 0
   ·rw[decide_eq_true hc,decide_eq_false (show ¬ ls.getD i 0≤ls.getD (i - 1) 0 by omega)]
    cases btw (ls.getD i 0) 0 len<;>rfl
   ·rw[decide_eq_false hc,decide_eq_true (show ls.getD i 0≤ls.getD (i - 1) 0 by omega)]
    cases btw (ls.getD i 0) 0 len<;>rfl
 ·intro again _
  simp only[decide_eq_false (show ¬ (ls.length:Int)<ls.length by omega),cF]
  cases itemsB l len<;>cases bricksB bs<;>rfl
 ·rw[upF_all ls.length (fun i k _=>rfl) ls.length 0 (by omega)]
  cases (List.range' 0 ls.length).all (lineB ls len)<;>simp
end Go.Proofs.YtmoiiokmfanlgaaGreat

namespace Go.Proofs.YtmoiiokmfanlgaaGreat
open Tryz Dn Dn.Sh
abbrev Bm:=ByteArray×Int×Int×Int
abbrev bm0:Bm:=({ data:={ toList:=[] } },(0:Int),(0:Int),(0:Int))
def bmAt (l:List Bm) (i:Nat):Bm:=l.getD i bm0
def inL (n:Int):Bool:=decide (0≤n∧n≤1048576)
def inW (n:Int):Bool:=decide (0≤n∧n≤67108864)
noncomputable def beamB (l:List Bm) (i:Nat):Bool:=nameB (bmAt l i).1&&(decide (0≤(bmAt l i).2.1∧(bmAt l i).2.1≤(bmAt l i).2.2.1∧(bmAt l i).2.2.1≤1048576)&&(inW (bmAt l i).2.2.2&&decide (idxI (fun a:Bm=>decide (a.1=(bmAt l i).1)) (l.take i) 0<0)))
noncomputable def validG (l:List Bm):Bool:=decide (l.length≤20)&&(List.range' 0 l.length).all (beamB l)
theorem within_ok (n:Int):grid_within n=some (inL n):=by
 simp only[grid_within,grid_within_b,not_or_self',cT,bif_false',ge_iff_le,inL,Bool.decide_and]
theorem isNameG_ok (s:ByteArray):grid_isName s=some (nameB s):=by
 simp only[grid_isName,grid_isName_b,isName_ok,obind_some']
theorem between_ok (n a b:Int):ref19_between n a b=some (decide (a≤n∧n≤b)):=by
 simp only[ref19_between,ref19_between_b,not_or_self',Bool.and_self,cT,bif_false',ge_iff_le,Bool.decide_and]
theorem index85 {f:(Bm×Unit)→Option Bool} {p:Bm→Bool} {l:List Bm} (hl:l.length≤1000000) (h:∀a,a ∈ l→f (a,())=some (p a)):slices_IndexFunc_151 l f=some (idxI p l 0):=by
 unfold slices_IndexFunc_151 slices_IndexFunc_151_b
 exact index_loop (f:=f) (d:=bm0) hl h
theorem contains41' {f:(Bm×Unit)→Option Bool} {p:Bm→Bool} {l:List Bm} (hl:l.length≤1000000) (h:∀a,a ∈ l→f (a,())=some (p a)):slices_ContainsFunc_110 l f=some (!decide (idxI p l 0<0)):=by
 simp only[slices_ContainsFunc_110,slices_ContainsFunc_110_b,index85 hl h,obind_some']
 congr 1
 rw[Bool.eq_iff_iff]
 simp
theorem gValid_ok (l:List Bm):grid_Valid l=some (validG l):=by
 simp only[grid_Valid,grid_Valid_b,validG]
 by_cases h0:l.length≤20
 ·rw[decide_eq_false (show ¬ ((l.length:Nat):Int)>20 by omega),decide_eq_true h0]
  simp only[cF,Bool.true_and]
  refine (lpK_up (α:=Int×PUnit) l.length (by omega) (fun i (_:Unit)=>((i:Int),PUnit.unit)) (fun i s k=>bif beamB l i then k s else some false) (fun _=>some true) ?_ ?_ ()).trans ?_
  ·intro again i _ hi
   have hw:IntKind.wrap .i64 ((i:Int)+1)=((i+1:Nat):Int):=by rw[wrap_id (by omega) (by omega)];rfl
   have hs:slB (0:Int) (i:Int) l.length=true:=slB_of (by omega) (by omega) (by omega)
   have hc:slices_ContainsFunc_110 (List.drop 0 (List.take i l)) (fun x=>grid_Valid_1 x.1 (bmAt l i))=some (!decide (idxI (fun a:Bm=>decide (a.1=(bmAt l i).1)) (l.take i) 0<0)) :=
    contains41' (l:=List.drop 0 (List.take i l)) (p:=fun a:Bm=>decide (a.1=(bmAt l i).1)) (by rw[List.drop_zero,List.length_take];omega) fun a _=>by simp only[grid_Valid_1,grid_Valid_1_b,str_beq]
   simp only[inB_nat,decide_eq_true hi,decide_eq_true (show (i:Int)<l.length by omega),cT,Int.toNat_natCast,hw,show List.getD l i bm0=bmAt l i from rfl,isNameG_ok,within_ok,obind_some',hs]
   unfold beamB
   generalize bmAt l i=b at *
   obtain ⟨s,fr,to,mo⟩:=b
   simp only at hc ⊢
   rw[hc]
   generalize decide (idxI (fun a:Bm=>decide (a.1=s)) (l.take i) 0<0)=q
   cases nameB s with
   | false=>rfl
   | true =>
    by_cases g1:0≤fr∧fr≤1048576
    ·by_cases g2:0≤to∧to≤1048576
     ·by_cases g3:fr>to
      ·simp only[inL,decide_eq_true g1,decide_eq_true g2,decide_eq_true g3,decide_eq_false (show ¬ (0≤fr∧fr≤to∧to≤1048576) by omega)]
       simp[obind_some']
      ·by_cases g4:mo<0
       ·simp only[inL,inW,decide_eq_true g1,decide_eq_true g2,decide_eq_false g3,decide_eq_true g4,decide_eq_true (show (0≤fr∧fr≤to∧to≤1048576) by omega),decide_eq_false (show ¬ (0≤mo∧mo≤67108864) by omega)]
        simp[obind_some']
       ·by_cases g5:mo>67108864
        ·simp only[inL,inW,decide_eq_true g1,decide_eq_true g2,decide_eq_false g3,decide_eq_false g4,decide_eq_true g5,decide_eq_true (show (0≤fr∧fr≤to∧to≤1048576) by omega),decide_eq_false (show ¬ (0≤mo∧mo≤67108864) by omega)]
         simp[obind_some']
        ·simp only[inL,inW,decide_eq_true g1,decide_eq_true g2,decide_eq_false g3,decide_eq_false g4,decide_eq_false g5,decide_eq_true (show (0≤fr∧fr≤to∧to≤1048576) by omega),decide_eq_true (show (0≤mo∧mo≤67108864) by omega)]
         cases q<;>simp[obind_some']
     ·simp only[inL,decide_eq_true g1,decide_eq_false g2,decide_eq_false (show ¬ (0≤fr∧fr≤to∧to≤1048576) by omega)]
      simp[obind_some']
    ·simp only[inL,decide_eq_false g1]
     by_cases g6:0≤fr∧fr≤to∧to≤1048576
     ·omega
     ·simp only[decide_eq_false g6]
      simp[obind_some']
  ·intro again _
   simp
  ·exact upF_all l.length (fun i k _=>rfl) l.length 0 (by omega) |>.trans (by cases (List.range' 0 l.length).all (beamB l)<;>rfl)
 ·rw[decide_eq_true (show ((l.length:Nat):Int)>20 by omega),decide_eq_false h0]
  rfl
theorem earlier_loop {p:Bm→Bool} {l:List Bm} {i:Nat} (hl:l.length≤1000000) (hi:i≤l.length) {R:Type} {yes no:Option R} :
  lpK (Int×PUnit) R (fun (again_1:Int×PUnit→Option R) (x_1:Int×PUnit)=>bif decide (x_1.1<(i:Int)) then bif inB x_1.1 (List.length l) then bif p (List.getD l (Int.toNat x_1.1) bm0) then yes else
   again_1 (IntKind.wrap .i64 (x_1.1+(1:Int)),PUnit.unit) else none else no) ((0:Int),PUnit.unit)=bif decide (idxI p (l.take i) 0<0) then no else yes:=by
 refine (lpK_up (α:=Int×PUnit) i (by omega) (fun j (_:Unit)=>((j:Int),PUnit.unit)) (fun j s k=>bif !p (l.getD j bm0) then k s else yes) (fun _=>no) ?_ ?_ ()).trans ?_
 ·intro again j _ hj
  have hw:IntKind.wrap .i64 ((j:Int)+1)=((j+1:Nat):Int):=by rw[wrap_id (by omega) (by omega)];rfl
  simp only[inB_nat,decide_eq_true (show j<l.length by omega),decide_eq_true (show (j:Int)<i by omega),cT,Int.toNat_natCast,hw]
  cases p (l.getD j bm0)<;>rfl
 ·intro again _
  simp only[decide_eq_false (show ¬ (i:Int)<i by omega),cF]
 ·refine (upF_all (p:=fun j=>!p (l.getD j bm0)) (r:=yes) i (fun _ _ _=>rfl) i 0 (by omega)).trans ?_
  congr 1
  have h:=idxI_neg (p:=p) (l:=l.take i) (i:=0) (by omega)
  rw[Bool.eq_iff_iff,decide_eq_true_iff,h,List.all_eq_true]
  constructor
  ·intro h1 a ha
   obtain ⟨j,hj,rfl⟩:=List.getElem_of_mem ha
   rw[List.length_take] at hj
   have:=h1 j (List.mem_range'.2 ⟨j,by omega,by omega⟩)
   rw[getD_nat (show j<l.length by omega)] at this
   rw[List.getElem_take]
   simpa using this
  ·intro h1 j hj
   obtain ⟨k,hk,rfl⟩:=List.mem_range'.1 hj
   have:l.getD (0+1*k) bm0 ∈ l.take i:=by
    rw[getD_nat (by omega)]
    exact List.mem_take_iff_getElem.2 ⟨0+1*k,by omega,rfl⟩
   rw[h1 _ this]
   rfl
theorem gRefValid_ok (l:List Bm):ref19_Valid l=some (validG l):=by
 simp only[ref19_Valid,ref19_Valid_b,validG]
 by_cases h0:l.length≤20
 ·rw[decide_eq_false (show ¬ ((l.length:Nat):Int)>20 by omega),decide_eq_true h0]
  simp only[cF,Bool.true_and]
  refine (lpK_up (α:=Int×PUnit) l.length (by omega) (fun i (_:Unit)=>((i:Int),PUnit.unit)) (fun i s k=>bif beamB l i then k s else some false) (fun _=>some true) ?_ ?_ ()).trans ?_
  ·intro again i _ hi
   have hw:IntKind.wrap .i64 ((i:Int)+1)=((i+1:Nat):Int):=by rw[wrap_id (by omega) (by omega)];rfl
   have he:=fun (no:Option Bool)=>earlier_loop (p:=fun a:Bm=>decide (a.1=(bmAt l i).1)) (l:=l) (i:=i) (by omega) (by omega) (yes:=some false) (no:=no)
   simp only[inB_nat,decide_eq_true hi,decide_eq_true (show (i:Int)<l.length by omega),cT,Int.toNat_natCast,hw,show List.getD l i bm0=bmAt l i from rfl,refIsName_ok,between_ok,obind_some',str_beq]
   rw[he]
   unfold beamB inW
   generalize bmAt l i=b at *
   obtain ⟨s,fr,to,mo⟩:=b
   simp only
   generalize decide (idxI (fun a:Bm=>decide (a.1=s)) (l.take i) 0<0)=q
   cases nameB s with
   | false=>rfl
   | true =>
    by_cases g1:0≤fr∧fr≤to
    ·by_cases g2:0≤to∧to≤1048576
     ·simp only[decide_eq_true g1,decide_eq_true g2,decide_eq_true (show (0≤fr∧fr≤to∧to≤1048576) by omega)]
      cases decide (0≤mo∧mo≤67108864)<;>cases q<;>simp[obind_some']
     ·simp only[decide_eq_true g1,decide_eq_false g2,decide_eq_false (show ¬ (0≤fr∧fr≤to∧to≤1048576) by omega)]
      simp[obind_some']
    ·simp only[decide_eq_false g1,decide_eq_false (show ¬ (0≤fr∧fr≤to∧to≤1048576) by omega)]
     simp[obind_some']
  ·intro again _
   simp
  ·exact upF_all l.length (fun i k _=>rfl) l.length 0 (by omega) |>.trans (by cases (List.range' 0 l.length).all (beamB l)<;>rfl)
 ·rw[decide_eq_true (show ((l.length:Nat):Int)>20 by omega),decide_eq_false h0]
  rfl
end Go.Proofs.YtmoiiokmfanlgaaGreat

namespace Go.Proofs.YtmoiiokmfanlgaaGreat
open Tryz Dn Dn.Sh
abbrev HH:=ByteArray×Int×List HS×List Bm
abbrev set0:HS:=({ data:={ toList:=[] } },(0:Int),(0:Int),(0:Int),(0:Int),[],(0:Int),(0:Int),(0:Int),(0:Int),(0:Int),[],[])
def shortB (s:ByteArray):Bool:=!decide ((s.size:Int)>60)
def small21B (s:HS):Bool:=shortB s.1&&(!decide ((s.2.2.2.2.2.1.length:Int)>12)&&(!(decide ((s.2.2.2.2.2.2.2.2.2.2.2.1.length:Int)>8)&&decide ((s.2.2.2.2.2.2.2.2.2.2.2.1.length:Int)≤40))&&(!decide ((s.2.2.2.2.2.2.2.2.2.2.2.1.length:Int)>45) &&
 (!decide ((s.2.2.2.2.2.2.2.2.2.2.2.2.length:Int)>10)&&(s.2.2.2.2.2.2.2.2.2.2.2.1.all (fun x=>shortB x.1)&&s.2.2.2.2.2.2.2.2.2.2.2.2.all (fun x=>shortB x.1))))))
theorem chk_loop {α R:Type} {p:α→Bool} {d:α} {l:List α} {yes no:Option R} {F:(Int×PUnit→Option R)→Int×PUnit→Option R} (hl:l.length≤1000000)
  (hb:∀again (i:Nat),i<l.length→F again ((i:Int),PUnit.unit)=bif p (l.getD i d) then again (((i+1:Nat):Int),PUnit.unit) else no) (hf:∀again,F again ((l.length:Int),PUnit.unit)=yes) :
  lpK (Int×PUnit) R F ((0:Int),PUnit.unit)=bif l.all p then yes else no:=by
 refine (lpK_up (α:=Int×PUnit) l.length (by omega) (fun i (_:Unit)=>((i:Int),PUnit.unit)) (fun i s k=>bif p (l.getD i d) then k s else no) (fun _=>yes) ?_ ?_ ()).trans ?_
 ·intro again i _ hi
  exact hb again i hi
 ·intro again _
  exact hf again
 ·rw[upF_all l.length (fun i k _=>rfl) l.length 0 (by omega),all_range]
theorem small21_ok (s:HS):ref21_Small s 8=some (small21B s):=by
 obtain ⟨nm,dp,lo,hi,len,ls,pi,ar,pu,mo,br,l,bs⟩:=s
 simp only[ref21_Small,ref21_Small_b,small21B]
 have h1:shortB nm=!decide ((nm.size:Int)>60):=rfl
 rw[h1]
 generalize decide ((nm.size:Int)>60)=b1
 generalize decide ((ls.length:Int)>12)=b2
 generalize decide ((l.length:Int)>8)=b3
 generalize decide ((l.length:Int)≤40)=b4
 generalize hb5:decide ((l.length:Int)>45)=b5
 generalize hb6:decide ((bs.length:Int)>10)=b6
 cases b1;case true=>rfl
 cases b2;case true=>rfl
 have key:∀b:Bool,b5=false→b6=false→lpK (Int×PUnit) Bool (fun (again:Int×PUnit→Option Bool) (x:Int×PUnit)=>bif decide (x.1<(↑(List.length l):Int)) then bif inB x.1 (List.length l) then bif decide ((↑(ByteArray.size (List.getD l (Int.toNat x.1) itm0).1):Int)>(60:Int)) then some false else again (IntKind.wrap .i64 (x.1+(1:Int)),PUnit.unit) else none else
   lpK (Int×PUnit) Bool (fun (again:Int×PUnit→Option Bool) (x:Int×PUnit)=>bif decide (x.1<(↑(List.length bs):Int)) then bif inB x.1 (List.length bs) then bif decide ((↑(ByteArray.size (List.getD bs (Int.toNat x.1) brk0).1):Int)>(60:Int)) then some false else again (IntKind.wrap .i64 (x.1+(1:Int)),PUnit.unit) else none else some true) ((0:Int),PUnit.unit)) ((0:Int),PUnit.unit)
   = some (l.all (fun x=>shortB x.1)&&bs.all (fun x=>shortB x.1)):=fun _ h5 h6=>by
  subst h5;subst h6
  have g5:¬ (l.length:Int)>45:=of_decide_eq_false hb5
  have g6:¬ (bs.length:Int)>10:=of_decide_eq_false hb6
  refine (chk_loop (p:=fun x:Itm=>shortB x.1) (d:=itm0) (l:=l) (no:=some false) (yes:=some (bs.all fun x=>shortB x.1)) (by omega) ?_ ?_).trans ?_
  ·intro again i hi
   have hw:IntKind.wrap .i64 ((i:Int)+1)=((i+1:Nat):Int):=by rw[wrap_id (by omega) (by omega)];rfl
   simp only[inB_nat,decide_eq_true hi,decide_eq_true (show (i:Int)<l.length by omega),cT,Int.toNat_natCast,hw]
   unfold shortB
   cases decide ((((l.getD i itm0).1.size:Nat):Int)>60)<;>rfl
  ·intro again
   simp only[decide_eq_false (show ¬ (l.length:Int)<l.length by omega),cF]
   refine (chk_loop (p:=fun x:Brk=>shortB x.1) (d:=brk0) (l:=bs) (no:=some false) (yes:=some true) (by omega) ?_ ?_).trans ?_
   ·intro again i hi
    have hw:IntKind.wrap .i64 ((i:Int)+1)=((i+1:Nat):Int):=by rw[wrap_id (by omega) (by omega)];rfl
    simp only[inB_nat,decide_eq_true hi,decide_eq_true (show (i:Int)<bs.length by omega),cT,Int.toNat_natCast,hw]
    unfold shortB
    cases decide ((((bs.getD i brk0).1.size:Nat):Int)>60)<;>rfl
   ·intro again
    simp only[decide_eq_false (show ¬ (bs.length:Int)<bs.length by omega),cF]
   ·cases bs.all (fun x=>shortB x.1)<;>rfl
  ·cases l.all (fun x=>shortB x.1)<;>rfl
 cases b3 with
 | false =>
  cases b5;case true=>rfl
  cases b6;case true=>rfl
  simp only[Bool.not_true,Bool.not_false,Bool.or_true,Bool.or_false,Bool.and_self,Bool.true_and,Bool.false_and,Bool.and_false,cT,cF]
  exact key true rfl rfl
 | true =>
  cases b4;case true=>rfl
  cases b5;case true=>rfl
  cases b6;case true=>rfl
  simp only[Bool.not_true,Bool.not_false,Bool.or_true,Bool.and_self,Bool.true_and,Bool.and_false,cT,cF]
  exact key true rfl rfl
def smallHB (h:HH):Bool:=!decide ((h.2.2.1.length:Int)>6)&&(!decide ((h.2.2.2.length:Int)>16)&&(shortB h.1&&(h.2.2.1.all small21B&&h.2.2.2.all (fun x=>shortB x.1))))
theorem smallH_ok (h:HH):law30_small h=some (smallHB h):=by
 obtain ⟨nm,ht,ss,rs⟩:=h
 simp only[law30_small,law30_small_b,ref30_Small,ref30_Small_b,smallHB,small21_ok,obind_some']
 have h1:shortB nm=!decide ((nm.size:Int)>60):=rfl
 rw[h1,show IntKind.wrap .i64 (6+10)=16 by kernel_rfl]
 generalize decide ((nm.size:Int)>60)=b1
 generalize hb2:decide ((ss.length:Int)>6)=b2
 generalize hb3:decide ((rs.length:Int)>16)=b3
 cases b2;case true=>rfl
 cases b3;case true=>rfl
 cases b1;case true=>rfl
 have g2:¬ (ss.length:Int)>6:=of_decide_eq_false hb2
 have g3:¬ (rs.length:Int)>16:=of_decide_eq_false hb3
 simp only[Bool.not_true,Bool.not_false,Bool.or_true,Bool.and_self,Bool.true_and,cT,cF]
 refine Eq.trans (congrArg (fun m:Option Bool=>obind m fun t=>some t) (chk_loop (p:=small21B) (d:=set0) (l:=ss) (no:=some false) (yes:=some (rs.all fun x=>shortB x.1)) (by omega) ?_ ?_)) ?_
 ·intro again i hi
  have hw:IntKind.wrap .i64 ((i:Int)+1)=((i+1:Nat):Int):=by rw[wrap_id (by omega) (by omega)];rfl
  simp only[inB_nat,decide_eq_true hi,decide_eq_true (show (i:Int)<ss.length by omega),cT,Int.toNat_natCast,hw]
  cases small21B (ss.getD i set0)<;>rfl
 ·intro again
  simp only[decide_eq_false (show ¬ (ss.length:Int)<ss.length by omega),cF]
  refine (chk_loop (p:=fun x:Bm=>shortB x.1) (d:=bm0) (l:=rs) (no:=some false) (yes:=some true) (by omega) ?_ ?_).trans ?_
  ·intro again i hi
   have hw:IntKind.wrap .i64 ((i:Int)+1)=((i+1:Nat):Int):=by rw[wrap_id (by omega) (by omega)];rfl
   simp only[inB_nat,decide_eq_true hi,decide_eq_true (show (i:Int)<rs.length by omega),cT,Int.toNat_natCast,hw]
   unfold shortB
   cases decide ((((rs.getD i bm0).1.size:Nat):Int)>60)<;>rfl
  ·intro again
   simp only[decide_eq_false (show ¬ (rs.length:Int)<rs.length by omega),cF]
  ·cases rs.all (fun x=>shortB x.1)<;>rfl
 ·cases ss.all small21B<;>cases rs.all (fun x=>shortB x.1)<;>rfl
theorem small_len {h:HH} (hs:smallHB h=true):h.2.2.1.length≤6∧h.2.2.2.length≤16∧∀s ∈ h.2.2.1,s.2.2.2.2.2.1.length≤12∧s.2.2.2.2.2.2.2.2.2.2.2.1.length≤45∧s.2.2.2.2.2.2.2.2.2.2.2.2.length≤10:=by
 simp only[smallHB,Bool.and_eq_true,Bool.not_eq_true',decide_eq_false_iff_not,List.all_eq_true] at hs
 obtain ⟨h1,h2,_,h4,_⟩:=hs
 refine ⟨by omega,by omega,fun s hm=>?_⟩
 have:=h4 s hm
 simp only[small21B,Bool.and_eq_true,Bool.not_eq_true',decide_eq_false_iff_not] at this
 obtain ⟨_,g1,_,g2,g3,_⟩:=this
 omega
def findI (h:HH) (n:ByteArray):Int:=idxI (fun s:HS=>decide (s.1=n)) h.2.2.1 0
theorem find_ok (h:HH) (n:ByteArray) (hl:h.2.2.1.length≤1000000):house_find h n=some (findI h n):=by
 simp only[house_find,house_find_b,house_find_1,house_find_1_b,str_beq]
 unfold slices_IndexFunc_50 slices_IndexFunc_50_b
 exact congrArg (fun m:Option Int=>obind m fun t=>some t) (index_loop (f:=fun x:HS×Unit=>some (decide (x.1.1=n))) (p:=fun s:HS=>decide (s.1=n)) (d:=set0) hl (fun a _=>rfl))
theorem findSet_ok (h:HH) (n:ByteArray) (hl:h.2.2.1.length≤1000000):ref30_FindSet h n=some (findI h n):=by
 simp only[ref30_FindSet,ref30_FindSet_b,str_beq]
 exact find_loop (p:=fun s:HS=>decide (s.1=n)) (d:=set0) hl
noncomputable def validHB (h:HH):Bool:=nameB h.1&&(!decide (h.2.1<1)&&(!decide (h.2.1>1048576)&&(!decide ((h.2.2.1.length:Int)>60)&&(validG h.2.2.2&&(List.range' 0 h.2.2.1.length).all fun i=>setB (h.2.2.1.getD i set0)&&(!decide ((h.2.2.1.getD i set0).2.2.2.1>h.2.1)&&decide (findI h (h.2.2.1.getD i set0).1=(i:Int)))))))
theorem hValid_ok (h:HH):house_Valid h=some (validHB h):=by
 obtain ⟨nm,ht,ss,rs⟩:=h
 simp only[house_Valid,house_Valid_b,isName_ok,gValid_ok,validA_ok,obind_bif,obind_some',validHB]
 generalize nameB nm=b1
 generalize decide (ht<1)=b2
 generalize decide (ht>1048576)=b3
 generalize hb4:decide ((ss.length:Int)>60)=b4
 generalize validG rs=b5
 cases b1;· rfl
 cases b2;case true=>rfl
 cases b3;case true=>rfl
 cases b4;case true=>rfl
 cases b5;· rfl
 have g4:¬ (ss.length:Int)>60:=of_decide_eq_false hb4
 have hfind:=fun n=>find_ok (nm,ht,ss,rs) n (by simp only;omega)
 simp only[Bool.not_true,Bool.not_false,Bool.or_true,Bool.and_self,Bool.true_and,cT,cF]
 refine (lpK_up (α:=Int×PUnit) ss.length (by omega) (fun i (_:Unit)=>((i:Int),PUnit.unit)) (fun i s k=>bif setB (ss.getD i set0)&&(!decide ((ss.getD i set0).2.2.2.1>ht)&&decide (findI (nm,ht,ss,rs) (ss.getD i set0).1=(i:Int))) then k s else some false) (fun _=>some true) ?_ ?_ ()).trans ?_
 ·intro again i _ hi
  have hw:IntKind.wrap .i64 ((i:Int)+1)=((i+1:Nat):Int):=by rw[wrap_id (by omega) (by omega)];rfl
  simp only[inB_nat,decide_eq_true hi,decide_eq_true (show (i:Int)<ss.length by omega),cT,Int.toNat_natCast,hw,hfind,show List.getD ss i ({ data:={ toList:=[] } },(0:Int),(0:Int),(0:Int),(0:Int),[],(0:Int),(0:Int),(0:Int),(0:Int),(0:Int),[],[])=ss.getD i set0 from rfl]
  generalize hf:decide (findI (nm,ht,ss,rs) (ss.getD i set0).1=(i:Int))=b6
  cases setB (ss.getD i set0) with
  | false=>rfl
  | true =>
   cases decide ((ss.getD i set0).2.2.2.1>ht) with
   | true=>rfl
   | false =>
    simp only[Bool.not_true,Bool.not_false,Bool.or_true,Bool.true_and,cT,cF,obind_some',hf]
    cases b6<;>rfl
 ·intro again _
  simp only[decide_eq_false (show ¬ (ss.length:Int)<ss.length by omega),cF]
 ·rw[upF_all ss.length (fun i k _=>rfl) ss.length 0 (by omega)]
  cases (List.range' 0 ss.length).all fun i=>setB (ss.getD i set0)&&(!decide ((ss.getD i set0).2.2.2.1>ht)&&decide (findI (nm,ht,ss,rs) (ss.getD i set0).1=(i:Int)))<;>rfl
theorem hRefValid_ok (h:HH) (hL:∀s ∈ h.2.2.1,s.2.2.2.2.2.2.2.2.2.2.2.1.length≤1000000):ref30_Valid h=some (validHB h):=by
 obtain ⟨nm,ht,ss,rs⟩:=h
 simp only at hL
 simp only[ref30_Valid,ref30_Valid_b,refIsName_ok,gRefValid_ok,obind_bif,obind_some',validHB]
 generalize nameB nm=b1
 generalize decide (ht<1)=b2
 generalize decide (ht>1048576)=b3
 generalize hb4:decide ((ss.length:Int)>60)=b4
 generalize validG rs=b5
 cases b1;· rfl
 cases b2;case true=>rfl
 cases b3;case true=>rfl
 cases b4;case true=>rfl
 cases b5;· rfl
 have g4:¬ (ss.length:Int)>60:=of_decide_eq_false hb4
 have hfind:=fun n=>findSet_ok (nm,ht,ss,rs) n (by simp only;omega)
 simp only[Bool.not_true,Bool.not_false,Bool.or_true,Bool.and_self,Bool.true_and,cT,cF]
 refine (lpK_up (α:=Int×PUnit) ss.length (by omega) (fun i (_:Unit)=>((i:Int),PUnit.unit)) (fun i s k=>bif setB (ss.getD i set0)&&(!decide ((ss.getD i set0).2.2.2.1>ht)&&decide (findI (nm,ht,ss,rs) (ss.getD i set0).1=(i:Int))) then k s else some false) (fun _=>some true) ?_ ?_ ()).trans ?_
 ·intro again i _ hi
  have hw:IntKind.wrap .i64 ((i:Int)+1)=((i+1:Nat):Int):=by rw[wrap_id (by omega) (by omega)];rfl
  have hv:ref21_Valid (ss.getD i set0)=some (setB (ss.getD i set0)):=validR_ok _ (hL _ (by rw[getD_nat hi];exact List.getElem_mem _))
  simp only[inB_nat,decide_eq_true hi,decide_eq_true (show (i:Int)<ss.length by omega),cT,Int.toNat_natCast,hw,hfind,show List.getD ss i ({ data:={ toList:=[] } },(0:Int),(0:Int),(0:Int),(0:Int),[],(0:Int),(0:Int),(0:Int),(0:Int),(0:Int),[],[])=ss.getD i set0 from rfl,hv,obind_some']
  generalize hf:decide (findI (nm,ht,ss,rs) (ss.getD i set0).1=(i:Int))=b6
  cases setB (ss.getD i set0) with
  | false=>rfl
  | true =>
   cases decide ((ss.getD i set0).2.2.2.1>ht) with
   | true=>rfl
   | false =>
    simp only[Bool.not_true,Bool.not_false,Bool.or_true,Bool.and_self,Bool.true_and,cT,cF,obind_some',hf]
    cases b6<;>rfl
 ·intro again _
  simp only[decide_eq_false (show ¬ (ss.length:Int)<ss.length by omega),cF]
 ·rw[upF_all ss.length (fun i k _=>rfl) ss.length 0 (by omega)]
  cases (List.range' 0 ss.length).all fun i=>setB (ss.getD i set0)&&(!decide ((ss.getD i set0).2.2.2.1>ht)&&decide (findI (nm,ht,ss,rs) (ss.getD i set0).1=(i:Int)))<;>rfl
end Go.Proofs.YtmoiiokmfanlgaaGreat

namespace Go.Proofs.YtmoiiokmfanlgaaGreat
open Tryz Dn Dn.Sh
end Go.Proofs.YtmoiiokmfanlgaaGreat

namespace Go.Proofs.YtmoiiokmfanlgaaGreat
open Tryz Dn Dn.Sh
end Go.Proofs.YtmoiiokmfanlgaaGreat

namespace Go.Proofs.YtmoiiokmfanlgaaGreat
namespace Dn
abbrev Fq:=Int×Int
def okF (a:Fq):Prop:=(1≤a.2∧a.2≤1152921504606846976)∧(-1152921504606846976≤a.1∧a.1≤1152921504606846976)∧Nat.gcd a.1.natAbs a.2.natAbs=1
instance (a:Fq):Decidable (okF a):=by unfold okF;infer_instance
def fitsQ (q:Rat):Prop:=q.num.natAbs≤1152921504606846976∧q.den≤1152921504606846976
instance (q:Rat):Decidable (fitsQ q):=by unfold fitsQ;infer_instance
end Dn
end Go.Proofs.YtmoiiokmfanlgaaGreat

namespace Go.Proofs.YtmoiiokmfanlgaaGreat
open Tryz Dn Dn.Sh
end Go.Proofs.YtmoiiokmfanlgaaGreat

namespace Go.Proofs.YtmoiiokmfanlgaaGreat
open Tryz Dn Dn.Sh
def hl (n:Nat):Int×Int:=(((n / 18446744073709551616:Nat):Int),((n % 18446744073709551616:Nat):Int))
end Go.Proofs.YtmoiiokmfanlgaaGreat

namespace Go.Proofs.YtmoiiokmfanlgaaGreat
open Tryz Dn Dn.Sh
end Go.Proofs.YtmoiiokmfanlgaaGreat

namespace Go.Proofs.YtmoiiokmfanlgaaGreat
open Tryz Dn Dn.Sh
end Go.Proofs.YtmoiiokmfanlgaaGreat

namespace Go.Proofs.YtmoiiokmfanlgaaGreat
open Tryz Dn Dn.Sh
end Go.Proofs.YtmoiiokmfanlgaaGreat

namespace Go.Proofs.YtmoiiokmfanlgaaGreat
open Tryz Dn Dn.Sh
end Go.Proofs.YtmoiiokmfanlgaaGreat

namespace Go.Proofs.YtmoiiokmfanlgaaGreat
open Tryz Dn Dn.Sh
end Go.Proofs.YtmoiiokmfanlgaaGreat

namespace Go.Proofs.YtmoiiokmfanlgaaGreat
open Tryz Dn Dn.Sh
end Go.Proofs.YtmoiiokmfanlgaaGreat

namespace Go.Proofs.YtmoiiokmfanlgaaGreat
open Tryz Dn Dn.Sh
end Go.Proofs.YtmoiiokmfanlgaaGreat

namespace Go.Proofs.YtmoiiokmfanlgaaGreat
open Tryz Dn Dn.Sh
end Go.Proofs.YtmoiiokmfanlgaaGreat

namespace Go.Proofs.YtmoiiokmfanlgaaGreat
open Tryz Dn Dn.Sh
end Go.Proofs.YtmoiiokmfanlgaaGreat

namespace Go.Proofs.YtmoiiokmfanlgaaGreat
open Tryz Dn Dn.Sh
end Go.Proofs.YtmoiiokmfanlgaaGreat

namespace Go.Proofs.YtmoiiokmfanlgaaGreat
open Tryz Dn Dn.Sh
end Go.Proofs.YtmoiiokmfanlgaaGreat

namespace Go.Proofs.YtmoiiokmfanlgaaGreat
open Tryz Dn Dn.Sh
end Go.Proofs.YtmoiiokmfanlgaaGreat

namespace Go.Proofs.YtmoiiokmfanlgaaGreat
open Tryz Dn Dn.Sh
end Go.Proofs.YtmoiiokmfanlgaaGreat

namespace Go.Proofs.YtmoiiokmfanlgaaGreat
open Tryz Dn Dn.Sh
end Go.Proofs.YtmoiiokmfanlgaaGreat

namespace Go.Proofs.YtmoiiokmfanlgaaGreat
open Tryz Dn Dn.Sh
theorem awakeH_ok:law30_awake=some true:=by kernel_rfl
end Go.Proofs.YtmoiiokmfanlgaaGreat

namespace Go.Proofs.YtmoiiokmfanlgaaGreat
open Tryz Dn Dn.Sh
def allE {α:Type} (p:α→α→Bool) (d:α) (a b:List α):Bool:=(List.range' 0 a.length).all fun i=>p (a.getD i d) (b.getD i d)
def lenE {α:Type} (a b:List α):Bool:=decide ((a.length:Int)=(b.length:Int))
def eqL {α:Type} (p:α→α→Bool) (d:α) (a b:List α):Bool:=lenE a b&&allE p d a b
theorem eq_loop {α R:Type} {p:α→α→Bool} {d:α} {a b:List α} {yes no:Option R} {F:(Int×PUnit→Option R)→Int×PUnit→Option R} (hl:a.length≤1000000)
  (hb:∀again (i:Nat),i<a.length→F again ((i:Int),PUnit.unit)=bif p (a.getD i d) (b.getD i d) then again (((i+1:Nat):Int),PUnit.unit) else no) (hf:∀again,F again ((a.length:Int),PUnit.unit)=yes) :
  lpK (Int×PUnit) R F ((0:Int),PUnit.unit)=bif allE p d a b then yes else no:=by
 refine (lpK_up (α:=Int×PUnit) a.length (by omega) (fun i (_:Unit)=>((i:Int),PUnit.unit)) (fun i s k=>bif p (a.getD i d) (b.getD i d) then k s else no) (fun _=>yes) ?_ ?_ ()).trans ?_
 ·intro again i _ hi
  exact hb again i hi
 ·intro again _
  exact hf again
 ·rw[upF_all a.length (fun i k _=>rfl) a.length 0 (by omega)]
  rfl
def intE (a b:Int):Bool:=decide (a=b)
theorem lenE_nat {α:Type} {a b:List α} (h:lenE a b=true):a.length=b.length:=by
 have:(a.length:Int)=(b.length:Int):=of_decide_eq_true h
 omega
theorem equal26 {a b:List Int} (hl:a.length≤1000000):slices_Equal_26 a b=some (eqL intE 0 a b):=by
 simp only[slices_Equal_26,slices_Equal_26_b,show decide ((a.length:Int)=(b.length:Int))=lenE a b from rfl,eqL]
 cases h:lenE a b with
 | false=>rfl
 | true =>
  have hab:=lenE_nat h
  simp only[Bool.not_true,cF,Bool.true_and]
  refine (eq_loop (p:=intE) (d:=(0:Int)) (a:=a) (b:=b) (yes:=some true) (no:=some false) hl ?_ ?_).trans ?_
  ·intro again i hi
   have hw:IntKind.wrap .i64 ((i:Int)+1)=((i+1:Nat):Int):=by rw[wrap_id (by omega) (by omega)];rfl
   simp only[inB_nat,decide_eq_true hi,decide_eq_true (show i<b.length by omega),decide_eq_true (show (i:Int)<a.length by omega),cT,Int.toNat_natCast,hw,show decide (a.getD i 0=b.getD i 0)=intE (a.getD i 0) (b.getD i 0) from rfl]
   cases intE (a.getD i 0) (b.getD i 0)<;>rfl
  ·intro again
   simp only[decide_eq_false (show ¬ (a.length:Int)<a.length by omega),cF]
  ·cases allE intE 0 a b<;>rfl
end Go.Proofs.YtmoiiokmfanlgaaGreat

namespace Go.Proofs.YtmoiiokmfanlgaaGreat
open Tryz Dn Dn.Sh
end Go.Proofs.YtmoiiokmfanlgaaGreat

namespace Go.Proofs.YtmoiiokmfanlgaaGreat
open Tryz Dn Dn.Sh
theorem eqL_refl {α:Type} {p:α→α→Bool} {d:α} {a:List α} (h:∀x ∈ a,p x x=true):eqL p d a a=true:=by
 unfold eqL lenE allE
 rw[decide_eq_true rfl,Bool.true_and,List.all_eq_true]
 intro i hi
 obtain ⟨k,hk,rfl⟩:=List.mem_range'.1 hi
 rw[getD_nat (by omega)]
 exact h _ (List.getElem_mem _)
theorem intE_refl (a:Int):intE a a=true:=decide_eq_true rfl
end Go.Proofs.YtmoiiokmfanlgaaGreat

namespace Go.Proofs.YtmoiiokmfanlgaaGreat
namespace Dn
def ab (x:Int):Int:=(x.natAbs:Int)
theorem ab_nonneg (x:Int):0≤ab x:=by unfold ab;omega
theorem ab_mul (x y:Int):ab (x*y)=ab x*ab y:=by
 unfold ab
 rw[Int.natAbs_mul]
 rfl
def sz:Nat→(Nat→Int)→Int
 | 0,_=>0
 | n+1,f=>sz n f+f n
theorem sz_congr:∀{n:Nat} {f g:Nat→Int},(∀i,i<n→f i=g i)→sz n f=sz n g
 | 0,_,_,_=>rfl
 | n+1,f,g,h=>by
  simp only[sz]
  rw[sz_congr (n:=n) fun i hi=>h i (by omega),h n (by omega)]
theorem sz_add:∀{n:Nat} {f g:Nat→Int},sz n (fun i=>f i+g i)=sz n f+sz n g
 | 0,_,_=>rfl
 | n+1,f,g=>by
  simp only[sz]
  rw[sz_add]
  omega
theorem sz_mul:∀{n:Nat} {c:Int} {f:Nat→Int},sz n (fun i=>c*f i)=c*sz n f
 | 0,c,_=>by simp[sz]
 | n+1,c,f=>by
  simp only[sz]
  rw[sz_mul,Int.mul_add]
theorem sz_mulr {n:Nat} {c:Int} {f:Nat→Int}:sz n (fun i=>f i*c)=sz n f*c:=by
 rw[Int.mul_comm,←sz_mul]
 exact sz_congr fun i _=>Int.mul_comm _ _
theorem sz_zero:∀{n:Nat} {f:Nat→Int},(∀i,i<n→f i=0)→sz n f=0
 | 0,_,_=>rfl
 | n+1,f,h=>by
  simp only[sz]
  rw[sz_zero fun i hi=>h i (by omega),h n (by omega)]
  rfl
theorem sz_neg {n:Nat} {f:Nat→Int}:sz n (fun i=> - f i)= - sz n f:=by
 have:sz n (fun i=> - f i)=sz n (fun i=>(-1)*f i):=sz_congr fun i _=>by omega
 rw[this,sz_mul]
 omega
theorem sz_sub {n:Nat} {f g:Nat→Int}:sz n (fun i=>f i - g i)=sz n f - sz n g:=by
 have:sz n (fun i=>f i - g i)=sz n (fun i=>f i+ - g i):=sz_congr fun i _=>by omega
 rw[this,sz_add,sz_neg]
 omega
theorem sz_one:∀{n:Nat} {f:Nat→Int} {k:Nat},k<n→(∀i,i<n→i≠k→f i=0)→sz n f=f k
 | n+1,f,k,hk,h=>by
  simp only[sz]
  by_cases e:k=n
  ·subst e
   rw[sz_zero fun i hi=>h i (by omega) (by omega)]
   omega
  ·rw[sz_one (k:=k) (by omega) fun i hi hne=>h i (by omega) hne,h n (by omega) (fun e'=>e e'.symm)]
   omega
theorem sz_two {n:Nat} {f:Nat→Int} {k l:Nat} (hk:k<n) (hl:l<n) (hkl:k≠l) (h:∀i,i<n→i≠k→i≠l→f i=0):sz n f=f k+f l:=by
 have e:sz n f=sz n (fun i=>(if i=k then f k else 0)+(if i=l then f l else 0)):=sz_congr fun i hi=>by
  by_cases h1:i=k
  ·subst h1;rw[if_pos rfl,if_neg hkl];omega
  ·by_cases h2:i=l
   ·subst h2;rw[if_neg h1,if_pos rfl];omega
   ·rw[if_neg h1,if_neg h2,h i hi h1 h2];rfl
 rw[e,sz_add,sz_one hk (f:=fun i=>if i=k then f k else 0) (fun i _ hne=>if_neg hne),sz_one hl (f:=fun i=>if i=l then f l else 0) (fun i _ hne=>if_neg hne)]
 simp
theorem sz_swap:∀{m n:Nat} {f:Nat→Nat→Int},sz m (fun i=>sz n (fun j=>f i j))=sz n (fun j=>sz m (fun i=>f i j))
 | 0,n,f=>by
  simp only[sz]
  exact (sz_zero fun _ _=>rfl).symm
 | m+1,n,f=>by
  simp only[sz]
  rw[sz_swap,sz_add]
theorem sz_le:∀{n:Nat} {f g:Nat→Int},(∀i,i<n→f i≤g i)→sz n f≤sz n g
 | 0,_,_,_=>Int.le_refl _
 | n+1,f,g,h=>by
  simp only[sz]
  have:=sz_le (n:=n) fun i hi=>h i (by omega)
  have:=h n (by omega)
  omega
def skip (k j:Nat):Nat:=if j<k then j else j+1
def sgd (k:Nat):Int:=if k % 2=0 then 1 else -1
theorem sgd_succ (k:Nat):sgd (k+1)= - sgd k:=by
 unfold sgd
 split<;>split<;>omega
def minor (A:Nat→Nat→Int) (k:Nat):Nat→Nat→Int:=fun i j=>A (i+1) (skip k j)
def det:Nat→(Nat→Nat→Int)→Int
 | 0,_=>1
 | n+1,A=>sz (n+1) fun k=>sgd k*A 0 k*det n (minor A k)
def setC (A:Nat→Nat→Int) (c:Nat) (v:Nat→Int):Nat→Nat→Int:=fun i j=>if j=c then v i else A i j
theorem det_congr:∀{n:Nat} {A B:Nat→Nat→Int},(∀i j,i<n→j<n→A i j=B i j)→det n A=det n B
 | 0,_,_,_=>rfl
 | n+1,A,B,h=>by
  simp only[det]
  refine sz_congr fun k hk=>?_
  rw[h 0 k (by omega) hk,det_congr (A:=minor A k) (B:=minor B k) fun i j hi hj=>h (i+1) (skip k j) (by omega) (by unfold skip;split<;>omega)]
theorem minor_setC_same {A:Nat→Nat→Int} {k:Nat} {v:Nat→Int}:minor (setC A k v) k=minor A k:=by
 funext i j
 unfold minor setC
 rw[if_neg]
 unfold skip
 split<;>omega
def pos' (k c:Nat):Nat:=if c<k then c else c - 1
theorem minor_setC {A:Nat→Nat→Int} {k c:Nat} {v:Nat→Int} (h:k≠c):minor (setC A c v) k=setC (minor A k) (pos' k c) (fun i=>v (i+1)):=by
 funext i j
 unfold minor setC skip pos'
 by_cases h1:j<k<;>by_cases h2:c<k
 ·simp only[h1,h2,if_true]
 ·simp only[h1,h2,if_true,if_false]
  rw[if_neg (by omega),if_neg (by omega)]
 ·simp only[h1,h2,if_true,if_false]
  rw[if_neg (by omega),if_neg (by omega)]
 ·simp only[h1,h2,if_false]
  by_cases h3:j+1=c
  ·rw[if_pos h3,if_pos (by omega)]
  ·rw[if_neg h3,if_neg (by omega)]
theorem det_add:∀{n:Nat} {A:Nat→Nat→Int} {c:Nat} {u v:Nat→Int},c<n→det n (setC A c fun i=>u i+v i)=det n (setC A c u)+det n (setC A c v)
 | n+1,A,c,u,v,hc=>by
  simp only[det]
  rw[←sz_add]
  refine sz_congr fun k hk=>?_
  by_cases h:k=c
  ·subst h
   simp only[minor_setC_same]
   have e:∀v:Nat→Int,setC A k v 0 k=v 0:=fun v=>by simp[setC]
   rw[e,e,e,Int.mul_add,Int.add_mul]
  ·have e:∀v:Nat→Int,setC A c v 0 k=A 0 k:=fun v=>by simp[setC,h]
   rw[minor_setC h,minor_setC h,minor_setC h,e,e,e,det_add (u:=fun i=>u (i+1)) (v:=fun i=>v (i+1)) (by unfold pos';split<;>omega),Int.mul_add]
theorem det_smul:∀{n:Nat} {A:Nat→Nat→Int} {c:Nat} {x:Int} {u:Nat→Int},c<n→det n (setC A c fun i=>x*u i)=x*det n (setC A c u)
 | n+1,A,c,x,u,hc=>by
  simp only[det]
  rw[←sz_mul]
  refine sz_congr fun k hk=>?_
  by_cases h:k=c
  ·subst h
   simp only[minor_setC_same]
   have e:∀v:Nat→Int,setC A k v 0 k=v 0:=fun v=>by simp[setC]
   rw[e,e]
   simp only[Int.mul_assoc,Int.mul_left_comm]
  ·have e:∀v:Nat→Int,setC A c v 0 k=A 0 k:=fun v=>by simp[setC,h]
   rw[minor_setC h,minor_setC h,e,e,det_smul (u:=fun i=>u (i+1)) (by unfold pos';split<;>omega)]
   simp only[Int.mul_assoc,Int.mul_left_comm]
theorem det_zero {n:Nat} {A:Nat→Nat→Int} {c:Nat} (hc:c<n):det n (setC A c fun _=>0)=0:=by
 have:=det_smul (n:=n) (A:=A) (x:=0) (u:=fun _=>0) hc
 simpa using this
theorem det_sum {n:Nat} {A:Nat→Nat→Int} {c:Nat} (hc:c<n):∀{m:Nat} {x:Nat→Int} {u:Nat→Nat→Int},det n (setC A c fun i=>sz m fun l=>x l*u l i)=sz m fun l=>x l*det n (setC A c (u l))
 | 0,x,u=>by simp only[sz];exact det_zero hc
 | m+1,x,u=>by
  simp only[sz]
  rw[det_add hc,det_smul hc,det_sum hc]
theorem det_adj:∀{n:Nat} {A:Nat→Nat→Int} {c:Nat},c+1<n→(∀i,i<n→A i c=A i (c+1))→det n A=0
 | n+1,A,c,hc,h=>by
  simp only[det]
  rw[sz_two (k:=c) (l:=c+1) (by omega) hc (by omega) fun k hk h1 h2=>?_]
  ·have e:det n (minor A c)=det n (minor A (c+1)):=by
    refine det_congr fun i j hi hj=>?_
    unfold minor skip
    by_cases h1:j<c
    ·rw[if_pos h1,if_pos (by omega)]
    ·by_cases h2:j=c
     ·subst h2
      rw[if_neg h1,if_pos (by omega)]
      exact (h (i+1) (by omega)).symm
     ·rw[if_neg h1,if_neg (by omega)]
   rw[e,sgd_succ,h 0 (by omega)]
   simp only[Int.neg_mul]
   omega
  ·have e:det n (minor A k)=0:=by
    refine det_adj (c:=pos' k c) ?_ fun i hi=>?_
    ·unfold pos';split<;>omega
    ·unfold minor skip pos'
     by_cases h3:c<k
     ·simp only[h3,if_true]
      rw[if_pos (by omega)]
      exact h (i+1) (by omega)
     ·simp only[h3,if_false]
      rw[if_neg (by omega),if_neg (by omega),show c - 1+1=c by omega]
      exact h (i+1) (by omega)
   rw[e,Int.mul_zero]
theorem setC_self (A:Nat→Nat→Int) (c:Nat):setC A c (fun i=>A i c)=A:=by
 funext i j
 unfold setC
 split
 ·rename_i h;rw[h]
 ·rfl
theorem setC_comm {A:Nat→Nat→Int} {c e:Nat} {u v:Nat→Int} (h:c≠e):setC (setC A c u) e v=setC (setC A e v) c u:=by
 funext i j
 unfold setC
 by_cases h1:j=c<;>by_cases h2:j=e
 ·omega
 ·simp[h1,h]
 ·simp[h2,Ne.symm h]
 ·simp[h1,h2]
theorem det_swap_adj {n:Nat} {A:Nat→Nat→Int} {c:Nat} {u v:Nat→Int} (hc:c+1<n):det n (setC (setC A c u) (c+1) v)= - det n (setC (setC A c v) (c+1) u):=by
 have h0:∀w:Nat→Int,det n (setC (setC A c w) (c+1) w)=0:=fun w=>det_adj hc fun i _=>by simp[setC]
 have h1:=h0 fun i=>u i+v i
 rw[det_add hc,setC_comm (by omega),setC_comm (u:=fun i=>u i+v i) (by omega),det_add (by omega),det_add (by omega),setC_comm (c:=c+1) (by omega),setC_comm (c:=c+1) (v:=v) (by omega),setC_comm (c:=c+1) (u:=v) (v:=u) (by omega),setC_comm (c:=c+1) (u:=v) (v:=v) (by omega),h0,h0] at h1
 omega
theorem det_eq:∀{k:Nat} {n:Nat} {A:Nat→Nat→Int} {c:Nat},c+k+1<n→(∀i,i<n→A i c=A i (c+k+1))→det n A=0
 | 0,n,A,c,hc,h=>det_adj hc h
 | k+1,n,A,c,hc,h=>by
  have e:A=setC (setC A (c+k+1) fun i=>A i (c+k+1)) (c+k+1+1) fun i=>A i (c+k+1+1):=by
   rw[setC_self,setC_self]
  rw[e,det_swap_adj (by omega)]
  have:det n (setC (setC A (c+k+1) fun i=>A i (c+k+1+1)) (c+k+1+1) fun i=>A i (c+k+1))=0:=by
   refine det_eq (k:=k) (c:=c) (by omega) fun i hi=>?_
   simp only[setC]
   rw[if_neg (by omega),if_neg (by omega),if_neg (by omega)]
   simp only[if_true]
   exact h i hi
  rw[this]
  rfl
theorem det_alt {n:Nat} {A:Nat→Nat→Int} {a b:Nat} (ha:a<n) (hb:b<n) (hab:a≠b) (h:∀i,i<n→A i a=A i b):det n A=0:=by
 by_cases hlt:a<b
 ·obtain ⟨k,rfl⟩:∃k,b=a+k+1:=⟨b - a - 1,by omega⟩
  exact det_eq hb h
 ·obtain ⟨k,rfl⟩:∃k,a=b+k+1:=⟨a - b - 1,by omega⟩
  exact det_eq ha fun i hi=>(h i hi).symm
theorem det_swap {n:Nat} {A:Nat→Nat→Int} {a b:Nat} {u v:Nat→Int} (ha:a<n) (hb:b<n) (hab:a≠b):det n (setC (setC A a u) b v)= - det n (setC (setC A a v) b u):=by
 have h0:∀w:Nat→Int,det n (setC (setC A a w) b w)=0:=fun w=>det_alt ha hb hab fun i _=>by simp[setC]
 have h1:=h0 fun i=>u i+v i
 rw[det_add hb,setC_comm hab,setC_comm (u:=fun i=>u i+v i) hab,det_add ha,det_add ha,setC_comm (c:=b) (Ne.symm hab),setC_comm (c:=b) (v:=v) (Ne.symm hab),setC_comm (c:=b) (u:=v) (v:=u) (Ne.symm hab),setC_comm (c:=b) (u:=v) (v:=v) (Ne.symm hab),h0,h0] at h1
 omega
def pz:Nat→(Nat→Int)→Int
 | 0,_=>1
 | n+1,f=>f 0*pz n fun i=>f (i+1)
end Dn
end Go.Proofs.YtmoiiokmfanlgaaGreat

namespace Go.Proofs.YtmoiiokmfanlgaaGreat
namespace Dn
def upd (β:Nat→Nat) (r c:Nat):Nat→Nat:=fun k=>if k=r then c else β k
def colsOf (M:Nat→Nat→Int) (γ:Nat→Nat):Nat→Nat→Int:=fun i k=>M i (γ k)
def dc (m:Nat) (M:Nat→Nat→Int) (γ:Nat→Nat):Int:=det m (colsOf M γ)
theorem colsOf_upd (M:Nat→Nat→Int) (β:Nat→Nat) (r c:Nat):colsOf M (upd β r c)=setC (colsOf M β) r (fun i=>M i c):=by
 funext i k
 unfold colsOf upd setC
 split<;>rfl
theorem upd_upd (β:Nat→Nat) (r c e:Nat):upd (upd β r c) r e=upd β r e:=by
 funext k
 unfold upd
 split<;>rfl
theorem upd_self (β:Nat→Nat) (r:Nat):upd β r (β r)=β:=by
 funext k
 unfold upd
 split
 ·rename_i h;rw[h]
 ·rfl
structure Tb (m w:Nat) (M T:Nat→Nat→Int) (d:Int) (β:Nat→Nat):Prop where
 dpos:0<d
 lt:∀i,i<m→β i<w
 co:∀k,k<m→∀j,j<w→d*M k j=sz m fun i=>T i j*M k (β i)
 cr:∃σ:Int,σ*σ=1∧d=σ*dc m M β∧∀i,i<m→∀j,j<w→T i j=σ*dc m M (upd β i j)
section
variable {m w:Nat} {M T:Nat→Nat→Int} {d:Int} {β:Nat→Nat}
theorem dc_upd_other {i k:Nat} (hi:i<m) (hk:k<m) (h:i≠k):dc m M (upd β i (β k))=0:=by
 refine det_alt hi hk h fun l _=>?_
 unfold colsOf upd
 rw[if_pos rfl,if_neg (Ne.symm h)]
theorem Tb.basis (h:Tb m w M T d β) {i:Nat} (hi:i<m):T i (β i)=d:=by
 obtain ⟨σ,_,h2,h3⟩:=h.cr
 rw[h3 i hi _ (h.lt i hi),upd_self,←h2]
theorem Tb.other (h:Tb m w M T d β) {i k:Nat} (hi:i<m) (hk:k<m) (hik:i≠k):T i (β k)=0:=by
 obtain ⟨σ,_,h2,h3⟩:=h.cr
 rw[h3 i hi _ (h.lt k hk),dc_upd_other hi hk hik,Int.mul_zero]
theorem Tb.inj (h:Tb m w M T d β) {i k:Nat} (hi:i<m) (hk:k<m) (hb:β i=β k):i=k:=by
 by_cases e:i=k
 ·exact e
 ·have h1:=h.other hi hk e
  rw[←hb,h.basis hi] at h1
  have:=h.dpos
  omega
theorem dc_two (h:Tb m w M T d β) {r i c j:Nat} (hr:r<m) (hi:i<m) (hri:r≠i) (hc:c<w) (hj:j<w) :
  d*d*dc m M (upd (upd β r c) i j)=(T r c*T i j - T i c*T r j)*dc m M β:=by
 obtain ⟨B,hB⟩:∃B,B=colsOf M β:=⟨_,rfl⟩
 have e1:d*d*dc m M (upd (upd β r c) i j)=det m (setC (setC B r fun q=>d*M q c) i fun q=>d*M q j):=by
  have a1:=det_smul (n:=m) (A:=setC B r fun q=>d*M q c) (c:=i) (x:=d) (u:=fun q=>M q j) hi
  have a2:=det_smul (n:=m) (A:=setC B i fun q=>M q j) (c:=r) (x:=d) (u:=fun q=>M q c) hr
  unfold dc
  rw[colsOf_upd,colsOf_upd,←hB,a1,setC_comm (u:=fun q=>d*M q c) hri,a2,setC_comm (u:=fun q=>M q c) hri,Int.mul_assoc]
 have e2:det m (setC (setC B r fun q=>d*M q c) i fun q=>d*M q j)=det m (setC (setC B r fun q=>sz m fun k=>T k c*B q k) i fun q=>sz m fun l=>T l j*B q l):=by
  refine det_congr fun p q hp hq=>?_
  unfold setC
  rw[hB]
  split
  ·exact h.co p hp j hj
  ·split
   ·exact h.co p hp c hc
   ·rfl
 rw[e1,e2,det_sum hi (x:=fun l=>T l j) (u:=fun l q=>B q l)]
 have e3:∀l,det m (setC (setC B r fun q=>sz m fun k=>T k c*B q k) i fun q=>B q l)=sz m fun k=>T k c*det m (setC (setC B i fun q=>B q l) r fun q=>B q k):=fun l=>by
  rw[setC_comm hri,det_sum hr (x:=fun k=>T k c) (u:=fun k q=>B q k)]
 have z1:∀k l,k<m→k≠r→k≠i→det m (setC (setC B i fun q=>B q l) r fun q=>B q k)=0:=fun k l hk h1 h2 =>
  det_alt hr hk h1.symm fun q _=>by simp[setC,h1,h2]
 have z2:∀k l,l<m→l≠r→l≠i→det m (setC (setC B i fun q=>B q l) r fun q=>B q k)=0:=fun k l hl h1 h2 =>
  det_alt hi hl h2.symm fun q _=>by simp[setC,h1,h2,hri.symm]
 have z3:det m (setC (setC B i fun q=>B q r) r fun q=>B q r)=0:=det_alt hi hr hri.symm fun q _=>by simp[setC,hri.symm]
 have z4:det m (setC (setC B i fun q=>B q i) r fun q=>B q i)=0:=det_alt hi hr hri.symm fun q _=>by simp[setC,hri.symm]
 have z5:det m (setC (setC B i fun q=>B q i) r fun q=>B q r)=det m B:=by
  rw[setC_self,setC_self]
 have z6:det m (setC (setC B i fun q=>B q r) r fun q=>B q i)= - det m B:=by
  rw[det_swap hi hr hri.symm,z5]
 have e4:∀l,l<m→(sz m fun k=>T k c*det m (setC (setC B i fun q=>B q l) r fun q=>B q k))=T r c*det m (setC (setC B i fun q=>B q l) r fun q=>B q r)+T i c*det m (setC (setC B i fun q=>B q l) r fun q=>B q i):=fun l _ =>
  sz_two hr hi hri fun k hk h1 h2=>by rw[z1 k l hk h1 h2,Int.mul_zero]
 rw[sz_congr (g:=fun l=>T l j*(T r c*det m (setC (setC B i fun q=>B q l) r fun q=>B q r)+T i c*det m (setC (setC B i fun q=>B q l) r fun q=>B q i))) fun l hl=>by rw[e3 l,e4 l hl]]
 rw[sz_two hr hi hri fun l hl h1 h2=>by rw[z2 r l hl h1 h2,z2 i l hl h1 h2];simp]
 rw[z3,z4,z5,z6]
 have:dc m M β=det m B:=by rw[hB];rfl
 rw[this]
 grind
def piv (T:Nat→Nat→Int) (d:Int) (r c i j:Nat):Int:=(T r c*T i j - T i c*T r j) / d
theorem piv_exact (h:Tb m w M T d β) {r i c j:Nat} (hr:r<m) (hi:i<m) (hri:r≠i) (hc:c<w) (hj:j<w):d*piv T d r c i j=T r c*T i j - T i c*T r j:=by
 obtain ⟨σ,h1,h2,_⟩:=h.cr
 have h3:=dc_two h hr hi hri hc hj
 have hd:=h.dpos
 have h4:dc m M β=σ*d:=by rw[h2,←Int.mul_assoc,h1,Int.one_mul]
 rw[h4] at h3
 have h5:d*(d*dc m M (upd (upd β r c) i j))=d*((T r c*T i j - T i c*T r j)*σ):=by
  rw[←Int.mul_assoc,h3]
  grind
 have h6:=Int.eq_of_mul_eq_mul_left (by omega) h5
 have h7:T r c*T i j - T i c*T r j=d*(σ*dc m M (upd (upd β r c) i j)):=by
  have:(T r c*T i j - T i c*T r j)*σ*σ=d*dc m M (upd (upd β r c) i j)*σ:=by rw[h6]
  rw[Int.mul_assoc,h1,Int.mul_one] at this
  rw[this]
  grind
 unfold piv
 rw[h7,Int.mul_ediv_cancel_left _ (by omega)]
theorem piv_eq (h:Tb m w M T d β) {σ:Int} (h1:σ*σ=1) (h2:d=σ*dc m M β) {r i c j:Nat} (hr:r<m) (hi:i<m) (hri:r≠i) (hc:c<w) (hj:j<w):piv T d r c i j=σ*dc m M (upd (upd β r c) i j):=by
 have h3:=dc_two h hr hi hri hc hj
 have hd:=h.dpos
 have h4:dc m M β=σ*d:=by rw[h2,←Int.mul_assoc,h1,Int.one_mul]
 have h5:=piv_exact h hr hi hri hc hj
 rw[h4,←h5] at h3
 have h6:(d*d)*dc m M (upd (upd β r c) i j)=(d*d)*(piv T d r c i j*σ):=by rw[h3];grind
 have h7:=Int.eq_of_mul_eq_mul_left (Int.ne_of_gt (Int.mul_pos hd hd)) h6
 rw[h7]
 grind
def sg (x:Int):Int:=if x<0 then -1 else 1
theorem sg_mul (x:Int):sg x*sg x=1:=by unfold sg;split<;>rfl
theorem sg_pos {x:Int} (h:x≠0):0<sg x*x:=by unfold sg;split<;>omega
def pivT (T:Nat→Nat→Int) (d:Int) (r c:Nat):Nat→Nat→Int:=fun i j=>sg (T r c)*(if i=r then T r j else piv T d r c i j)
theorem Tb.step (h:Tb m w M T d β) {r c:Nat} (hr:r<m) (hc:c<w) (he:T r c≠0):Tb m w M (pivT T d r c) (sg (T r c)*T r c) (upd β r c):=by
 have hd:=h.dpos
 refine ⟨sg_pos he,fun i hi=>?_,fun k hk j hj=>?_,?_⟩
 ·unfold upd
  split
  ·exact hc
  ·exact h.lt i hi
 ·have h1:∀i,i<m→d*((if i=r then T r j else piv T d r c i j)*M k (upd β r c i))=(T r c*(T i j*M k (β i)) - T r j*(T i c*M k (β i)))+(if i=r then d*(T r j*M k c) else 0):=fun i hi=>by
   unfold upd
   by_cases e:i=r
   ·subst e
    simp only[if_true]
    grind
   ·simp only[e,if_false,Int.add_zero]
    rw[←Int.mul_assoc,piv_exact h hr hi (Ne.symm e) hc hj]
    grind
  have h2:d*(sz m fun i=>(if i=r then T r j else piv T d r c i j)*M k (upd β r c i))=d*(T r c*M k j):=by
   rw[←sz_mul,sz_congr h1,sz_add,sz_sub,sz_mul,sz_mul,←h.co k hk j hj,←h.co k hk c hc,sz_one hr fun i _ hne=>if_neg hne,if_pos rfl]
   grind
  have h3:=Int.eq_of_mul_eq_mul_left (by omega) h2
  have h4:(sz m fun i=>pivT T d r c i j*M k (upd β r c i))=sg (T r c)*sz m fun i=>(if i=r then T r j else piv T d r c i j)*M k (upd β r c i):=by
   rw[←sz_mul]
   exact sz_congr fun i _=>by unfold pivT;rw[Int.mul_assoc]
  rw[h4,h3,Int.mul_assoc]
 ·obtain ⟨σ,h1,h2,h3⟩:=h.cr
  refine ⟨sg (T r c)*σ,?_,?_,fun i hi j hj=>?_⟩
  ·have:=sg_mul (T r c)
   grind
  ·rw[h3 r hr c hc]
   grind
  ·unfold pivT
   by_cases e:i=r
   ·subst e
    rw[if_pos rfl,h3 i hi j hj,upd_upd]
    grind
   ·rw[if_neg e,piv_eq h h1 h2 hr hi (Ne.symm e) hc hj]
    grind
theorem det_one:∀n:Nat,det n (fun i k=>if i=k then 1 else 0)=1
 | 0=>rfl
 | n+1=>by
  simp only[det]
  rw[sz_one (k:=0) (by omega) fun k _ hk=>by rw[if_neg (Ne.symm hk)];simp]
  have:det n (minor (fun i k=>if i=k then 1 else 0) 0)=det n (fun i k=>if i=k then 1 else 0):=det_congr fun i j _ _=>by
   unfold minor skip
   simp
  rw[this,det_one n]
  simp[sgd]
theorem Tb.first {a:Nat→Nat} (ha:∀i,i<m→a i<w) (hM:∀k,k<m→∀i,i<m→M k (a i)=if k=i then 1 else 0):Tb m w M M 1 a:=by
 have h1:dc m M a=1:=by
  unfold dc
  rw[←det_one m]
  exact det_congr fun i j hi hj=>hM i hi j hj
 refine ⟨by omega,ha,fun k hk j hj=>?_,1,by omega,by rw[h1];rfl,fun i hi j hj=>?_⟩
 ·rw[sz_one hk fun i hi hne=>by rw[hM k hk i hi,if_neg (Ne.symm hne),Int.mul_zero],hM k hk k hk,if_pos rfl]
  omega
 ·unfold dc
  rw[colsOf_upd]
  have e:det m (setC (colsOf M a) i fun q=>M q j)=det m (setC (colsOf M a) i fun q=>sz m fun k=>M k j*colsOf M a q k):=by
   refine det_congr fun p q hp hq=>?_
   unfold setC
   split
   ·show M p j=sz m fun k=>M k j*colsOf M a p k
    rw[sz_one hp fun k hk hne=>by unfold colsOf;rw[hM p hp k hk,if_neg (Ne.symm hne),Int.mul_zero]]
    unfold colsOf
    rw[hM p hp p hp,if_pos rfl]
    omega
   ·rfl
  rw[e,det_sum hi (x:=fun k=>M k j) (u:=fun k q=>colsOf M a q k),sz_one hi fun k hk hne=>by
   rw[det_alt hi hk (Ne.symm hne) fun q _=>by simp[setC,hne],Int.mul_zero],setC_self]
  have:det m (colsOf M a)=1:=h1
  rw[this]
  omega
theorem Tb.rows (h:Tb m w M T d β) {a:Nat→Nat} (ha:∀i,i<m→a i<w) (hM:∀k,k<m→∀i,i<m→M k (a i)=if k=i then 1 else 0) {i j:Nat} (hi:i<m) (hj:j<w):T i j=sz m fun k=>T i (a k)*M k j:=by
 obtain ⟨σ,h1,h2,h3⟩:=h.cr
 rw[h3 i hi j hj]
 have e:dc m M (upd β i j)=sz m fun k=>M k j*dc m M (upd β i (a k)):=by
  unfold dc
  rw[colsOf_upd]
  have e:det m (setC (colsOf M β) i fun q=>M q j)=det m (setC (colsOf M β) i fun q=>sz m fun k=>M k j*M q (a k)):=by
   refine det_congr fun p q hp hq=>?_
   unfold setC
   split
   ·show M p j=sz m fun k=>M k j*M p (a k)
    rw[sz_one hp fun k hk hne=>by rw[hM p hp k hk,if_neg (Ne.symm hne),Int.mul_zero],hM p hp p hp,if_pos rfl]
    omega
   ·rfl
  rw[e,det_sum hi (x:=fun k=>M k j) (u:=fun k q=>M q (a k))]
  exact sz_congr fun k _=>by rw[colsOf_upd]
 rw[e,←sz_mul]
 exact sz_congr fun k hk=>by rw[h3 i hi _ (ha k hk)];grind
theorem Tb.bound (h:Tb m w M T d β) {i j:Nat} (hi:i<m) (hj:j<w):ab (T i j)=ab (dc m M (upd β i j)):=by
 obtain ⟨σ,h1,_,h3⟩:=h.cr
 rw[h3 i hi j hj,ab_mul]
 have h4:ab σ*ab σ=1:=by rw[←ab_mul,h1];rfl
 have h5:ab σ=1:=by
  have h6:=ab_nonneg σ
  by_cases h7:ab σ≤1
  ·have:ab σ≠0:=fun e=>by rw[e] at h4;simp at h4
   omega
  ·exfalso
   have:2*2≤ab σ*ab σ:=Int.mul_le_mul (by omega) (by omega) (by omega) h6
   omega
 rw[h5,Int.one_mul]
end
end Dn
end Go.Proofs.YtmoiiokmfanlgaaGreat
