/- r05: what its functions answer (printed by a program), and that they do; part 3. Plain lemmas for what functions answer: loops, machine numbers, lists. Fractions: rational numbers, and the pairs of numbers that stand for them. Fractions: what 'Make', 'Valid', 'Mul', 'Floor', 'Ceil' of package ratio answer. Fractions: products of two words, 'Mul', 'Floor', 'Ceil' of package ratio. Fractions of the reference: numbers of two words, their greatest common divisors and quotients. Fractions of the reference: 'Div', 'Made', 'Make', 'Times', 'Floor', 'Ceil'. Numbers of 128 bits: sums, differences, comparisons; the length of a number. The quotient of a number of 128 bits by one of 64. Fractions: 'Add' of package ratio. Loops over lists: searches and tests of all elements. Fractions: 'Add', 'Valid', 'All' of the reference. Fractions: 'Sub' and 'Cmp' of both. Loops over the elements of a list, as recursions over it. Programs: both programs know the same valid ones. Programs: sums of numbers times fractions. Programs: which points are feasible, as the program tells it. Programs: feasible points and values, in both programs. Sums of integers, and determinants. Tables of the simplex method: integers with a common denominator, as determinants of columns. Steps of the simplex method by the rule of least indices: they never come back to a basis. Steps of the simplex method come to an end: a measure. Linear programs over the rationals: what points and multipliers prove; and what tables of the simplex method prove. How great the numbers of a program's tables may get: the product of the rows' factors. Tables of programs: how great the numbers of the artificial columns may get. Tables of numbers as lists of rows, and loops over them. Programs: products of two numbers, their differences and quotients. Programs: a step of the table. Programs: the row that leaves, the sums of artificial rows, and the reduced costs. Programs: the sums of artificial rows, and the reduced costs. -/
import Derived.Test.YtnbbackjofgcfaaMgK

namespace Go.Proofs.Ytnbbackjofgcfaa
open Try Dn Dn.Sh
set_option maxRecDepth 100000
noncomputable def ref05_begin_b (lp:Lp) (jn:Jn) (x0:(List Int)×List ((List Int)×Int×Int)):Option ((List Nat×List (Option (List Int)))×(List Int)×Int×Int×Unit) :=
 
 let v3:Int:=IntKind.wrap .i64 ((↑(List.length x0.1):Int)+(↑(List.length x0.2):Int));
 let v4:Int:=IntKind.wrap .i64 ((↑(List.length x0.1):Int)+IntKind.wrap .i64 (2*(↑(List.length x0.2):Int)));
 let v5:List Int×PUnit:=(List.replicate (Int.toNat (IntKind.wrap .i64 (v4+1))) 0,PUnit.unit);
 let v6:Bool:=decide (0≤IntKind.wrap .i64 (v4+1))&&fitB (Int.toNat (IntKind.wrap .i64 (v4+1))) 8;bif v6 then lp (Int×(List Nat
  × List (Option (List Int)))×List Int×Int×Int×List Int×PUnit) ((List Nat×List (Option (List Int)))×List Int×Int×Int×PUnit) (fun (again:Int×(List Nat×List
  (Option (List Int)))×List Int×Int×Int×List Int×PUnit→Option ((List Nat×List (Option (List Int)))×List Int×Int×Int×PUnit)) (x:Int×(List Nat×List (Option (List
  Int)))×List Int×Int×Int×List Int×PUnit) =>
 let v9:Int:=IntKind.wrap .i64 (v3+x.1);
 let v10:Bool:=inB x.1 (List.length x0.2);
 let v11:Int:=IntKind.wrap .i64 ((↑(List.length x0.1):Int)+x.1);
 let v12:List Int×Int×Int:=List.getD x0.2 (Int.toNat x.1) ([],0,0);
 let v13:Bool:=fitB (List.length x.2.1.1+1) 24;
 let v14:List Nat:=x.2.1.1++[List.length x.2.1.2+0];bif decide (x.1<(↑(List.length x0.2):Int)) then bif v6 then bif v10 then lp (Int×List Int ×
  PUnit) ((List Nat×List (Option (List Int)))×List Int×Int×Int×PUnit) (fun (again_1:Int×List Int×PUnit→Option ((List Nat×List (Option (List Int)))×List Int×Int ×
  Int×PUnit)) (x_1:Int×List Int×PUnit)=>bif decide (x_1.1<(↑(List.length v12.1):Int)) then bif inB x_1.1 (List.length v12.1) then bif inB x_1.1 (List.length
  x_1.2.1) then bif Nat.ble (Nat.succ (Int.toNat x_1.1)) (List.length x_1.2.1) then again_1 (IntKind.wrap .i64 (x_1.1+1),List.set x_1.2.1 (Int.toNat
  x_1.1) (List.getD v12.1 (Int.toNat x_1.1) 0),PUnit.unit) else none else none else none else bif v10 then jn (List Int×PUnit) ((List Nat×List (Option (List Int))) ×
  List Int×Int×Int×PUnit) (fun (x_2:List Int×PUnit)=>bif v10 then jn (List Int×PUnit) ((List Nat×List (Option (List Int)))×List Int×Int×Int×PUnit) (fun (x_3:List
  Int×PUnit) =>
 let v19:List Int×PUnit:=(List.set x_3.1 (Int.toNat v4) v12.2.2,PUnit.unit);bif v10 then bif inB v4 (List.length x_3.1) then bif Nat.ble (Nat.succ (Int.toNat v4))
  (List.length x_3.1) then bif v10 then jn (List Int×PUnit) ((List Nat×List (Option (List Int)))×List Int×Int×Int×PUnit) (fun (x_4:List Int×PUnit)=>lp (Int×List Int
  × PUnit) ((List Nat×List (Option (List Int)))×List Int×Int×Int×PUnit) (fun (again_2:Int×List Int×PUnit→Option ((List Nat×List (Option (List Int)))×List Int×Int ×
  Int×PUnit)) (x_5:Int×List Int×PUnit) =>
 let v23:Bool:=inB x_5.1 (List.length x_5.2.1);
 let v24:Bool:=Nat.ble (Nat.succ (Int.toNat x_5.1)) (List.length x_5.2.1);bif decide (x_5.1<(↑(List.length x_4.1):Int)) then bif v23 then bif v24 then bif inB x_5.1
  (List.length x_4.1) then bif Nat.ble (Nat.succ (Int.toNat x_5.1)) (List.length x_4.1) then bif v23 then bif v24 then again_2 (IntKind.wrap .i64 (x_5.1+1),
  List.set x_5.2.1 (Int.toNat x_5.1) (IntKind.wrap .i64 (List.getD x_5.2.1 (Int.toNat x_5.1) 0 - List.getD x_4.1 (Int.toNat x_5.1) 0)),PUnit.unit)
  else none else none else none else none else none else none else bif inB v9 (List.length x_4.1) then bif Nat.ble (Nat.succ (Int.toNat v9)) (List.length x_4.1) then bif v13 then bif
  fitB (List.length x.2.2.1+1) 8 then again (IntKind.wrap .i64 (x.1+1),(v14,x.2.1.2++[some (List.set x_4.1 (Int.toNat v9) (1 :
  Int))]),x.2.2.1++[v9],x.2.2.2.1,x.2.2.2.2.1,x_5.2.1,PUnit.unit) else none else none else none else none) (0,x.2.2.2.2.2.1,
  PUnit.unit)) fun (j:List Int×PUnit→Option ((List Nat×List (Option (List Int)))×List Int×Int×Int×PUnit))=>bif decide (v12.2.2<0) then lp (Int×List Int ×
  PUnit) ((List Nat×List (Option (List Int)))×List Int×Int×Int×PUnit) (fun (again:Int×List Int×PUnit→Option ((List Nat×List (Option (List Int)))×List Int×Int×Int
  × PUnit)) (x:Int×List Int×PUnit) =>
 let v23:Bool:=inB x.1 (List.length x.2.1);
 let v24:Bool:=Nat.ble (Nat.succ (Int.toNat x.1)) (List.length x.2.1);bif decide (x.1<(↑(List.length x.2.1):Int)) then bif v23 then bif v24 then bif v23 then bif v24
  then again (IntKind.wrap .i64 (x.1+1),List.set x.2.1 (Int.toNat x.1) (IntKind.wrap .i64 (0 - List.getD x.2.1 (Int.toNat x.1) 0)),
  PUnit.unit) else none else none else none else none else j (x.2.1,PUnit.unit)) (0,v19) else j v19 else none else none else none else none) fun (j:List Int×PUnit →
  Option ((List Nat×List (Option (List Int)))×List Int×Int×Int×PUnit))=>bif decide (v12.2.1=2) then bif inB v11 (List.length x_2.1) then bif Nat.ble (Nat.succ
  (Int.toNat v11)) (List.length x_2.1) then j (List.set x_2.1 (Int.toNat v11) (-1),PUnit.unit) else none else none else j (x_2.1,PUnit.unit) else none) fun (j:List Int ×
  PUnit→Option ((List Nat×List (Option (List Int)))×List Int×Int×Int×PUnit))=>bif decide (v12.2.1=1) then bif inB v11 (List.length x_1.2.1) then bif
  Nat.ble (Nat.succ (Int.toNat v11)) (List.length x_1.2.1) then j (List.set x_1.2.1 (Int.toNat v11) 1,PUnit.unit) else none else none else j (x_1.2.1,PUnit.unit)
  else none) (0,v5) else none else none else bif v13 then some ((v14,x.2.1.2++[some x.2.2.2.2.2.1]),x.2.2.1,x.2.2.2.1,x.2.2.2.2.1,
  PUnit.unit) else none) (0,([],[]),[],1,v3,v5) else none
noncomputable def ref05_begin (x0:(List Int)×List ((List Int)×Int×Int)):Option ((List Nat×List (Option (List Int)))×(List Int)×Int×Int×Unit):=ref05_begin_b lpK jnK x0
abbrev t75:=((List Int)×List ((List Int)×Int×Int))→Option ((List Nat×List (Option (List Int)))×(List Int)×Int×Int×Unit)
noncomputable def k75 (ref05_begin:t75):SCtr:=⟨[.d T25],[(true,[.x (.tab 22 .ref 3 i64),.row 3 i64,.d i64,.d i64])],fun x=>ref05_begin x.1⟩
noncomputable def s75:SCtr:=k75 ref05_begin
theorem e75 (lp:Lp) (jn:Jn):∀x:TsR (rhI 0 s75.ks),ref05_begin_b lp jn x.1=runS lp jn (Dn.look []) (cx [] [(24,r24),(22,r22)]) hints 4 75 f75 s75 x:=fun x=>by kernel_rfl
theorem ok75:s75.ok prog 75:=SCtr.of_den (ctxT_ok (q24)) hmix (scOk_nil) (hl:=hints) (d:=4) func75 rfl (by decide) (e75 lpK jnK)
noncomputable def ref05_out_b (lp:Lp) (_:Jn) (ref05_pivot:t115) (x0:List Nat×List (Option (List Int))) (x1:List Int) (x2:Int) (x3:Int):Option ((List Nat×List (Option (List Int)))×(List Int)×Int×Int×Unit) :=
 lp (Int×(List Nat×List (Option (List Int)))×List Int×Int×Int×PUnit) ((List Nat×List (Option (List Int)))×List Int×Int×Int×PUnit) (fun (again:Int×(List Nat×List
  (Option (List Int)))×List Int×Int×Int×PUnit→Option ((List Nat×List (Option (List Int)))×List Int×Int×Int×PUnit)) (x:Int×(List Nat×List (Option (List Int))) ×
  List Int×Int×Int×PUnit) =>
 let v8:Int:=IntKind.wrap .i64 (x.1+1);
 let v9:Bool:=inB x.1 (List.length x.2.1.1);
 let v10:Bool:=Nat.ble (Nat.succ (Int.toNat x.1)) (List.length x.2.1.1);
 let v11:(List Nat×List (Option (List Int)))×List Int×Int×Int×PUnit:=(x.2.1,x.2.2.1,x.2.2.2.1,x.2.2.2.2.1,PUnit.unit);bif decide (x.1 <
  (↑(List.length x.2.2.1):Int)) then bif inB x.1 (List.length x.2.2.1) then bif Nat.ble (Nat.succ (Int.toNat x.1)) (List.length x.2.2.1) then bif decide (List.getD
  x.2.2.1 (Int.toNat x.1) 0<x.2.2.2.2.1) then again (v8,v11) else lp (Int×PUnit) ((List Nat×List (Option (List Int)))×List Int×Int×Int×PUnit) (fun
  (again_1:Int×PUnit→Option ((List Nat×List (Option (List Int)))×List Int×Int×Int×PUnit)) (x_1:Int×PUnit) =>
 let v14:Bool:=decide (x_1.1<x.2.2.2.2.1);
 let v15:Bool:=!v14;
 let v16:Bool:=v15||v14;bif v16 then bif v16&&(v16&&(v15||v9)) then bif v16&&(v15||v10) then bif v16&&(v16&&(v15||inB x_1.1 (List.length (rowD x.2.1.2
  (List.getD x.2.1.1 (Int.toNat x.1) 0))))) then bif v16&&(v15||Nat.ble (Nat.succ (Int.toNat x_1.1)) (List.length (rowD x.2.1.2 (List.getD x.2.1.1
  (Int.toNat x.1) 0)))) then bif v16 then bif v16 then bif bif v14 then decide (List.getD (rowD x.2.1.2 (List.getD x.2.1.1 (Int.toNat x.1) 0)) (Int.toNat
  x_1.1) 0=0) else false then again_1 (IntKind.wrap .i64 (x_1.1+1),PUnit.unit) else bif decide (x_1.1=x.2.2.2.2.1) then again (v8,
  v11) else bif v9 then bif v10 then bif inB x_1.1 (List.length (rowD x.2.1.2 (List.getD x.2.1.1 (Int.toNat x.1) 0))) then bif Nat.ble (Nat.succ (Int.toNat
  x_1.1)) (List.length (rowD x.2.1.2 (List.getD x.2.1.1 (Int.toNat x.1) 0))) then bif decide (List.getD (rowD x.2.1.2 (List.getD x.2.1.1 (Int.toNat
  x.1) 0)) (Int.toNat x_1.1) 0<0) then lp (Int×(List Nat×List (Option (List Int)))×PUnit) ((List Nat×List (Option (List Int)))×List Int×Int×Int
  × PUnit) (fun (again_2:Int×(List Nat×List (Option (List Int)))×PUnit→Option ((List Nat×List (Option (List Int)))×List Int×Int×Int×PUnit)) (x_2:Int×(List Nat ×
  List (Option (List Int)))×PUnit) =>
 let v19:Bool:=inB x.1 (List.length x_2.2.1.1);
 let v20:Bool:=Nat.ble (Nat.succ (Int.toNat x.1)) (List.length x_2.2.1.1);bif v19 then bif v20 then bif liveB x_2.2.1.2 (List.getD x_2.2.1.1 (Int.toNat x.1) (0 :
  Nat)) then bif decide (x_2.1<(↑(List.length (rowD x_2.2.1.2 (List.getD x_2.2.1.1 (Int.toNat x.1) 0))):Int)) then bif v19 then bif v20 then bif v19 then bif
  v20 then bif inB x_2.1 (List.length (rowD x_2.2.1.2 (List.getD x_2.2.1.1 (Int.toNat x.1) 0))) then bif Nat.ble (Nat.succ (Int.toNat x_2.1)) (List.length (rowD
  x_2.2.1.2 (List.getD x_2.2.1.1 (Int.toNat x.1) 0))) then bif inB x_2.1 (List.length (rowD x_2.2.1.2 (List.getD x_2.2.1.1 (Int.toNat x.1) (0 :
  Nat)))) then bif Nat.ble (Nat.succ (Int.toNat x_2.1)) (List.length (rowD x_2.2.1.2 (List.getD x_2.2.1.1 (Int.toNat x.1) 0))) then again_2 (IntKind.wrap
  IntKind.i64 (x_2.1+1),(x_2.2.1.1,List.set x_2.2.1.2 (List.getD x_2.2.1.1 (Int.toNat x.1) 0) (some (List.set (rowD x_2.2.1.2 (List.getD
  x_2.2.1.1 (Int.toNat x.1) 0)) (Int.toNat x_2.1) (IntKind.wrap .i64 (0 - List.getD (rowD x_2.2.1.2 (List.getD x_2.2.1.1 (Int.toNat x.1) (0
  : Nat))) (Int.toNat x_2.1) 0))))),PUnit.unit) else none else none else none else none else none else none else none else none else obind (ref05_pivot x_2.2.1
  x.2.2.1 x.2.2.2.1 x.2.2.2.2.1 x.1 x_1.1) fun (y:(List Nat×List (Option (List Int)))×List Int×Int×Int×PUnit)=>again (v8,y.1,y.2.1,
  y.2.2.1,y.2.2.2.1,PUnit.unit) else none else none else none) (0,x.2.1,PUnit.unit) else obind (ref05_pivot x.2.1 x.2.2.1 x.2.2.2.1
  x.2.2.2.2.1 x.1 x_1.1) fun (y:(List Nat×List (Option (List Int)))×List Int×Int×Int×PUnit)=>again (v8,y.1,y.2.1,y.2.2.1,y.2.2.2.1,
  PUnit.unit) else none else none else none else none else none else none else none else none else none else none else none) (0,PUnit.unit) else none else none else some v11) ((0
  : Int),x0,x1,x2,x3,PUnit.unit)
noncomputable def ref05_out (x0:List Nat×List (Option (List Int))) (x1:List Int) (x2:Int) (x3:Int):Option ((List Nat×List (Option (List Int)))×(List Int)×Int×Int×Unit):=ref05_out_b lpK jnK ref05_pivot x0 x1 x2 x3
abbrev t76:=(List Nat×List (Option (List Int)))→(List Int)→(Int)→(Int)→Option ((List Nat×List (Option (List Int)))×(List Int)×Int×Int×Unit)
noncomputable def k76 (ref05_out:t76):SCtr:=⟨[.v true [.x (.tab 22 .ref 3 i64),.row 3 i64,.d i64,.d i64]],[(true,[.x (.tab 22 .ref 3 i64),.row 3 i64,.d i64,.d i64])],fun x=>ref05_out x.1 x.2.1 x.2.2.1 x.2.2.2.1⟩
noncomputable def s76:SCtr:=k76 ref05_out
theorem e76 (lp:Lp) (jn:Jn) (ref05_pivot:t115):∀x:TsR (rhI 0 s76.ks),ref05_out_b lp jn ref05_pivot x.1 x.2.1 x.2.2.1 x.2.2.2.1=runS lp jn (Dn.look [(115,k115 ref05_pivot)]) (cx [] [(24,r24),(22,r22)]) hints 4 76 f76 s76 x:=fun x=>by kernel_rfl
theorem ok76:s76.ok prog 76:=SCtr.of_den (ctxT_ok (q24)) hmix (scOk_cons ok115 (scOk_nil)) (hl:=hints) (d:=4) func76 rfl (by decide) (e76 lpK jnK ref05_pivot)
noncomputable def ref02_Make_b (_:Lp) (_:Jn) (ref02_Size:t56) (ref02_Made:t116) (x0:Int) (x1:Int):Option ((Int×Int)×Int×Unit) :=
 obind (ref02_Size x0) fun (t:Int)=>obind (ref02_Size x1) fun (t_1:Int)=>obind (ref02_Made (0,t) (!decide (decide (x0<0)=decide (x1<0))) (0,
  t_1)) fun (t:(Int×Int)×Int×PUnit)=>some (t.1,t.2.1,PUnit.unit)
noncomputable def ref02_Make (x0:Int) (x1:Int):Option ((Int×Int)×Int×Unit):=ref02_Make_b lpK jnK ref02_Size ref02_Made x0 x1
abbrev t78:=(Int)→(Int)→Option ((Int×Int)×Int×Unit)
noncomputable def c78:Ctr:=⟨[i64,i64],[],[],.tup [T27,i64],fun x _ _=>ref02_Make x.1 x.2.1⟩
theorem e78 (lp:Lp) (jn:Jn) (ref02_Size:t56) (ref02_Made:t116):∀(x:TsS c78.as) (F:TsF c78.fs) (y:TsS c78.cs),ref02_Make_b lp jn ref02_Size ref02_Made x.1 x.2.1=runC lp jn (cx [(116,k116 ref02_Made),(56,k56 ref02_Size)] [(24,r24),(22,r22)]) hints 4 78 f78 c78 x F y:=fun x F y=>by kernel_rfl
theorem ok78:c78.ok prog 78:=Ctr.of_den (ctxT_ok (ctxOf_cons (ctxOf_cons (q24) (by kernel_rfl) ok56) (by kernel_rfl) ok116)) hmix (hl:=hints) (d:=4) func78 rfl (by decide) (e78 lpK jnK ref02_Size ref02_Made)
noncomputable def ref05_Least_b (lp:Lp) (_:Jn) (ref02_Make:t78) (ref05_run:t74) (ref05_begin:t75) (ref05_out:t76) (x0:(List Int)×List ((List Int)×Int×Int)):Option ((Int×Int)×Int×Unit) :=
 obind (ref05_begin x0) fun (y:(List Nat×List (Option (List Int)))×List Int×Int×Int×PUnit)=>obind (ref05_run y.1 y.2.1 y.2.2.1 y.2.2.2.1) fun (y:(List Nat
  × List (Option (List Int)))×List Int×Int×Int×Bool×PUnit) =>
 let v5:Int:=IntKind.wrap .i64 ((↑(List.length y.1.1):Int) - 1);bif inB 0 (List.length y.1.1) then bif Nat.ble 1 (List.length y.1.1) then
  bif liveB y.1.2 (List.getD y.1.1 0 0) then bif inB v5 (List.length y.1.1) then bif Nat.ble (Nat.succ (Int.toNat v5)) (List.length y.1.1) then bif inB
  (IntKind.wrap .i64 ((↑(List.length (rowD y.1.2 (List.getD y.1.1 0 0))):Int) - 1)) (List.length (rowD y.1.2 (List.getD y.1.1 (Int.toNat
  v5) 0))) then bif Nat.ble (Nat.succ (Int.toNat (IntKind.wrap .i64 ((↑(List.length (rowD y.1.2 (List.getD y.1.1 0 0))):Int) - 1))))
  (List.length (rowD y.1.2 (List.getD y.1.1 (Int.toNat v5) 0))) then bif decide (List.getD (rowD y.1.2 (List.getD y.1.1 (Int.toNat v5) 0)) (Int.toNat
  (IntKind.wrap .i64 ((↑(List.length (rowD y.1.2 (List.getD y.1.1 0 0))):Int) - 1))) 0<0) then some ((0,0),(22
  : Int),PUnit.unit) else obind (ref05_out y.1 y.2.1 y.2.2.1 y.2.2.2.1) fun (y_1:(List Nat×List (Option (List Int)))×List Int×Int×Int×PUnit)=>bif decide
  (0≤IntKind.wrap .i64 (IntKind.wrap .i64 ((↑(List.length (rowD y.1.2 (List.getD y.1.1 0 0))):Int) - 1)+1))&&fitB
  (Int.toNat (IntKind.wrap .i64 (IntKind.wrap .i64 ((↑(List.length (rowD y.1.2 (List.getD y.1.1 0 0))):Int) - 1)+1))) 8
  then lp (Int×List Int×PUnit) ((Int×Int)×Int×PUnit) (fun (again:Int×List Int×PUnit→Option ((Int×Int)×Int×PUnit)) (x:Int×List Int×PUnit)=>bif decide (x.1
  < (↑(List.length x0.1):Int)) then bif inB x.1 (List.length x0.1) then bif inB x.1 (List.length x.2.1) then bif Nat.ble (Nat.succ (Int.toNat x.1)) (List.length x.2.1)
  then again (IntKind.wrap .i64 (x.1+1),List.set x.2.1 (Int.toNat x.1) (List.getD x0.1 (Int.toNat x.1) 0),PUnit.unit) else none else none else none
  else lp (Int×(List Nat×List (Option (List Int)))×PUnit) ((Int×Int)×Int×PUnit) (fun (again:Int×(List Nat×List (Option (List Int)))×PUnit→Option ((Int×Int)×Int ×
  PUnit)) (x_1:Int×(List Nat×List (Option (List Int)))×PUnit)=>bif decide (x_1.1≤IntKind.wrap .i64 ((↑(List.length (rowD y.1.2 (List.getD y.1.1 0 (0 :
  Nat)))):Int) - 1)) then bif inB x_1.1 (List.length x.2.1) then bif Nat.ble (Nat.succ (Int.toNat x_1.1)) (List.length x.2.1) then lp (Int×Int×PUnit) ((Int ×
  Int)×Int×PUnit) (fun (again_1:Int×Int×PUnit→Option ((Int×Int)×Int×PUnit)) (x_2:Int×Int×PUnit) =>
 let v13:Int:=List.getD y_1.2.1 (Int.toNat x_2.2.1) 0;bif decide (x_2.2.1<v5) then bif inB x_2.2.1 (List.length y_1.2.1) then bif Nat.ble (Nat.succ
  (Int.toNat x_2.2.1)) (List.length y_1.2.1) then bif inB v13 (List.length x.2.1) then bif Nat.ble (Nat.succ (Int.toNat v13)) (List.length x.2.1) then bif inB x_2.2.1
  (List.length x_1.2.1.1) then bif Nat.ble (Nat.succ (Int.toNat x_2.2.1)) (List.length x_1.2.1.1) then bif inB x_1.1 (List.length (rowD x_1.2.1.2 (List.getD
  x_1.2.1.1 (Int.toNat x_2.2.1) 0))) then bif Nat.ble (Nat.succ (Int.toNat x_1.1)) (List.length (rowD x_1.2.1.2 (List.getD x_1.2.1.1 (Int.toNat
  x_2.2.1) 0))) then again_1 (IntKind.wrap .i64 (x_2.1 - IntKind.wrap .i64 (List.getD x.2.1 (Int.toNat v13) 0*List.getD (rowD x_1.2.1.2
  (List.getD x_1.2.1.1 (Int.toNat x_2.2.1) 0)) (Int.toNat x_1.1) 0)),IntKind.wrap .i64 (x_2.2.1+1),PUnit.unit) else none else none else
  none else none else none else none else none else none else bif inB v5 (List.length x_1.2.1.1) then bif Nat.ble (Nat.succ (Int.toNat v5)) (List.length x_1.2.1.1) then bif
  inB x_1.1 (List.length (rowD x_1.2.1.2 (List.getD x_1.2.1.1 (Int.toNat v5) 0))) then bif Nat.ble (Nat.succ (Int.toNat x_1.1)) (List.length (rowD x_1.2.1.2
  (List.getD x_1.2.1.1 (Int.toNat v5) 0))) then again (IntKind.wrap .i64 (x_1.1+1),(x_1.2.1.1,List.set x_1.2.1.2 (List.getD x_1.2.1.1
  (Int.toNat v5) 0) (some (List.set (rowD x_1.2.1.2 (List.getD x_1.2.1.1 (Int.toNat v5) 0)) (Int.toNat x_1.1) x_2.1))),PUnit.unit) else none else none
  else none else none) (IntKind.wrap .i64 (List.getD x.2.1 (Int.toNat x_1.1) 0*y_1.2.2.1),0,PUnit.unit) else none else none else obind (ref05_run
  x_1.2.1 y_1.2.1 y_1.2.2.1 y_1.2.2.2.1) fun (y_2:(List Nat×List (Option (List Int)))×List Int×Int×Int×Bool×PUnit)=>bif !y_2.2.2.2.2.1 then
  some ((0,0),21,PUnit.unit) else bif inB v5 (List.length y_2.1.1) then bif Nat.ble (Nat.succ (Int.toNat v5)) (List.length y_2.1.1) then bif inB
  (IntKind.wrap .i64 ((↑(List.length (rowD y.1.2 (List.getD y.1.1 0 0))):Int) - 1)) (List.length (rowD y_2.1.2 (List.getD y_2.1.1
  (Int.toNat v5) 0))) then bif Nat.ble (Nat.succ (Int.toNat (IntKind.wrap .i64 ((↑(List.length (rowD y.1.2 (List.getD y.1.1 0 0))):Int) - (1 :
  Int))))) (List.length (rowD y_2.1.2 (List.getD y_2.1.1 (Int.toNat v5) 0))) then obind (ref02_Make (IntKind.wrap .i64 (0 - List.getD (rowD y_2.1.2
  (List.getD y_2.1.1 (Int.toNat v5) 0)) (Int.toNat (IntKind.wrap .i64 ((↑(List.length (rowD y.1.2 (List.getD y.1.1 0 0))):Int) - 1)))
  0)) y_2.2.2.1) fun (t:(Int×Int)×Int×PUnit)=>some (t.1,t.2.1,PUnit.unit) else none else none else none else none) (0,y_1.1,PUnit.unit)) ((0 :
  Int),List.replicate (Int.toNat (IntKind.wrap .i64 (IntKind.wrap .i64 ((↑(List.length (rowD y.1.2 (List.getD y.1.1 0 0))):Int) - 1)+(1
  : Int)))) 0,PUnit.unit) else none else none else none else none else none else none else none else none
noncomputable def ref05_Least (x0:(List Int)×List ((List Int)×Int×Int)):Option ((Int×Int)×Int×Unit):=ref05_Least_b lpK jnK ref02_Make ref05_run ref05_begin ref05_out x0
abbrev t30:=((List Int)×List ((List Int)×Int×Int))→Option ((Int×Int)×Int×Unit)
noncomputable def c30:Ctr:=⟨[T25],[],[],.tup [T27,i64],fun x _ _=>ref05_Least x.1⟩
theorem e30 (lp:Lp) (jn:Jn) (ref02_Make:t78) (ref05_run:t74) (ref05_begin:t75) (ref05_out:t76):∀(x:TsS c30.as) (F:TsF c30.fs) (y:TsS c30.cs),ref05_Least_b lp jn ref02_Make ref05_run ref05_begin ref05_out x.1=runCS lp jn (Dn.look [(76,k76 ref05_out),(75,k75 ref05_begin),(74,k74 ref05_run)]) (cx [(78,⟨[i64,i64],[],[],.tup [T27,i64],fun x _ _=>ref02_Make x.1 x.2.1⟩)] [(24,r24),(22,r22)]) hints 4 30 f30 c30 x F y:=fun x F y=>by kernel_rfl
theorem ok30:c30.ok prog 30:=Ctr.of_denS (ctxT_ok (ctxOf_cons (q24) (by kernel_rfl) ok78)) hmix (scOk_cons ok76 (scOk_cons ok75 (scOk_cons ok74 (scOk_nil)))) (hl:=hints) (d:=4) func30 rfl (by decide) (e30 lpK jnK ref02_Make ref05_run ref05_begin ref05_out)
noncomputable def law05_ProgramSolves_b (_:Lp) (_:Jn) (program_Solve:t21) (law05_awake:t11) (law05_few:t12) (ref05_Valid:t16) (law05_empty:t25) (ref05_Fits:t27) (ref05_Small:t28) (program_Farkas:t29) (ref05_Least:t30) (x0:(List Int)×List ((List Int)×Int×Int)):Option Bool :=
 obind law05_awake fun (t:Bool)=>bif !t then some false else obind (law05_few x0) fun (t:Bool)=>bif !t then some true else obind (ref05_Valid x0) fun (t:Bool) =>
 let v6:Bool:=!t||t;bif v6 then obind (bif t then ref05_Fits x0 else some false) fun (t_1:Bool) =>
 let v8:Bool:=bif t then t_1 else false;
 let v9:Bool:=!v8||v8;bif v6 then bif v9 then obind (bif v8 then ref05_Small x0 else some false) fun (t:Bool)=>bif v9 then bif v9 then bif bif v8 then !t else false then some
  true else obind (program_Solve x0) fun (t:((Int×Int)×List (Int×Int)×List (Int×Int))×Int×PUnit) =>
 let v12:Bool:=!decide (t.2.1=0);obind (program_Farkas x0) fun (t_2:List (Int×Int)×Int×PUnit) =>
 let v14:Bool:=decide (t_2.2.1=0);
 let v15:Bool:=decide (t_2.2.1=12);
 let v16:Bool:=decide ((↑(List.length t_2.1):Int)=0);
 let v17:Bool:=!v14||v14;
 let v18:Bool:=!v15||v15;obind (ref05_Valid x0) fun (t_3:Bool)=>bif !t_3 then obind (law05_empty t.1) fun (t_4:Bool) =>
 let v21:Bool:=!t_4||t_4;
 let v22:Bool:=bif t_4 then decide (t.2.1=1) else false;
 let v23:Bool:=bif v22 then v16 else false;
 let v24:Bool:=!v22||v22;
 let v25:Bool:=!v23||v23;bif v21 then bif v21 then bif v24 then bif v24 then bif v24 then bif v25 then bif v25 then some (bif v23 then decide (t_2.2.1=1) else false)
  else none else none else none else none else none else none else none else obind (ref05_Fits x0) fun (t_4:Bool)=>bif !t_4 then obind (law05_empty t.1) fun (t_5:Bool) =>
 let v22:Bool:=!t_5||t_5;
 let v23:Bool:=bif t_5 then decide (t.2.1=5) else false;
 let v24:Bool:=bif v23 then v16 else false;
 let v25:Bool:=!v23||v23;
 let v26:Bool:=!v24||v24;bif v22 then bif v22 then bif v25 then bif v25 then bif v25 then bif v26 then bif v26 then some (bif v24 then decide (t_2.2.1=5) else false)
  else none else none else none else none else none else none else none else obind (ref05_Least x0) fun (t_5:(Int×Int)×Int×PUnit) =>
 let v22:Bool:=!decide (t.2.1=t_5.2.1);
 let v23:Bool:=!v22;
 let v24:Bool:=!v23||v23;
 let v25:Bool:=bif v22 then true else !(decide (t.1.1.1=t_5.1.1)&&(decide (t.1.1.2=t_5.1.2)&&true));
 let v26:Bool:=!v25;
 let v27:Bool:=!v26;
 let v28:Bool:=v26&&v12;
 let v29:Bool:=v27||v26;
 let v30:Bool:=!v28||v28;bif v24 then bif v24&&v24 then bif v22||v23 then bif v29 then bif v29 then bif v30 then obind (bif v28 then law05_empty t.1 else some false) fun (t_6
  : Bool)=>bif v30 then bif (v27||v29)&&(v27||(!v12||(v27||v28))) then bif v25||v26 then bif bif v25 then true else bif v12 then !t_6 else false then some false else bif
  decide (t.2.1=22) then bif v17 then bif v17 then bif v17 then bif v17&&v17 then bif v17 then some (bif v14 then decide ((↑(List.length t_2.1):Int)=(↑(List.length
  x0.2):Int)) else false) else none else none else none else none else none else bif v18 then bif v18 then bif v18 then some (bif v15 then v16 else false) else none else none else
  none else none else none else none else none else none else none else none else none else none else none else none else none else none else none
noncomputable def law05_ProgramSolves (x0:(List Int)×List ((List Int)×Int×Int)):Option Bool:=law05_ProgramSolves_b lpK jnK program_Solve law05_awake law05_few ref05_Valid law05_empty ref05_Fits ref05_Small program_Farkas ref05_Least x0
noncomputable def c5:Ctr:=⟨[T25],[],[],.one .bool,fun x _ _=>law05_ProgramSolves x.1⟩
theorem e5 (lp:Lp) (jn:Jn) (program_Solve:t21) (law05_awake:t11) (law05_few:t12) (ref05_Valid:t16) (law05_empty:t25) (ref05_Fits:t27) (ref05_Small:t28) (program_Farkas:t29) (ref05_Least:t30):∀(x:TsS c5.as) (F:TsF c5.fs) (y:TsS c5.cs),law05_ProgramSolves_b lp jn program_Solve law05_awake law05_few ref05_Valid law05_empty ref05_Fits ref05_Small program_Farkas ref05_Least x.1=runC lp jn (cx [(30,⟨[T25],[],[],.tup [T27,i64],fun x _ _=>ref05_Least x.1⟩),(29,k29 program_Farkas),(28,⟨[T25],[],[],.one .bool,fun x _ _=>ref05_Small x.1⟩),(27,⟨[T25],[],[],.one .bool,fun x _ _=>ref05_Fits x.1⟩),(25,k25 law05_empty),(16,k16 ref05_Valid),(12,k12 law05_few),(11,k11 law05_awake),(21,k21 program_Solve)] [(24,r24),(22,r22)]) hints 4 5 f5 c5 x F y:=fun x F y=>by kernel_rfl
theorem ok5:c5.ok prog 5:=Ctr.of_den (ctxT_ok (ctxOf_cons (ctxOf_cons (ctxOf_cons (ctxOf_cons (ctxOf_cons (ctxOf_cons (ctxOf_cons (ctxOf_cons (ctxOf_cons (q24) (by kernel_rfl) ok21) (by kernel_rfl) ok11) (by kernel_rfl) ok12) (by kernel_rfl) ok16) (by kernel_rfl) ok25) (by kernel_rfl) ok27) (by kernel_rfl) ok28) (by kernel_rfl) ok29) (by kernel_rfl) ok30)) hmix (hl:=hints) (d:=4) func5 rfl (by decide) (e5 lpK jnK program_Solve law05_awake law05_few ref05_Valid law05_empty ref05_Fits ref05_Small program_Farkas ref05_Least)
noncomputable def program_Feasible_b (_:Lp) (_:Jn) (program_Valid:t33) (program_right:t46) (program_sums_feasible:t47) (x0:(List Int)×List ((List Int)×Int×Int)) (x1:List (Int×Int)):Option (Bool×Int×Unit) :=
 obind (program_Valid x0) fun (t:Bool) =>
 let v5:Bool:=!t;
 let v6:Bool:=!v5;
 let v7:Bool:=!v6||v6;bif v7 then obind (bif v6 then program_right x1 else some false) fun (t:Bool)=>bif v7 then bif v5||v6 then bif bif v5 then true else !t then some (false,
  1,PUnit.unit) else bif !decide ((↑(List.length x1):Int)=(↑(List.length x0.1):Int)) then some (false,3,PUnit.unit) else obind (program_sums_feasible 0
  x0 x1) fun (t:Int×Bool) =>
 let v10:Bool:=!t.2||t.2;bif v10 then bif v10 then bif v10 then some (bif t.2 then decide (t.1=0) else false,t.1,PUnit.unit) else none else none else none else
  none else none else none
noncomputable def program_Feasible (x0:(List Int)×List ((List Int)×Int×Int)) (x1:List (Int×Int)):Option (Bool×Int×Unit):=program_Feasible_b lpK jnK program_Valid program_right program_sums_feasible x0 x1
abbrev t31:=((List Int)×List ((List Int)×Int×Int))→(List (Int×Int))→Option (Bool×Int×Unit)
noncomputable def k31 (program_Feasible:t31):Ctr:=⟨[T25,(.sl T27)],[],[],.tup [.bool,i64],fun x _ _=>program_Feasible x.1 x.2.1⟩
noncomputable def program_Value_b (_:Lp) (_:Jn) (program_Valid:t33) (program_right:t46) (program_sums_of:t48) (x0:(List Int)×List ((List Int)×Int×Int)) (x1:List (Int×Int)):Option ((Int×Int)×Int×Unit) :=
 obind (program_Valid x0) fun (t:Bool) =>
 let v5:Bool:=!t;
 let v6:Bool:=!v5;
 let v7:Bool:=!v6||v6;bif v7 then obind (bif v6 then program_right x1 else some false) fun (t:Bool)=>bif v7 then bif v5||v6 then bif bif v5 then true else !t then some (((0 :
  Int),0),1,PUnit.unit) else bif !decide ((↑(List.length x1):Int)=(↑(List.length x0.1):Int)) then some ((0,0),3,PUnit.unit) else
  obind (program_sums_of 0 x0.1 x1) fun (t:Int×Int×Int)=>bif !decide (t.1=0) then some ((0,0),t.1,PUnit.unit) else some (t.2,(0 :
  Int),PUnit.unit) else none else none else none
noncomputable def program_Value (x0:(List Int)×List ((List Int)×Int×Int)) (x1:List (Int×Int)):Option ((Int×Int)×Int×Unit):=program_Value_b lpK jnK program_Valid program_right program_sums_of x0 x1
abbrev t32:=((List Int)×List ((List Int)×Int×Int))→(List (Int×Int))→Option ((Int×Int)×Int×Unit)
noncomputable def k32 (program_Value:t32):Ctr:=⟨[T25,(.sl T27)],[],[],.tup [T27,i64],fun x _ _=>program_Value x.1 x.2.1⟩
noncomputable def law05_ProgramForms_b (_:Lp) (_:Jn) (program_Valid:t33) (law05_awake:t11) (law05_few:t12) (law05_short:t13) (ref05_Valid:t16) (ref02_All:t18) (ref05_Sum:t35) (ref05_Feasible:t34) (program_Feasible:t31) (program_Value:t32) (x0:(List Int)×List ((List Int)×Int×Int)) (x1:List (Int×Int)):Option Bool :=
 obind law05_awake fun (t:Bool)=>bif !t then some false else obind (law05_few x0) fun (t:Bool) =>
 let v6:Bool:=!t;
 let v7:Bool:=!v6;
 let v8:Bool:=!v7||v7;bif v8 then bif v8 then obind (bif v7 then law05_short [x1] else some false) fun (t:Bool)=>bif v8 then bif v6||v7 then bif bif v6 then true else !t then
  some true else obind (ref05_Valid x0) fun (t:Bool) =>
 let v11:Bool:=!t;
 let v12:Bool:=!v11;
 let v13:Bool:=!v12||v12;obind (program_Feasible x0 x1) fun (t_1:Bool×Int×PUnit) =>
 let v15:Bool:=!t_1.1;
 let v16:Bool:=!v15||v15;
 let v17:Bool:=bif v15 then decide (t_1.2.1=1) else false;
 let v18:Bool:=bif v15 then decide (t_1.2.1=3) else false;
 let v19:Bool:=!v17||v17;
 let v20:Bool:=!v18||v18;obind (program_Value x0 x1) fun (t_2:(Int×Int)×Int×PUnit) =>
 let v22:Bool:=decide (t_2.1.1=0)&&(decide (t_2.1.2=0)&&true);
 let v23:Bool:=bif v17 then v22 else false;
 let v24:Bool:=bif v18 then v22 else false;
 let v25:Bool:=!v23||v23;
 let v26:Bool:=!v24||v24;obind (program_Valid x0) fun (t_3:Bool)=>bif !decide (t_3=t) then some false else bif v13 then obind (bif v12 then ref02_All x1 else some false) fun
  (t:Bool)=>bif v13 then bif v11||v12 then bif bif v11 then true else !t then bif v16 then bif v16 then bif v19&&v19 then bif v19 then bif v25 then bif v25 then some (bif v23 then
  decide (t_2.2.1=1) else false) else none else none else none else none else none else none else bif !decide ((↑(List.length x1):Int)=(↑(List.length x0.1):Int))
  then bif v16 then bif v16 then bif v20&&v20 then bif v20 then bif v26 then bif v26 then some (bif v24 then decide (t_2.2.1=3) else false) else none else none else none
  else none else none else none else obind (ref05_Feasible x0 x1) fun (t:Bool×Int×PUnit) =>
 let v30:Bool:=decide (t_1.1=t.1);
 let v31:Bool:=!v30||v30;
 let v32:Bool:=bif v30 then decide (t_1.2.1=t.2.1) else false;
 let v33:Bool:=!v32||v32;obind (ref05_Sum x0.1 x1) fun (t:(Int×Int)×Int×PUnit) =>
 let v35:Bool:=bif v32 then decide (t_2.1.1=t.1.1)&&(decide (t_2.1.2=t.1.2)&&true) else false;
 let v36:Bool:=!v35||v35;bif v31&&v31 then bif v31 then bif v33&&v33 then bif v33 then bif v36&&v36 then bif v36 then some (bif v35 then decide (t_2.2.1=t.2.1) else
  false) else none else none else none else none else none else none else none else none else none else none else none else none else none
noncomputable def law05_ProgramForms (x0:(List Int)×List ((List Int)×Int×Int)) (x1:List (Int×Int)):Option Bool:=law05_ProgramForms_b lpK jnK program_Valid law05_awake law05_few law05_short ref05_Valid ref02_All ref05_Sum ref05_Feasible program_Feasible program_Value x0 x1
noncomputable def c6:Ctr:=⟨[T25,(.sl T27)],[],[],.one .bool,fun x _ _=>law05_ProgramForms x.1 x.2.1⟩
theorem e6 (lp:Lp) (jn:Jn) (program_Valid:t33) (law05_awake:t11) (law05_few:t12) (law05_short:t13) (ref05_Valid:t16) (ref02_All:t18) (ref05_Sum:t35) (ref05_Feasible:t34) (program_Feasible:t31) (program_Value:t32):∀(x:TsS c6.as) (F:TsF c6.fs) (y:TsS c6.cs),law05_ProgramForms_b lp jn program_Valid law05_awake law05_few law05_short ref05_Valid ref02_All ref05_Sum ref05_Feasible program_Feasible program_Value x.1 x.2.1=runC lp jn (cx [(32,k32 program_Value),(31,k31 program_Feasible),(34,k34 ref05_Feasible),(35,k35 ref05_Sum),(18,k18 ref02_All),(16,k16 ref05_Valid),(13,k13 law05_short),(12,k12 law05_few),(11,k11 law05_awake),(33,k33 program_Valid)] [(24,r24),(22,r22)]) hints 4 6 f6 c6 x F y:=fun x F y=>by kernel_rfl
noncomputable def law05_ProgramBeats_b (_:Lp) (_:Jn) (ratio_Cmp:t26) (program_Solve:t21) (law05_awake:t11) (law05_few:t12) (law05_short:t13) (program_Feasible:t31) (program_Value:t32) (x0:(List Int)×List ((List Int)×Int×Int)) (x1:List (Int×Int)):Option Bool :=
 obind law05_awake fun (t:Bool)=>bif !t then some false else obind (law05_few x0) fun (t:Bool) =>
 let v6:Bool:=!t;
 let v7:Bool:=!v6;
 let v8:Bool:=!v7||v7;bif v8 then bif v8 then obind (bif v7 then law05_short [x1] else some false) fun (t:Bool)=>bif v8 then bif v6||v7 then bif bif v6 then true else !t then
  some true else obind (program_Feasible x0 x1) fun (t:Bool×Int×PUnit) =>
 let v11:Bool:=!t.1;
 let v12:Bool:=!decide (t.2.1=0);
 let v13:Bool:=!v12;bif !v13||v13 then bif v12||v13 then bif bif v12 then true else v11 then some v11 else obind (program_Solve x0) fun (t:((Int×Int)×List (Int×Int)×List
  (Int×Int))×Int×PUnit) =>
 let v15:Bool:=decide (t.2.1=21);
 let v16:Bool:=!v15;bif !decide (t.2.1=0) then bif !v16||v16 then bif v15||v16 then some (bif v15 then true else decide (t.2.1=5)) else none else none
  else obind (program_Value x0 x1) fun (t_1:(Int×Int)×Int×PUnit)=>bif !decide (t_1.2.1=0) then some (decide (t_1.2.1=5)) else obind (ratio_Cmp
  t.1.1 t_1.1) fun (t:Int×Int×PUnit) =>
 let v19:Bool:=decide (t.2.1=0);
 let v20:Bool:=!v19||v19;bif v20 then bif v20 then some (bif v19 then decide (t.1≤0) else false) else none else none else none else none else none else none else none
  else none
noncomputable def law05_ProgramBeats (x0:(List Int)×List ((List Int)×Int×Int)) (x1:List (Int×Int)):Option Bool:=law05_ProgramBeats_b lpK jnK ratio_Cmp program_Solve law05_awake law05_few law05_short program_Feasible program_Value x0 x1
noncomputable def c7:Ctr:=⟨[T25,(.sl T27)],[],[],.one .bool,fun x _ _=>law05_ProgramBeats x.1 x.2.1⟩
theorem e7 (lp:Lp) (jn:Jn) (ratio_Cmp:t26) (program_Solve:t21) (law05_awake:t11) (law05_few:t12) (law05_short:t13) (program_Feasible:t31) (program_Value:t32):∀(x:TsS c7.as) (F:TsF c7.fs) (y:TsS c7.cs),law05_ProgramBeats_b lp jn ratio_Cmp program_Solve law05_awake law05_few law05_short program_Feasible program_Value x.1 x.2.1=runC lp jn (cx [(32,k32 program_Value),(31,k31 program_Feasible),(13,k13 law05_short),(12,k12 law05_few),(11,k11 law05_awake),(21,k21 program_Solve),(26,k26 ratio_Cmp)] [(24,r24),(22,r22)]) hints 4 7 f7 c7 x F y:=fun x F y=>by kernel_rfl
end Go.Proofs.Ytnbbackjofgcfaa

namespace Go.Proofs.Ytnbbackjofgcfaa
namespace Dn
section
variable {T R α σ:Type}
theorem obind_some' {t:T} {k:T→Option R}:obind (some t) k=k t:=rfl
theorem loopF_eq {F:(α→Option R)→α→Option R} {g:α→Option R} (I:α→Prop) (μ:α→Nat)
  (h:∀x rec,I x→(∀y,I y→μ y<μ x→rec y=g y)→F rec x=g x):∀{n:Nat} {x:α},I x→μ x<n→loopF F n x=g x
 | 0,x,_,hn=>by omega
 | n+1,x,hx,hn=>by
  rw[loopF_succ]
  exact h x _ hx fun y hy hlt=>loopF_eq I μ h hy (by omega)
theorem lpK_loop {F:(α→Option R)→α→Option R} {g:α→Option R} (I:α→Prop) (μ:α→Nat)
  (h:∀x rec,I x→(∀y,I y→μ y<μ x→rec y=g y)→F rec x=g x) {x:α} (hx:I x) (hn:μ x<1180591620717411303424):lpK α R F x=g x:=loopF_eq I μ h hx hn
theorem jnK_eq' {j:α→Option R} {f:(α→Option R)→Option R}:jnK α R j f=f j:=rfl
theorem wrap_id {x:Int} (h1: -9223372036854775808≤x) (h2:x<9223372036854775808):IntKind.wrap .i64 x=x:=by
 rw[IntKind.wrap_i64];omega
def upF (b:Nat→σ→(σ→Option R)→Option R) (f:σ→Option R):Nat→Nat→σ→Option R
 | 0,_,s=>f s
 | k+1,i,s=>b i s (upF b f k (i+1))
theorem loopF_up {F:(α→Option R)→α→Option R} (n:Nat) (hn:n≤1180591620717411303423) (enc:Nat→σ→α) (b:Nat→σ→(σ→Option R)→Option R) (f:σ→Option R)
  (hb:∀again (i:Nat) s,i<n→F again (enc i s)=b i s (fun s'=>again (enc (i+1) s'))) (hf:∀again s,F again (enc n s)=f s) (s:σ) :
  loopF F K0 (enc 0 s)=upF b f n 0 s:=by
 have key:∀(k:Nat) (i:Nat) (m:Nat) (s:σ),i+k=n→k<m→loopF F m (enc i s)=upF b f k i s:=by
  intro k
  induction k with
  | zero =>
   intro i m s h1 h2
   obtain ⟨m,rfl⟩:∃m',m=m'+1:=⟨m - 1,by omega⟩
   have:i=n:=by omega
   subst this
   simp only[loopF_succ,hf,upF]
  | succ k ih =>
   intro i m s h1 h2
   obtain ⟨m,rfl⟩:∃m',m=m'+1:=⟨m - 1,by omega⟩
   simp only[loopF_succ,upF]
   rw[hb _ _ _ (by omega)]
   congr 1
   funext s'
   exact ih (i+1) m s' (by omega) (by omega)
 exact key n 0 K0 s (by omega) (by unfold K0;omega)
theorem inB_nat {i n:Nat}:inB (i:Int) n=decide (i<n):=by
 rw[Bool.eq_iff_iff,inB_iff,decide_eq_true_iff];omega
theorem inB_of {i:Int} {n:Nat} (h1:0≤i) (h2:i<n):inB i n=true:=inB_iff.2 ⟨h1,h2⟩
theorem nzB_of {n:Int} (h:n≠0):nzB n=true:=nzB_iff.2 h
theorem fitB_of {n k:Nat} (h:n*k≤140737488355328):fitB n k=true:=fitB_iff.2 h
theorem ble_of {n m:Nat} (h:n≤m):Nat.ble n m=true:=by rw[Nat.ble_eq];exact h
theorem cT0 {α:Sort _} {c:Bool} (h:c=true) (a b:α):cond c a b=a:=by subst h;rfl
theorem cT {α:Sort _} (a b:α):cond true a b=a:=cT0 (Eq.trans rfl rfl) a b
theorem cF0 {α:Sort _} {c:Bool} (h:c=false) (a b:α):cond c a b=b:=by subst h;rfl
theorem cF {α:Sort _} (a b:α):cond false a b=b:=cF0 (Eq.trans rfl rfl) a b
theorem or_self_not {b:Bool}:(b||!b)=true:=by cases b<;>rfl
theorem not_or_self' {b:Bool}:(!b||b)=true:=by cases b<;>rfl
theorem bif_false' {b:Bool} {c:Bool}:(bif b then c else false)=(b&&c):=by cases b<;>rfl
theorem bif_true' {b:Bool} {c:Bool}:(bif b then true else c)=(b||c):=by cases b<;>rfl
theorem ite_max {a b:Int}:(if b>a then b else a)=max a b:=by omega
theorem getD_nat {l:List α} {d:α} {i:Nat} (h:i<l.length):l.getD i d=l[i]:=by simp[List.getD,h]
end
end Dn
end Go.Proofs.Ytnbbackjofgcfaa

namespace Go.Proofs.Ytnbbackjofgcfaa
namespace Dn
abbrev Fq:=Int×Int
def okF (a:Fq):Prop:=(1≤a.2∧a.2≤1152921504606846976)∧(-1152921504606846976≤a.1∧a.1≤1152921504606846976)∧Nat.gcd a.1.natAbs a.2.natAbs=1
instance (a:Fq):Decidable (okF a):=by unfold okF;infer_instance
def qv (a:Fq):Rat:=mkRat a.1 a.2.toNat
def fitsQ (q:Rat):Prop:=q.num.natAbs≤1152921504606846976∧q.den≤1152921504606846976
instance (q:Rat):Decidable (fitsQ q):=by unfold fitsQ;infer_instance
def prQ (q:Rat):Fq:=(q.num,(q.den:Int))
def fitQ (q:Rat):Fq×Int×Unit:=if fitsQ q then (prQ q,0,()) else ((0,0),5,())
theorem okF_num {a:Fq} (h:okF a):(qv a).num=a.1:=by
 obtain ⟨⟨h1,h2⟩,_,h3⟩:=h
 have h0:a.2.toNat≠0:=by omega
 have h4:Nat.gcd a.2.toNat a.1.natAbs=1:=by rw[Nat.gcd_comm,show a.2.toNat=a.2.natAbs by omega];exact h3
 rw[qv,Rat.num_mkRat,if_neg h0,h4]
 simp
theorem okF_den {a:Fq} (h:okF a):((qv a).den:Int)=a.2:=by
 obtain ⟨⟨h1,h2⟩,_,h3⟩:=h
 have h0:a.2.toNat≠0:=by omega
 have h4:Nat.gcd a.2.toNat a.1.natAbs=1:=by rw[Nat.gcd_comm,show a.2.toNat=a.2.natAbs by omega];exact h3
 rw[qv,Rat.den_mkRat,if_neg h0,h4]
 simp;omega
theorem qv_prQ (q:Rat):qv (prQ q)=q:=by
 unfold qv prQ
 simp only[Int.toNat_natCast]
 exact Rat.mkRat_self q
theorem okF_prQ {q:Rat} (h:fitsQ q):okF (prQ q):=by
 obtain ⟨h1,h2⟩:=h
 have:=q.den_pos
 refine ⟨⟨?_,?_⟩,⟨?_,?_⟩,?_⟩
 ·simp only[prQ];omega
 ·simp only[prQ];omega
 ·simp only[prQ];omega
 ·simp only[prQ];omega
 ·simp only[prQ]
  rw[Int.natAbs_natCast]
  exact q.reduced
theorem fitQ_cases (q:Rat):(fitsQ q∧fitQ q=(prQ q,0,()))∨(¬ fitsQ q∧fitQ q=((0,0),5,())):=by
 unfold fitQ
 by_cases h:fitsQ q
 ·exact .inl ⟨h,by rw[if_pos h]⟩
 ·exact .inr ⟨h,by rw[if_neg h]⟩
theorem qv_int (n:Int):qv (n,1)=(n:Rat):=by
 show mkRat n 1=(n:Rat)
 rw[Rat.mkRat_eq_div]
 show (n:Rat) / ((1:Nat):Rat)=n
 rw[show ((1:Nat):Rat)=1 from rfl]
 grind
theorem okF_int {n:Int} (h1: -1152921504606846976≤n) (h2:n≤1152921504606846976):okF (n,1):=⟨⟨by simp,by simp⟩,⟨h1,h2⟩,by simp⟩
theorem okF_nonneg {a:Fq} (h:okF a):0≤qv a↔0≤a.1:=by rw[←Rat.num_nonneg,okF_num h]
theorem okF_zero {a:Fq} (h:okF a):qv a=0↔a.1=0:=by rw[←Rat.num_eq_zero,okF_num h]
theorem okF_neg {a:Fq} (h:okF a):qv a<0↔a.1<0:=by
 rw[←Rat.not_le,okF_nonneg h];omega
theorem okF_le {a b:Fq} (ha:okF a) (hb:okF b):qv a≤qv b↔a.1*b.2≤b.1*a.2:=by
 rw[Rat.le_iff,okF_num ha,okF_num hb,okF_den ha,okF_den hb]
theorem okF_lt {a b:Fq} (ha:okF a) (hb:okF b):qv a<qv b↔a.1*b.2<b.1*a.2:=by
 rw[Rat.lt_iff,okF_num ha,okF_num hb,okF_den ha,okF_den hb]
def sgn (s:Bool) (n:Nat):Int:=if s then -(n:Int) else n
theorem mkQ_low {s:Bool} {n d:Nat} (hd:0<d) (hc:Nat.gcd n d=1):(mkRat (sgn s n) d).num=sgn s n∧(mkRat (sgn s n) d).den=d:=by
 have h0:d≠0:=by omega
 have ha:(sgn s n).natAbs=n:=by unfold sgn;split<;>simp
 have hg:Nat.gcd d (sgn s n).natAbs=1:=by rw[ha,Nat.gcd_comm];exact hc
 rw[Rat.num_mkRat,Rat.den_mkRat,if_neg h0,if_neg h0,hg]
 simp
theorem mkQ_div {s:Bool} {n d:Nat} (hd:0<d):mkRat (sgn s n) d=mkRat (sgn s (n / Nat.gcd n d)) (d / Nat.gcd n d)∧0<d / Nat.gcd n d∧Nat.gcd (n / Nat.gcd n d) (d / Nat.gcd n d)=1:=by
 have hg:0<Nat.gcd n d:=Nat.gcd_pos_of_pos_right _ hd
 have h1:n / Nat.gcd n d*Nat.gcd n d=n:=Nat.div_mul_cancel (Nat.gcd_dvd_left n d)
 have h2:d / Nat.gcd n d*Nat.gcd n d=d:=Nat.div_mul_cancel (Nat.gcd_dvd_right n d)
 refine ⟨?_,Nat.div_pos (Nat.le_of_dvd hd (Nat.gcd_dvd_right n d)) hg,Nat.gcd_div_gcd_div_gcd_of_pos_right hd⟩
 have h3:sgn s n=sgn s (n / Nat.gcd n d)*(Nat.gcd n d:Int):=by
  unfold sgn
  split
  ·rw[Int.neg_mul,←Int.natCast_mul,h1]
  ·rw[←Int.natCast_mul,h1]
 have h4:mkRat (sgn s n) d=mkRat (sgn s (n / Nat.gcd n d)*(Nat.gcd n d:Int)) (d / Nat.gcd n d*Nat.gcd n d):=by rw[←h3,h2]
 rw[h4]
 exact Rat.mkRat_mul_right (by omega)
theorem mkQ_congr {s:Bool} {n d m e:Nat} (hd:0<d) (he:0<e) (h:n*e=m*d):mkRat (sgn s n) d=mkRat (sgn s m) e:=by
 rw[Rat.mkRat_eq_iff (by omega) (by omega)]
 unfold sgn
 split
 ·rw[Int.neg_mul,Int.neg_mul,←Int.natCast_mul,←Int.natCast_mul,h]
 ·rw[←Int.natCast_mul,←Int.natCast_mul,h]
theorem fit_low {s:Bool} {n d:Nat} (hd:0<d) (hc:Nat.gcd n d=1):fitQ (mkRat (sgn s n) d)=if n≤1152921504606846976∧d≤1152921504606846976 then ((sgn s n,(d:Int)),0,()) else ((0,0),5,()):=by
 obtain ⟨h1,h2⟩:=mkQ_low (s:=s) hd hc
 have ha:(sgn s n).natAbs=n:=by unfold sgn;split<;>simp
 unfold fitQ
 have e:fitsQ (mkRat (sgn s n) d)↔n≤1152921504606846976∧d≤1152921504606846976:=by unfold fitsQ;rw[h1,h2,ha]
 have e2:prQ (mkRat (sgn s n) d)=(sgn s n,(d:Int)):=by unfold prQ;rw[h1,h2]
 rw[e2]
 by_cases h:n≤1152921504606846976∧d≤1152921504606846976
 ·rw[if_pos h,if_pos (e.2 h)]
 ·rw[if_neg h,if_neg (fun hh=>h (e.1 hh))]
theorem size_sgn (n:Int):n=sgn (decide (n<0)) n.natAbs:=by
 unfold sgn
 by_cases h:n<0
 ·simp[h];omega
 ·simp[h];omega
theorem okF_mkQ (a:Fq):qv a=mkRat (sgn (decide (a.1<0)) a.1.natAbs) a.2.toNat:=by
 unfold qv
 rw[←size_sgn]
theorem mul_sgn {s t:Bool} {m n:Nat}:sgn s m*sgn t n=sgn (s !=t) (m*n):=by
 unfold sgn
 cases s<;>cases t<;>simp[Int.neg_mul,Int.mul_neg]
theorem mkQ_mul {s t:Bool} {m n d e:Nat}:mkRat (sgn s m) d*mkRat (sgn t n) e=mkRat (sgn (s !=t) (m*n)) (d*e):=by
 rw[Rat.mkRat_mul_mkRat,mul_sgn]
theorem sgn_zero (s t:Bool):sgn s 0=sgn t 0:=by unfold sgn;cases s<;>cases t<;>rfl
end Dn
end Go.Proofs.Ytnbbackjofgcfaa

namespace Go.Proofs.Ytnbbackjofgcfaa
open Try Dn Dn.Sh
theorem u_wrap {x:Int} (h1:0≤x) (h2:x<18446744073709551616):IntKind.wrap .u64 x=x:=by
 rw[IntKind.wrap_u64];omega
theorem size_ok {x:Int} (h1: -9223372036854775808≤x) (h2:x<9223372036854775808):ratio_size x=some (x.natAbs:Int):=by
 simp only[ratio_size,ratio_size_b]
 by_cases h:x<0
 ·simp only[h,decide_true,cond_true]
  rw[IntKind.wrap_u64,IntKind.wrap_u64]
  congr 1;omega
 ·simp only[h,decide_false,cond_false]
  rw[u_wrap (by omega) (by omega)]
  congr 1;omega
theorem gcd_ok (m n:Nat) (hn:n<18446744073709551616):ratio_gcd (m:Int) (n:Int)=some ((Nat.gcd m n:Nat):Int):=by
 simp only[ratio_gcd,ratio_gcd_b]
 refine lpK_loop (g:=fun x=>some ((Nat.gcd x.1.toNat x.2.1.toNat:Nat):Int)) (I:=fun (x:Int×Int×PUnit)=>0≤x.1∧0≤x.2.1) (μ:=fun (x:Int×Int×PUnit)=>x.2.1.toNat) (x:=((m:Int),(n:Int),PUnit.unit)) ?_ ⟨Int.natCast_nonneg _,Int.natCast_nonneg _⟩ (by simp only;omega)
 rintro ⟨a,b,_⟩ rec ⟨h1,h2⟩ hrec
 simp only at h1 h2 ⊢
 by_cases hb:b=0
 ·subst hb
  simp only[decide_true,Bool.not_true,cond_false,Int.toNat_zero,Nat.gcd_zero_right]
  congr 1;omega
 ·rw[decide_eq_false hb,nzB_of hb,Int.tmod_eq_emod_of_nonneg h1]
  simp only[Bool.not_false,cT]
  have h3:0≤a % b:=Int.emod_nonneg _ hb
  have h4:a % b<b:=Int.emod_lt_of_pos _ (by omega)
  rw[hrec _ ⟨by simp only;omega,by simp only;omega⟩ (by simp only;omega)]
  simp only
  congr 2
  rw[Int.toNat_emod h1 h2,Nat.gcd_comm a.toNat,Nat.gcd_rec b.toNat a.toNat,Nat.gcd_comm]
theorem signed_ok (s:Bool) (n d:Nat) (h1:n<18446744073709551616) (h2:d<18446744073709551616) :
  ratio_signed s (n:Int) (d:Int)=some (if n≤1152921504606846976∧d≤1152921504606846976 then ((sgn s n,(d:Int)),0,()) else ((0,0),5,())):=by
 simp only[ratio_signed,ratio_signed_b,not_or_self',or_self_not,cond_true]
 by_cases hn:n≤1152921504606846976
 ·by_cases hd:d≤1152921504606846976
  ·have e1:decide ((n:Int)>1152921504606846976)=false:=decide_eq_false (by omega)
   have e2:decide ((d:Int)>1152921504606846976)=false:=decide_eq_false (by omega)
   rw[wrap_id (x:=(n:Int)) (by omega) (by omega),wrap_id (x:=(d:Int)) (by omega) (by omega),wrap_id (x:=0 - (n:Int)) (by omega) (by omega)]
   simp only[e1,e2,cond_false,hn,hd,and_self,if_true]
   cases s<;>simp[sgn]
  ·have e2:decide ((d:Int)>1152921504606846976)=true:=decide_eq_true (by omega)
   simp only[e2,bif_true',Bool.or_true,cond_true,hd,and_false,if_false]
 ·have e1:decide ((n:Int)>1152921504606846976)=true:=decide_eq_true (by omega)
  simp only[e1,cond_true,hn,false_and,if_false]
def divQ (n d:Int):Rat:=mkRat (sgn (decide (n<0) !=decide (d<0)) n.natAbs) d.natAbs
theorem divQ_eq {n d:Int} (hd:d≠0):divQ n d=(n:Rat) / d:=by
 unfold divQ
 rw[←Rat.divInt_eq_div,show mkRat (sgn (decide (n<0) !=decide (d<0)) n.natAbs) d.natAbs=Rat.divInt (sgn (decide (n<0) !=decide (d<0)) n.natAbs) (d.natAbs:Int) from (Rat.divInt_ofNat _ _).symm]
 rw[Rat.divInt_eq_divInt_iff (by omega) hd]
 unfold sgn
 by_cases h1:n<0<;>by_cases h2:d<0
 ·rw[show ((n.natAbs:Nat):Int)= -n by omega,show ((d.natAbs:Nat):Int)= -d by omega]
  simp[h1,h2,Int.neg_mul,Int.mul_neg]
 ·rw[show ((n.natAbs:Nat):Int)= -n by omega,show ((d.natAbs:Nat):Int)=d by omega]
  simp[h1,h2]
 ·rw[show ((n.natAbs:Nat):Int)=n by omega,show ((d.natAbs:Nat):Int)= -d by omega]
  simp[h1,h2,Int.neg_mul,Int.mul_neg]
 ·rw[show ((n.natAbs:Nat):Int)=n by omega,show ((d.natAbs:Nat):Int)=d by omega]
  simp[h1,h2]
theorem tdiv_nat (m n:Nat):Int.tdiv (m:Int) (n:Int)=((m / n:Nat):Int):=by
 rw[Int.tdiv_eq_ediv_of_nonneg (by omega)]
 rfl
theorem Make_ok {n d:Int} (h1: -9223372036854775808≤n) (h2:n<9223372036854775808) (h3: -9223372036854775808≤d) (h4:d<9223372036854775808) :
  ratio_Make n d=some (if d=0 then ((0,0),16,()) else fitQ (divQ n d)):=by
 simp only[ratio_Make,ratio_Make_b,not_or_self',Bool.and_self,cond_true]
 by_cases hd:d=0
 ·simp only[hd,decide_true,cond_true,if_true]
 ·simp only[hd,decide_false,cond_false,if_false]
  rw[size_ok h1 h2,obind_some',size_ok h3 h4,obind_some',gcd_ok _ _ (by omega),obind_some']
  have hg:0<Nat.gcd n.natAbs d.natAbs:=Nat.gcd_pos_of_pos_right _ (by omega)
  have a1:n.natAbs / Nat.gcd n.natAbs d.natAbs≤n.natAbs:=Nat.div_le_self _ _
  have a2:d.natAbs / Nat.gcd n.natAbs d.natAbs≤d.natAbs:=Nat.div_le_self _ _
  have hz:nzB ((Nat.gcd n.natAbs d.natAbs:Nat):Int)=true:=nzB_of (by omega)
  obtain ⟨m1,m2,m3⟩:=mkQ_div (s:=decide (n<0) !=decide (d<0)) (n:=n.natAbs) (d:=d.natAbs) (by omega)
  have hs:n=0→n.natAbs / Nat.gcd n.natAbs d.natAbs=0:=fun h=>by subst h;simp
  rw[hz,cond_true,cond_true,tdiv_nat,tdiv_nat]
  unfold divQ
  rw[m1]
  generalize n.natAbs / Nat.gcd n.natAbs d.natAbs=p at *
  generalize d.natAbs / Nat.gcd n.natAbs d.natAbs=q at *
  rw[u_wrap (by omega) (by omega),u_wrap (by omega) (by omega),signed_ok _ _ _ (by omega) (by omega),obind_some',fit_low m2 m3]
  have hs:sgn (bif !decide (n=0) then !decide (decide (n<0)=decide (d<0)) else false) p=sgn (decide (n<0) !=decide (d<0)) p:=by
   by_cases h0:n=0
   ·rw[hs h0]
    exact sgn_zero _ _
   ·simp only[h0,decide_false,Bool.not_false,cond_true]
    cases decide (n<0)<;>cases decide (d<0)<;>rfl
  rw[hs]
theorem Valid_ok {a:Fq}:ratio_Valid a=some (decide (okF a)):=by
 simp only[ratio_Valid,ratio_Valid_b,not_or_self',Bool.and_self,cond_true,bif_false']
 unfold okF
 by_cases h1:1≤a.2
 ·by_cases h2:a.2≤1152921504606846976
  ·by_cases h3: -1152921504606846976≤a.1
   ·by_cases h4:a.1≤1152921504606846976
    ·have e:IntKind.wrap .u64 a.2=((a.2.natAbs:Nat):Int):=by rw[u_wrap (by omega) (by omega)];omega
     simp only[ge_iff_le,h1,h2,h3,h4,decide_true,Bool.and_self,cond_true]
     rw[size_ok (by omega) (by omega),obind_some',e,gcd_ok _ _ (by omega),obind_some']
     congr 1
     rw[Bool.eq_iff_iff]
     simp only[Bool.true_and,decide_eq_true_eq,true_and]
     generalize Nat.gcd a.1.natAbs a.2.natAbs=g
     omega
    ·simp[obind_some',h4]
   ·simp[obind_some',h3]
  ·simp[obind_some',h2]
 ·simp[obind_some',h1]
end Go.Proofs.Ytnbbackjofgcfaa

namespace Go.Proofs.Ytnbbackjofgcfaa
open Try Dn Dn.Sh
theorem land32 {x:Int} (h1:0≤x) (h2:x<18446744073709551616):((Nat.land (Int.toNat (x % Int.ofNat 18446744073709551616)) (Int.toNat ((4294967295:Int) % Int.ofNat 18446744073709551616)):Nat):Int)=x % 4294967296:=by
 have e1:x % Int.ofNat 18446744073709551616=x:=Int.emod_eq_of_lt h1 h2
 have e2:Int.toNat ((4294967295:Int) % Int.ofNat 18446744073709551616)=2 ^ 32 - 1:=by decide
 rw[e1,e2]
 have:Nat.land x.toNat (2 ^ 32 - 1)=x.toNat % 2 ^ 32:=Nat.and_two_pow_sub_one_eq_mod x.toNat 32
 rw[this]
 omega
def hl (n:Nat):Int×Int:=(((n / 18446744073709551616:Nat):Int),((n % 18446744073709551616:Nat):Int))
theorem mulW {x y:Int} (x0:0≤x) (x1:x<18446744073709551616) (y0:0≤y) (y1:y<18446744073709551616):bits_Mul64 x y=some (x*y / 18446744073709551616,x*y % 18446744073709551616,()):=by
 have p32:(2:Int) ^ (32:Nat)=4294967296:=by decide
 simp only[bits_Mul64,bits_Mul64_b,p32,show decide ((0:Int)≤32)=true from rfl,cond_true]
 obtain ⟨a,b,ha,hb,hx⟩:∃a b,a=x / 4294967296∧b=x % 4294967296∧x=a*4294967296+b:=⟨_,_,rfl,rfl,by omega⟩
 obtain ⟨c,d,hc,hd,hy⟩:∃c d,c=y / 4294967296∧d=y % 4294967296∧y=c*4294967296+d:=⟨_,_,rfl,rfl,by omega⟩
 have fd:∀n:Int,Int.fdiv n 4294967296=n / 4294967296:=fun n=>Int.fdiv_eq_ediv_of_nonneg n (by omega)
 rw[land32 x0 x1,land32 y0 y1,←hb,←hd]
 simp only[fd,←ha,←hc]
 have a0:0≤a∧a≤4294967295:=by omega
 have b0:0≤b∧b≤4294967295:=by omega
 have c0:0≤c∧c≤4294967295:=by omega
 have d0:0≤d∧d≤4294967295:=by omega
 have mb:∀{m n:Int},0≤m∧m≤4294967295→0≤n∧n≤4294967295→0≤m*n∧m*n≤18446744065119617025:=fun {m n} hm hn=>⟨Int.mul_nonneg hm.1 hn.1,Int.le_trans (Int.mul_le_mul hm.2 hn.2 hn.1 (by omega)) (by decide)⟩
 have e1:=mb a0 c0
 have e2:=mb a0 d0
 have e3:=mb b0 c0
 have e4:=mb b0 d0
 have hxy:x*y=a*c*18446744073709551616+(a*d+b*c)*4294967296+b*d:=by rw[hx,hy];grind
 rw[IntKind.wrap_u64 (x*y)]
 rw[hxy]
 rw[u_wrap (x:=b) (by omega) (by omega),u_wrap (x:=d) (by omega) (by omega)]
 rw[u_wrap (x:=b*d) (by omega) (by omega),u_wrap (x:=a*d) (by omega) (by omega),u_wrap (x:=b*c) (by omega) (by omega),u_wrap (x:=a*c) (by omega) (by omega)]
 generalize b*d=bd at *
 generalize a*d=ad at *
 generalize b*c=bc at *
 generalize a*c=ac at *
 rw[u_wrap (x:=ad+bd / 4294967296) (by omega) (by omega)]
 generalize ht:ad+bd / 4294967296=t
 rw[land32 (by omega) (by omega)]
 rw[u_wrap (x:=t % 4294967296) (by omega) (by omega)]
 rw[u_wrap (x:=t % 4294967296+bc) (by omega) (by omega),u_wrap (x:=ac+t / 4294967296) (by omega) (by omega)]
 rw[u_wrap (x:=ac+t / 4294967296+(t % 4294967296+bc) / 4294967296) (by omega) (by omega)]
 congr 1
 ext
 ·simp only;omega
 ·rfl
theorem product_ok {m n:Nat} (hm:m<18446744073709551616) (hn:n<18446744073709551616):ratio_product (m:Int) (n:Int)=some (hl (m*n)):=by
 simp only[ratio_product,ratio_product_b]
 rw[mulW (by omega) (by omega) (by omega) (by omega),obind_some',←Int.natCast_mul]
 rfl
theorem hl_small {n:Nat} (h:n<18446744073709551616):hl n=(0,(n:Int)):=by
 unfold hl
 rw[Nat.div_eq_of_lt h,Nat.mod_eq_of_lt h]
 rfl
theorem hl_big {n:Nat} (h:¬ n<18446744073709551616):(hl n).1>0:=by
 unfold hl
 simp only
 omega
theorem Mul_ok {a b:Fq} (ha:okF a) (hb:okF b):ratio_Mul a b=some (fitQ (qv a*qv b)):=by
 simp only[ratio_Mul,ratio_Mul_b,Valid_ok,ha,hb,decide_true,obind_some',Bool.not_true,Bool.not_false,Bool.and_self,cond_true,cond_false,not_or_self',or_self_not]
 have ha':=ha
 have hb':=hb
 obtain ⟨⟨a1,a2⟩,⟨a3,a4⟩,a5⟩:=ha'
 obtain ⟨⟨b1,b2⟩,⟨b3,b4⟩,b5⟩:=hb'
 rw[okF_mkQ a,okF_mkQ b,mkQ_mul]
 obtain ⟨d,hd⟩:∃d:Nat,a.2=(d:Int):=⟨a.2.toNat,by omega⟩
 obtain ⟨e,he⟩:∃e:Nat,b.2=(e:Int):=⟨b.2.toNat,by omega⟩
 rw[size_ok (by omega) (by omega),size_ok (by omega) (by omega)]
 simp only[obind_some',hd,he,Int.toNat_natCast] at *
 rw[u_wrap (x:=(d:Int)) (by omega) (by omega),u_wrap (x:=(e:Int)) (by omega) (by omega),gcd_ok _ _ (by omega),obind_some',gcd_ok _ _ (by omega),obind_some']
 have sa:a.1.natAbs≤1152921504606846976:=by omega
 have sb:b.1.natAbs≤1152921504606846976:=by omega
 have za:a.1=0↔a.1.natAbs=0:=by omega
 have zb:b.1=0↔b.1.natAbs=0:=by omega
 have hlt:decide (a.1<0)=true→a.1.natAbs≠0:=fun h=>by have:=of_decide_eq_true h;omega
 rw[Int.natAbs_natCast] at a5 b5
 generalize a.1.natAbs=m at *
 generalize b.1.natAbs=n at *
 generalize decide (a.1<0)=s at *
 generalize decide (b.1<0)=t at *
 have hd0:0<d:=by omega
 have he0:0<e:=by omega
 have hg:0<Nat.gcd m e:=Nat.gcd_pos_of_pos_right _ he0
 have hh:0<Nat.gcd n d:=Nat.gcd_pos_of_pos_right _ hd0
 rw[nzB_of (show ((Nat.gcd m e:Nat):Int)≠0 by omega),nzB_of (show ((Nat.gcd n d:Nat):Int)≠0 by omega)]
 simp only[cond_true,tdiv_nat]
 have m1:m / Nat.gcd m e*Nat.gcd m e=m:=Nat.div_mul_cancel (Nat.gcd_dvd_left m e)
 have e1:e / Nat.gcd m e*Nat.gcd m e=e:=Nat.div_mul_cancel (Nat.gcd_dvd_right m e)
 have n1:n / Nat.gcd n d*Nat.gcd n d=n:=Nat.div_mul_cancel (Nat.gcd_dvd_left n d)
 have d1:d / Nat.gcd n d*Nat.gcd n d=d:=Nat.div_mul_cancel (Nat.gcd_dvd_right n d)
 have c1:Nat.Coprime (m / Nat.gcd m e) (e / Nat.gcd m e):=Nat.coprime_div_gcd_div_gcd hg
 have c2:Nat.Coprime (n / Nat.gcd n d) (d / Nat.gcd n d):=Nat.coprime_div_gcd_div_gcd hh
 have q1:m / Nat.gcd m e≤m:=Nat.div_le_self _ _
 have q2:e / Nat.gcd m e≤e:=Nat.div_le_self _ _
 have q3:n / Nat.gcd n d≤n:=Nat.div_le_self _ _
 have q4:d / Nat.gcd n d≤d:=Nat.div_le_self _ _
 have p2:0<e / Nat.gcd m e:=Nat.div_pos (Nat.le_of_dvd he0 (Nat.gcd_dvd_right m e)) hg
 have p4:0<d / Nat.gcd n d:=Nat.div_pos (Nat.le_of_dvd hd0 (Nat.gcd_dvd_right n d)) hh
 have x1:m / Nat.gcd m e∣m:=Nat.div_dvd_of_dvd (Nat.gcd_dvd_left m e)
 have x2:e / Nat.gcd m e∣e:=Nat.div_dvd_of_dvd (Nat.gcd_dvd_right m e)
 have x3:n / Nat.gcd n d∣n:=Nat.div_dvd_of_dvd (Nat.gcd_dvd_left n d)
 have x4:d / Nat.gcd n d∣d:=Nat.div_dvd_of_dvd (Nat.gcd_dvd_right n d)
 generalize Nat.gcd m e=g at *
 generalize Nat.gcd n d=h at *
 generalize m / g=m' at *
 generalize e / g=e' at *
 generalize n / h=n' at *
 generalize d / h=d' at *
 have cop:Nat.gcd (m'*n') (d'*e')=1:=by
  refine Nat.Coprime.mul_left (Nat.Coprime.mul_right ?_ c1) (Nat.Coprime.mul_right c2 ?_)
  ·exact Nat.Coprime.coprime_dvd_left x1 (Nat.Coprime.coprime_dvd_right x4 a5)
  ·exact Nat.Coprime.coprime_dvd_left x3 (Nat.Coprime.coprime_dvd_right x2 b5)
 have hq:mkRat (sgn (s !=t) (m*n)) (d*e)=mkRat (sgn (s !=t) (m'*n')) (d'*e'):=by
  refine mkQ_congr (Nat.mul_pos hd0 he0) (Nat.mul_pos p4 p2) ?_
  rw[←m1,←n1,←d1,←e1]
  grind
 rw[hq,fit_low (Nat.mul_pos p4 p2) cop]
 rw[u_wrap (by omega) (by omega),u_wrap (by omega) (by omega),product_ok (by omega) (by omega),obind_some',u_wrap (by omega) (by omega),u_wrap (by omega) (by omega),product_ok (by omega) (by omega),obind_some']
 by_cases hN:m'*n'<18446744073709551616
 ·rw[hl_small hN]
  by_cases hD:d'*e'<18446744073709551616
  ·rw[hl_small hD]
   simp only[show decide ((0:Int)>0)=false from rfl,cond_false]
   rw[signed_ok _ _ _ hN hD,obind_some']
   have hs:sgn (bif decide (((m'*n':Nat):Int)>0) then !decide (s=t) else false) (m'*n')=sgn (s !=t) (m'*n'):=by
    by_cases h0:m'*n'=0
    ·rw[h0];exact sgn_zero _ _
    ·rw[decide_eq_true (show ((m'*n':Nat):Int)>0 by omega)]
     cases s<;>cases t<;>rfl
   rw[hs]
  ·have:=hl_big hD
   simp only[show decide ((0:Int)>0)=false from rfl,cond_false,decide_eq_true this,cond_true]
   rw[if_neg (by omega)]
 ·have:=hl_big hN
  simp only[decide_eq_true this,cond_true]
  rw[if_neg (by omega)]
end Go.Proofs.Ytnbbackjofgcfaa

namespace Go.Proofs.Ytnbbackjofgcfaa
open Try Dn Dn.Sh
theorem fdiv_of {n d:Int} (h:0≤d):Int.fdiv n d=n / d:=Int.fdiv_eq_ediv_of_nonneg n h
theorem Half_ok {n:Nat} (_:n<340282366920938463463374607431768211456):ref02_Half (hl n)=some (hl (n / 2)):=by
 simp only[ref02_Half,ref02_Half_b,show decide ((0:Int)≤1)=true from rfl,show decide ((0:Int)≤63)=true from rfl,cond_true,show (2:Int) ^ (1:Nat)=2 from rfl,show (2:Int) ^ (63:Nat)=9223372036854775808 from rfl,IntKind.wrap_u64,fdiv_of (show (0:Int)≤2 by omega),hl]
 congr 1
 ext<;>simp only<;>omega
theorem Less_ok {a b:Nat}:ref02_Less (hl a) (hl b)=some (decide (a<b)):=by
 simp only[ref02_Less,ref02_Less_b]
 have e:decide (a<b)=(bif decide ((hl a).1<(hl b).1) then true else bif decide ((hl a).1=(hl b).1) then decide ((hl a).2<(hl b).2) else false):=by
  by_cases c1:(hl a).1<(hl b).1
  ·simp only[c1,decide_true,cond_true]
   simp only[hl] at c1
   exact decide_eq_true (by omega)
  ·by_cases c2:(hl a).1=(hl b).1
   ·rw[decide_eq_false c1,decide_eq_true c2,cond_true,cond_false]
    have e2:a<b↔(hl a).2<(hl b).2:=by
     simp only[hl] at c1 c2 ⊢
     omega
    rw[Bool.eq_iff_iff,decide_eq_true_iff,decide_eq_true_iff]
    exact e2
   ·simp only[c1,c2,decide_false,cond_false]
    simp only[hl] at c1 c2
    exact decide_eq_false (by omega)
 rw[e]
 cases decide ((hl a).1<(hl b).1)<;>cases decide ((hl a).1=(hl b).1)<;>rfl
theorem Minus_ok {a b:Nat} (h:b≤a) (ha:a<340282366920938463463374607431768211456):ref02_Minus (hl a) (hl b)=some (hl (a - b)):=by
 simp only[ref02_Minus,ref02_Minus_b]
 by_cases hc:(hl a).2<(hl b).2
 ·rw[decide_eq_true hc,cond_true]
  simp only[IntKind.wrap_u64,hl] at hc ⊢
  congr 1
  ext<;>simp only<;>omega
 ·rw[decide_eq_false hc,cond_false]
  simp only[IntKind.wrap_u64,hl] at hc ⊢
  congr 1
  ext<;>simp only<;>omega
theorem Minus_over {a b:Nat} (h:b≤a) (hb:a - b<340282366920938463463374607431768211456) (_:b<340282366920938463463374607431768211456):ref02_Minus (hl (a % 340282366920938463463374607431768211456)) (hl b)=some (hl (a - b)):=by
 simp only[ref02_Minus,ref02_Minus_b]
 by_cases hc:(hl (a % 340282366920938463463374607431768211456)).2<(hl b).2
 ·rw[decide_eq_true hc,cond_true]
  simp only[IntKind.wrap_u64,hl] at hc ⊢
  congr 1
  ext<;>simp only<;>omega
 ·rw[decide_eq_false hc,cond_false]
  simp only[IntKind.wrap_u64,hl] at hc ⊢
  congr 1
  ext<;>simp only<;>omega
theorem Plus_ok {m n:Nat} (h:m+n<340282366920938463463374607431768211456):ref02_Plus (hl m) (hl n)=some (hl (m+n)):=by
 simp only[ref02_Plus,ref02_Plus_b]
 by_cases hc:IntKind.wrap .u64 ((hl m).2+(hl n).2)<(hl m).2
 ·rw[decide_eq_true hc,cond_true]
  simp only[IntKind.wrap_u64,hl] at hc ⊢
  congr 1
  ext<;>simp only<;>omega
 ·rw[decide_eq_false hc,cond_false]
  simp only[IntKind.wrap_u64,hl] at hc ⊢
  congr 1
  ext<;>simp only<;>omega
theorem low1 {x:Int} (h1:0≤x) (h2:x<18446744073709551616):IntKind.wrap .u64 ((Nat.land (Int.toNat (x % Int.ofNat 18446744073709551616)) (Int.toNat ((1:Int) % Int.ofNat 18446744073709551616)):Nat):Int)=x % 2:=by
 have e1:x % Int.ofNat 18446744073709551616=x:=Int.emod_eq_of_lt h1 h2
 have e2:Int.toNat ((1:Int) % Int.ofNat 18446744073709551616)=2 ^ 1 - 1:=by decide
 rw[e1,e2]
 have:Nat.land x.toNat (2 ^ 1 - 1)=x.toNat % 2 ^ 1:=Nat.and_two_pow_sub_one_eq_mod x.toNat 1
 rw[this,IntKind.wrap_u64]
 omega
theorem even_hl {n:Nat}:decide (IntKind.wrap .u64 ((Nat.land (Int.toNat ((hl n).2 % Int.ofNat 18446744073709551616)) (Int.toNat ((1:Int) % Int.ofNat 18446744073709551616)):Nat):Int)=0)=decide (n % 2=0):=by
 rw[low1 (by simp only[hl];omega) (by simp only[hl];omega)]
 rw[Bool.eq_iff_iff,decide_eq_true_iff,decide_eq_true_iff]
 simp only[hl]
 omega
theorem zero_hl {n:Nat} (_:n<340282366920938463463374607431768211456):(decide ((hl n).1=0)&&(decide ((hl n).2=0)&&true))=decide (n=0):=by
 rw[Bool.and_true,Bool.eq_iff_iff,Bool.and_eq_true,decide_eq_true_iff,decide_eq_true_iff,decide_eq_true_iff]
 simp only[hl]
 omega
def unhl (p:Int×Int):Nat:=p.1.toNat*18446744073709551616+p.2.toNat
theorem unhl_hl {n:Nat}:unhl (hl n)=n:=by
 simp only[unhl,hl];omega
theorem gcd_half {a b:Nat} (ha:a % 2=0) (h:Nat.gcd a b % 2=1):Nat.gcd (a / 2) b=Nat.gcd a b:=by
 have h2:a / 2∣a:=Nat.div_dvd_of_dvd (Nat.dvd_of_mod_eq_zero ha)
 refine Nat.dvd_antisymm (Nat.dvd_gcd (Nat.dvd_trans (Nat.gcd_dvd_left _ _) h2) (Nat.gcd_dvd_right _ _)) (Nat.dvd_gcd ?_ (Nat.gcd_dvd_right _ _))
 have h3:Nat.gcd a b∣2*(a / 2):=by rw[show 2*(a / 2)=a by omega];exact Nat.gcd_dvd_left _ _
 refine Nat.Coprime.dvd_of_dvd_mul_left ?_ h3
 show Nat.gcd (Nat.gcd a b) 2=1
 rw[Nat.gcd_comm,Nat.gcd_rec,h]
 rfl
theorem log2_half {a:Nat} (h:2≤a):Nat.log2 (a / 2)+1=Nat.log2 a:=by
 conv=>rhs;rw[Nat.log2_def]
 rw[if_pos h]
theorem log2_mono {a b:Nat} (h:a≤b):Nat.log2 a≤Nat.log2 b:=by
 by_cases ha:a=0
 ·subst ha;simp
 ·have hb:b≠0:=by omega
  rw[Nat.le_log2 hb]
  exact Nat.le_trans ((Nat.le_log2 ha).1 (Nat.le_refl _)) h
theorem log2_dbl {a b:Nat} (ha:0<a) (h:2*a≤b):Nat.log2 a+1≤Nat.log2 b:=by
 have h1:=log2_half (a:=b) (by omega)
 have:=log2_mono (show a≤b / 2 by omega)
 omega
theorem log2_128 {a:Nat} (h:a<340282366920938463463374607431768211456):Nat.log2 a≤127:=by
 by_cases ha:a=0
 ·subst ha;simp
 ·have:Nat.log2 a<128:=(Nat.log2_lt ha).2 h
  omega
theorem Gcd_ok {A B:Nat} (hA:A<340282366920938463463374607431768211456) (hB0:0<B) (hB:B<340282366920938463463374607431768211456):ref02_Gcd (hl A) (hl B)=some (hl (Nat.gcd A B)):=by
 simp only[ref02_Gcd,ref02_Gcd_b]
 rw[zero_hl hA]
 by_cases hA0:A=0
 ·rw[decide_eq_true hA0,cond_true,hA0,Nat.gcd_zero_left]
 rw[decide_eq_false hA0,cond_false]
 have hG:Nat.gcd A B≤B:=Nat.le_of_dvd hB0 (Nat.gcd_dvd_right A B)
 have hGdef:∃G,G=Nat.gcd A B:=⟨_,rfl⟩
 obtain ⟨G,hGd⟩:=hGdef
 rw[←hGd]
 refine lpK_loop (g:=fun _=>some (hl G)) (I:=fun (x:Int×(Int×Int)×(Int×Int)×PUnit)=>∃t a b:Nat,x=((t:Int),hl a,hl b,⟨⟩)∧0<a∧a<340282366920938463463374607431768211456∧0<b∧b<340282366920938463463374607431768211456∧2 ^ t*Nat.gcd a b=G∧t+Nat.log2 a≤127)
  (μ:=fun (x:Int×(Int×Int)×(Int×Int)×PUnit)=>Nat.log2 (unhl x.2.1)) (x:=((0:Int),hl A,hl B,PUnit.unit)) ?_ ⟨0,A,B,rfl,by omega,hA,hB0,hB,by rw[hGd];simp,by have:=log2_128 hA;omega⟩ (by simp only[unhl_hl];have:=log2_128 hA;omega)
 rintro _ rec ⟨t,a,b,rfl,a0,a1,b0,b1,hg,ht⟩ hrec
 simp only[even_hl,not_or_self',cond_true]
 by_cases hev:a % 2=0∧b % 2=0
 ·rw[decide_eq_true hev.1,cond_true,decide_eq_true hev.2,cond_true,Half_ok a1,obind_some',Half_ok b1,obind_some',wrap_id (by omega) (by omega)]
  have hl2:=log2_half (a:=a) (by omega)
  refine hrec _ ⟨t+1,a / 2,b / 2,by rfl,by omega,by omega,by omega,by omega,?_,by omega⟩ (by simp only[unhl_hl];omega)
  rw[←hg,Nat.pow_succ,Nat.mul_assoc,←Nat.gcd_mul_left,show 2*(a / 2)=a by omega,show 2*(b / 2)=b by omega]
 have hodd:Nat.gcd a b % 2=1:=by
  rcases Nat.mod_two_eq_zero_or_one (Nat.gcd a b) with h | h
  ·exfalso
   have h2:=Nat.dvd_of_mod_eq_zero h
   exact hev ⟨Nat.mod_eq_zero_of_dvd (Nat.dvd_trans h2 (Nat.gcd_dvd_left a b)),Nat.mod_eq_zero_of_dvd (Nat.dvd_trans h2 (Nat.gcd_dvd_right a b))⟩
  ·exact h
 have hcond:(bif decide (a % 2=0) then decide (b % 2=0) else false)=false:=by
  rw[Bool.eq_false_iff]
  intro h
  by_cases h2:a % 2=0
  ·rw[decide_eq_true h2,cond_true,decide_eq_true_iff] at h
   exact hev ⟨h2,h⟩
  ·rw[decide_eq_false h2,cond_false] at h
   cases h
 rw[hcond,cond_false]
 clear hcond hrec
 generalize hgd:Nat.gcd a b=g at *
 refine lpK_loop (g:=fun _=>some (hl G)) (I:=fun (x:(Int×Int)×(Int×Int)×PUnit)=>∃a b:Nat,x=(hl a,hl b,⟨⟩)∧a<340282366920938463463374607431768211456∧0<b∧b<340282366920938463463374607431768211456∧Nat.gcd a b=g)
  (μ:=fun (x:(Int×Int)×(Int×Int)×PUnit)=>Nat.log2 (unhl x.1)+Nat.log2 (unhl x.2.1)+unhl x.1 % 2) (x:=(hl a,hl b,PUnit.unit)) ?_ ⟨a,b,rfl,a1,b0,b1,hgd⟩ (by simp only[unhl_hl];have:=log2_128 a1;have:=log2_128 b1;omega)
 clear hgd hev a0 a1 b0 b1
 rintro _ rec ⟨a,b,rfl,a1,b0,b1,hgd⟩ hrec
 simp only[zero_hl a1]
 by_cases ha0:a=0
 ·rw[decide_eq_true ha0,Bool.not_true,cond_false]
  have hbg:b=g:=by rw[←hgd,ha0,Nat.gcd_zero_left]
  refine lpK_loop (g:=fun _=>some (hl G)) (I:=fun (x:Int×(Int×Int)×PUnit)=>∃t b:Nat,x=((t:Int),hl b,⟨⟩)∧0<b∧2 ^ t*b=G∧t≤127)
   (μ:=fun (x:Int×(Int×Int)×PUnit)=>x.1.toNat) (x:=((t:Int),hl b,PUnit.unit)) ?_ ⟨t,b,rfl,b0,by rw[hbg];exact hg,by omega⟩ (by simp only;omega)
  rintro _ rec ⟨t,b,rfl,b0,hg,ht⟩ hrec
  simp only
  by_cases ht0:t=0
  ·rw[decide_eq_false (by omega),cond_false,←hg,ht0];simp
  ·rw[decide_eq_true (by omega),cond_true]
   obtain ⟨s,rfl⟩:∃s,t=s+1:=⟨t - 1,by omega⟩
   have h2:2 ^ s*(b+b)=G:=by rw[←hg,Nat.pow_succ,Nat.mul_assoc];congr 1;omega
   have h3:b+b≤G:=by
    rw[←h2]
    exact Nat.le_mul_of_pos_left _ (Nat.pow_pos (by omega))
   rw[Plus_ok (by omega),obind_some',wrap_id (by omega) (by omega)]
   exact hrec _ ⟨s,b+b,by simp only[Prod.mk.injEq,and_true];omega,by omega,h2,by omega⟩ (by simp only;omega)
 rw[decide_eq_false ha0,Bool.not_false,cond_true]
 refine lpK_loop (g:=fun _=>some (hl G)) (I:=fun (x:(Int×Int)×PUnit)=>∃c:Nat,x=(hl c,⟨⟩)∧0<c∧c<340282366920938463463374607431768211456∧Nat.gcd c b=g∧(c=a∨2*c≤a))
  (μ:=fun (x:(Int×Int)×PUnit)=>Nat.log2 (unhl x.1)) (x:=(hl a,PUnit.unit)) ?_ ⟨a,rfl,by omega,a1,hgd,.inl rfl⟩ (by simp only[unhl_hl];have:=log2_128 a1;omega)
 rintro _ rec3 ⟨c,rfl,c0,c1,hgc,hca⟩ hrec3
 simp only[even_hl]
 by_cases hce:c % 2=0
 ·rw[decide_eq_true hce,cond_true,Half_ok c1,obind_some']
  have hl2:=log2_half (a:=c) (by omega)
  exact hrec3 _ ⟨c / 2,rfl,by omega,by omega,by rw[gcd_half hce (by rw[hgc];exact hodd),hgc],.inr (by omega)⟩ (by simp only[unhl_hl];omega)
 rw[decide_eq_false hce,cond_false]
 clear hrec3
 refine lpK_loop (g:=fun _=>some (hl G)) (I:=fun (x:(Int×Int)×PUnit)=>∃d:Nat,x=(hl d,⟨⟩)∧0<d∧d≤b∧Nat.gcd c d=g)
  (μ:=fun (x:(Int×Int)×PUnit)=>Nat.log2 (unhl x.1)) (x:=(hl b,PUnit.unit)) ?_ ⟨b,rfl,b0,Nat.le_refl _,hgc⟩ (by simp only[unhl_hl];have:=log2_128 b1;omega)
 rintro _ rec4 ⟨d,rfl,d0,d1,hgd'⟩ hrec4
 simp only[even_hl]
 by_cases hde:d % 2=0
 ·rw[decide_eq_true hde,cond_true,Half_ok (by omega),obind_some']
  have hl2:=log2_half (a:=d) (by omega)
  exact hrec4 _ ⟨d / 2,rfl,by omega,by omega,by rw[Nat.gcd_comm,gcd_half hde (by rw[Nat.gcd_comm,hgd'];exact hodd),Nat.gcd_comm,hgd']⟩ (by simp only[unhl_hl];omega)
 rw[decide_eq_false hde,cond_false,Less_ok,obind_some']
 clear hrec4
 have lb:=log2_mono d1
 have la:Nat.log2 c+1≤Nat.log2 a+a % 2:=by
  rcases hca with rfl | h
  ·omega
  ·have:=log2_dbl c0 h;omega
 by_cases hlt:c<d
 ·rw[decide_eq_true hlt,cond_true,Minus_ok (by omega) (by omega),obind_some']
  have l1:=log2_mono (show d - c≤d by omega)
  exact hrec _ ⟨d - c,c,rfl,by omega,c0,c1,by rw[Nat.gcd_sub_self_left (by omega),Nat.gcd_comm,hgd']⟩ (by simp only[unhl_hl];omega)
 ·rw[decide_eq_false hlt,cond_false,Minus_ok (by omega) (by omega),obind_some']
  have l1:=log2_mono (show c - d≤c by omega)
  exact hrec _ ⟨c - d,d,rfl,by omega,d0,by omega,by rw[Nat.gcd_sub_self_left (by omega),hgd']⟩ (by simp only[unhl_hl];omega)
end Go.Proofs.Ytnbbackjofgcfaa

namespace Go.Proofs.Ytnbbackjofgcfaa
open Try Dn Dn.Sh
theorem dbl_hl {n:Nat}:(IntKind.wrap .u64 (IntKind.wrap .u64 ((hl n).1*2)+(hl n).2 / 9223372036854775808),IntKind.wrap .u64 ((hl n).2*2))=hl (2*n % 340282366920938463463374607431768211456):=by
 simp only[IntKind.wrap_u64,hl]
 ext<;>simp only<;>omega
theorem dblb_hl {r a:Nat} (_:r<340282366920938463463374607431768211456) (ha:a<340282366920938463463374607431768211456):(IntKind.wrap .u64 (IntKind.wrap .u64 ((hl r).1*2)+(hl r).2 / 9223372036854775808),IntKind.wrap .u64 (IntKind.wrap .u64 ((hl r).2*2)+(hl a).1 / 9223372036854775808))=hl ((2*r+2*a / 340282366920938463463374607431768211456) % 340282366920938463463374607431768211456):=by
 simp only[IntKind.wrap_u64,hl]
 ext<;>simp only<;>omega
theorem dbl1_hl {q:Nat} (hq:2*q+1<340282366920938463463374607431768211456):(IntKind.wrap .u64 (IntKind.wrap .u64 ((hl q).1*2)+(hl q).2 / 9223372036854775808),IntKind.wrap .u64 (IntKind.wrap .u64 ((hl q).2*2)+1))=hl (2*q+1):=by
 simp only[IntKind.wrap_u64,hl]
 ext<;>simp only<;>omega
theorem over_hl {r a:Nat} (hr:r<340282366920938463463374607431768211456) (ha:a<340282366920938463463374607431768211456):decide ((hl r).1 / 9223372036854775808>0)=decide (340282366920938463463374607431768211456≤2*r+2*a / 340282366920938463463374607431768211456):=by
 rw[Bool.eq_iff_iff,decide_eq_true_iff,decide_eq_true_iff]
 simp only[hl]
 omega
theorem divMod_of {t b q r:Nat} (hr:r<b) (h:t=q*b+r):t / b=q∧t % b=r:=by
 subst h
 constructor
 ·rw[Nat.mul_comm,Nat.mul_add_div (by omega),Nat.div_eq_of_lt hr,Nat.add_zero]
 ·rw[Nat.mul_comm,Nat.mul_add_mod,Nat.mod_eq_of_lt hr]
theorem RDiv_ok {A B:Nat} (hA:A<340282366920938463463374607431768211456) (hB0:0<B) (hB:B<340282366920938463463374607431768211456):ref02_Div (hl A) (hl B)=some (hl (A / B),hl (A % B),()):=by
 simp only[ref02_Div,ref02_Div_b,show decide ((0:Int)≤1)=true from rfl,show decide ((0:Int)≤63)=true from rfl,cond_true,not_or_self',show (2:Int) ^ (1:Nat)=2 from rfl,show (2:Int) ^ (63:Nat)=9223372036854775808 from rfl,fdiv_of (show (0:Int)≤9223372036854775808 by omega),Bool.and_self]
 by_cases hs:A<18446744073709551616∧B<18446744073709551616
 ·rw[hl_small hs.1,hl_small hs.2]
  have q1:A / B≤A:=Nat.div_le_self _ _
  have q2:A % B≤A:=Nat.mod_le _ _
  simp only[decide_true,cond_true,nzB_of (show (B:Int)≠0 by omega),tdiv_nat]
  have hq:((A / B:Nat):Int)<18446744073709551616:=by
   generalize A / B=z at *
   omega
  rw[hl_small (show A / B<18446744073709551616 by omega),hl_small (show A % B<18446744073709551616 by omega),u_wrap (Int.natCast_nonneg _) hq,Int.tmod_eq_emod_of_nonneg (by omega),Int.natCast_emod]
 ·have hc:(bif decide ((hl A).1=0) then decide ((hl B).1=0) else false)=false:=by
   rw[Bool.eq_false_iff]
   intro h
   by_cases h1:(hl A).1=0
   ·rw[decide_eq_true h1,cond_true,decide_eq_true_iff] at h
    simp only[hl] at h1 h
    omega
   ·rw[decide_eq_false h1,cond_false] at h
    cases h
  rw[hc,cond_false]
  refine lpK_loop (g:=fun _=>some (hl (A / B),hl (A % B),())) (I:=fun (x:Int×(Int×Int)×(Int×Int)×(Int×Int)×PUnit)=>∃i X:Nat,i≤128∧X=A*2 ^ i∧x=((i:Int),hl (X % 340282366920938463463374607431768211456),hl (X / 340282366920938463463374607431768211456 / B),hl (X / 340282366920938463463374607431768211456 % B),⟨⟩))
   (μ:=fun (x:Int×(Int×Int)×(Int×Int)×(Int×Int)×PUnit)=>(128 - x.1).toNat) (x:=((0:Int),hl A,((0:Int),(0:Int)),((0:Int),(0:Int)),PUnit.unit)) ?_ ⟨0,A,by omega,by simp,by
    rw[Nat.mod_eq_of_lt hA,Nat.div_eq_of_lt hA,Nat.zero_div,Nat.zero_mod];rfl⟩ (by simp only;omega)
  rintro _ rec ⟨i,X,hi,hX,rfl⟩ hrec
  simp only
  by_cases hlt:i<128
  ·rw[decide_eq_true (show (i:Int)<128 by omega),cond_true]
   have hX2:2*X=A*2 ^ (i+1):=by rw[hX,Nat.pow_succ];grind
   have hT:2*X / 340282366920938463463374607431768211456≤A:=by
    have:A*2 ^ (i+1)≤A*2 ^ 128:=Nat.mul_le_mul_left _ (Nat.pow_le_pow_right (by omega) (by omega))
    rw[hX2]
    refine Nat.div_le_of_le_mul ?_
    rw[show (2:Nat) ^ 128=340282366920938463463374607431768211456 from rfl,Nat.mul_comm A 340282366920938463463374607431768211456] at this
    exact this
   have ha:=Nat.mod_lt X (show 340282366920938463463374607431768211456>0 by omega)
   have hr:=Nat.mod_lt (X / 340282366920938463463374607431768211456) hB0
   have e1:2*X % 340282366920938463463374607431768211456=2*(X % 340282366920938463463374607431768211456) % 340282366920938463463374607431768211456:=by omega
   have e2:2*X / 340282366920938463463374607431768211456=2*(X / 340282366920938463463374607431768211456)+2*(X % 340282366920938463463374607431768211456) / 340282366920938463463374607431768211456:=by omega
   have e3:X / 340282366920938463463374607431768211456=X / 340282366920938463463374607431768211456 / B*B+X / 340282366920938463463374607431768211456 % B:=by rw[Nat.mul_comm];exact (Nat.div_add_mod _ _).symm
   have hq:X / 340282366920938463463374607431768211456 / B≤X / 340282366920938463463374607431768211456:=Nat.div_le_self _ _
   rw[wrap_id (x:=(i:Int)+1) (by omega) (by omega)]
   have bit:2*(X % 340282366920938463463374607431768211456) / 340282366920938463463374607431768211456≤1:=by omega
   have step:∀q r,r<B→2*X / 340282366920938463463374607431768211456=q*B+r→rec ((i:Int)+1,hl (2*(X % 340282366920938463463374607431768211456) % 340282366920938463463374607431768211456),hl q,hl r,PUnit.unit)=some (hl (A / B),hl (A % B),()):=fun q r h1 h2=>by
    obtain ⟨h3,h4⟩:=divMod_of h1 h2
    exact hrec _ ⟨i+1,2*X,by omega,hX2,by rw[h3,h4,e1];rfl⟩ (by simp only;omega)
   generalize hTd:X / 340282366920938463463374607431768211456=T at *
   generalize hαd:X % 340282366920938463463374607431768211456=α at *
   generalize hqd:T / B=q at *
   generalize hrd:T % B=r at *
   have hq2:2*q+1<340282366920938463463374607431768211456:=by
    by_cases hq0:q=0
    ·omega
    ·have h1:q*1≤q*B:=Nat.mul_le_mul_left _ hB0
     have h2:A≤340282366920938463463374607431768211455:=by omega
     omega
   rw[over_hl (r:=r) (a:=α) (by omega) ha,dbl_hl (n:=α),dblb_hl (r:=r) (a:=α) (by omega) ha]
   have hmul2:2*(q*B)=2*q*B:=by rw[Nat.mul_assoc]
   have hmul3:(2*q+1)*B=2*q*B+B:=by rw[Nat.add_mul,Nat.one_mul]
   by_cases ho:340282366920938463463374607431768211456≤2*r+2*α / 340282366920938463463374607431768211456
   ·simp only[decide_eq_true ho,Bool.not_true,cond_true,cond_false,obind_some']
    rw[Minus_over (a:=2*r+2*α / 340282366920938463463374607431768211456) (b:=B) (by omega) (by omega) hB,obind_some',dbl1_hl hq2]
    exact step _ _ (by omega) (by rw[hmul3];omega)
   ·have hR:(2*r+2*α / 340282366920938463463374607431768211456) % 340282366920938463463374607431768211456=2*r+2*α / 340282366920938463463374607431768211456:=Nat.mod_eq_of_lt (by omega)
    simp only[decide_eq_false ho,hR,Bool.not_false,cond_true,cond_false,obind_some',Bool.or_true,Less_ok]
    by_cases hl2:2*r+2*α / 340282366920938463463374607431768211456<B
    ·simp only[decide_eq_true hl2,Bool.not_true,cond_false]
     have e:=dbl_hl (n:=q)
     rw[Nat.mod_eq_of_lt (show 2*q<340282366920938463463374607431768211456 by omega)] at e
     rw[e]
     exact step _ _ (by omega) (by omega)
    ·simp only[decide_eq_false hl2,Bool.not_false,cond_true]
     rw[Minus_ok (by omega) (by omega),obind_some',dbl1_hl hq2]
     exact step _ _ (by omega) (by rw[hmul3];omega)
  ·have:i=128:=by omega
   subst this
   have hx:X / 340282366920938463463374607431768211456=A:=by
    rw[hX]
    exact Nat.mul_div_cancel A (by decide)
   rw[decide_eq_false (by omega),cond_false,hx]
theorem RMade_ok {s:Bool} {n d:Nat} (hn:n<340282366920938463463374607431768211456) (hd0:0<d) (hd:d<340282366920938463463374607431768211456):ref02_Made (hl n) s (hl d)=some (fitQ (mkRat (sgn s n) d)):=by
 have hG0:0<Nat.gcd n d:=Nat.gcd_pos_of_pos_right _ hd0
 have hG:Nat.gcd n d≤d:=Nat.le_of_dvd hd0 (Nat.gcd_dvd_right n d)
 simp only[ref02_Made,ref02_Made_b,not_or_self',or_self_not,cond_true]
 rw[zero_hl hd,decide_eq_false (show ¬ d=0 by omega),cond_false,Gcd_ok hn hd0 hd,obind_some',RDiv_ok hn hG0 (by omega),obind_some',RDiv_ok hd hG0 (by omega),obind_some']
 obtain ⟨m1,m2,m3⟩:=mkQ_div (s:=s) (n:=n) (d:=d) hd0
 rw[m1,fit_low m2 m3]
 have q1:n / Nat.gcd n d≤n:=Nat.div_le_self _ _
 have q2:d / Nat.gcd n d≤d:=Nat.div_le_self _ _
 generalize n / Nat.gcd n d=p at *
 generalize d / Nat.gcd n d=q at *
 simp only
 have big:∀{x:Nat},x<340282366920938463463374607431768211456→(bif decide ((hl x).1>0) then true else decide ((hl x).2>1152921504606846976))=decide (¬ x≤1152921504606846976):=fun {x} hx=>by
  by_cases h1:(hl x).1>0
  ·rw[decide_eq_true h1,cond_true]
   simp only[hl] at h1
   exact (decide_eq_true (by omega)).symm
  ·rw[decide_eq_false h1,cond_false,Bool.eq_iff_iff,decide_eq_true_iff,decide_eq_true_iff]
   simp only[hl] at h1 ⊢
   omega
 rw[big (show p<340282366920938463463374607431768211456 by omega)]
 by_cases hp:p≤1152921504606846976
 ·simp only[hp,not_true_eq_false,decide_false,cond_false,true_and]
  rw[big (show q<340282366920938463463374607431768211456 by omega)]
  by_cases hq:q≤1152921504606846976
  ·simp only[hq,not_true_eq_false,decide_false,cond_false,if_true]
   rw[hl_small (show p<18446744073709551616 by omega),hl_small (show q<18446744073709551616 by omega)]
   simp only
   rw[wrap_id (x:=(p:Int)) (by omega) (by omega),wrap_id (x:=(q:Int)) (by omega) (by omega),wrap_id (x:=0 - (p:Int)) (by omega) (by omega)]
   cases s<;>simp[sgn]
  ·simp only[hq,not_false_eq_true,decide_true,cond_true,if_false]
 ·simp only[hp,not_false_eq_true,decide_true,cond_true,false_and,if_false]
theorem RMade_zero {s:Bool} {n:Int×Int}:ref02_Made n s (0,0)=some ((0,0),16,()):=by
 simp only[ref02_Made,ref02_Made_b]
 rfl
theorem RSize_ok {x:Int} (h1: -9223372036854775808≤x) (h2:x<9223372036854775808):ref02_Size x=some (x.natAbs:Int):=by
 simp only[ref02_Size,ref02_Size_b]
 by_cases h:x<0
 ·simp only[h,decide_true,cond_true]
  rw[IntKind.wrap_u64,IntKind.wrap_u64]
  congr 1;omega
 ·simp only[h,decide_false,cond_false]
  rw[u_wrap (by omega) (by omega)]
  congr 1;omega
theorem not_dec_eq {a b:Prop} [Decidable a] [Decidable b]:(!decide (decide a=decide b))=(decide a !=decide b):=by
 cases decide a<;>cases decide b<;>rfl
theorem RMake_ok {n d:Int} (h1: -9223372036854775808≤n) (h2:n<9223372036854775808) (h3: -9223372036854775808≤d) (h4:d<9223372036854775808) :
  ref02_Make n d=some (if d=0 then ((0,0),16,()) else fitQ (divQ n d)):=by
 simp only[ref02_Make,ref02_Make_b]
 rw[RSize_ok h1 h2,obind_some',RSize_ok h3 h4,obind_some',not_dec_eq]
 by_cases hd:d=0
 ·subst hd
  rw[if_pos rfl,show ((0:Int),(((0:Int).natAbs:Nat):Int))=(0,0) from rfl,RMade_zero,obind_some']
 ·rw[if_neg hd,←hl_small (show n.natAbs<18446744073709551616 by omega),←hl_small (show d.natAbs<18446744073709551616 by omega),RMade_ok (by omega) (by omega) (by omega),obind_some']
  rfl
end Go.Proofs.Ytnbbackjofgcfaa

namespace Go.Proofs.Ytnbbackjofgcfaa
open Try Dn Dn.Sh
theorem rLess_ok {a b:Nat}:ratio_less (hl a) (hl b)=some (decide (a<b)):=by
 simp only[ratio_less,ratio_less_b]
 have e:decide (a<b)=(bif decide ((hl a).1<(hl b).1) then true else bif decide ((hl a).1=(hl b).1) then decide ((hl a).2<(hl b).2) else false):=by
  by_cases c1:(hl a).1<(hl b).1
  ·simp only[c1,decide_true,cond_true]
   simp only[hl] at c1
   exact decide_eq_true (by omega)
  ·by_cases c2:(hl a).1=(hl b).1
   ·rw[decide_eq_false c1,decide_eq_true c2,cond_true,cond_false]
    have e2:a<b↔(hl a).2<(hl b).2:=by
     simp only[hl] at c1 c2 ⊢
     omega
    rw[Bool.eq_iff_iff,decide_eq_true_iff,decide_eq_true_iff]
    exact e2
   ·simp only[c1,c2,decide_false,cond_false]
    simp only[hl] at c1 c2
    exact decide_eq_false (by omega)
 rw[e]
 cases decide ((hl a).1<(hl b).1)<;>cases decide ((hl a).1=(hl b).1)<;>rfl
theorem addC_hl {m n:Nat}:addC (hl m).2 (hl n).2 0=(((m % 18446744073709551616+n % 18446744073709551616) / 18446744073709551616:Nat):Int):=by
 simp only[addC,hl,Int.toNat_natCast,Int.toNat_zero,Nat.add_zero]
 rfl
theorem subC_hl {m n:Nat}:subC (hl m).2 (hl n).2 0=(((if m % 18446744073709551616<n % 18446744073709551616 then 1 else 0:Nat):Nat):Int):=by
 simp only[subC,hl,Int.toNat_natCast,Int.toNat_zero,Nat.add_zero]
 cases h:Nat.blt (m % 18446744073709551616) (n % 18446744073709551616) with
 | true =>
  have h':m % 18446744073709551616<n % 18446744073709551616:=by simpa [Nat.blt_eq] using h
  rw[if_pos h'];rfl
 | false =>
  have h':¬ m % 18446744073709551616<n % 18446744073709551616:=by
   intro h2
   have:Nat.blt (m % 18446744073709551616) (n % 18446744073709551616)=true:=by simpa [Nat.blt_eq] using h2
   rw[this] at h;cases h
  rw[if_neg h'];rfl
theorem rPlus_ok {m n:Nat} (h:m+n<340282366920938463463374607431768211456):ratio_plus (hl m) (hl n)=some (hl (m+n)):=by
 simp only[ratio_plus,ratio_plus_b,addC_hl]
 have c1:decide ((0:Int)≤(0:Int))=true:=rfl
 have c2:decide ((0:Int)≤(1:Int))=true:=rfl
 rw[c1,c2,decide_eq_true (show (0:Int)≤(((m % 18446744073709551616+n % 18446744073709551616) / 18446744073709551616:Nat):Int) by omega),decide_eq_true (show (((m % 18446744073709551616+n % 18446744073709551616) / 18446744073709551616:Nat):Int)≤1 by omega)]
 simp only[Bool.and_self,cT,Option.some.injEq,addO,hl,Int.toNat_natCast,Int.toNat_zero,Nat.add_zero,Prod.mk.injEq]
 constructor
 ·show ((_:Nat):Int)=((_:Nat):Int)
  omega
 ·show ((_:Nat):Int)=((_:Nat):Int)
  omega
theorem rMinus_ok {m n:Nat} (h:n≤m) (hm:m<340282366920938463463374607431768211456):ratio_minus (hl m) (hl n)=some (hl (m - n)):=by
 simp only[ratio_minus,ratio_minus_b,subC_hl]
 have c1:decide ((0:Int)≤(0:Int))=true:=rfl
 have c2:decide ((0:Int)≤(1:Int))=true:=rfl
 have hb:(if m % 18446744073709551616<n % 18446744073709551616 then 1 else 0:Nat)≤1:=by split<;>omega
 have hc:(if m % 18446744073709551616<n % 18446744073709551616 then 1 else 0:Nat)=1∧m % 18446744073709551616<n % 18446744073709551616∨(if m % 18446744073709551616<n % 18446744073709551616 then 1 else 0:Nat)=0∧¬ m % 18446744073709551616<n % 18446744073709551616:=by split<;>simp_all
 generalize (if m % 18446744073709551616<n % 18446744073709551616 then 1 else 0:Nat)=c at *
 rw[c1,c2,decide_eq_true (show (0:Int)≤(c:Int) by omega),decide_eq_true (show (c:Int)≤1 by omega)]
 simp only[Bool.and_self,cT,Option.some.injEq,subO,hl,Int.toNat_natCast,Int.toNat_zero,Nat.sub_zero,Prod.mk.injEq]
 constructor
 ·show ((_:Nat):Int)=((_:Nat):Int)
  omega
 ·show ((_:Nat):Int)=((_:Nat):Int)
  omega
noncomputable def lenT (T:ByteArray) (a b:Int):Option Int :=
 bif decide (a≥(256:Int)) then bif decide ((0:Int)≤(8:Int)) then bif inB (IntKind.wrap .u8 (Int.fdiv a ((2:Int) ^ (8:Nat)))) (256:Nat) then
  some (IntKind.wrap .i64 (IntKind.wrap .i64 (b+(8:Int))+IntKind.wrap .i64 (byteAt T (Int.toNat (IntKind.wrap .u8 (Int.fdiv a ((2:Int) ^ (8:Nat)))))))) else none else none
 else bif inB (IntKind.wrap .u8 a) (256:Nat) then some (IntKind.wrap .i64 (b+IntKind.wrap .i64 (byteAt T (Int.toNat (IntKind.wrap .u8 a))))) else none
noncomputable def lenU (T:ByteArray) (a b:Int):Option Int:=bif decide (a≥(65536:Int)) then bif decide ((0:Int)≤(16:Int)) then lenT T (Int.fdiv a ((2:Int) ^ (16:Nat))) (IntKind.wrap .i64 (b+(16:Int))) else none else lenT T a b
theorem len_table:∃T:ByteArray,(∀i,i<256→0≤byteAt T i∧byteAt T i≤8∧(0<i→i<2 ^ (byteAt T i).toNat∧2 ^ (byteAt T i).toNat≤2*i)) ∧
  ∀x,bits_Len64 x=bif decide (x≥(4294967296:Int)) then bif decide ((0:Int)≤(32:Int)) then lenU T (Int.fdiv x ((2:Int) ^ (32:Nat))) 32 else none else lenU T x 0 :=
 ⟨_,by decide +kernel,fun _=>rfl⟩
def isLen (n L:Nat):Prop:=n<2 ^ L∧2 ^ L≤2*n
theorem isLen_shift {n k L:Nat} (h:isLen (n / 2 ^ k) L):isLen n (L+k):=by
 obtain ⟨h1,h2⟩:=h
 have hk:0<2 ^ k:=Nat.two_pow_pos k
 unfold isLen
 rw[Nat.pow_add]
 constructor
 ·exact (Nat.div_lt_iff_lt_mul hk).1 h1
 ·have h3:n / 2 ^ k*2 ^ k≤n:=Nat.div_mul_le_self n _
  have h4:=Nat.mul_le_mul_right (2 ^ k) h2
  rw[Nat.mul_assoc] at h4
  omega
theorem u8_wrap {x:Int} (h1:0≤x) (h2:x<256):IntKind.wrap .u8 x=x:=by
 rw[IntKind.wrap_u8];omega
theorem Len64_ok {n:Nat} (h0:0<n) (h1:n<18446744073709551616):∃L:Nat,bits_Len64 (n:Int)=some (L:Int)∧isLen n L∧L≤64:=by
 obtain ⟨T,hT,hx⟩:=len_table
 have tab:∀i:Nat,0<i→i<256→∃L:Nat,byteAt T i=L∧L≤8∧isLen i L:=fun i h2 h3=>by
  obtain ⟨a1,a2,a3⟩:=hT i h3
  exact ⟨(byteAt T i).toNat,by omega,by omega,a3 h2⟩
 have p8:(2:Int) ^ (8:Nat)=256:=by decide
 have p16:(2:Int) ^ (16:Nat)=65536:=by decide
 have p32:(2:Int) ^ (32:Nat)=4294967296:=by decide
 have stepT:∀a b:Nat,0<a→a<65536→b≤48→∃L:Nat,lenT T (a:Int) (b:Int)=some ((L+b:Nat):Int)∧isLen a L∧L≤16:=fun a b ha hb hb2=>by
  unfold lenT
  by_cases h:a<256
  ·obtain ⟨L,e1,e2,e3⟩:=tab a ha h
   rw[decide_eq_false (show ¬ (a:Int)≥256 by omega),cond_false,u8_wrap (by omega) (by omega),inB_of (by omega) (by omega),cond_true,Int.toNat_natCast,e1,wrap_id (x:=(L:Int)) (by omega) (by omega),wrap_id (by omega) (by omega)]
   exact ⟨L,by congr 1;omega,e3,by omega⟩
  ·obtain ⟨L,e1,e2,e3⟩:=tab (a / 256) (by omega) (by omega)
   rw[decide_eq_true (show (a:Int)≥256 by omega),cond_true,show decide ((0:Int)≤8)=true from rfl,cond_true,p8,fdiv_of (by omega),u8_wrap (by omega) (by omega),inB_of (by omega) (by omega),cond_true,show ((a:Int) / 256).toNat=a / 256 by omega,e1,wrap_id (x:=(L:Int)) (by omega) (by omega),wrap_id (x:=(b:Int)+8) (by omega) (by omega),wrap_id (by omega) (by omega)]
   exact ⟨L+8,by congr 1;omega,isLen_shift (k:=8) e3,by omega⟩
 have stepU:∀a b:Nat,0<a→a<4294967296→b≤32→∃L:Nat,lenU T (a:Int) (b:Int)=some ((L+b:Nat):Int)∧isLen a L∧L≤32:=fun a b ha hb hb2=>by
  unfold lenU
  by_cases h:a<65536
  ·obtain ⟨L,e1,e2,e3⟩:=stepT a b ha h (by omega)
   rw[decide_eq_false (show ¬ (a:Int)≥65536 by omega),cond_false,e1]
   exact ⟨L,rfl,e2,by omega⟩
  ·obtain ⟨L,e1,e2,e3⟩:=stepT (a / 65536) (b+16) (by omega) (by omega) (by omega)
   rw[decide_eq_true (show (a:Int)≥65536 by omega),cond_true,show decide ((0:Int)≤16)=true from rfl,cond_true,p16,fdiv_of (by omega),wrap_id (by omega) (by omega),show (a:Int) / 65536=((a / 65536:Nat):Int) by omega,show (b:Int)+16=((b+16:Nat):Int) by omega,e1]
   exact ⟨L+16,by congr 1;omega,isLen_shift (k:=16) e2,by omega⟩
 rw[hx]
 by_cases h:n<4294967296
 ·obtain ⟨L,e1,e2,e3⟩:=stepU n 0 h0 h (by omega)
  rw[decide_eq_false (show ¬ (n:Int)≥4294967296 by omega),cond_false]
  exact ⟨L,e1,e2,by omega⟩
 ·obtain ⟨L,e1,e2,e3⟩:=stepU (n / 4294967296) 32 (by omega) (by omega) (by omega)
  rw[decide_eq_true (show (n:Int)≥4294967296 by omega),cond_true,show decide ((0:Int)≤32)=true from rfl,cond_true,p32,fdiv_of (by omega),show (n:Int) / 4294967296=((n / 4294967296:Nat):Int) by omega]
  exact ⟨L+32,e1,isLen_shift (k:=32) e2,by omega⟩
end Go.Proofs.Ytnbbackjofgcfaa

namespace Go.Proofs.Ytnbbackjofgcfaa
open Try Dn Dn.Sh
theorem digit_stop {q r U u y1 y0:Int} (hq:q*y1+r=U) (_:0≤u) (hy:0<y1*4294967296+y0) (hge:(U*4294967296+u) / (y1*4294967296+y0)≤q) (ht:q*y0≤4294967296*r+u):q=(U*4294967296+u) / (y1*4294967296+y0):=by
 refine Int.le_antisymm (Int.le_ediv_of_mul_le hy ?_) hge
 rw[Int.mul_add,←Int.mul_assoc]
 omega
theorem digit_less {q r U u y1 y0:Int} (hq:q*y1+r=U) (hy:0<y1*4294967296+y0) (hU:U*4294967296+u<(y1*4294967296+y0)*4294967296) (ht:q≥4294967296∨q*y0>4294967296*r+u):(U*4294967296+u) / (y1*4294967296+y0)≤q - 1:=by
 have:(U*4294967296+u) / (y1*4294967296+y0)<q:=by
  refine Int.ediv_lt_of_lt_mul hy ?_
  rcases ht with ht | ht
  ·exact Int.lt_of_lt_of_le hU (by rw[Int.mul_comm q];exact Int.mul_le_mul_of_nonneg_left ht (by omega))
  ·rw[Int.mul_add,←Int.mul_assoc]
   omega
 omega
theorem digit_end {q r U u y1 y0:Int} (hq:q*y1+r=U) (hu:0≤u) (hy:0<y1*4294967296+y0) (h0:0≤y0∧y0<4294967296) (hge:(U*4294967296+u) / (y1*4294967296+y0)≤q - 1) (hr:r+y1≥4294967296) (hq2:1≤q∧q≤4294967297):q - 1=(U*4294967296+u) / (y1*4294967296+y0):=by
 refine Int.le_antisymm (Int.le_ediv_of_mul_le hy ?_) hge
 have e1:(q - 1)*y0≤4294967296*4294967295:=Int.mul_le_mul (by omega) (by omega) h0.1 (by omega)
 rw[Int.mul_add,←Int.mul_assoc,Int.sub_mul q 1 y1,Int.one_mul]
 omega
theorem lor_add {s:Nat} {a b:Nat} (h:b<2 ^ s):Nat.lor (a*2 ^ s) b=a*2 ^ s+b:=by
 have:=Nat.two_pow_add_eq_or_of_lt h a
 rw[Nat.mul_comm a]
 exact this.symm
theorem digit_loop {α R:Type} {F:(α→Option R)→α→Option R} {J:Int→Option R} {U u y1 y0:Int} (enc:Int→Int→α) (dec:α→Int) (hdec:∀q r,dec (enc q r)=q)
  (hu:0≤u) (h0:0≤y0∧y0<4294967296) (h1:2147483648≤y1∧y1<4294967296) (hU0:0≤U) (hU:U*4294967296+u<(y1*4294967296+y0)*4294967296)
  (hF1:∀again q r,1≤q→q≤4294967297→0≤r→r<4294967296→(q≥4294967296∨q*y0>4294967296*r+u)→F again (enc q r)=bif decide (r+y1≥4294967296) then J (q - 1) else again (enc (q - 1) (r+y1)))
  (hF2:∀again q r,0≤q→q<4294967296→0≤r→r<4294967296→¬ q*y0>4294967296*r+u→F again (enc q r)=J q)
  {q r:Int} (hq:q*y1+r=U) (hq0:0≤q) (hq2:q≤4294967297) (hr0:0≤r) (hr1:r<4294967296) (hge:(U*4294967296+u) / (y1*4294967296+y0)≤q) :
  lpK α R F (enc q r)=J ((U*4294967296+u) / (y1*4294967296+y0)):=by
 have hD:0≤(U*4294967296+u) / (y1*4294967296+y0):=Int.ediv_nonneg (by omega) (by omega)
 refine lpK_loop (g:=fun _=>J ((U*4294967296+u) / (y1*4294967296+y0))) (I:=fun x=>∃q r,x=enc q r∧q*y1+r=U∧0≤q∧q≤4294967297∧0≤r∧r<4294967296∧(U*4294967296+u) / (y1*4294967296+y0)≤q) (μ:=fun x=>(dec x).toNat) ?_ ⟨q,r,rfl,hq,hq0,hq2,hr0,hr1,hge⟩ (by rw[hdec];omega)
 rintro _ rec ⟨q,r,rfl,hq,hq0,hq2,hr0,hr1,hge⟩ hrec
 have hy:0<y1*4294967296+y0:=by omega
 by_cases ht:q≥4294967296∨q*y0>4294967296*r+u
 ·have hl:=digit_less hq hy hU ht
  rw[hF1 _ _ _ (by omega) hq2 hr0 hr1 ht]
  by_cases hr:r+y1≥4294967296
  ·rw[decide_eq_true hr,cond_true,digit_end hq hu hy h0 hl hr ⟨by omega,hq2⟩]
  ·rw[decide_eq_false hr,cond_false]
   refine hrec _ ⟨q - 1,r+y1,rfl,?_,by omega,by omega,by omega,by omega,hl⟩ (by rw[hdec,hdec];omega)
   rw[Int.sub_mul,Int.one_mul];omega
 ·rw[not_or] at ht
  rw[hF2 _ _ _ hq0 (by omega) hr0 hr1 ht.2,←digit_stop hq hu hy hge (by omega)]
theorem digit_init {U u y1 y0:Int} (hu:0≤u∧u<4294967296) (h0:0≤y0∧y0<4294967296) (h1:2147483648≤y1∧y1<4294967296) (hU0:0≤U) (hU:U<y1*4294967296+y0) :
  (U / y1)*y1+(U - U / y1*y1)=U∧0≤U / y1∧U / y1≤4294967297∧0≤U - U / y1*y1∧U - U / y1*y1<4294967296∧(U*4294967296+u) / (y1*4294967296+y0)≤U / y1:=by
 have e1:=Int.mul_ediv_add_emod U y1
 have e2:=Int.emod_nonneg U (show y1≠0 by omega)
 have e3:=Int.emod_lt_of_pos U (show 0<y1 by omega)
 rw[Int.mul_comm] at e1
 refine ⟨by omega,Int.ediv_nonneg hU0 (by omega),?_,by omega,by omega,?_⟩
 ·have:U / y1<4294967298:=Int.ediv_lt_of_lt_mul (by omega) (by omega)
  omega
 ·have:(U*4294967296+u) / (y1*4294967296+y0)<U / y1+1:=by
   refine Int.ediv_lt_of_lt_mul (by omega) ?_
   have hq:0≤U / y1:=Int.ediv_nonneg hU0 (by omega)
   have e4:0≤(U / y1+1)*y0:=Int.mul_nonneg (by omega) h0.1
   rw[Int.mul_add,←Int.mul_assoc,Int.add_mul (U / y1) 1 y1,Int.one_mul]
   omega
  omega
noncomputable def dv2E (_ _ Y u0 P q1 un:Int) (q:Int):Option (Int×Int×Unit):=some (IntKind.wrap .u64 (IntKind.wrap .u64 (q1*4294967296)+q),Int.fdiv (IntKind.wrap .u64 (IntKind.wrap .u64 (IntKind.wrap .u64 (un*4294967296)+u0) - IntKind.wrap .u64 (q*Y))) P,())
noncomputable def dv2 (y1 y0 Y u0 P q1 un:Int):Option (Int×Int×Unit):=lpK (Int×Int×PUnit) (Int×Int×PUnit) (fun again x=>bif (bif decide (x.2.1≥4294967296) then true else decide (IntKind.wrap .u64 (x.2.1*y0)>IntKind.wrap .u64 (IntKind.wrap .u64 (4294967296*x.1)+u0))) then
 (bif decide (IntKind.wrap .u64 (x.1+y1)≥4294967296) then dv2E y1 y0 Y u0 P q1 un (IntKind.wrap .u64 (x.2.1 - 1)) else again (IntKind.wrap .u64 (x.1+y1),IntKind.wrap .u64 (x.2.1 - 1),PUnit.unit)) else dv2E y1 y0 Y u0 P q1 un x.2.1)
 (IntKind.wrap .u64 (un - IntKind.wrap .u64 (IntKind.wrap .u64 (Int.tdiv un y1)*y1)),IntKind.wrap .u64 (Int.tdiv un y1),PUnit.unit)
theorem dv2_ok {y1 y0 u0 P q1 un:Int} (hu:0≤u0∧u0<4294967296) (h0:0≤y0∧y0<4294967296) (h1:2147483648≤y1∧y1<4294967296) (hU0:0≤un) (hU:un<y1*4294967296+y0) :
  dv2 y1 y0 (y1*4294967296+y0) u0 P q1 un=dv2E y1 y0 (y1*4294967296+y0) u0 P q1 un ((un*4294967296+u0) / (y1*4294967296+y0)):=by
 obtain ⟨i1,i2,i3,i4,i5,i6⟩:=digit_init (U:=un) hu h0 h1 hU0 hU
 unfold dv2
 rw[Int.tdiv_eq_ediv_of_nonneg hU0]
 have hm:un / y1*y1≤un:=by omega
 have hm0:0≤un / y1*y1:=Int.mul_nonneg i2 (by omega)
 rw[u_wrap (x:=un / y1) i2 (by omega),u_wrap (x:=un / y1*y1) hm0 (by omega),u_wrap (x:=un - un / y1*y1) (by omega) (by omega)]
 refine digit_loop (α:=Int×Int×PUnit) (enc:=fun q r=>(r,q,PUnit.unit)) (dec:=fun x=>x.2.1) (fun _ _=>rfl) hu.1 h0 h1 hU0 (by omega) ?_ ?_ i1 i2 i3 i4 i5 i6
 ·intro again q r g1 g2 g3 g4 g5
  have e1:0≤q*y0:=Int.mul_nonneg (by omega) h0.1
  have e2:q*y0≤4294967297*4294967295:=Int.mul_le_mul g2 (by omega) h0.1 (by omega)
  simp only
  rw[u_wrap (x:=q*y0) e1 (by omega),u_wrap (x:=4294967296*r) (by omega) (by omega),u_wrap (x:=4294967296*r+u0) (by omega) (by omega),u_wrap (x:=r+y1) (by omega) (by omega),u_wrap (x:=q - 1) (by omega) (by omega)]
  have e:(bif decide (q≥4294967296) then true else decide (q*y0>4294967296*r+u0))=true:=by
   rcases g5 with ht | ht
   ·rw[decide_eq_true ht];rfl
   ·rw[decide_eq_true ht];cases decide (q≥4294967296)<;>rfl
  rw[e,cT]
 ·intro again q r g1 g2 g3 g4 g5
  have e1:0≤q*y0:=Int.mul_nonneg (by omega) h0.1
  have e2:q*y0≤4294967297*4294967295:=Int.mul_le_mul (by omega) (by omega) h0.1 (by omega)
  simp only
  rw[u_wrap (x:=q*y0) e1 (by omega),u_wrap (x:=4294967296*r) (by omega) (by omega),u_wrap (x:=4294967296*r+u0) (by omega) (by omega)]
  rw[decide_eq_false (show ¬ q≥4294967296 by omega),decide_eq_false g5,cF,cF]
noncomputable def dv1E (y1 y0 Y u1 u0 P U:Int) (q1:Int):Option (Int×Int×Unit):=dv2 y1 y0 Y u0 P q1 (IntKind.wrap .u64 (IntKind.wrap .u64 (IntKind.wrap .u64 (U*4294967296)+u1) - IntKind.wrap .u64 (q1*Y)))
noncomputable def dv1 (y1 y0 Y u1 u0 P U:Int):Option (Int×Int×Unit):=lpK (Int×Int×PUnit) (Int×Int×PUnit) (fun again x=>bif (bif decide (x.1≥4294967296) then true else decide (IntKind.wrap .u64 (x.1*y0)>IntKind.wrap .u64 (IntKind.wrap .u64 (4294967296*x.2.1)+u1))) then
 (bif decide (IntKind.wrap .u64 (x.2.1+y1)≥4294967296) then dv1E y1 y0 Y u1 u0 P U (IntKind.wrap .u64 (x.1 - 1)) else again (IntKind.wrap .u64 (x.1 - 1),IntKind.wrap .u64 (x.2.1+y1),PUnit.unit)) else dv1E y1 y0 Y u1 u0 P U x.1)
 (IntKind.wrap .u64 (Int.tdiv U y1),IntKind.wrap .u64 (U - IntKind.wrap .u64 (IntKind.wrap .u64 (Int.tdiv U y1)*y1)),PUnit.unit)
theorem dv1_ok {y1 y0 u1 u0 P U:Int} (hu:0≤u1∧u1<4294967296) (h0:0≤y0∧y0<4294967296) (h1:2147483648≤y1∧y1<4294967296) (hU0:0≤U) (hU:U<y1*4294967296+y0) :
  dv1 y1 y0 (y1*4294967296+y0) u1 u0 P U=dv1E y1 y0 (y1*4294967296+y0) u1 u0 P U ((U*4294967296+u1) / (y1*4294967296+y0)):=by
 obtain ⟨i1,i2,i3,i4,i5,i6⟩:=digit_init (U:=U) hu h0 h1 hU0 hU
 unfold dv1
 rw[Int.tdiv_eq_ediv_of_nonneg hU0]
 have hm:U / y1*y1≤U:=by omega
 have hm0:0≤U / y1*y1:=Int.mul_nonneg i2 (by omega)
 rw[u_wrap (x:=U / y1) i2 (by omega),u_wrap (x:=U / y1*y1) hm0 (by omega),u_wrap (x:=U - U / y1*y1) (by omega) (by omega)]
 refine digit_loop (α:=Int×Int×PUnit) (enc:=fun q r=>(q,r,PUnit.unit)) (dec:=fun x=>x.1) (fun _ _=>rfl) hu.1 h0 h1 hU0 (by omega) ?_ ?_ i1 i2 i3 i4 i5 i6
 ·intro again q r g1 g2 g3 g4 g5
  have e1:0≤q*y0:=Int.mul_nonneg (by omega) h0.1
  have e2:q*y0≤4294967297*4294967295:=Int.mul_le_mul g2 (by omega) h0.1 (by omega)
  simp only
  rw[u_wrap (x:=q*y0) e1 (by omega),u_wrap (x:=4294967296*r) (by omega) (by omega),u_wrap (x:=4294967296*r+u1) (by omega) (by omega),u_wrap (x:=r+y1) (by omega) (by omega),u_wrap (x:=q - 1) (by omega) (by omega)]
  have e:(bif decide (q≥4294967296) then true else decide (q*y0>4294967296*r+u1))=true:=by
   rcases g5 with ht | ht
   ·rw[decide_eq_true ht];rfl
   ·rw[decide_eq_true ht];cases decide (q≥4294967296)<;>rfl
  rw[e,cT]
 ·intro again q r g1 g2 g3 g4 g5
  have e1:0≤q*y0:=Int.mul_nonneg (by omega) h0.1
  have e2:q*y0≤4294967297*4294967295:=Int.mul_le_mul (by omega) (by omega) h0.1 (by omega)
  simp only
  rw[u_wrap (x:=q*y0) e1 (by omega),u_wrap (x:=4294967296*r) (by omega) (by omega),u_wrap (x:=4294967296*r+u1) (by omega) (by omega)]
  rw[decide_eq_false (show ¬ q≥4294967296 by omega),decide_eq_false g5,cF,cF]
theorem dv_ok {U W Y P:Nat} (hY:9223372036854775808≤Y) (hY2:Y<18446744073709551616) (hW:W<18446744073709551616) (hU:U<Y) :
  dv1 ((Y:Int) / 4294967296) ((Y:Int) % 4294967296) (Y:Int) ((W:Int) / 4294967296) ((W:Int) % 4294967296) (P:Int) (U:Int)=some ((((U*18446744073709551616+W) / Y:Nat):Int),(((U*18446744073709551616+W) % Y / P:Nat):Int),()):=by
 have eY:(Y:Int) / 4294967296*4294967296+(Y:Int) % 4294967296=Y:=by omega
 have h1:=dv1_ok (y1:=(Y:Int) / 4294967296) (y0:=(Y:Int) % 4294967296) (u1:=(W:Int) / 4294967296) (u0:=(W:Int) % 4294967296) (P:=(P:Int)) (U:=(U:Int)) (by omega) (by omega) (by omega) (by omega) (by omega)
 rw[eY] at h1
 rw[h1]
 unfold dv1E
 obtain ⟨A,hA⟩:∃A:Nat,A=U*4294967296+W / 4294967296:=⟨_,rfl⟩
 have hAi:(U:Int)*4294967296+(W:Int) / 4294967296=(A:Int):=by omega
 rw[hAi]
 have hq1:A / Y<4294967296:=(Nat.div_lt_iff_lt_mul (by omega)).2 (by omega)
 have d1:=Nat.div_add_mod A Y
 have d2:=Nat.mod_lt A (show Y>0 by omega)
 rw[show (A:Int) / (Y:Int)=((A / Y:Nat):Int) from rfl]
 have hun:IntKind.wrap .u64 (IntKind.wrap .u64 (IntKind.wrap .u64 ((U:Int)*4294967296)+(W:Int) / 4294967296) - IntKind.wrap .u64 (((A / Y:Nat):Int)*(Y:Int)))=((A % Y:Nat):Int):=by
  rw[←Int.natCast_mul,Nat.mul_comm (A / Y)]
  generalize A / Y=q1 at *
  generalize Y*q1=m at *
  rw[IntKind.wrap_u64,IntKind.wrap_u64,IntKind.wrap_u64,IntKind.wrap_u64]
  omega
 rw[hun]
 have h2:=dv2_ok (y1:=(Y:Int) / 4294967296) (y0:=(Y:Int) % 4294967296) (u0:=(W:Int) % 4294967296) (P:=(P:Int)) (q1:=((A / Y:Nat):Int)) (un:=((A % Y:Nat):Int)) (by omega) (by omega) (by omega) (by omega) (by omega)
 rw[eY] at h2
 rw[h2]
 unfold dv2E
 obtain ⟨B,hB⟩:∃B:Nat,B=A % Y*4294967296+W % 4294967296:=⟨_,rfl⟩
 have hBi:((A % Y:Nat):Int)*4294967296+(W:Int) % 4294967296=(B:Int):=by omega
 rw[hBi,show (B:Int) / (Y:Int)=((B / Y:Nat):Int) from rfl]
 have hq0:B / Y<4294967296:=(Nat.div_lt_iff_lt_mul (by omega)).2 (by omega)
 have d3:=Nat.div_add_mod B Y
 have d4:=Nat.mod_lt B (show Y>0 by omega)
 have hN:U*18446744073709551616+W=(A / Y*4294967296+B / Y)*Y+B % Y:=by
  rw[Nat.add_mul,Nat.mul_right_comm,Nat.mul_comm (A / Y),Nat.mul_comm (B / Y)]
  omega
 obtain ⟨n1,n2⟩:=divMod_of d4 hN
 rw[n1,n2]
 have hrest:IntKind.wrap .u64 (IntKind.wrap .u64 (IntKind.wrap .u64 (((A % Y:Nat):Int)*4294967296)+(W:Int) % 4294967296) - IntKind.wrap .u64 (((B / Y:Nat):Int)*(Y:Int)))=((B % Y:Nat):Int):=by
  rw[←Int.natCast_mul,Nat.mul_comm (B / Y)]
  generalize B / Y=q0 at *
  generalize Y*q0=m at *
  generalize A % Y=r1 at *
  rw[IntKind.wrap_u64,IntKind.wrap_u64,IntKind.wrap_u64,IntKind.wrap_u64]
  omega
 rw[hrest,fdiv_of (by omega)]
 generalize A / Y=q1 at *
 generalize B / Y=q0 at *
 rw[u_wrap (x:=(q1:Int)*4294967296) (by omega) (by omega),u_wrap (by omega) (by omega)]
 rfl
theorem tmod_nat (m n:Nat):Int.tmod (m:Int) (n:Int)=((m % n:Nat):Int):=by
 rw[Int.tmod_eq_emod_of_nonneg (by omega)]
 rfl
theorem jnT {α R:Type} (j:α→Option R) (f:(α→Option R)→Option R):jnK α R j f=f j:=Eq.trans rfl rfl
theorem Div64_ok {h l y:Nat} (hy:h<y) (hy2:y<18446744073709551616) (hl0:l<18446744073709551616):bits_Div64 (h:Int) (l:Int) (y:Int)=some ((((h*18446744073709551616+l) / y:Nat):Int),(((h*18446744073709551616+l) % y:Nat):Int),()):=by
 simp only[bits_Div64,bits_Div64_b,jnT]
 rw[decide_eq_false (show ¬ (y:Int)=0 by omega),cF,decide_eq_false (show ¬ (y:Int)≤(h:Int) by omega),cF]
 have hz:nzB (y:Int)=true:=nzB_of (by omega)
 by_cases h0:h=0
 ·subst h0
  rw[decide_eq_true (show ((0:Nat):Int)=0 from rfl),cT,hz,cT,cT,tdiv_nat,tmod_nat,Nat.zero_mul,Nat.zero_add]
  have:=Nat.div_le_self l y
  generalize l / y=d at *
  rw[u_wrap (by omega) (by omega)]
 ·rw[decide_eq_false (show ¬ (h:Int)=0 by omega),cF]
  obtain ⟨L,e1,⟨e2,e3⟩,e4⟩:=Len64_ok (n:=y) (by omega) hy2
  simp only[bits_LeadingZeros64,bits_LeadingZeros64_b,e1,obind_some']
  rw[wrap_id (x:=64 - (L:Int)) (by omega) (by omega)]
  obtain ⟨s,hs⟩:∃s:Nat,L+s=64:=⟨64 - L,by omega⟩
  have w1:IntKind.wrap .u64 (64 - (L:Int))=(s:Int):=by rw[u_wrap (by omega) (by omega)];omega
  have w2:IntKind.wrap .u64 (64 - (s:Int))=(L:Int):=by rw[u_wrap (by omega) (by omega)];omega
  have p2:∀k:Nat,(2:Int) ^ k=((2 ^ k:Nat):Int):=fun k=>by rw[Int.natCast_pow];rfl
  have p32:(2:Int) ^ (32:Nat)=4294967296:=by decide
  simp only[w1,w2,Int.toNat_natCast,Nat.min_eq_left (show s≤64 by omega),Nat.min_eq_left (show L≤64 by omega),p32]
  simp only[p2]
  have hPQ:2 ^ s*2 ^ L=18446744073709551616:=by rw[←Nat.pow_add,show s+L=64 by omega]
  have hP:0<2 ^ s:=Nat.two_pow_pos s
  have hQ:0<2 ^ L:=Nat.two_pow_pos L
  have hYlt:y*2 ^ s<18446744073709551616:=by rw[←hPQ,Nat.mul_comm (2 ^ s)];exact Nat.mul_lt_mul_of_pos_right e2 hP
  have hYge:9223372036854775808≤y*2 ^ s:=by
   have:=Nat.mul_le_mul_right (2 ^ s) e3
   rw[Nat.mul_comm (2 ^ L),hPQ,Nat.mul_assoc] at this
   omega
  have hhP:h*2 ^ s+2 ^ s≤y*2 ^ s:=by rw[←Nat.succ_mul];exact Nat.mul_le_mul_right _ hy
  have hlQ:l / 2 ^ L<2 ^ s:=by rw[Nat.div_lt_iff_lt_mul hQ,hPQ];exact hl0
  have hlor:IntKind.wrap .u64 ((Nat.lor (Int.toNat (IntKind.wrap .u64 ((h:Int)*((2 ^ s:Nat):Int)) % Int.ofNat 18446744073709551616)) (Int.toNat (Int.fdiv (l:Int) ((2 ^ L:Nat):Int) % Int.ofNat 18446744073709551616)):Nat):Int)=((h*2 ^ s+l / 2 ^ L:Nat):Int):=by
   have a1:IntKind.wrap .u64 ((h:Int)*((2 ^ s:Nat):Int))=((h*2 ^ s:Nat):Int):=by rw[←Int.natCast_mul,u_wrap (by omega) (by omega)]
   have a2:Int.fdiv (l:Int) ((2 ^ L:Nat):Int)=((l / 2 ^ L:Nat):Int):=by rw[fdiv_of (by omega)];rfl
   have a3:∀n:Nat,n<18446744073709551616→Int.toNat ((n:Int) % Int.ofNat 18446744073709551616)=n:=fun n hn=>by
    rw[show Int.ofNat 18446744073709551616=(18446744073709551616:Int) from rfl];omega
   rw[a1,a2,a3 (h*2 ^ s) (by omega),a3 (l / 2 ^ L) (by omega),lor_add hlQ]
   exact u_wrap (Int.natCast_nonneg _) (by
    have h5:h*2 ^ s+l / 2 ^ L<18446744073709551616:=by omega
    exact Int.ofNat_lt.2 h5)
  have hlo:IntKind.wrap .u64 ((l:Int)*((2 ^ s:Nat):Int))=((l % 2 ^ L*2 ^ s:Nat):Int):=by
   rw[←Int.natCast_mul,IntKind.wrap_u64]
   have a1:l*2 ^ s=(l / 2 ^ L)*18446744073709551616+l % 2 ^ L*2 ^ s:=by
    rw[←hPQ,Nat.mul_comm (2 ^ s),←Nat.mul_assoc,←Nat.add_mul,Nat.mul_comm (l / 2 ^ L),Nat.div_add_mod]
   have a2:l % 2 ^ L*2 ^ s<18446744073709551616:=by rw[←hPQ,Nat.mul_comm (2 ^ s)];exact Nat.mul_lt_mul_of_pos_right (Nat.mod_lt _ hQ) hP
   rw[a1]
   generalize l / 2 ^ L=A at *
   generalize l % 2 ^ L*2 ^ s=B at *
   omega
  have hlolt:l % 2 ^ L*2 ^ s<18446744073709551616:=by rw[←hPQ,Nat.mul_comm (2 ^ s)];exact Nat.mul_lt_mul_of_pos_right (Nat.mod_lt _ hQ) hP
  have hN:(h*18446744073709551616+l)*2 ^ s=(h*2 ^ s+l / 2 ^ L)*18446744073709551616+l % 2 ^ L*2 ^ s:=by
   have a1:l*2 ^ s=(l / 2 ^ L)*18446744073709551616+l % 2 ^ L*2 ^ s:=by
    rw[←hPQ,Nat.mul_comm (2 ^ s),←Nat.mul_assoc,←Nat.add_mul,Nat.mul_comm (l / 2 ^ L),Nat.div_add_mod]
   rw[Nat.add_mul,a1,Nat.add_mul,Nat.mul_right_comm]
   omega
  have hY:IntKind.wrap .u64 ((y:Int)*((2 ^ s:Nat):Int))=((y*2 ^ s:Nat):Int):=by rw[←Int.natCast_mul,u_wrap (by omega) (by omega)]
  have hdiv:(h*18446744073709551616+l) / y=((h*2 ^ s+l / 2 ^ L)*18446744073709551616+l % 2 ^ L*2 ^ s) / (y*2 ^ s):=by rw[←hN,Nat.mul_div_mul_right _ _ hP]
  have hmod:((h*18446744073709551616+l) % y)*2 ^ s=((h*2 ^ s+l / 2 ^ L)*18446744073709551616+l % 2 ^ L*2 ^ s) % (y*2 ^ s):=by rw[←hN,Nat.mul_mod_mul_right]
  rw[hlor,hlo,hY]
  have hU:h*2 ^ s+l / 2 ^ L<y*2 ^ s:=by omega
  have hm:(h*18446744073709551616+l) % y=((h*2 ^ s+l / 2 ^ L)*18446744073709551616+l % 2 ^ L*2 ^ s) % (y*2 ^ s) / 2 ^ s:=by rw[←hmod,Nat.mul_div_cancel _ hP]
  rw[hdiv,hm]
  generalize h*2 ^ s+l / 2 ^ L=U at *
  generalize l % 2 ^ L*2 ^ s=W at *
  generalize y*2 ^ s=Y at *
  generalize 2 ^ s=P at *
  clear e2 e3 e1 hlor hlo hN hdiv hmod hm hlQ hPQ hhP hY
  have hdv:=dv_ok (P:=P) hYge hYlt hlolt hU
  rw[←hdv]
  have c1:decide ((0:Int)≤(s:Int))=true:=decide_eq_true (by omega)
  have c2:decide ((0:Int)≤(L:Int))=true:=decide_eq_true (by omega)
  have c3:decide ((0:Int)≤(32:Int))=true:=rfl
  have c4:nzB ((Y:Int) / 4294967296)=true:=nzB_of (by omega)
  have m1:∀n:Nat,n<18446744073709551616→IntKind.wrap .u64 ((Nat.land (Int.toNat ((n:Int) % Int.ofNat 18446744073709551616)) (Int.toNat ((4294967295:Int) % Int.ofNat 18446744073709551616)):Nat):Int)=(n:Int) % 4294967296:=fun n hn=>by
   rw[land32 (by omega) (by omega),u_wrap (by omega) (by omega)]
  simp only[fdiv_of (show (0:Int)≤4294967296 by omega),c1,c2,c3,c4,m1 Y hYlt,m1 W hlolt,or_self_not,Bool.not_not,Bool.and_self,cT]
  rfl
end Go.Proofs.Ytnbbackjofgcfaa

namespace Go.Proofs.Ytnbbackjofgcfaa
open Try Dn Dn.Sh
theorem over_ok {n b:Nat} (hb0:0<b) (hb:b<18446744073709551616) (hn:n<340282366920938463463374607431768211456):ratio_over (hl n) (b:Int)=some (hl (n / b),((n % b:Nat):Int),()):=by
 have hz:nzB (b:Int)=true:=nzB_of (by omega)
 obtain ⟨h,l,hh,hl',hnn⟩:∃h l:Nat,h=n / 18446744073709551616∧l=n % 18446744073709551616∧n=h*18446744073709551616+l:=⟨_,_,rfl,rfl,by omega⟩
 have e:hl n=((h:Int),(l:Int)):=by unfold hl;rw[hh,hl']
 rw[e]
 simp only[ratio_over,ratio_over_b]
 rw[hz,tmod_nat,Div64_ok (Nat.mod_lt h hb0) hb (by omega),obind_some']
 have d1:=Nat.div_add_mod h b
 have d2:=Nat.mod_lt h hb0
 obtain ⟨A,hA⟩:∃A,A=h % b*18446744073709551616+l:=⟨_,rfl⟩
 rw[←hA]
 have d3:=Nat.div_add_mod A b
 have d4:=Nat.mod_lt A hb0
 have d5:A / b<18446744073709551616:=(Nat.div_lt_iff_lt_mul hb0).2 (by
  have:(h % b+1)*18446744073709551616≤b*18446744073709551616:=Nat.mul_le_mul_right _ d2
  rw[Nat.mul_comm 18446744073709551616 b]
  omega)
 have hN:n=(h / b*18446744073709551616+A / b)*b+A % b:=by
  have e1:(h / b*18446744073709551616+A / b)*b=b*(h / b)*18446744073709551616+b*(A / b):=by grind
  rw[e1,hnn]
  generalize b*(h / b)=x at *
  generalize b*(A / b)=y at *
  generalize A % b=r at *
  generalize h % b=r1 at *
  clear e hz hb0 hb hn hh hl' hnn d5 e1
  omega
 obtain ⟨n1,n2⟩:=divMod_of d4 hN
 rw[n1,n2,tdiv_nat]
 have d6:h / b<18446744073709551616:=Nat.lt_of_le_of_lt (Nat.div_le_self h b) (by omega)
 generalize h / b=x at *
 generalize A / b=y at *
 rw[u_wrap (x:=(x:Int)) (by omega) (by omega)]
 unfold hl
 rw[show (x*18446744073709551616+y) / 18446744073709551616=x by omega,show (x*18446744073709551616+y) % 18446744073709551616=y by omega]
 rfl
theorem sum_cop {na nb:Int} {da A B:Nat} (ha:Nat.gcd na.natAbs da=1) (hA:A∣da) (hAB:Nat.gcd A B=1):Nat.gcd (na*B+nb*A).natAbs A=1:=by
 have d1:=Nat.gcd_dvd_left (na*B+nb*A).natAbs A
 have d2:=Nat.gcd_dvd_right (na*B+nb*A).natAbs A
 generalize Nat.gcd (na*B+nb*A).natAbs A=d at *
 have e1:(d:Int)∣na*B+nb*A:=Int.ofNat_dvd_left.2 d1
 have e2:(d:Int)∣nb*A:=Int.dvd_mul_of_dvd_right (Int.ofNat_dvd.2 d2)
 have e3:(d:Int)∣na*B:=(Int.dvd_iff_dvd_of_dvd_add e1).2 e2
 have e4:d∣na.natAbs*B:=by
  have:=Int.ofNat_dvd_left.1 e3
  rwa [Int.natAbs_mul,Int.natAbs_natCast] at this
 have e5:Nat.Coprime d na.natAbs:=(Nat.Coprime.coprime_dvd_right (Nat.dvd_trans d2 hA) ha).symm
 have e6:d∣B:=Nat.Coprime.dvd_of_dvd_mul_left e5 e4
 have e7:=Nat.dvd_gcd d2 e6
 rw[hAB] at e7
 exact Nat.dvd_one.1 e7
theorem sum_plain {na nb:Int} {da db g A B:Nat} (ha:Nat.gcd na.natAbs da=1) (hb:Nat.gcd nb.natAbs db=1) (h1:da=A*g) (h2:db=B*g) (hAB:Nat.gcd A B=1) (hg:0<g) (hA:0<A) (hB:0<B) {c:Nat} (hc:c=Nat.gcd g (na*B+nb*A).natAbs) :
  mkRat na da+mkRat nb db=mkRat (na*B+nb*A) (A*db)∧Nat.gcd ((na*B+nb*A).natAbs / c) (A*(db / c))=1∧0<c∧c∣(na*B+nb*A).natAbs∧c∣db:=by
 have hc0:0<c:=by rw[hc];exact Nat.gcd_pos_of_pos_left _ hg
 have k1:Nat.gcd (na*B+nb*A).natAbs A=1:=sum_cop ha ⟨g,h1⟩ hAB
 have k2:Nat.gcd (na*B+nb*A).natAbs B=1:=by
  rw[Int.add_comm]
  exact sum_cop hb ⟨g,h2⟩ (by rw[Nat.gcd_comm];exact hAB)
 have c1:c∣(na*B+nb*A).natAbs:=by rw[hc];exact Nat.gcd_dvd_right _ _
 have c2:c∣g:=by rw[hc];exact Nat.gcd_dvd_left _ _
 refine ⟨?_,?_,hc0,c1,by rw[h2];exact Nat.dvd_trans c2 (Nat.dvd_mul_left g B)⟩
 ·have p1:0<A*g:=Nat.mul_pos hA hg
  have p2:0<B*g:=Nat.mul_pos hB hg
  have p3:0<A*(B*g):=Nat.mul_pos hA p2
  rw[Rat.mkRat_add_mkRat _ _ (by omega) (by omega),h1,h2,Rat.mkRat_eq_iff (Nat.ne_of_gt (Nat.mul_pos p1 p2)) (by omega)]
  simp only[Int.natCast_mul]
  grind
 ·have c3:Nat.gcd ((na*B+nb*A).natAbs / c) (g / c)=1:=by
   rw[hc,Nat.gcd_comm]
   exact Nat.gcd_div_gcd_div_gcd_of_pos_left hg
  have hdb:db / c=B*(g / c):=by rw[h2,Nat.mul_div_assoc _ c2]
  have dv:(na*B+nb*A).natAbs / c∣(na*B+nb*A).natAbs:=Nat.div_dvd_of_dvd c1
  rw[hdb]
  exact Nat.Coprime.mul_right (Nat.Coprime.coprime_dvd_left dv k1) (Nat.Coprime.mul_right (Nat.Coprime.coprime_dvd_left dv k2) c3)
theorem Add_ok {a b:Fq} (ha:okF a) (hb:okF b):ratio_Add a b=some (fitQ (qv a+qv b)):=by
 obtain ⟨na,da'⟩:=a
 obtain ⟨nb,db'⟩:=b
 have ha':=ha
 have hb':=hb
 unfold okF at ha' hb'
 simp only at ha' hb'
 obtain ⟨⟨a1,a2⟩,⟨a3,a4⟩,a5⟩:=ha'
 obtain ⟨⟨b1,b2⟩,⟨b3,b4⟩,b5⟩:=hb'
 obtain ⟨da,rfl⟩:∃da:Nat,da'=da:=⟨da'.toNat,by omega⟩
 obtain ⟨db,rfl⟩:∃db:Nat,db'=db:=⟨db'.toNat,by omega⟩
 rw[Int.natAbs_natCast] at a5 b5
 simp only[ratio_Add,ratio_Add_b,Valid_ok,decide_eq_true ha,decide_eq_true hb,obind_some',Bool.not_true,Bool.not_false,Bool.or_true,cT,cF,jnT]
 rw[u_wrap (x:=(da:Int)) (by omega) (by omega),u_wrap (x:=(db:Int)) (by omega) (by omega),gcd_ok _ _ (by omega),obind_some',size_ok (by omega) (by omega),obind_some',size_ok (by omega) (by omega)]
 have hg:0<Nat.gcd da db:=Nat.gcd_pos_of_pos_left _ (by omega)
 have hgl:Nat.gcd da db≤da:=Nat.gcd_le_left _ (by omega)
 obtain ⟨A,hA⟩:∃A,A=da / Nat.gcd da db:=⟨_,rfl⟩
 obtain ⟨B,hB⟩:∃B,B=db / Nat.gcd da db:=⟨_,rfl⟩
 have hAg:da=A*Nat.gcd da db:=by rw[hA,Nat.div_mul_cancel (Nat.gcd_dvd_left _ _)]
 have hBg:db=B*Nat.gcd da db:=by rw[hB,Nat.div_mul_cancel (Nat.gcd_dvd_right _ _)]
 have hAB:Nat.gcd A B=1:=by rw[hA,hB];exact Nat.gcd_div_gcd_div_gcd_of_pos_left (by omega)
 have hA0:0<A:=by rw[hA];exact Nat.div_pos (Nat.gcd_le_left _ (by omega)) hg
 have hB0:0<B:=by rw[hB];exact Nat.div_pos (Nat.gcd_le_right _ (by omega)) hg
 have hAl:A≤da:=by rw[hA];exact Nat.div_le_self _ _
 have hBl:B≤db:=by rw[hB];exact Nat.div_le_self _ _
 have hz:nzB ((Nat.gcd da db:Nat):Int)=true:=nzB_of (by omega)
 rw[hz,cT,tdiv_nat,tdiv_nat,←hA,←hB,u_wrap (x:=(A:Int)) (by omega) (by omega),u_wrap (x:=(B:Int)) (by omega) (by omega)]
 have x1:na.natAbs*B≤1152921504606846976*1152921504606846976:=Nat.mul_le_mul (by omega) (by omega)
 have y1:nb.natAbs*A≤1152921504606846976*1152921504606846976:=Nat.mul_le_mul (by omega) (by omega)
 rw[product_ok (by omega) (by omega),obind_some',obind_some',cT,product_ok (by omega) (by omega),obind_some']
 have hsum:=sum_plain (na:=na) (nb:=nb) a5 b5 hAg hBg hAB hg hA0 hB0 rfl
 generalize Nat.gcd da db=g at *
 have hv:qv (na,(da:Int))+qv (nb,(db:Int))=mkRat na da+mkRat nb db:=rfl
 rw[hv,hsum.1]
 simp only[or_self_not,Bool.not_not,cT]
 have tail:∀(s:Bool) (N:Nat),N≤2658455991569831745807614120560689152→sgn s N=na*B+nb*A→(bif decide ((hl N).1=0)&&(decide ((hl N).2=0)&&true) then some (((0:Int),(1:Int)),(0:Int),PUnit.unit) else
   obind (ratio_over (hl N) (g:Int)) fun t_5=>obind (ratio_gcd (g:Int) t_5.2.1) fun t_1=>obind (ratio_over (hl N) t_1) fun t_6=>bif nzB t_1 then obind (ratio_product (A:Int) (IntKind.wrap .u64 (Int.tdiv (db:Int) t_1))) fun t =>
    bif bif decide (t_6.1.1>0) then true else decide (t.1>0) then some (((0:Int),(0:Int)),(5:Int),PUnit.unit) else obind (ratio_signed s t_6.1.2 t.2) fun t=>some (t.1,t.2.1,PUnit.unit) else none)=some (fitQ (mkRat (na*B+nb*A) (A*db))):=by
  intro s N hN hs
  have hNT:(na*B+nb*A).natAbs=N:=by rw[←hs];unfold sgn;split<;>simp
  rw[hNT] at hsum
  rw[zero_hl (by omega)]
  by_cases h0:N=0
  ·rw[decide_eq_true h0,cT,←hs,h0,show sgn s 0=0 by unfold sgn;cases s<;>rfl,Rat.zero_mkRat]
   rfl
  ·obtain ⟨c,hc⟩:∃c,c=Nat.gcd g N:=⟨_,rfl⟩
   rw[←hc] at hsum
   obtain ⟨_,s2,s3,s4,s5⟩:=hsum
   have hcg:c≤g:=by rw[hc];exact Nat.gcd_le_left _ hg
   rw[decide_eq_false h0,cF,over_ok hg (by omega) (by omega),obind_some',gcd_ok _ _ (by have:=Nat.mod_lt N hg;generalize N % g=w at *;omega),obind_some',Nat.gcd_comm,←Nat.gcd_rec,←hc,over_ok s3 (by omega) (by omega),obind_some',nzB_of (by omega),cT,tdiv_nat]
   have hdc:db / c≤db:=Nat.div_le_self _ _
   have hdc0:0<db / c:=Nat.div_pos (Nat.le_of_dvd (by omega) s5) s3
   rw[u_wrap (by omega) (by generalize db / c=w at *;omega),product_ok (by omega) (by generalize db / c=w at *;omega),obind_some']
   have hNc:N / c≤N:=Nat.div_le_self _ _
   have hval:mkRat (na*B+nb*A) (A*db)=mkRat (sgn s (N / c)) (A*(db / c)):=by
    rw[←hs]
    refine mkQ_congr (Nat.mul_pos hA0 (by omega)) (Nat.mul_pos hA0 hdc0) ?_
    obtain ⟨x,rfl⟩:=s4
    obtain ⟨y,rfl⟩:=s5
    rw[Nat.mul_div_cancel_left _ s3,Nat.mul_div_cancel_left _ s3]
    grind
   rw[hval,fit_low (Nat.mul_pos hA0 hdc0) s2]
   have hden:A*(db / c)≤1152921504606846976*1152921504606846976:=Nat.mul_le_mul (by omega) (by omega)
   generalize N / c=n at *
   generalize A*(db / c)=d at *
   by_cases hn:n<18446744073709551616
   ·by_cases hd:d<18446744073709551616
    ·rw[hl_small hn,hl_small hd]
     simp only
     rw[show decide ((0:Int)>0)=false from rfl,cF,cF,signed_ok _ _ _ hn hd,obind_some']
    ·rw[hl_small hn]
     simp only
     rw[show decide ((0:Int)>0)=false from rfl,decide_eq_true (hl_big hd),cF,cT,if_neg (by omega)]
   ·rw[decide_eq_true (hl_big hn),cT,cT,if_neg (by omega)]
 have sx:∀{n:Int} {s:Bool},s=decide (n<0)→n=sgn s n.natAbs:=fun {n s} h=>by rw[h];exact size_sgn n
 by_cases hsg:decide (na<0)=decide (nb<0)
 ·rw[decide_eq_true hsg,cT,rPlus_ok (by omega),obind_some']
  refine tail _ _ (by omega) ?_
  have e1:na=sgn (decide (na<0)) na.natAbs:=size_sgn na
  have e2:nb=sgn (decide (na<0)) nb.natAbs:=by rw[hsg];exact size_sgn nb
  generalize na.natAbs=m at *
  generalize nb.natAbs=n at *
  generalize decide (na<0)=s at *
  rw[e1,e2]
  unfold sgn
  cases s
  ·simp only[Bool.false_eq_true,if_false]
   rw[Int.natCast_add,Int.natCast_mul,Int.natCast_mul]
  ·simp only[if_true]
   rw[Int.natCast_add,Int.natCast_mul,Int.natCast_mul]
   grind
 ·have e1:na=sgn (decide (na<0)) na.natAbs:=size_sgn na
  have e2:nb=sgn (!decide (na<0)) nb.natAbs:=by
   have:(!decide (na<0))=decide (nb<0):=by
    clear tail sx hsum hv ha hb
    revert hsg
    cases decide (na<0)<;>cases decide (nb<0)<;>simp
   rw[this];exact size_sgn nb
  rw[decide_eq_false hsg,cF,rLess_ok,obind_some']
  by_cases hlt:na.natAbs*B<nb.natAbs*A
  ·rw[decide_eq_true hlt,cT,rMinus_ok (by omega) (by omega),obind_some']
   refine tail _ _ (by omega) ?_
   generalize na.natAbs=m at *
   generalize nb.natAbs=n at *
   generalize decide (na<0)=s at *
   rw[e1,e2]
   have e3:(((n*A - m*B:Nat)):Int)=(n:Int)*A - (m:Int)*B:=by rw[Int.ofNat_sub (Nat.le_of_lt hlt),Int.natCast_mul,Int.natCast_mul]
   unfold sgn
   cases s
   ·simp only[Bool.false_eq_true,if_false,Bool.not_false,if_true]
    grind
   ·simp only[if_true,Bool.not_true,Bool.false_eq_true,if_false]
    grind
  ·rw[decide_eq_false hlt,cF,rMinus_ok (by omega) (by omega),obind_some']
   refine tail _ _ (by omega) ?_
   generalize na.natAbs=m at *
   generalize nb.natAbs=n at *
   generalize decide (na<0)=s at *
   rw[e1,e2]
   have e3:(((m*B - n*A:Nat)):Int)=(m:Int)*B - (n:Int)*A:=by rw[Int.ofNat_sub (Nat.not_lt.1 hlt),Int.natCast_mul,Int.natCast_mul]
   unfold sgn
   cases s
   ·simp only[Bool.false_eq_true,if_false,Bool.not_false,if_true]
    grind
   ·simp only[if_true,Bool.not_true,Bool.false_eq_true,if_false]
    grind
end Go.Proofs.Ytnbbackjofgcfaa

namespace Go.Proofs.Ytnbbackjofgcfaa
namespace Dn
theorem lpK_up {σ α R:Type} {F:(α→Option R)→α→Option R} (n:Nat) (hn:n≤1180591620717411303423) (enc:Nat→σ→α) (b:Nat→σ→(σ→Option R)→Option R) (f:σ→Option R)
  (hb:∀again (i:Nat) s,i<n→F again (enc i s)=b i s (fun s'=>again (enc (i+1) s'))) (hf:∀again s,F again (enc n s)=f s) (s:σ) :
  lpK α R F (enc 0 s)=upF b f n 0 s:=loopF_up n hn enc b f hb hf s
def idxI {α:Type} (p:α→Bool):List α→Int→Int
 | [],_=> -1
 | a ::l,i=>bif p a then i else idxI p l (i+1)
theorem idxI_neg {α:Type} {p:α→Bool}:∀{l:List α} {i:Int},0≤i→(idxI p l i<0↔∀a ∈ l,p a=false)
 | [],i,h=>by simp[idxI]
 | a ::l,i,h=>by
  unfold idxI
  cases hp:p a with
  | true=>simp only[cond_true,List.mem_cons,forall_eq_or_imp,hp];simp;omega
  | false=>simp only[cond_false,List.mem_cons,forall_eq_or_imp,hp,true_and];exact idxI_neg (by omega)
theorem idxI_drop {α:Type} {p:α→Bool} {l:List α} {d:α} {i:Nat} (h:i<l.length):idxI p (l.drop i) i=bif p (l.getD i d) then (i:Int) else idxI p (l.drop (i+1)) ((i:Int)+1):=by
 rw[List.drop_eq_getElem_cons h,getD_nat h]
 rfl
theorem index_loop {α:Type} {f:(α×Unit)→Option Bool} {d:α} {p:α→Bool} {l:List α} (hl:l.length≤1000000) (h:∀a,a ∈ l→f (a,())=some (p a)) :
  lpK (Int×PUnit) Int (fun (again:Int×PUnit→Option Int) (x:Int×PUnit)=>bif decide (x.1<(↑(List.length l):Int)) then bif inB x.1 (List.length l) then obind (f
   (List.getD l (Int.toNat x.1) d,PUnit.unit)) fun (t:Bool)=>bif t then some x.1 else again
   (IntKind.wrap .i64 (x.1+(1:Int)),PUnit.unit) else none else some (-1:Int)) ((0:Int),PUnit.unit)=some (idxI p l 0):=by
 refine lpK_loop (g:=fun _=>some (idxI p l 0)) (I:=fun (x:Int×PUnit)=>0≤x.1∧x.1≤l.length∧idxI p (l.drop x.1.toNat) x.1=idxI p l 0) (μ:=fun (x:Int×PUnit)=>((l.length:Int) - x.1).toNat) ?_ ⟨by simp,by simp only;omega,rfl⟩ (by simp only;omega)
 rintro ⟨i,_⟩ rec ⟨h0,h1,h2⟩ hrec
 simp only at h0 h1 h2 ⊢
 by_cases hi:i<l.length
 ·obtain ⟨n,rfl⟩:∃n:Nat,i=n:=⟨i.toNat,by omega⟩
  rw[decide_eq_true hi,cond_true,inB_of h0 hi,cond_true,Int.toNat_natCast,h _ (by rw[getD_nat (by omega)];exact List.getElem_mem (by omega)),obind_some',wrap_id (by omega) (by omega)]
  rw[Int.toNat_natCast,idxI_drop (d:=d) (by omega)] at h2
  cases hp:p (l.getD n d) with
  | true=>rw[hp,cond_true] at h2;rw[cond_true,h2]
  | false=>rw[hp,cond_false] at h2;rw[cond_false];exact hrec _ ⟨by simp only;omega,by simp only;omega,h2⟩ (by simp only;omega)
 ·rw[decide_eq_false hi,cond_false]
  have e:i.toNat=l.length:=by omega
  rw[e,List.drop_length] at h2
  rw[←h2]
  rfl
theorem upF_all {R σ:Type} {b:Nat→σ→(σ→Option R)→Option R} {f:σ→Option R} {p:Nat→Bool} {r:Option R} {s:σ} (n:Nat) (hb:∀i (k:σ→Option R),i<n→b i s k=bif p i then k s else r) :
  ∀(k i:Nat),i+k≤n→upF b f k i s=bif (List.range' i k).all p then f s else r
 | 0,i,_=>rfl
 | k+1,i,h=>by
  simp only[upF,hb i _ (by omega),List.range'_succ,List.all_cons]
  cases hp:p i with
  | true=>exact upF_all n hb k (i+1) (by omega)
  | false=>rfl
end Dn
end Go.Proofs.Ytnbbackjofgcfaa

namespace Go.Proofs.Ytnbbackjofgcfaa
open Try Dn Dn.Sh
end Go.Proofs.Ytnbbackjofgcfaa

namespace Go.Proofs.Ytnbbackjofgcfaa
open Try Dn Dn.Sh
def cmpQ (p q:Rat):Int:=if p<q then -1 else if p=q then 0 else 1
theorem cmp_signs {a b:Fq} (ha:okF a) (hb:okF b) {M N:Nat} (hM:M=a.1.natAbs*b.2.natAbs) (hN:N=b.1.natAbs*a.2.natAbs) :
  cmpQ (qv a) (qv b)=if a.1<0 then (if b.1<0 then (if N<M then -1 else if M=N then 0 else 1) else -1) else (if b.1<0 then 1 else (if M<N then -1 else if M=N then 0 else 1)):=by
 have e1:=okF_lt ha hb
 have e2:qv a=qv b↔a.1*b.2=b.1*a.2:=by
  have h1:=okF_le ha hb
  have h2:=okF_le hb ha
  constructor
  ·intro h
   have h3:=h1.1 (by rw[h];exact Rat.le_refl)
   have h4:=h2.1 (by rw[h];exact Rat.le_refl)
   omega
  ·intro h
   exact Rat.le_antisymm (h1.2 (by omega)) (h2.2 (by omega))
 obtain ⟨⟨a1,_⟩,_,_⟩:=ha
 obtain ⟨⟨b1,_⟩,_,_⟩:=hb
 have eM:(M:Int)=(a.1.natAbs:Int)*b.2:=by rw[hM,Int.natCast_mul,show ((b.2.natAbs:Nat):Int)=b.2 by omega]
 have eN:(N:Int)=(b.1.natAbs:Int)*a.2:=by rw[hN,Int.natCast_mul,show ((a.2.natAbs:Nat):Int)=a.2 by omega]
 have sa:a.1*b.2=if a.1<0 then -(M:Int) else M:=by
  split
  ·rw[eM,←Int.neg_mul];congr 1;omega
  ·rw[eM];congr 1;omega
 have sb:b.1*a.2=if b.1<0 then -(N:Int) else N:=by
  split
  ·rw[eN,←Int.neg_mul];congr 1;omega
  ·rw[eN];congr 1;omega
 have p1:a.1<0→0<M:=fun h=>by rw[hM];exact Nat.mul_pos (by omega) (by omega)
 have p2:b.1<0→0<N:=fun h=>by rw[hN];exact Nat.mul_pos (by omega) (by omega)
 unfold cmpQ
 simp only[e1,e2,sa,sb]
 clear e1 e2 sa sb eM eN hM hN
 by_cases c1:a.1<0
 ·by_cases c2:b.1<0
  ·simp only[c1,c2,if_true]
   repeat' split
   all_goals first | rfl | omega
  ·have:=p1 c1
   simp only[c1,c2,if_true,if_false]
   repeat' split
   all_goals first | rfl | omega
 ·by_cases c2:b.1<0
  ·have:=p2 c2
   simp only[c1,c2,if_true,if_false]
   repeat' split
   all_goals first | rfl | omega
  ·simp only[c1,c2,if_false]
   repeat' split
   all_goals first | rfl | omega
theorem Cmp_ok {a b:Fq} (ha:okF a) (hb:okF b):ratio_Cmp a b=some (cmpQ (qv a) (qv b),0,()):=by
 have hs:=cmp_signs ha hb rfl rfl
 have ha':=ha
 have hb':=hb
 obtain ⟨⟨a1,a2⟩,⟨a3,a4⟩,_⟩:=ha'
 obtain ⟨⟨b1,b2⟩,⟨b3,b4⟩,_⟩:=hb'
 simp only[ratio_Cmp,ratio_Cmp_b,Valid_ok,decide_eq_true ha,decide_eq_true hb,obind_some',Bool.not_true,Bool.not_false,Bool.or_true,cT,cF,jnT]
 rw[size_ok (by omega) (by omega),obind_some',u_wrap (by omega) (by omega),u_wrap (by omega) (by omega),show b.2=((b.2.natAbs:Nat):Int) by omega,product_ok (by omega) (by omega),obind_some',size_ok (by omega) (by omega),obind_some',show a.2=((a.2.natAbs:Nat):Int) by omega,product_ok (by omega) (by omega),obind_some']
 simp only[not_dec_eq]
 rw[hs]
 clear hs
 generalize a.1.natAbs*b.2.natAbs=M
 generalize b.1.natAbs*a.2.natAbs=N
 by_cases c1:a.1<0
 ·by_cases c2:b.1<0
  ·rw[if_pos c1,if_pos c2]
   simp only[decide_eq_true c1,decide_eq_true c2,bne_self_eq_false,cT,cF,rLess_ok,obind_some']
   by_cases e:N<M
   ·simp only[decide_eq_true e,cT];rw[if_pos e]
   ·simp only[decide_eq_false e,cF];rw[if_neg e]
    by_cases e2:M<N
    ·simp only[decide_eq_true e2,cT];rw[if_neg (by omega)]
    ·simp only[decide_eq_false e2,cF];rw[if_pos (by omega)]
  ·rw[if_pos c1,if_neg c2]
   simp only[decide_eq_true c1,decide_eq_false c2,Bool.true_bne,Bool.not_false,cT]
 ·by_cases c2:b.1<0
  ·rw[if_neg c1,if_pos c2]
   simp only[decide_eq_false c1,decide_eq_true c2,Bool.false_bne,cT,cF]
  ·rw[if_neg c1,if_neg c2]
   simp only[decide_eq_false c1,decide_eq_false c2,bne_self_eq_false,cF,rLess_ok,obind_some']
   by_cases e:M<N
   ·simp only[decide_eq_true e,cT];rw[if_pos e]
   ·simp only[decide_eq_false e,cF];rw[if_neg e]
    by_cases e2:N<M
    ·simp only[decide_eq_true e2,cT];rw[if_neg (by omega)]
    ·simp only[decide_eq_false e2,cF];rw[if_pos (by omega)]
end Go.Proofs.Ytnbbackjofgcfaa

namespace Go.Proofs.Ytnbbackjofgcfaa
namespace Dn
def listF {α σ R:Type} (b:α→σ→(σ→Option R)→Option R) (f:σ→Option R):List α→σ→Option R
 | [],s=>f s
 | a ::l,s=>b a s (listF b f l)
theorem upF_list {α σ R:Type} (L:List α) (d:α) {b:α→σ→(σ→Option R)→Option R} {c:Nat→σ→(σ→Option R)→Option R} {f:σ→Option R} (h:∀i s k,i<L.length→c i s k=b (L.getD i d) s k) :
  ∀(k i:Nat) (s:σ),i+k=L.length→upF c f k i s=listF b f (L.drop i) s
 | 0,i,s,hi=>by
  rw[List.drop_of_length_le (by omega)]
  rfl
 | k+1,i,s,hi=>by
  rw[List.drop_eq_getElem_cons (show i<L.length by omega)]
  simp only[upF,listF]
  rw[h _ _ _ (by omega),getD_nat (by omega)]
  congr 1
  funext s'
  exact upF_list L d h k (i+1) s' (by omega)
theorem lpK_int {α β σ R:Type} (L:List α) (d:α) (hn:L.length≤1180591620717411303423) {F:(β→Option R)→β→Option R} (enc:Nat→σ→β) (b:α→σ→(σ→Option R)→Option R) (f:σ→Option R)
  (hb:∀again (i:Nat) s,i<L.length→F again (enc i s)=b (L.getD i d) s (fun s'=>again (enc (i+1) s'))) (hf:∀again s,F again (enc L.length s)=f s) (s:σ):lpK β R F (enc 0 s)=listF b f L s :=
 (lpK_up L.length hn enc (fun i s k=>b (L.getD i d) s k) f hb hf s).trans ((upF_list L d (b:=b) (fun _ _ _ _=>rfl) L.length 0 s (by omega)).trans (by rw[List.drop_zero]))
theorem listF_fold {α σ R:Type} {b:α→σ→(σ→Option R)→Option R} {f:σ→Option R} (g:σ→α→σ):∀{L:List α} {s:σ},(∀a ∈ L,∀s k,b a s k=k (g s a))→listF b f L s=f (L.foldl g s)
 | [],_,_=>rfl
 | a ::L,s,h=>by
  simp only[listF,List.foldl_cons]
  rw[h a (by simp)]
  exact listF_fold g fun a' ha=>h a' (by simp[ha])
end Dn
end Go.Proofs.Ytnbbackjofgcfaa

namespace Go.Proofs.Ytnbbackjofgcfaa
open Try Dn Dn.Sh
abbrev Rw:=List Int×Int×Int
abbrev Pg:=List Int×List Rw
abbrev rw0:Rw:=([],(0:Int),(0:Int))
def inC (n:Int):Bool:=decide (-1048576≤n∧n≤1048576)
def inR (n:Int):Bool:=decide (-1073741824≤n∧n≤1073741824)
def rowOk (n:Nat) (r:Rw):Bool:=decide (r.1.length=n)&&(decide (1≤r.2.1∧r.2.1≤3)&&(inR r.2.2&&r.1.all inC))
def sizeP (p:Pg):Bool:=decide (1≤p.1.length∧p.1.length≤12∧p.2.length≤6)
def validP (p:Pg):Bool:=sizeP p&&(p.1.all inC&&p.2.all (rowOk p.1.length))
theorem any_idx {α:Type} {p:α→Bool} {l:List α}:decide (idxI p l 0≥0)=l.any p:=by
 have:=idxI_neg (p:=p) (l:=l) (i:=0) (by omega)
 rw[Bool.eq_iff_iff,decide_eq_true_iff,List.any_eq_true]
 constructor
 ·intro h1
  by_cases h2:∃a ∈ l,p a=true
  ·exact h2
  ·have:idxI p l 0<0:=this.2 fun a ha=>by
    cases e:p a with
    | false=>rfl
    | true=>exact (h2 ⟨a,ha,e⟩).elim
   omega
 ·rintro ⟨a,ha,h3⟩
  by_cases h2:idxI p l 0<0
  ·rw[this.1 h2 a ha] at h3;cases h3
  ·omega
theorem any_not {α:Type} {p:α→Bool} {l:List α}:(l.any fun a=>!p a)=!l.all p:=by
 induction l with
 | nil=>rfl
 | cons a l ih=>simp[ih,Bool.not_and]
theorem all_range {α:Type} {p:α→Bool} {l:List α} (d:α):(List.range' 0 l.length).all (fun i=>p (l.getD i d))=l.all p:=by
 rw[Bool.eq_iff_iff,List.all_eq_true,List.all_eq_true]
 constructor
 ·intro h a ha
  obtain ⟨i,hi,rfl⟩:=List.getElem_of_mem ha
  have:=h i (List.mem_range'.2 ⟨i,hi,by omega⟩)
  rwa [getD_nat hi] at this
 ·intro h i hi
  obtain ⟨k,hk,rfl⟩:=List.mem_range'.1 hi
  rw[getD_nat (by omega)]
  exact h _ (List.getElem_mem _)
theorem contains81 {f:(Int×Unit)→Option Bool} {p:Int→Bool} {l:List Int} (hl:l.length≤1000000) (h:∀a,a ∈ l→f (a,())=some (p a)):slices_ContainsFunc_81 l f=some (l.any p):=by
 have h1:slices_IndexFunc_117 l f=some (idxI p l 0):=by
  unfold slices_IndexFunc_117 slices_IndexFunc_117_b
  exact index_loop (f:=f) (d:=(0:Int)) hl h
 simp only[slices_ContainsFunc_81,slices_ContainsFunc_81_b,h1,obind_some',any_idx]
theorem containsR {f:(Rw×Unit)→Option Bool} {p:Rw→Bool} {l:List Rw} (hl:l.length≤1000000) (h:∀a,a ∈ l→f (a,())=some (p a)):slices_ContainsFunc_41 l f=some (l.any p):=by
 have h1:slices_IndexFunc_93 l f=some (idxI p l 0):=by
  unfold slices_IndexFunc_93 slices_IndexFunc_93_b
  exact index_loop (f:=f) (d:=rw0) hl h
 simp only[slices_ContainsFunc_41,slices_ContainsFunc_41_b,h1,obind_some',any_idx]
theorem containsF {f:((Int×Int)×Unit)→Option Bool} {p:(Int×Int)→Bool} {l:List (Int×Int)} (hl:l.length≤1000000) (h:∀a,a ∈ l→f (a,())=some (p a)):slices_ContainsFunc_95 l f=some (l.any p):=by
 have h1:slices_IndexFunc_122 l f=some (idxI p l 0):=by
  unfold slices_IndexFunc_122 slices_IndexFunc_122_b
  exact index_loop (f:=f) (d:=((0:Int),(0:Int))) hl h
 simp only[slices_ContainsFunc_95,slices_ContainsFunc_95_b,h1,obind_some',any_idx]
theorem far_ok (n m:Int) (h0:0≤m) (h1:m≤1099511627776):program_Valid_1_1 n m=some (!decide (-m≤n∧n≤m)):=by
 have hw:IntKind.wrap .i64 (0 - m)= -m:=by rw[wrap_id (by omega) (by omega)];omega
 simp only[program_Valid_1_1,program_Valid_1_1_b,hw,not_or_self',or_self_not,Bool.and_self,cT]
 by_cases g1:n< -m
 ·rw[decide_eq_true g1,decide_eq_false (show ¬ (-m≤n∧n≤m) by omega)];rfl
 ·rw[decide_eq_false g1]
  by_cases g2:n>m
  ·rw[decide_eq_true g2,decide_eq_false (show ¬ (-m≤n∧n≤m) by omega)];rfl
  ·rw[decide_eq_false g2,decide_eq_true (show (-m≤n∧n≤m) by omega)];rfl
theorem rwithin_ok (n m:Int) (h0:0≤m) (h1:m≤1099511627776):ref05_within n m=some (decide (-m≤n∧n≤m)):=by
 have hw:IntKind.wrap .i64 (0 - m)= -m:=by rw[wrap_id (by omega) (by omega)];omega
 simp only[ref05_within,ref05_within_b,hw,not_or_self',Bool.and_self,cT]
 by_cases g1:n≥ -m
 ·rw[decide_eq_true g1]
  by_cases g2:n≤m
  ·rw[decide_eq_true g2,decide_eq_true (show (-m≤n∧n≤m) by omega)];rfl
  ·rw[decide_eq_false g2,decide_eq_false (show ¬ (-m≤n∧n≤m) by omega)];rfl
 ·rw[decide_eq_false g1,decide_eq_false (show ¬ (-m≤n∧n≤m) by omega)];rfl
theorem farC (n:Int):program_Valid_1_1 n 1048576=some (!inC n):=far_ok n _ (by omega) (by omega)
theorem farR (n:Int):program_Valid_1_1 n 1073741824=some (!inR n):=far_ok n _ (by omega) (by omega)
theorem rinC (n:Int):ref05_within n 1048576=some (inC n):=rwithin_ok n _ (by omega) (by omega)
theorem rinR (n:Int):ref05_within n 1073741824=some (inR n):=rwithin_ok n _ (by omega) (by omega)
theorem allC_loop {R:Type} {l:List Int} (hl:l.length≤1000000) {yes no:Option R} :
  lpK (Int×PUnit) R (fun (again:Int×PUnit→Option R) (x:Int×PUnit)=>bif decide (x.1<(↑(List.length l):Int)) then bif inB x.1 (List.length l) then obind (ref05_within (List.getD l (Int.toNat x.1) (0:Int)) (1048576:Int)) fun (t:Bool)=>bif !t then no else again
   (IntKind.wrap .i64 (x.1+(1:Int)),PUnit.unit) else none else yes) ((0:Int),PUnit.unit)=bif l.all inC then yes else no:=by
 refine (lpK_up (α:=Int×PUnit) l.length (by omega) (fun i (_:Unit)=>((i:Int),PUnit.unit)) (fun i s k=>bif inC (l.getD i 0) then k s else no) (fun _=>yes) ?_ ?_ ()).trans ?_
 ·intro again i _ hi
  have hw:IntKind.wrap .i64 ((i:Int)+1)=((i+1:Nat):Int):=by rw[wrap_id (by omega) (by omega)];rfl
  simp only[inB_nat,decide_eq_true hi,decide_eq_true (show (i:Int)<l.length by omega),cT,Int.toNat_natCast,hw,rinC,obind_some']
  cases inC (l.getD i 0)<;>rfl
 ·intro again _
  simp only[decide_eq_false (show ¬ (l.length:Int)<l.length by omega),cF]
 ·refine (upF_all (p:=fun i=>inC (l.getD i 0)) (r:=no) l.length (fun _ _ _=>rfl) l.length 0 (by omega)).trans ?_
  rw[all_range (p:=inC) (l:=l) 0]
theorem pValid_ok (p:Pg):program_Valid p=some (validP p):=by
 obtain ⟨c,rs⟩:=p
 simp only[program_Valid,program_Valid_b,program_Valid_1,program_Valid_1_b,not_or_self',or_self_not,Bool.and_self,cT,validP,sizeP]
 by_cases g1:(c.length:Int)<1
 ·rw[decide_eq_true g1,decide_eq_false (show ¬ (1≤c.length∧c.length≤12∧rs.length≤6) by omega)]
  rfl
 ·rw[decide_eq_false g1]
  by_cases g2:(c.length:Int)>12
  ·rw[decide_eq_true g2,decide_eq_false (show ¬ (1≤c.length∧c.length≤12∧rs.length≤6) by omega)]
   rfl
  ·rw[decide_eq_false g2]
   by_cases g3:(rs.length:Int)>6
   ·rw[decide_eq_true g3,decide_eq_false (show ¬ (1≤c.length∧c.length≤12∧rs.length≤6) by omega)]
    rfl
   ·rw[decide_eq_false g3,decide_eq_true (show (1≤c.length∧c.length≤12∧rs.length≤6) by omega)]
    have hc:∀l:List Int,l.length≤1000000→slices_ContainsFunc_81 l (fun x=>program_Valid_1_1 x.1 1048576)=some (!l.all inC):=fun l hl=>by
     rw[←any_not]
     exact contains81 hl fun a _=>farC a
    simp only[cF,cT,Bool.not_false,obind_some',hc c (by omega),Bool.true_and]
    cases hcc:c.all inC with
    | false=>rfl
    | true =>
     simp only[Bool.not_true,cF,Bool.true_and]
     refine (lpK_up (α:=Int×PUnit) rs.length (by omega) (fun i (_:Unit)=>((i:Int),PUnit.unit)) (fun i s k=>bif rowOk c.length (rs.getD i rw0) then k s else some false) (fun _=>some true) ?_ ?_ ()).trans ?_
     ·intro again i _ hi
      have hw:IntKind.wrap .i64 ((i:Int)+1)=((i+1:Nat):Int):=by rw[wrap_id (by omega) (by omega)];rfl
      simp only[inB_nat,decide_eq_true hi,decide_eq_true (show (i:Int)<rs.length by omega),cT,Int.toNat_natCast,hw]
      obtain ⟨a,k,b,e⟩:∃a k b,List.getD rs i rw0=(a,k,b):=⟨_,_,_,rfl⟩
      simp only[e,rowOk,farR,decide_eq_true (show (i:Int)≥0 by omega)]
      by_cases q1:a.length=c.length
      ·have hca:=hc a (by omega)
       simp only[decide_eq_true (show (a.length:Int)=c.length by omega),decide_eq_true q1,Bool.not_true,Bool.not_false,cT,cF,obind_some',hca,Bool.true_and]
       by_cases q2:k<1
       ·simp only[decide_eq_true q2,decide_eq_false (show ¬ (1≤k∧k≤3) by omega)]
        cases a.all inC<;>simp[obind_some']
       ·by_cases q3:k>3
        ·simp only[decide_eq_false q2,decide_eq_true q3,decide_eq_false (show ¬ (1≤k∧k≤3) by omega)]
         cases a.all inC<;>simp[obind_some']
        ·simp only[decide_eq_false q2,decide_eq_false q3,decide_eq_true (show (1≤k∧k≤3) by omega)]
         cases h1:a.all inC<;>cases h2:inR b<;>simp[obind_some',h2]
      ·simp only[decide_eq_false (show ¬ (a.length:Int)=c.length by omega),decide_eq_false q1]
       simp[obind_some']
     ·intro again _
      simp
     ·refine (upF_all (p:=fun i=>rowOk c.length (rs.getD i rw0)) (r:=some false) rs.length (fun _ _ _=>rfl) rs.length 0 (by omega)).trans ?_
      rw[all_range (p:=rowOk c.length) (l:=rs) rw0]
      cases rs.all (rowOk c.length)<;>rfl
theorem rValid_ok (p:Pg):ref05_Valid p=some (validP p):=by
 obtain ⟨c,rs⟩:=p
 simp only[ref05_Valid,ref05_Valid_b,not_or_self',or_self_not,cT,validP,sizeP]
 by_cases g1:(c.length:Int)<1
 ·rw[decide_eq_true g1,decide_eq_false (show ¬ (1≤c.length∧c.length≤12∧rs.length≤6) by omega)]
  rfl
 ·rw[decide_eq_false g1]
  by_cases g2:(c.length:Int)>12
  ·rw[decide_eq_true g2,decide_eq_false (show ¬ (1≤c.length∧c.length≤12∧rs.length≤6) by omega)]
   rfl
  ·rw[decide_eq_false g2]
   by_cases g3:(rs.length:Int)>6
   ·rw[decide_eq_true g3,decide_eq_false (show ¬ (1≤c.length∧c.length≤12∧rs.length≤6) by omega)]
    rfl
   ·rw[decide_eq_false g3,decide_eq_true (show (1≤c.length∧c.length≤12∧rs.length≤6) by omega)]
    simp only[cF,Bool.true_and]
    rw[allC_loop (l:=c) (by omega)]
    cases hcc:c.all inC with
    | false=>rfl
    | true =>
     simp only[cT,Bool.true_and]
     refine (lpK_up (α:=Int×PUnit) rs.length (by omega) (fun i (_:Unit)=>((i:Int),PUnit.unit)) (fun i s k=>bif rowOk c.length (rs.getD i rw0) then k s else some false) (fun _=>some true) ?_ ?_ ()).trans ?_
     ·intro again i _ hi
      have hw:IntKind.wrap .i64 ((i:Int)+1)=((i+1:Nat):Int):=by rw[wrap_id (by omega) (by omega)];rfl
      simp only[inB_nat,decide_eq_true hi,decide_eq_true (show (i:Int)<rs.length by omega),cT,Int.toNat_natCast,hw]
      obtain ⟨a,k,b,e⟩:∃a k b,List.getD rs i rw0=(a,k,b):=⟨_,_,_,rfl⟩
      simp only[e,rowOk,rinR]
      by_cases q1:a.length=c.length
      ·have hca:=fun (y n:Option Bool)=>allC_loop (l:=a) (by omega) (yes:=y) (no:=n)
       simp only[decide_eq_true (show (a.length:Int)=c.length by omega),decide_eq_true q1,Bool.not_true,cF,Bool.true_and]
       rw[hca]
       by_cases q2:k<1
       ·simp only[decide_eq_true q2,decide_eq_false (show ¬ (1≤k∧k≤3) by omega)]
        simp[obind_some']
       ·by_cases q3:k>3
        ·simp only[decide_eq_false q2,decide_eq_true q3,decide_eq_false (show ¬ (1≤k∧k≤3) by omega)]
         simp[obind_some']
        ·simp only[decide_eq_false q2,decide_eq_false q3,decide_eq_true (show (1≤k∧k≤3) by omega)]
         cases h1:a.all inC<;>cases h2:inR b<;>simp[obind_some']
      ·simp only[decide_eq_false (show ¬ (a.length:Int)=c.length by omega),decide_eq_false q1]
       simp[obind_some']
     ·intro again _
      simp
     ·refine (upF_all (p:=fun i=>rowOk c.length (rs.getD i rw0)) (r:=some false) rs.length (fun _ _ _=>rfl) rs.length 0 (by omega)).trans ?_
      rw[all_range (p:=rowOk c.length) (l:=rs) rw0]
      cases rs.all (rowOk c.length)<;>rfl
end Go.Proofs.Ytnbbackjofgcfaa

namespace Go.Proofs.Ytnbbackjofgcfaa
open Try Dn Dn.Sh
noncomputable def sumR:List Int→List Fq→Rat→Option Rat
 | n ::l,a ::x,s=>if fitsQ ((n:Rat)*qv a)∧fitsQ (s+(n:Rat)*qv a) then sumR l x (s+(n:Rat)*qv a) else none
 | _,_,s=>some s
noncomputable def endR {R:Type} (o:Option Rat) (bad:Option R) (good:Rat→Option R):Option R:=match o with
 | some q=>good q
 | none=>bad
theorem sum_up {σ R:Type} {l:List Int} {x:List Fq} (hl:l.length≤x.length) {b:Nat→σ→(σ→Option R)→Option R} {f:σ→Option R} {cur:σ→Rat} {bad:Option R} {good:Rat→Option R}
  (nx:∀i s,fitsQ (cur s+((l.getD i 0:Int):Rat)*qv (x.getD i (0,0)))→σ) (hnx:∀i s h,cur (nx i s h)=cur s+((l.getD i 0:Int):Rat)*qv (x.getD i (0,0)))
  (hb:∀i s k,i<l.length→b i s k=if h:fitsQ (((l.getD i 0:Int):Rat)*qv (x.getD i (0,0)))∧fitsQ (cur s+((l.getD i 0:Int):Rat)*qv (x.getD i (0,0))) then k (nx i s h.2) else bad)
  (hf:∀s,f s=good (cur s)):∀(k i:Nat) (s:σ),i+k=l.length→upF b f k i s=endR (sumR (l.drop i) (x.drop i) (cur s)) bad good
 | 0,i,s,h=>by
  rw[List.drop_eq_nil_of_le (by omega)]
  exact hf s
 | k+1,i,s,h=>by
  have h1:i<l.length:=by omega
  have h2:i<x.length:=by omega
  have e1:l.getD i 0=l[i]:=getD_nat h1
  have e2:x.getD i (0,0)=x[i]:=getD_nat h2
  simp only[upF]
  rw[hb i s _ h1,List.drop_eq_getElem_cons h1,List.drop_eq_getElem_cons h2,sumR,←e1,←e2]
  split
  ·rw[sum_up hl nx hnx hb hf k (i+1) _ (by omega),hnx]
  ·rfl
theorem obN {T R:Type} {t:T} {k:T→Option R}:obind (some t) k=k t:=id rfl
theorem of_ok {l:List Int} {x:List Fq} {e:Int} (hl:l.length≤x.length) (h0:l.length≤1000000) (hc:∀n ∈ l,-1152921504606846976≤n∧n≤1152921504606846976) (hx:∀a ∈ x,okF a) :
  program_sums_of e l x=endR (sumR l x 0) (some (5,(0,1))) fun q=>some (e,prQ q):=by
 simp only[program_sums_of,program_sums_of_b]
 refine (lpK_up (α:=Int×Int×Fq×Fq×PUnit) l.length (by omega) (fun i (s:Fq×{q:Rat // fitsQ q})=>((i:Int),e,s.1,prQ s.2.1,PUnit.unit))
  (fun i s k=>if h:fitsQ (((l.getD i 0:Int):Rat)*qv (x.getD i (0,0)))∧fitsQ (s.2.1+((l.getD i 0:Int):Rat)*qv (x.getD i (0,0))) then k (s.1,⟨_,h.2⟩) else some (5,(0,1))) (fun s=>some (e,prQ s.2.1)) ?_ ?_ ((0,0),⟨0,by decide⟩)).trans ?_
 ·intro again i s hi
  have hw:IntKind.wrap .i64 ((i:Int)+1)=((i+1:Nat):Int):=by rw[wrap_id (by omega) (by omega)];rfl
  obtain ⟨w,q,hq⟩:=s
  have hn:l.getD i 0 ∈ l:=by rw[getD_nat hi];exact List.getElem_mem _
  have ha:okF (x.getD i (0,0)):=by rw[getD_nat (show i<x.length by omega)];exact hx _ (List.getElem_mem _)
  have hm:=Mul_ok (okF_int (hc _ hn).1 (hc _ hn).2) ha
  rw[qv_int] at hm
  simp only[inB_nat,decide_eq_true hi,decide_eq_true (show i<x.length by omega),decide_eq_true (show (i:Int)<l.length by omega),cT,Int.toNat_natCast,hw,jnK_eq',hm,obind_some']
  generalize l.getD i 0=n at *
  generalize x.getD i (0,0)=a at *
  rcases fitQ_cases ((n:Rat)*qv a) with ⟨f1,e1⟩ | ⟨f1,e1⟩
  ·have hA:=Add_ok (okF_prQ hq) (okF_prQ f1)
   rw[qv_prQ,qv_prQ] at hA
   simp only[e1,decide_true,cT,hA,obind_some']
   rcases fitQ_cases (q+(n:Rat)*qv a) with ⟨f2,e2⟩ | ⟨f2,e2⟩
   ·rw[dif_pos ⟨f1,f2⟩]
    simp only[e2,decide_true,Bool.not_true,cF]
   ·rw[dif_neg fun h=>f2 h.2]
    simp only[e2]
    rfl
  ·rw[dif_neg fun h=>f1 h.1]
   simp only[e1]
   rfl
 ·intro again s
  simp only[decide_eq_false (show ¬ (l.length:Int)<l.length by omega),cF]
 ·exact sum_up (cur:=fun s:Fq×{q:Rat // fitsQ q}=>s.2.1) (bad:=some (5,(0,1))) (good:=fun q=>some (e,prQ q)) hl (fun i s h=>(s.1,⟨_,h⟩)) (fun _ _ _=>rfl) (fun _ _ _ _=>rfl) (fun _=>rfl) l.length 0 ((0,0),⟨0,by decide⟩) (by omega)
theorem sumR_fits:∀{l:List Int} {x:List Fq} {s q:Rat},fitsQ s→sumR l x s=some q→fitsQ q
 | [],_,s,q,hs,h=>by
  unfold sumR at h
  injection h with h
  rw[←h];exact hs
 | _ ::_,[],s,q,hs,h=>by
  unfold sumR at h
  injection h with h
  rw[←h];exact hs
 | n ::l,a ::x,s,q,hs,h=>by
  unfold sumR at h
  split at h
  ·rename_i hh
   exact sumR_fits hh.2 h
  ·cases h
end Go.Proofs.Ytnbbackjofgcfaa

namespace Go.Proofs.Ytnbbackjofgcfaa
open Try Dn Dn.Sh
theorem inC_big {n:Int} (h:inC n=true): -1152921504606846976≤n∧n≤1152921504606846976:=by
 have:=of_decide_eq_true h
 omega
theorem inR_big {n:Int} (h:inR n=true): -1152921504606846976≤n∧n≤1152921504606846976:=by
 have:=of_decide_eq_true h
 omega
structure ValidP (p:Pg):Prop where
 cost:1≤p.1.length∧p.1.length≤12
 rows:p.2.length≤6
 cs:∀n ∈ p.1,inC n=true
 len:∀r ∈ p.2,r.1.length=p.1.length
 kind:∀r ∈ p.2,1≤r.2.1∧r.2.1≤3
 right:∀r ∈ p.2,inR r.2.2=true
 coefs:∀r ∈ p.2,∀n ∈ r.1,inC n=true
theorem validP_iff {p:Pg}:validP p=true↔ValidP p:=by
 unfold validP sizeP
 rw[Bool.and_eq_true,Bool.and_eq_true,decide_eq_true_iff,List.all_eq_true,List.all_eq_true]
 constructor
 ·rintro ⟨⟨h1,h2,h3⟩,h4,h5⟩
  have h6:∀r ∈ p.2,r.1.length=p.1.length∧(1≤r.2.1∧r.2.1≤3)∧inR r.2.2=true∧∀n ∈ r.1,inC n=true:=fun r hr=>by
   have:=h5 r hr
   unfold rowOk at this
   rw[Bool.and_eq_true,Bool.and_eq_true,Bool.and_eq_true,decide_eq_true_iff,decide_eq_true_iff,List.all_eq_true] at this
   exact this
  exact ⟨⟨h1,h2⟩,h3,h4,fun r hr=>(h6 r hr).1,fun r hr=>(h6 r hr).2.1,fun r hr=>(h6 r hr).2.2.1,fun r hr=>(h6 r hr).2.2.2⟩
 ·rintro ⟨h1,h2,h3,h4,h5,h6,h7⟩
  refine ⟨⟨h1.1,h1.2,h2⟩,h3,fun r hr=>?_⟩
  unfold rowOk
  rw[Bool.and_eq_true,Bool.and_eq_true,Bool.and_eq_true,decide_eq_true_iff,decide_eq_true_iff,List.all_eq_true]
  exact ⟨h4 r hr,h5 r hr,h6 r hr,h7 r hr⟩
theorem pcmp_ok {a:Fq} {n:Int} (ha:okF a) (hn: -1152921504606846976≤n∧n≤1152921504606846976):program_cmp a n=some (cmpQ (qv a) (n:Rat)):=by
 have h:=Cmp_ok ha (okF_int hn.1 hn.2)
 rw[qv_int] at h
 simp only[program_cmp,program_cmp_b,h,obind_some']
theorem sumR_ok {l:List Int} {x:List Fq}:fitsQ ((sumR l x 0).getD 0):=by
 cases h:sumR l x 0 with
 | none=>decide
 | some q=>exact sumR_fits (by decide) h
theorem of_ok' {l:List Int} {x:List Fq} {e:Int} (hl:l.length≤x.length) (h0:l.length≤1000000) (hc:∀n ∈ l,inC n=true) (hx:∀a ∈ x,okF a) :
  program_sums_of e l x=some (bif (sumR l x 0).isSome then e else 5,prQ ((sumR l x 0).getD 0)):=by
 rw[of_ok hl h0 (fun n hn=>inC_big (hc n hn)) hx]
 cases sumR l x 0<;>rfl
def holdK (k c:Int):Bool:=(decide (k≠1)||decide (c≤0))&&((decide (k≠2)||decide (c≥0))&&(decide (k≠3)||decide (c=0)))
noncomputable def holdR (x:List Fq) (r:Rw):Bool:=holdK r.2.1 (cmpQ ((sumR r.1 x 0).getD 0) (r.2.2:Rat))
noncomputable def feasB (p:Pg) (x:List Fq):Bool:=x.all (fun a=>decide (0≤a.1))&&p.2.all (holdR x)
noncomputable def fitsX (p:Pg) (x:List Fq):Bool:=p.2.all fun r=>(sumR r.1 x 0).isSome
theorem sfold {x:List Fq}:∀{rs:List Rw} {b:Bool} {e:Int},rs.foldl (fun (s:Bool×Int) (r:Rw)=>(s.1&&holdR x r,bif (sumR r.1 x 0).isSome then s.2 else 5)) (b,e)=(b&&rs.all (holdR x),bif rs.all (fun r=>(sumR r.1 x 0).isSome) then e else 5)
 | [],b,e=>by simp
 | r ::rs,b,e=>by
  rw[List.foldl_cons,sfold]
  simp only[List.all_cons,Bool.and_assoc]
  congr 1
  cases (sumR r.1 x 0).isSome<;>cases rs.all (fun r=>(sumR r.1 x 0).isSome)<;>rfl
theorem sfeas_ok {e:Int} {p:Pg} {x:List Fq} (hv:ValidP p) (hx:∀a ∈ x,okF a) (hl:x.length=p.1.length):program_sums_feasible e p x=some (bif fitsX p x then e else 5,feasB p x):=by
 obtain ⟨c,rs⟩:=p
 unfold program_sums_feasible program_sums_feasible_b
 have hc:slices_ContainsFunc_95 x (fun x=>program_sums_feasible_1 x.1)=some (!x.all fun a=>decide (0≤a.1)):=by
  rw[←any_not]
  refine containsF (p:=fun a:Fq=>!decide (0≤a.1)) (by have:=hv.cost.2;simp only at this hl;omega) fun a _=>?_
  simp only[program_sums_feasible_1,program_sums_feasible_1_b]
  congr 1
  rw[Bool.eq_iff_iff]
  simp
 rw[hc,obN,Bool.not_not]
 have h6:=hv.rows
 simp only at h6
 refine (lpK_int (α:=Rw) (σ:=Bool×Int) rs rw0 (by omega) (fun i s=>(s.1,(i:Int),s.2,PUnit.unit)) (fun r s k=>k (s.1&&holdR x r,bif (sumR r.1 x 0).isSome then s.2 else 5)) (fun s=>some (s.2,s.1)) ?_ ?_ (_,e)).trans ?_
 ·intro again i s hi
  have hw:IntKind.wrap .i64 ((i:Int)+1)=((i+1:Nat):Int):=by rw[wrap_id (by omega) (by omega)];rfl
  have hr:rs.getD i rw0 ∈ rs:=by rw[getD_nat hi];exact List.getElem_mem _
  obtain ⟨is,e0⟩:=s
  have h1:=of_ok' (l:=(rs.getD i rw0).1) (x:=x) (e:=e0) (by rw[hv.len _ hr,hl];exact Nat.le_refl _) (by rw[hv.len _ hr];have:=hv.cost.2;omega) (hv.coefs _ hr) hx
  have h2:=pcmp_ok (okF_prQ (sumR_ok (l:=(rs.getD i rw0).1) (x:=x))) (inR_big (hv.right _ hr))
  rw[qv_prQ] at h2
  simp only[inB_nat,decide_eq_true hi,decide_eq_true (show (i:Int)<rs.length by omega),cT,Int.toNat_natCast,hw,h1,h2,obind_some',holdR]
  obtain ⟨cm,hcm⟩:∃cm,cmpQ ((sumR (rs.getD i rw0).1 x 0).getD 0) ((rs.getD i rw0).2.2:Rat)=cm:=⟨_,rfl⟩
  obtain ⟨kd,hkd⟩:∃kd,(rs.getD i rw0).2.1=kd:=⟨_,rfl⟩
  simp only[hcm,hkd,holdK]
  by_cases k1:kd=1<;>by_cases k2:kd=2<;>by_cases k3:kd=3<;>by_cases c1:cm≤0<;>by_cases c2:cm≥0<;>by_cases c3:cm=0<;>cases is<;>first | (exfalso;omega) | simp[k1,k2,k3,c1,c2,c3]
 ·intro again s
  simp
 ·rw[listF_fold (fun (s:Bool×Int) (r:Rw)=>(s.1&&holdR x r,bif (sumR r.1 x 0).isSome then s.2 else 5)) (fun _ _ _ _=>rfl),sfold]
  rfl
end Go.Proofs.Ytnbbackjofgcfaa

namespace Go.Proofs.Ytnbbackjofgcfaa
open Try Dn Dn.Sh
theorem awakeP_ok:law05_awake=some true:=by kernel_rfl
def fewB (p:Pg):Bool:=decide (p.1.length≤14∧p.2.length≤8)&&p.2.all fun r=>decide (r.1.length≤14)
theorem fewP_ok (p:Pg):law05_few p=some (fewB p):=by
 obtain ⟨c,rs⟩:=p
 simp only[law05_few,law05_few_b,not_or_self',cT,fewB]
 by_cases h1:(c.length:Int)≤14
 ·by_cases h2:(rs.length:Int)≤8
  ·have hc:slices_ContainsFunc_41 rs (fun x=>law05_few_1 x.1)=some (!rs.all fun r=>decide (r.1.length≤14)):=by
    rw[←any_not]
    refine containsR (p:=fun r:Rw=>!decide (r.1.length≤14)) (by omega) fun a _=>?_
    simp only[law05_few_1,law05_few_1_b]
    congr 1
    rw[Bool.eq_iff_iff]
    simp
    omega
   rw[decide_eq_true h1,decide_eq_true h2,decide_eq_true (show c.length≤14∧rs.length≤8 by omega)]
   simp only[cT,hc,obind_some',Bool.not_not,Bool.true_and]
  ·rw[decide_eq_true h1,decide_eq_false h2,decide_eq_false (show ¬ (c.length≤14∧rs.length≤8) by omega)]
   rfl
 ·rw[decide_eq_false h1,decide_eq_false (show ¬ (c.length≤14∧rs.length≤8) by omega)]
  rfl
noncomputable def okL (x:List Fq):Bool:=x.all fun a=>decide (okF a)
theorem right_ok {x:List Fq} (h:x.length≤1000000):program_right x=some (okL x):=by
 have hc:slices_ContainsFunc_95 x (fun x=>program_right_1 x.1)=some (!okL x):=by
  unfold okL
  rw[←any_not]
  refine containsF (p:=fun a:Fq=>!decide (okF a)) h fun a _=>?_
  simp only[program_right_1,program_right_1_b,Valid_ok,obind_some']
 simp only[program_right,program_right_b,hc,obind_some',Bool.not_not]
theorem okL_iff {x:List Fq}:okL x=true↔∀a ∈ x,okF a:=by
 unfold okL
 rw[List.all_eq_true]
 exact ⟨fun h a ha=>of_decide_eq_true (h a ha),fun h a ha=>decide_eq_true (h a ha)⟩
end Go.Proofs.Ytnbbackjofgcfaa

namespace Go.Proofs.Ytnbbackjofgcfaa
namespace Dn
def ab (x:Int):Int:=(x.natAbs:Int)
theorem ab_nonneg (x:Int):0≤ab x:=by unfold ab;omega
theorem ab_add (x y:Int):ab (x+y)≤ab x+ab y:=by unfold ab;omega
theorem ab_le {x b:Int}:ab x≤b↔ -b≤x∧x≤b:=by unfold ab;omega
theorem ab_mul (x y:Int):ab (x*y)=ab x*ab y:=by
 unfold ab
 rw[Int.natAbs_mul]
 rfl
def sz:Nat→(Nat→Int)→Int
 | 0,_=>0
 | n+1,f=>sz n f+f n
theorem sz_congr:∀{n:Nat} {f g:Nat→Int},(∀i,i<n→f i=g i)→sz n f=sz n g
 | 0,_,_,_=>rfl
 | n+1,f,g,h=>by
  simp only[sz]
  rw[sz_congr (n:=n) fun i hi=>h i (by omega),h n (by omega)]
theorem sz_add:∀{n:Nat} {f g:Nat→Int},sz n (fun i=>f i+g i)=sz n f+sz n g
 | 0,_,_=>rfl
 | n+1,f,g=>by
  simp only[sz]
  rw[sz_add]
  omega
theorem sz_mul:∀{n:Nat} {c:Int} {f:Nat→Int},sz n (fun i=>c*f i)=c*sz n f
 | 0,c,_=>by simp[sz]
 | n+1,c,f=>by
  simp only[sz]
  rw[sz_mul,Int.mul_add]
theorem sz_mulr {n:Nat} {c:Int} {f:Nat→Int}:sz n (fun i=>f i*c)=sz n f*c:=by
 rw[Int.mul_comm,←sz_mul]
 exact sz_congr fun i _=>Int.mul_comm _ _
theorem sz_zero:∀{n:Nat} {f:Nat→Int},(∀i,i<n→f i=0)→sz n f=0
 | 0,_,_=>rfl
 | n+1,f,h=>by
  simp only[sz]
  rw[sz_zero fun i hi=>h i (by omega),h n (by omega)]
  rfl
theorem sz_neg {n:Nat} {f:Nat→Int}:sz n (fun i=> - f i)= - sz n f:=by
 have:sz n (fun i=> - f i)=sz n (fun i=>(-1)*f i):=sz_congr fun i _=>by omega
 rw[this,sz_mul]
 omega
theorem sz_sub {n:Nat} {f g:Nat→Int}:sz n (fun i=>f i - g i)=sz n f - sz n g:=by
 have:sz n (fun i=>f i - g i)=sz n (fun i=>f i+ - g i):=sz_congr fun i _=>by omega
 rw[this,sz_add,sz_neg]
 omega
theorem sz_one:∀{n:Nat} {f:Nat→Int} {k:Nat},k<n→(∀i,i<n→i≠k→f i=0)→sz n f=f k
 | n+1,f,k,hk,h=>by
  simp only[sz]
  by_cases e:k=n
  ·subst e
   rw[sz_zero fun i hi=>h i (by omega) (by omega)]
   omega
  ·rw[sz_one (k:=k) (by omega) fun i hi hne=>h i (by omega) hne,h n (by omega) (fun e'=>e e'.symm)]
   omega
theorem sz_two {n:Nat} {f:Nat→Int} {k l:Nat} (hk:k<n) (hl:l<n) (hkl:k≠l) (h:∀i,i<n→i≠k→i≠l→f i=0):sz n f=f k+f l:=by
 have e:sz n f=sz n (fun i=>(if i=k then f k else 0)+(if i=l then f l else 0)):=sz_congr fun i hi=>by
  by_cases h1:i=k
  ·subst h1;rw[if_pos rfl,if_neg hkl];omega
  ·by_cases h2:i=l
   ·subst h2;rw[if_neg h1,if_pos rfl];omega
   ·rw[if_neg h1,if_neg h2,h i hi h1 h2];rfl
 rw[e,sz_add,sz_one hk (f:=fun i=>if i=k then f k else 0) (fun i _ hne=>if_neg hne),sz_one hl (f:=fun i=>if i=l then f l else 0) (fun i _ hne=>if_neg hne)]
 simp
theorem sz_swap:∀{m n:Nat} {f:Nat→Nat→Int},sz m (fun i=>sz n (fun j=>f i j))=sz n (fun j=>sz m (fun i=>f i j))
 | 0,n,f=>by
  simp only[sz]
  exact (sz_zero fun _ _=>rfl).symm
 | m+1,n,f=>by
  simp only[sz]
  rw[sz_swap,sz_add]
theorem sz_le:∀{n:Nat} {f g:Nat→Int},(∀i,i<n→f i≤g i)→sz n f≤sz n g
 | 0,_,_,_=>Int.le_refl _
 | n+1,f,g,h=>by
  simp only[sz]
  have:=sz_le (n:=n) fun i hi=>h i (by omega)
  have:=h n (by omega)
  omega
theorem sz_nonneg {n:Nat} {f:Nat→Int} (h:∀i,i<n→0≤f i):0≤sz n f:=by
 have:=sz_le (n:=n) (f:=fun _=>0) (g:=f) h
 rwa [sz_zero fun _ _=>rfl] at this
theorem sz_abs:∀{n:Nat} {f:Nat→Int},ab (sz n f)≤sz n (fun i=>ab (f i))
 | 0,_=>by simp[sz,ab]
 | n+1,f=>by
  simp only[sz]
  have:=sz_abs (n:=n) (f:=f)
  have:=ab_add (sz n f) (f n)
  omega
def skip (k j:Nat):Nat:=if j<k then j else j+1
def sgd (k:Nat):Int:=if k % 2=0 then 1 else -1
theorem sgd_succ (k:Nat):sgd (k+1)= - sgd k:=by
 unfold sgd
 split<;>split<;>omega
theorem sgd_abs (k:Nat) (x:Int):ab (sgd k*x)=ab x:=by
 unfold sgd ab
 split<;>omega
def minor (A:Nat→Nat→Int) (k:Nat):Nat→Nat→Int:=fun i j=>A (i+1) (skip k j)
def det:Nat→(Nat→Nat→Int)→Int
 | 0,_=>1
 | n+1,A=>sz (n+1) fun k=>sgd k*A 0 k*det n (minor A k)
def setC (A:Nat→Nat→Int) (c:Nat) (v:Nat→Int):Nat→Nat→Int:=fun i j=>if j=c then v i else A i j
theorem det_congr:∀{n:Nat} {A B:Nat→Nat→Int},(∀i j,i<n→j<n→A i j=B i j)→det n A=det n B
 | 0,_,_,_=>rfl
 | n+1,A,B,h=>by
  simp only[det]
  refine sz_congr fun k hk=>?_
  rw[h 0 k (by omega) hk,det_congr (A:=minor A k) (B:=minor B k) fun i j hi hj=>h (i+1) (skip k j) (by omega) (by unfold skip;split<;>omega)]
theorem minor_setC_same {A:Nat→Nat→Int} {k:Nat} {v:Nat→Int}:minor (setC A k v) k=minor A k:=by
 funext i j
 unfold minor setC
 rw[if_neg]
 unfold skip
 split<;>omega
def pos' (k c:Nat):Nat:=if c<k then c else c - 1
theorem minor_setC {A:Nat→Nat→Int} {k c:Nat} {v:Nat→Int} (h:k≠c):minor (setC A c v) k=setC (minor A k) (pos' k c) (fun i=>v (i+1)):=by
 funext i j
 unfold minor setC skip pos'
 by_cases h1:j<k<;>by_cases h2:c<k
 ·simp only[h1,h2,if_true]
 ·simp only[h1,h2,if_true,if_false]
  rw[if_neg (by omega),if_neg (by omega)]
 ·simp only[h1,h2,if_true,if_false]
  rw[if_neg (by omega),if_neg (by omega)]
 ·simp only[h1,h2,if_false]
  by_cases h3:j+1=c
  ·rw[if_pos h3,if_pos (by omega)]
  ·rw[if_neg h3,if_neg (by omega)]
theorem det_add:∀{n:Nat} {A:Nat→Nat→Int} {c:Nat} {u v:Nat→Int},c<n→det n (setC A c fun i=>u i+v i)=det n (setC A c u)+det n (setC A c v)
 | n+1,A,c,u,v,hc=>by
  simp only[det]
  rw[←sz_add]
  refine sz_congr fun k hk=>?_
  by_cases h:k=c
  ·subst h
   simp only[minor_setC_same]
   have e:∀v:Nat→Int,setC A k v 0 k=v 0:=fun v=>by simp[setC]
   rw[e,e,e,Int.mul_add,Int.add_mul]
  ·have e:∀v:Nat→Int,setC A c v 0 k=A 0 k:=fun v=>by simp[setC,h]
   rw[minor_setC h,minor_setC h,minor_setC h,e,e,e,det_add (u:=fun i=>u (i+1)) (v:=fun i=>v (i+1)) (by unfold pos';split<;>omega),Int.mul_add]
theorem det_smul:∀{n:Nat} {A:Nat→Nat→Int} {c:Nat} {x:Int} {u:Nat→Int},c<n→det n (setC A c fun i=>x*u i)=x*det n (setC A c u)
 | n+1,A,c,x,u,hc=>by
  simp only[det]
  rw[←sz_mul]
  refine sz_congr fun k hk=>?_
  by_cases h:k=c
  ·subst h
   simp only[minor_setC_same]
   have e:∀v:Nat→Int,setC A k v 0 k=v 0:=fun v=>by simp[setC]
   rw[e,e]
   simp only[Int.mul_assoc,Int.mul_left_comm]
  ·have e:∀v:Nat→Int,setC A c v 0 k=A 0 k:=fun v=>by simp[setC,h]
   rw[minor_setC h,minor_setC h,e,e,det_smul (u:=fun i=>u (i+1)) (by unfold pos';split<;>omega)]
   simp only[Int.mul_assoc,Int.mul_left_comm]
theorem det_zero {n:Nat} {A:Nat→Nat→Int} {c:Nat} (hc:c<n):det n (setC A c fun _=>0)=0:=by
 have:=det_smul (n:=n) (A:=A) (x:=0) (u:=fun _=>0) hc
 simpa using this
theorem det_sum {n:Nat} {A:Nat→Nat→Int} {c:Nat} (hc:c<n):∀{m:Nat} {x:Nat→Int} {u:Nat→Nat→Int},det n (setC A c fun i=>sz m fun l=>x l*u l i)=sz m fun l=>x l*det n (setC A c (u l))
 | 0,x,u=>by simp only[sz];exact det_zero hc
 | m+1,x,u=>by
  simp only[sz]
  rw[det_add hc,det_smul hc,det_sum hc]
theorem det_adj:∀{n:Nat} {A:Nat→Nat→Int} {c:Nat},c+1<n→(∀i,i<n→A i c=A i (c+1))→det n A=0
 | n+1,A,c,hc,h=>by
  simp only[det]
  rw[sz_two (k:=c) (l:=c+1) (by omega) hc (by omega) fun k hk h1 h2=>?_]
  ·have e:det n (minor A c)=det n (minor A (c+1)):=by
    refine det_congr fun i j hi hj=>?_
    unfold minor skip
    by_cases h1:j<c
    ·rw[if_pos h1,if_pos (by omega)]
    ·by_cases h2:j=c
     ·subst h2
      rw[if_neg h1,if_pos (by omega)]
      exact (h (i+1) (by omega)).symm
     ·rw[if_neg h1,if_neg (by omega)]
   rw[e,sgd_succ,h 0 (by omega)]
   simp only[Int.neg_mul]
   omega
  ·have e:det n (minor A k)=0:=by
    refine det_adj (c:=pos' k c) ?_ fun i hi=>?_
    ·unfold pos';split<;>omega
    ·unfold minor skip pos'
     by_cases h3:c<k
     ·simp only[h3,if_true]
      rw[if_pos (by omega)]
      exact h (i+1) (by omega)
     ·simp only[h3,if_false]
      rw[if_neg (by omega),if_neg (by omega),show c - 1+1=c by omega]
      exact h (i+1) (by omega)
   rw[e,Int.mul_zero]
theorem setC_self (A:Nat→Nat→Int) (c:Nat):setC A c (fun i=>A i c)=A:=by
 funext i j
 unfold setC
 split
 ·rename_i h;rw[h]
 ·rfl
theorem setC_comm {A:Nat→Nat→Int} {c e:Nat} {u v:Nat→Int} (h:c≠e):setC (setC A c u) e v=setC (setC A e v) c u:=by
 funext i j
 unfold setC
 by_cases h1:j=c<;>by_cases h2:j=e
 ·omega
 ·simp[h1,h]
 ·simp[h2,Ne.symm h]
 ·simp[h1,h2]
theorem det_swap_adj {n:Nat} {A:Nat→Nat→Int} {c:Nat} {u v:Nat→Int} (hc:c+1<n):det n (setC (setC A c u) (c+1) v)= - det n (setC (setC A c v) (c+1) u):=by
 have h0:∀w:Nat→Int,det n (setC (setC A c w) (c+1) w)=0:=fun w=>det_adj hc fun i _=>by simp[setC]
 have h1:=h0 fun i=>u i+v i
 rw[det_add hc,setC_comm (by omega),setC_comm (u:=fun i=>u i+v i) (by omega),det_add (by omega),det_add (by omega),setC_comm (c:=c+1) (by omega),setC_comm (c:=c+1) (v:=v) (by omega),setC_comm (c:=c+1) (u:=v) (v:=u) (by omega),setC_comm (c:=c+1) (u:=v) (v:=v) (by omega),h0,h0] at h1
 omega
theorem det_eq:∀{k:Nat} {n:Nat} {A:Nat→Nat→Int} {c:Nat},c+k+1<n→(∀i,i<n→A i c=A i (c+k+1))→det n A=0
 | 0,n,A,c,hc,h=>det_adj hc h
 | k+1,n,A,c,hc,h=>by
  have e:A=setC (setC A (c+k+1) fun i=>A i (c+k+1)) (c+k+1+1) fun i=>A i (c+k+1+1):=by
   rw[setC_self,setC_self]
  rw[e,det_swap_adj (by omega)]
  have:det n (setC (setC A (c+k+1) fun i=>A i (c+k+1+1)) (c+k+1+1) fun i=>A i (c+k+1))=0:=by
   refine det_eq (k:=k) (c:=c) (by omega) fun i hi=>?_
   simp only[setC]
   rw[if_neg (by omega),if_neg (by omega),if_neg (by omega)]
   simp only[if_true]
   exact h i hi
  rw[this]
  rfl
theorem det_alt {n:Nat} {A:Nat→Nat→Int} {a b:Nat} (ha:a<n) (hb:b<n) (hab:a≠b) (h:∀i,i<n→A i a=A i b):det n A=0:=by
 by_cases hlt:a<b
 ·obtain ⟨k,rfl⟩:∃k,b=a+k+1:=⟨b - a - 1,by omega⟩
  exact det_eq hb h
 ·obtain ⟨k,rfl⟩:∃k,a=b+k+1:=⟨a - b - 1,by omega⟩
  exact det_eq ha fun i hi=>(h i hi).symm
theorem det_swap {n:Nat} {A:Nat→Nat→Int} {a b:Nat} {u v:Nat→Int} (ha:a<n) (hb:b<n) (hab:a≠b):det n (setC (setC A a u) b v)= - det n (setC (setC A a v) b u):=by
 have h0:∀w:Nat→Int,det n (setC (setC A a w) b w)=0:=fun w=>det_alt ha hb hab fun i _=>by simp[setC]
 have h1:=h0 fun i=>u i+v i
 rw[det_add hb,setC_comm hab,setC_comm (u:=fun i=>u i+v i) hab,det_add ha,det_add ha,setC_comm (c:=b) (Ne.symm hab),setC_comm (c:=b) (v:=v) (Ne.symm hab),setC_comm (c:=b) (u:=v) (v:=u) (Ne.symm hab),setC_comm (c:=b) (u:=v) (v:=v) (Ne.symm hab),h0,h0] at h1
 omega
def pz:Nat→(Nat→Int)→Int
 | 0,_=>1
 | n+1,f=>f 0*pz n fun i=>f (i+1)
theorem pz_nonneg:∀{n:Nat} {f:Nat→Int},(∀i,i<n→0≤f i)→0≤pz n f
 | 0,_,_=>by simp[pz]
 | n+1,f,h=>Int.mul_nonneg (h 0 (by omega)) (pz_nonneg fun i hi=>h (i+1) (by omega))
theorem pz_le:∀{n:Nat} {f g:Nat→Int},(∀i,i<n→0≤f i∧f i≤g i)→pz n f≤pz n g
 | 0,_,_,_=>Int.le_refl _
 | n+1,f,g,h=>by
  simp only[pz]
  have h1:=pz_le (n:=n) (f:=fun i=>f (i+1)) (g:=fun i=>g (i+1)) fun i hi=>h (i+1) (by omega)
  have h2:=h 0 (by omega)
  have h3:=pz_nonneg (n:=n) (f:=fun i=>f (i+1)) fun i hi=>(h (i+1) (by omega)).1
  exact Int.mul_le_mul h2.2 h1 h3 (Int.le_trans h2.1 h2.2)
theorem sz_skip:∀{n k:Nat} {f:Nat→Int},k≤n→sz n (fun j=>f (skip k j))+f k=sz (n+1) f
 | 0,k,f,hk=>by
  have:k=0:=by omega
  subst this
  simp[sz]
 | n+1,k,f,hk=>by
  by_cases h:k=n+1
  ·subst h
   have e:=sz_congr (n:=n+1) (f:=fun j=>f (skip (n+1) j)) (g:=f) fun j hj=>by simp[skip,hj]
   rw[e]
   rfl
  ·have:=sz_skip (n:=n) (k:=k) (f:=f) (by omega)
   simp only[sz] at this ⊢
   have e:f (skip k n)=f (n+1):=by unfold skip;rw[if_neg (by omega)]
   rw[e]
   omega
theorem det_bound:∀{n:Nat} {A:Nat→Nat→Int},ab (det n A)≤pz n fun i=>sz n fun j=>ab (A i j)
 | 0,A=>by simp[det,pz,ab]
 | n+1,A=>by
  simp only[det,pz]
  refine Int.le_trans sz_abs ?_
  have hP:0≤pz n fun i=>sz (n+1) fun j=>ab (A (i+1) j):=pz_nonneg fun i _=>sz_nonneg fun j _=>ab_nonneg _
  refine Int.le_trans (sz_le (g:=fun k=>ab (A 0 k)*pz n fun i=>sz (n+1) fun j=>ab (A (i+1) j)) fun k hk=>?_) (by rw[sz_mulr];exact Int.le_refl _)
  rw[Int.mul_assoc,sgd_abs,ab_mul]
  refine Int.mul_le_mul_of_nonneg_left (Int.le_trans det_bound (pz_le fun i hi=>⟨sz_nonneg fun j _=>ab_nonneg _,?_⟩)) (ab_nonneg _)
  have:=sz_skip (n:=n) (k:=k) (f:=fun j=>ab (A (i+1) j)) (by omega)
  have h0:=ab_nonneg (A (i+1) k)
  simp only[minor]
  omega
end Dn
end Go.Proofs.Ytnbbackjofgcfaa

namespace Go.Proofs.Ytnbbackjofgcfaa
namespace Dn
def upd (β:Nat→Nat) (r c:Nat):Nat→Nat:=fun k=>if k=r then c else β k
def colsOf (M:Nat→Nat→Int) (γ:Nat→Nat):Nat→Nat→Int:=fun i k=>M i (γ k)
def dc (m:Nat) (M:Nat→Nat→Int) (γ:Nat→Nat):Int:=det m (colsOf M γ)
theorem colsOf_upd (M:Nat→Nat→Int) (β:Nat→Nat) (r c:Nat):colsOf M (upd β r c)=setC (colsOf M β) r (fun i=>M i c):=by
 funext i k
 unfold colsOf upd setC
 split<;>rfl
theorem upd_upd (β:Nat→Nat) (r c e:Nat):upd (upd β r c) r e=upd β r e:=by
 funext k
 unfold upd
 split<;>rfl
theorem upd_self (β:Nat→Nat) (r:Nat):upd β r (β r)=β:=by
 funext k
 unfold upd
 split
 ·rename_i h;rw[h]
 ·rfl
structure Tb (m w:Nat) (M T:Nat→Nat→Int) (d:Int) (β:Nat→Nat):Prop where
 dpos:0<d
 lt:∀i,i<m→β i<w
 co:∀k,k<m→∀j,j<w→d*M k j=sz m fun i=>T i j*M k (β i)
 cr:∃σ:Int,σ*σ=1∧d=σ*dc m M β∧∀i,i<m→∀j,j<w→T i j=σ*dc m M (upd β i j)
section
variable {m w:Nat} {M T:Nat→Nat→Int} {d:Int} {β:Nat→Nat}
theorem dc_upd_other {i k:Nat} (hi:i<m) (hk:k<m) (h:i≠k):dc m M (upd β i (β k))=0:=by
 refine det_alt hi hk h fun l _=>?_
 unfold colsOf upd
 rw[if_pos rfl,if_neg (Ne.symm h)]
theorem Tb.basis (h:Tb m w M T d β) {i:Nat} (hi:i<m):T i (β i)=d:=by
 obtain ⟨σ,_,h2,h3⟩:=h.cr
 rw[h3 i hi _ (h.lt i hi),upd_self,←h2]
theorem Tb.other (h:Tb m w M T d β) {i k:Nat} (hi:i<m) (hk:k<m) (hik:i≠k):T i (β k)=0:=by
 obtain ⟨σ,_,h2,h3⟩:=h.cr
 rw[h3 i hi _ (h.lt k hk),dc_upd_other hi hk hik,Int.mul_zero]
theorem Tb.inj (h:Tb m w M T d β) {i k:Nat} (hi:i<m) (hk:k<m) (hb:β i=β k):i=k:=by
 by_cases e:i=k
 ·exact e
 ·have h1:=h.other hi hk e
  rw[←hb,h.basis hi] at h1
  have:=h.dpos
  omega
theorem dc_two (h:Tb m w M T d β) {r i c j:Nat} (hr:r<m) (hi:i<m) (hri:r≠i) (hc:c<w) (hj:j<w) :
  d*d*dc m M (upd (upd β r c) i j)=(T r c*T i j - T i c*T r j)*dc m M β:=by
 obtain ⟨B,hB⟩:∃B,B=colsOf M β:=⟨_,rfl⟩
 have e1:d*d*dc m M (upd (upd β r c) i j)=det m (setC (setC B r fun q=>d*M q c) i fun q=>d*M q j):=by
  have a1:=det_smul (n:=m) (A:=setC B r fun q=>d*M q c) (c:=i) (x:=d) (u:=fun q=>M q j) hi
  have a2:=det_smul (n:=m) (A:=setC B i fun q=>M q j) (c:=r) (x:=d) (u:=fun q=>M q c) hr
  unfold dc
  rw[colsOf_upd,colsOf_upd,←hB,a1,setC_comm (u:=fun q=>d*M q c) hri,a2,setC_comm (u:=fun q=>M q c) hri,Int.mul_assoc]
 have e2:det m (setC (setC B r fun q=>d*M q c) i fun q=>d*M q j)=det m (setC (setC B r fun q=>sz m fun k=>T k c*B q k) i fun q=>sz m fun l=>T l j*B q l):=by
  refine det_congr fun p q hp hq=>?_
  unfold setC
  rw[hB]
  split
  ·exact h.co p hp j hj
  ·split
   ·exact h.co p hp c hc
   ·rfl
 rw[e1,e2,det_sum hi (x:=fun l=>T l j) (u:=fun l q=>B q l)]
 have e3:∀l,det m (setC (setC B r fun q=>sz m fun k=>T k c*B q k) i fun q=>B q l)=sz m fun k=>T k c*det m (setC (setC B i fun q=>B q l) r fun q=>B q k):=fun l=>by
  rw[setC_comm hri,det_sum hr (x:=fun k=>T k c) (u:=fun k q=>B q k)]
 have z1:∀k l,k<m→k≠r→k≠i→det m (setC (setC B i fun q=>B q l) r fun q=>B q k)=0:=fun k l hk h1 h2 =>
  det_alt hr hk h1.symm fun q _=>by simp[setC,h1,h2]
 have z2:∀k l,l<m→l≠r→l≠i→det m (setC (setC B i fun q=>B q l) r fun q=>B q k)=0:=fun k l hl h1 h2 =>
  det_alt hi hl h2.symm fun q _=>by simp[setC,h1,h2,hri.symm]
 have z3:det m (setC (setC B i fun q=>B q r) r fun q=>B q r)=0:=det_alt hi hr hri.symm fun q _=>by simp[setC,hri.symm]
 have z4:det m (setC (setC B i fun q=>B q i) r fun q=>B q i)=0:=det_alt hi hr hri.symm fun q _=>by simp[setC,hri.symm]
 have z5:det m (setC (setC B i fun q=>B q i) r fun q=>B q r)=det m B:=by
  rw[setC_self,setC_self]
 have z6:det m (setC (setC B i fun q=>B q r) r fun q=>B q i)= - det m B:=by
  rw[det_swap hi hr hri.symm,z5]
 have e4:∀l,l<m→(sz m fun k=>T k c*det m (setC (setC B i fun q=>B q l) r fun q=>B q k))=T r c*det m (setC (setC B i fun q=>B q l) r fun q=>B q r)+T i c*det m (setC (setC B i fun q=>B q l) r fun q=>B q i):=fun l _ =>
  sz_two hr hi hri fun k hk h1 h2=>by rw[z1 k l hk h1 h2,Int.mul_zero]
 rw[sz_congr (g:=fun l=>T l j*(T r c*det m (setC (setC B i fun q=>B q l) r fun q=>B q r)+T i c*det m (setC (setC B i fun q=>B q l) r fun q=>B q i))) fun l hl=>by rw[e3 l,e4 l hl]]
 rw[sz_two hr hi hri fun l hl h1 h2=>by rw[z2 r l hl h1 h2,z2 i l hl h1 h2];simp]
 rw[z3,z4,z5,z6]
 have:dc m M β=det m B:=by rw[hB];rfl
 rw[this]
 grind
def piv (T:Nat→Nat→Int) (d:Int) (r c i j:Nat):Int:=(T r c*T i j - T i c*T r j) / d
theorem piv_exact (h:Tb m w M T d β) {r i c j:Nat} (hr:r<m) (hi:i<m) (hri:r≠i) (hc:c<w) (hj:j<w):d*piv T d r c i j=T r c*T i j - T i c*T r j:=by
 obtain ⟨σ,h1,h2,_⟩:=h.cr
 have h3:=dc_two h hr hi hri hc hj
 have hd:=h.dpos
 have h4:dc m M β=σ*d:=by rw[h2,←Int.mul_assoc,h1,Int.one_mul]
 rw[h4] at h3
 have h5:d*(d*dc m M (upd (upd β r c) i j))=d*((T r c*T i j - T i c*T r j)*σ):=by
  rw[←Int.mul_assoc,h3]
  grind
 have h6:=Int.eq_of_mul_eq_mul_left (by omega) h5
 have h7:T r c*T i j - T i c*T r j=d*(σ*dc m M (upd (upd β r c) i j)):=by
  have:(T r c*T i j - T i c*T r j)*σ*σ=d*dc m M (upd (upd β r c) i j)*σ:=by rw[h6]
  rw[Int.mul_assoc,h1,Int.mul_one] at this
  rw[this]
  grind
 unfold piv
 rw[h7,Int.mul_ediv_cancel_left _ (by omega)]
theorem piv_eq (h:Tb m w M T d β) {σ:Int} (h1:σ*σ=1) (h2:d=σ*dc m M β) {r i c j:Nat} (hr:r<m) (hi:i<m) (hri:r≠i) (hc:c<w) (hj:j<w):piv T d r c i j=σ*dc m M (upd (upd β r c) i j):=by
 have h3:=dc_two h hr hi hri hc hj
 have hd:=h.dpos
 have h4:dc m M β=σ*d:=by rw[h2,←Int.mul_assoc,h1,Int.one_mul]
 have h5:=piv_exact h hr hi hri hc hj
 rw[h4,←h5] at h3
 have h6:(d*d)*dc m M (upd (upd β r c) i j)=(d*d)*(piv T d r c i j*σ):=by rw[h3];grind
 have h7:=Int.eq_of_mul_eq_mul_left (Int.ne_of_gt (Int.mul_pos hd hd)) h6
 rw[h7]
 grind
def sg (x:Int):Int:=if x<0 then -1 else 1
theorem sg_mul (x:Int):sg x*sg x=1:=by unfold sg;split<;>rfl
theorem sg_pos {x:Int} (h:x≠0):0<sg x*x:=by unfold sg;split<;>omega
def pivT (T:Nat→Nat→Int) (d:Int) (r c:Nat):Nat→Nat→Int:=fun i j=>sg (T r c)*(if i=r then T r j else piv T d r c i j)
theorem Tb.step (h:Tb m w M T d β) {r c:Nat} (hr:r<m) (hc:c<w) (he:T r c≠0):Tb m w M (pivT T d r c) (sg (T r c)*T r c) (upd β r c):=by
 have hd:=h.dpos
 refine ⟨sg_pos he,fun i hi=>?_,fun k hk j hj=>?_,?_⟩
 ·unfold upd
  split
  ·exact hc
  ·exact h.lt i hi
 ·have h1:∀i,i<m→d*((if i=r then T r j else piv T d r c i j)*M k (upd β r c i))=(T r c*(T i j*M k (β i)) - T r j*(T i c*M k (β i)))+(if i=r then d*(T r j*M k c) else 0):=fun i hi=>by
   unfold upd
   by_cases e:i=r
   ·subst e
    simp only[if_true]
    grind
   ·simp only[e,if_false,Int.add_zero]
    rw[←Int.mul_assoc,piv_exact h hr hi (Ne.symm e) hc hj]
    grind
  have h2:d*(sz m fun i=>(if i=r then T r j else piv T d r c i j)*M k (upd β r c i))=d*(T r c*M k j):=by
   rw[←sz_mul,sz_congr h1,sz_add,sz_sub,sz_mul,sz_mul,←h.co k hk j hj,←h.co k hk c hc,sz_one hr fun i _ hne=>if_neg hne,if_pos rfl]
   grind
  have h3:=Int.eq_of_mul_eq_mul_left (by omega) h2
  have h4:(sz m fun i=>pivT T d r c i j*M k (upd β r c i))=sg (T r c)*sz m fun i=>(if i=r then T r j else piv T d r c i j)*M k (upd β r c i):=by
   rw[←sz_mul]
   exact sz_congr fun i _=>by unfold pivT;rw[Int.mul_assoc]
  rw[h4,h3,Int.mul_assoc]
 ·obtain ⟨σ,h1,h2,h3⟩:=h.cr
  refine ⟨sg (T r c)*σ,?_,?_,fun i hi j hj=>?_⟩
  ·have:=sg_mul (T r c)
   grind
  ·rw[h3 r hr c hc]
   grind
  ·unfold pivT
   by_cases e:i=r
   ·subst e
    rw[if_pos rfl,h3 i hi j hj,upd_upd]
    grind
   ·rw[if_neg e,piv_eq h h1 h2 hr hi (Ne.symm e) hc hj]
    grind
theorem det_one:∀n:Nat,det n (fun i k=>if i=k then 1 else 0)=1
 | 0=>rfl
 | n+1=>by
  simp only[det]
  rw[sz_one (k:=0) (by omega) fun k _ hk=>by rw[if_neg (Ne.symm hk)];simp]
  have:det n (minor (fun i k=>if i=k then 1 else 0) 0)=det n (fun i k=>if i=k then 1 else 0):=det_congr fun i j _ _=>by
   unfold minor skip
   simp
  rw[this,det_one n]
  simp[sgd]
theorem Tb.first {a:Nat→Nat} (ha:∀i,i<m→a i<w) (hM:∀k,k<m→∀i,i<m→M k (a i)=if k=i then 1 else 0):Tb m w M M 1 a:=by
 have h1:dc m M a=1:=by
  unfold dc
  rw[←det_one m]
  exact det_congr fun i j hi hj=>hM i hi j hj
 refine ⟨by omega,ha,fun k hk j hj=>?_,1,by omega,by rw[h1];rfl,fun i hi j hj=>?_⟩
 ·rw[sz_one hk fun i hi hne=>by rw[hM k hk i hi,if_neg (Ne.symm hne),Int.mul_zero],hM k hk k hk,if_pos rfl]
  omega
 ·unfold dc
  rw[colsOf_upd]
  have e:det m (setC (colsOf M a) i fun q=>M q j)=det m (setC (colsOf M a) i fun q=>sz m fun k=>M k j*colsOf M a q k):=by
   refine det_congr fun p q hp hq=>?_
   unfold setC
   split
   ·show M p j=sz m fun k=>M k j*colsOf M a p k
    rw[sz_one hp fun k hk hne=>by unfold colsOf;rw[hM p hp k hk,if_neg (Ne.symm hne),Int.mul_zero]]
    unfold colsOf
    rw[hM p hp p hp,if_pos rfl]
    omega
   ·rfl
  rw[e,det_sum hi (x:=fun k=>M k j) (u:=fun k q=>colsOf M a q k),sz_one hi fun k hk hne=>by
   rw[det_alt hi hk (Ne.symm hne) fun q _=>by simp[setC,hne],Int.mul_zero],setC_self]
  have:det m (colsOf M a)=1:=h1
  rw[this]
  omega
theorem Tb.rows (h:Tb m w M T d β) {a:Nat→Nat} (ha:∀i,i<m→a i<w) (hM:∀k,k<m→∀i,i<m→M k (a i)=if k=i then 1 else 0) {i j:Nat} (hi:i<m) (hj:j<w):T i j=sz m fun k=>T i (a k)*M k j:=by
 obtain ⟨σ,h1,h2,h3⟩:=h.cr
 rw[h3 i hi j hj]
 have e:dc m M (upd β i j)=sz m fun k=>M k j*dc m M (upd β i (a k)):=by
  unfold dc
  rw[colsOf_upd]
  have e:det m (setC (colsOf M β) i fun q=>M q j)=det m (setC (colsOf M β) i fun q=>sz m fun k=>M k j*M q (a k)):=by
   refine det_congr fun p q hp hq=>?_
   unfold setC
   split
   ·show M p j=sz m fun k=>M k j*M p (a k)
    rw[sz_one hp fun k hk hne=>by rw[hM p hp k hk,if_neg (Ne.symm hne),Int.mul_zero],hM p hp p hp,if_pos rfl]
    omega
   ·rfl
  rw[e,det_sum hi (x:=fun k=>M k j) (u:=fun k q=>M q (a k))]
  exact sz_congr fun k _=>by rw[colsOf_upd]
 rw[e,←sz_mul]
 exact sz_congr fun k hk=>by rw[h3 i hi _ (ha k hk)];grind
theorem Tb.bound (h:Tb m w M T d β) {i j:Nat} (hi:i<m) (hj:j<w):ab (T i j)=ab (dc m M (upd β i j)):=by
 obtain ⟨σ,h1,_,h3⟩:=h.cr
 rw[h3 i hi j hj,ab_mul]
 have h4:ab σ*ab σ=1:=by rw[←ab_mul,h1];rfl
 have h5:ab σ=1:=by
  have h6:=ab_nonneg σ
  by_cases h7:ab σ≤1
  ·have:ab σ≠0:=fun e=>by rw[e] at h4;simp at h4
   omega
  ·exfalso
   have:2*2≤ab σ*ab σ:=Int.mul_le_mul (by omega) (by omega) (by omega) h6
   omega
 rw[h5,Int.one_mul]
end
end Dn
end Go.Proofs.Ytnbbackjofgcfaa

namespace Go.Proofs.Ytnbbackjofgcfaa
namespace Dn
structure Sx where
 T:Nat→Nat→Int
 d:Int
 β:Nat→Nat
def zr (m:Nat) (wc:Nat→Int) (S:Sx) (j:Nat):Int:=wc j*S.d - sz m fun i=>wc (S.β i)*S.T i j
structure Leaves (m R:Nat) (S:Sx) (c r:Nat):Prop where
 lt:r<m
 pos:0<S.T r c
 le:∀i,i<m→0<S.T i c→S.T r R*S.T i c≤S.T i R*S.T r c
 tie:∀i,i<m→0<S.T i c→S.T r R*S.T i c=S.T i R*S.T r c→S.β r≤S.β i
structure Enters (m N:Nat) (wc:Nat→Int) (S:Sx) (c:Nat):Prop where
 lt:c<N
 neg:zr m wc S c<0
 least:∀j,j<c→0≤zr m wc S j
structure StepAt (m w:Nat) (S S':Sx) (r c:Nat):Prop where
 T:∀i j,i<m→j<w→S'.T i j=if i=r then S.T r j else piv S.T S.d r c i j
 d:S'.d=S.T r c
 β:∀i,i<m→S'.β i=upd S.β r c i
structure Step (m w N R:Nat) (wc:Nat→Int) (S S':Sx) (r c:Nat):Prop where
 enters:Enters m N wc S c
 leaves:Leaves m R S c r
 at':StepAt m w S S' r c
structure Val (m w N R:Nat) (M:Nat→Nat→Int) (S:Sx):Prop where
 tb:Tb m w M S.T S.d S.β
 feas:∀i,i<m→0≤S.T i R
 ne:∀i,i<m→S.β i≠R
section
variable {m w N R:Nat} {M:Nat→Nat→Int} {wc:Nat→Int}
theorem dc_congr {β β':Nat→Nat} (h:∀i,i<m→β' i=β i):dc m M β'=dc m M β:=det_congr fun i j _ hj=>by unfold colsOf;rw[h j hj]
theorem Tb.congr {T T':Nat→Nat→Int} {d:Int} {β β':Nat→Nat} (h:Tb m w M T d β) (hT:∀i j,i<m→j<w→T' i j=T i j) (hβ:∀i,i<m→β' i=β i):Tb m w M T' d β':=by
 refine ⟨h.dpos,fun i hi=>by rw[hβ i hi];exact h.lt i hi,fun k hk j hj=>?_,?_⟩
 ·rw[h.co k hk j hj]
  exact sz_congr fun i hi=>by rw[hT i j hi hj,hβ i hi]
 ·obtain ⟨σ,h1,h2,h3⟩:=h.cr
  refine ⟨σ,h1,by rw[dc_congr hβ];exact h2,fun i hi j hj=>?_⟩
  rw[hT i j hi hj,h3 i hi j hj]
  congr 1
  exact (dc_congr fun k hk=>by unfold upd;rw[hβ k hk]).symm
theorem Val.stepAt {S S':Sx} (h:Val m w N R M S) (hR:R<w) {r c:Nat} (hc:c<w) (hcR:c≠R) (hl:Leaves m R S c r) (hs:StepAt m w S S' r c):Val m w N R M S':=by
 have hr:=hl.lt
 have e1:sg (S.T r c)=1:=by unfold sg;rw[if_neg (by have:=hl.pos;omega)]
 have h1:=h.tb.step hr hc (by have:=hl.pos;omega)
 have h2:=h1.congr (T':=S'.T) (β':=S'.β) (fun i j hi hj=>by rw[hs.T i j hi hj];unfold pivT;rw[e1,Int.one_mul]) hs.β
 rw[e1,Int.one_mul,←hs.d] at h2
 refine ⟨h2,fun i hi=>?_,fun i hi=>?_⟩
 ·rw[hs.T i R hi hR]
  split
  ·exact h.feas r hr
  ·rename_i hne
   have h3:=piv_exact h.tb hr hi (Ne.symm hne) hc hR
   have h4:=h.tb.dpos
   have h5:=hl.pos
   have h6:0≤S.T r c*S.T i R - S.T i c*S.T r R:=by
    by_cases h7:0<S.T i c
    ·have:=hl.le i hi h7
     have e1:=Int.mul_comm (S.T r R) (S.T i c)
     have e2:=Int.mul_comm (S.T i R) (S.T r c)
     omega
    ·have h8:0≤S.T r c*S.T i R:=Int.mul_nonneg (by omega) (h.feas i hi)
     have h9:0≤ -S.T i c*S.T r R:=Int.mul_nonneg (by omega) (h.feas r hr)
     rw[Int.neg_mul] at h9
     omega
   rw[←h3] at h6
   exact Int.nonneg_of_mul_nonneg_right h6 h4
 ·rw[hs.β i hi]
  unfold upd
  split
  ·exact hcR
  ·exact h.ne i hi
theorem zr_basis {S:Sx} (h:Tb m w M S.T S.d S.β) {i:Nat} (hi:i<m):zr m wc S (S.β i)=0:=by
 unfold zr
 rw[sz_one hi fun k hk hne=>by rw[h.other hk hi hne,Int.mul_zero],h.basis hi]
 omega
theorem zr_rows {S:Sx} (h:Tb m w M S.T S.d S.β) {a:Nat→Nat} (ha:∀i,i<m→a i<w) (hM:∀k,k<m→∀i,i<m→M k (a i)=if k=i then 1 else 0) {j:Nat} (hj:j<w) :
  zr m wc S j=wc j*S.d - sz m fun k=>(sz m fun i=>wc (S.β i)*S.T i (a k))*M k j:=by
 unfold zr
 congr 1
 rw[sz_congr (g:=fun i=>sz m fun k=>wc (S.β i)*S.T i (a k)*M k j) fun i hi=>by
  rw[h.rows ha hM hi hj,←sz_mul]
  exact sz_congr fun k _=>by rw[Int.mul_assoc]]
 rw[sz_swap]
 exact sz_congr fun k _=>sz_mulr
theorem zr_step {S S':Sx} (h:Tb m w M S.T S.d S.β) {r c j:Nat} (hr:r<m) (hc:c<w) (hj:j<w) (hs:StepAt m w S S' r c):S.d*zr m wc S' j=S.T r c*zr m wc S j - zr m wc S c*S.T r j:=by
 have h1:∀i,i<m→S.d*(wc (S'.β i)*S'.T i j)=(S.T r c*(wc (S.β i)*S.T i j) - S.T r j*(wc (S.β i)*S.T i c))+(if i=r then S.d*(wc c*S.T r j) else 0):=fun i hi=>by
  rw[hs.β i hi,hs.T i j hi hj]
  unfold upd
  by_cases e:i=r
  ·subst e
   simp only[if_true]
   grind
  ·simp only[e,if_false,Int.add_zero]
   have:=piv_exact h hr hi (Ne.symm e) hc hj
   grind
 have h2:S.d*(sz m fun i=>wc (S'.β i)*S'.T i j)=S.T r c*(sz m fun i=>wc (S.β i)*S.T i j) - S.T r j*(sz m fun i=>wc (S.β i)*S.T i c)+S.d*(wc c*S.T r j):=by
  rw[←sz_mul,sz_congr h1,sz_add,sz_sub,sz_mul,sz_mul,sz_one hr fun i _ hne=>if_neg hne,if_pos rfl]
 unfold zr
 rw[Int.mul_sub,h2,hs.d]
 grind
theorem zr_two {S S':Sx} (h:Tb m w M S.T S.d S.β) (h':Tb m w M S'.T S'.d S'.β) {a:Nat→Nat} (ha:∀i,i<m→a i<w) (hM:∀k,k<m→∀i,i<m→M k (a i)=if k=i then 1 else 0) {s:Nat} (hs:s<w) :
  S.d*zr m wc S' s=S'.d*zr m wc S s+sz m fun i=>S.T i s*zr m wc S' (S.β i):=by
 have e1:=zr_rows (wc:=wc) h' ha hM hs
 have e2:∀i,i<m→S.T i s*zr m wc S' (S.β i)=S'.d*(wc (S.β i)*S.T i s) - sz m fun k=>(sz m fun i=>wc (S'.β i)*S'.T i (a k))*(S.T i s*M k (S.β i)):=fun i hi=>by
  rw[zr_rows (wc:=wc) h' ha hM (h.lt i hi),Int.mul_sub,←sz_mul]
  congr 1
  ·grind
  ·exact sz_congr fun k _=>by grind
 rw[sz_congr e2,sz_sub,sz_mul,sz_swap]
 have e3:(sz m fun k=>sz m fun i=>(sz m fun i=>wc (S'.β i)*S'.T i (a k))*(S.T i s*M k (S.β i)))=S.d*sz m fun k=>(sz m fun i=>wc (S'.β i)*S'.T i (a k))*M k s:=by
  rw[←sz_mul]
  refine sz_congr fun k hk=>?_
  rw[sz_mul,←h.co k hk s hs]
  grind
 rw[e3,e1]
 unfold zr
 grind
theorem left_between {β:Nat→Nat→Nat} {q:Nat}:∀{k i:Nat},(∃p,p<m∧β i p=q)→(¬ ∃p,p<m∧β (i+k) p=q)→∃n,i≤n∧n<i+k∧(∃p,p<m∧β n p=q)∧¬ ∃p,p<m∧β (n+1) p=q
 | 0,i,h1,h2=>(h2 h1).elim
 | k+1,i,h1,h2=>by
  by_cases h:∃p,p<m∧β (i+k) p=q
  ·exact ⟨i+k,by omega,by omega,h,h2⟩
  ·obtain ⟨n,h3,h4,h5,h6⟩:=left_between h1 h
   exact ⟨n,h3,by omega,h5,h6⟩
theorem come_between {β:Nat→Nat→Nat} {q:Nat}:∀{k i:Nat},(¬ ∃p,p<m∧β i p=q)→(∃p,p<m∧β (i+k) p=q)→∃n,i≤n∧n<i+k∧(¬ ∃p,p<m∧β n p=q)∧∃p,p<m∧β (n+1) p=q
 | 0,i,h1,h2=>(h1 h2).elim
 | k+1,i,h1,h2=>by
  by_cases h:∃p,p<m∧β (i+k) p=q
  ·obtain ⟨n,h3,h4,h5,h6⟩:=come_between h1 h
   exact ⟨n,h3,by omega,h5,h6⟩
  ·exact ⟨i+k,by omega,by omega,h,h2⟩
theorem max_of {k:Nat} {f:Nat→Nat}:0<k→∃n,n<k∧∀i,i<k→f i≤f n:=by
 induction k with
 | zero=>intro h;omega
 | succ k ih =>
  intro _
  by_cases hk:k=0
  ·subst hk
   exact ⟨0,by omega,fun i hi=>by rw[show i=0 by omega];exact Nat.le_refl _⟩
  ·obtain ⟨n,h1,h2⟩:=ih (by omega)
   by_cases h3:f k≤f n
   ·refine ⟨n,by omega,fun i hi=>?_⟩
    by_cases h4:i=k
    ·rw[h4];exact h3
    ·exact h2 i (by omega)
   ·refine ⟨k,by omega,fun i hi=>?_⟩
    by_cases h4:i=k
    ·rw[h4];exact Nat.le_refl _
    ·have:=h2 i (by omega);omega
theorem le_cancel {e x y:Int} (he:0<e) (h:e*x≤e*y):x≤y:=Int.le_of_mul_le_mul_left h he
structure Run (m w N R:Nat) (M:Nat→Nat→Int) (wc:Nat→Int) (k:Nat) (S:Nat→Sx) (r c:Nat→Nat):Prop where
 val:∀n,n≤k→Val m w N R M (S n)
 step:∀n,n<k→Step m w N R wc (S n) (S (n+1)) (r n) (c n)
theorem Run.of {k:Nat} {S:Nat→Sx} {r c:Nat→Nat} (hN:N≤R) (hR:R<w) (h0:Val m w N R M (S 0)) (hs:∀n,n<k→Step m w N R wc (S n) (S (n+1)) (r n) (c n)):Run m w N R M wc k S r c:=by
 refine ⟨fun n=>?_,hs⟩
 induction n with
 | zero=>intro _;exact h0
 | succ n ih =>
  intro hn
  have h1:=hs n (by omega)
  have:=h1.enters.lt
  exact (ih (by omega)).stepAt hR (by omega) (by omega) h1.leaves h1.at'
theorem Run.nocycle {k:Nat} {S:Nat→Sx} {r c:Nat→Nat} {a:Nat→Nat} (ha:∀i,i<m→a i<w) (hM:∀k,k<m→∀i,i<m→M k (a i)=if k=i then 1 else 0) (hN:N≤R) (hR:R<w)
  (h:Run m w N R M wc k S r c) (hk:0<k):¬ ∀i,i<m→(S k).β i=(S 0).β i:=by
 intro hcyc
 have cw:∀n,n<k→c n<w:=fun n hn=>by have:=(h.step n hn).enters.lt;omega
 have dp:∀n,n≤k→0<(S n).d:=fun n hn=>(h.val n hn).tb.dpos
 have vstep:∀n,n<k→zr m wc (S n) R*(S (n+1)).d≤zr m wc (S (n+1)) R*(S n).d∧((S n).T (r n) R≠0→zr m wc (S n) R*(S (n+1)).d<zr m wc (S (n+1)) R*(S n).d):=fun n hn=>by
  have hs:=h.step n hn
  have h1:=zr_step (wc:=wc) (h.val n (by omega)).tb hs.leaves.lt (cw n hn) hR hs.at'
  have h2:=hs.enters.neg
  have h3:=(h.val n (by omega)).feas (r n) hs.leaves.lt
  have h4:0≤ -zr m wc (S n) (c n)*(S n).T (r n) R:=Int.mul_nonneg (by omega) h3
  rw[Int.neg_mul] at h4
  rw[hs.at'.d,Int.mul_comm (zr m wc (S (n+1)) R),h1,Int.mul_comm (zr m wc (S n) R)]
  refine ⟨by omega,fun hne=>?_⟩
  have h5:0< -zr m wc (S n) (c n)*(S n).T (r n) R:=Int.mul_pos (by omega) (by omega)
  rw[Int.neg_mul] at h5
  omega
 have vle:∀i j,i+j≤k→zr m wc (S i) R*(S (i+j)).d≤zr m wc (S (i+j)) R*(S i).d:=by
  intro i j
  induction j with
  | zero=>intro _;exact Int.le_refl _
  | succ j ih =>
   intro hj
   have h1:=ih (by omega)
   have h2:=(vstep (i+j) (by omega)).1
   have d1:=dp i (by omega)
   have d2:=dp (i+j) (by omega)
   have d3:=dp (i+j+1) (by omega)
   refine le_cancel d2 ?_
   have h3:=Int.mul_le_mul_of_nonneg_right h1 (Int.le_of_lt d3)
   have h4:=Int.mul_le_mul_of_nonneg_right h2 (Int.le_of_lt d1)
   rw[show i+(j+1)=i+j+1 by omega]
   calc (S (i+j)).d*(zr m wc (S i) R*(S (i+j+1)).d)=zr m wc (S i) R*(S (i+j)).d*(S (i+j+1)).d:=by grind
    _≤zr m wc (S (i+j)) R*(S i).d*(S (i+j+1)).d:=h3
    _=zr m wc (S (i+j)) R*(S (i+j+1)).d*(S i).d:=by grind
    _≤zr m wc (S (i+j+1)) R*(S (i+j)).d*(S i).d:=h4
    _=(S (i+j)).d*(zr m wc (S (i+j+1)) R*(S i).d):=by grind
 have same:(S k).d=(S 0).d∧∀i j,i<m→j<w→(S k).T i j=(S 0).T i j:=by
  obtain ⟨σ,s1,s2,s3⟩:=(h.val k (Nat.le_refl _)).tb.cr
  obtain ⟨τ,t1,t2,t3⟩:=(h.val 0 (by omega)).tb.cr
  rw[dc_congr hcyc] at s2
  have p1:=dp k (Nat.le_refl _)
  have p2:=dp 0 (by omega)
  have e:σ=τ:=by
   have h1:σ*(S k).d=dc m M (S 0).β:=by rw[s2,←Int.mul_assoc,s1,Int.one_mul]
   have h2:τ*(S 0).d=dc m M (S 0).β:=by rw[t2,←Int.mul_assoc,t1,Int.one_mul]
   have pm:∀x:Int,x*x=1→x=1∨x= -1:=fun x hx=>by
    have h4:x.natAbs*x.natAbs=1:=by
     have:=congrArg Int.natAbs hx
     rwa [Int.natAbs_mul] at this
    have h5:x.natAbs=1:=Nat.eq_one_of_mul_eq_one_left h4
    omega
   rcases pm σ s1 with rfl | rfl<;>rcases pm τ t1 with rfl | rfl<;>omega
  refine ⟨by rw[s2,e];exact t2.symm,fun i j hi hj=>?_⟩
  rw[s3 i hi j hj,t3 i hi j hj,e]
  congr 1
  exact dc_congr fun l hl=>by unfold upd;rw[hcyc l hl]
 have vend:zr m wc (S k) R=zr m wc (S 0) R:=by
  unfold zr
  rw[same.1]
  congr 1
  exact sz_congr fun i hi=>by rw[hcyc i hi,same.2 i R hi hR]
 have flat:∀n,n<k→(S n).T (r n) R=0:=fun n hn=>by
  by_cases e:(S n).T (r n) R=0
  ·exact e
  ·exfalso
   have h1:=(vstep n hn).2 e
   have h2:=vle 0 n (by omega)
   have h3:=vle (n+1) (k - (n+1)) (by omega)
   rw[Nat.zero_add] at h2
   rw[show n+1+(k - (n+1))=k by omega,vend,same.1] at h3
   have d0:=dp 0 (by omega)
   have d1:=dp n (by omega)
   have d2:=dp (n+1) (by omega)
   have h4:=Int.mul_lt_mul_of_pos_right h1 d0
   have h5:=Int.mul_le_mul_of_nonneg_right h2 (Int.le_of_lt d2)
   have h6:=Int.mul_le_mul_of_nonneg_right h3 (Int.le_of_lt d1)
   have:zr m wc (S 0) R*(S n).d*(S (n+1)).d<zr m wc (S 0) R*(S n).d*(S (n+1)).d:=by
    calc zr m wc (S 0) R*(S n).d*(S (n+1)).d≤zr m wc (S n) R*(S 0).d*(S (n+1)).d:=h5
     _=zr m wc (S n) R*(S (n+1)).d*(S 0).d:=by grind
     _<zr m wc (S (n+1)) R*(S n).d*(S 0).d:=h4
     _=zr m wc (S (n+1)) R*(S 0).d*(S n).d:=by grind
     _≤zr m wc (S 0) R*(S (n+1)).d*(S n).d:=h6
     _=zr m wc (S 0) R*(S n).d*(S (n+1)).d:=by grind
   omega
 have zeroStep:∀n q,n<k→((∀i,i<m→(S n).β i=q→(S n).T i R=0)↔(∀i,i<m→(S (n+1)).β i=q→(S (n+1)).T i R=0)):=fun n q hn=>by
  have hs:=h.step n hn
  have hf:=flat n hn
  have htb:=(h.val n (by omega)).tb
  have key:∀i,i<m→i≠r n→((S (n+1)).T i R=0↔(S n).T i R=0):=fun i hi hne=>by
   rw[hs.at'.T i R hi hR,if_neg hne]
   have h1:=piv_exact htb hs.leaves.lt hi (Ne.symm hne) (cw n hn) hR
   rw[hf,Int.mul_zero,Int.sub_zero] at h1
   have h2:=hs.leaves.pos
   have h3:=dp n (by omega)
   constructor
   ·intro e
    rw[e,Int.mul_zero] at h1
    rcases Int.mul_eq_zero.1 h1.symm with h4 | h4
    ·omega
    ·exact h4
   ·intro e
    rw[e,Int.mul_zero] at h1
    rcases Int.mul_eq_zero.1 h1 with h4 | h4
    ·omega
    ·exact h4
  constructor
  ·intro hz i hi hb
   by_cases e:i=r n
   ·rw[e,hs.at'.T _ R hs.leaves.lt hR,if_pos rfl];exact hf
   ·rw[hs.at'.β i hi] at hb
    unfold upd at hb
    rw[if_neg e] at hb
    exact (key i hi e).2 (hz i hi hb)
  ·intro hz i hi hb
   by_cases e:i=r n
   ·rw[e];exact hf
   ·refine (key i hi e).1 (hz i hi ?_)
    rw[hs.at'.β i hi]
    unfold upd
    rw[if_neg e]
    exact hb
 have zeroAll:∀q n,n≤k→((∀i,i<m→(S 0).β i=q→(S 0).T i R=0)↔(∀i,i<m→(S n).β i=q→(S n).T i R=0)):=fun q n=>by
  induction n with
  | zero=>intro _;exact Iff.rfl
  | succ n ih=>intro hn;exact (ih (by omega)).trans (zeroStep n q (by omega))
 have comes:∀n q,n<k→(¬ ∃p,p<m∧(S n).β p=q)→(∃p,p<m∧(S (n+1)).β p=q)→q=c n:=fun n q hn h1 ⟨p,hp,hq⟩=>by
  have hs:=h.step n hn
  rw[hs.at'.β p hp] at hq
  unfold upd at hq
  split at hq
  ·exact hq.symm
  ·exact (h1 ⟨p,hp,hq⟩).elim
 have goes:∀n q,n<k→(∃p,p<m∧(S n).β p=q)→(¬ ∃p,p<m∧(S (n+1)).β p=q)→q=(S n).β (r n):=fun n q hn ⟨p,hp,hq⟩ h1=>by
  have hs:=h.step n hn
  by_cases e:p=r n
  ·rw[←e];exact hq.symm
  ·refine (h1 ⟨p,hp,?_⟩).elim
   rw[hs.at'.β p hp]
   unfold upd
   rw[if_neg e]
   exact hq
 have notIn:∀n,n<k→¬ ∃p,p<m∧(S n).β p=c n:=fun n hn ⟨p,hp,hq⟩=>by
  have hs:=h.step n hn
  have h1:=hs.enters.neg
  rw[←hq,zr_basis (h.val n (by omega)).tb hp] at h1
  omega
 have isIn:∀n,n<k→∃p,p<m∧(S (n+1)).β p=c n:=fun n hn=>by
  have hs:=h.step n hn
  refine ⟨r n,hs.leaves.lt,?_⟩
  rw[hs.at'.β _ hs.leaves.lt]
  unfold upd
  rw[if_pos rfl]
 have ends:∀q,(∃p,p<m∧(S k).β p=q)↔∃p,p<m∧(S 0).β p=q:=fun q=>by
  constructor
  ·rintro ⟨p,hp,hq⟩;exact ⟨p,hp,by rw[←hcyc p hp];exact hq⟩
  ·rintro ⟨p,hp,hq⟩;exact ⟨p,hp,by rw[hcyc p hp];exact hq⟩
 obtain ⟨ns,hns,hmax⟩:=max_of (f:=c) hk
 have leaves:∃n,n<k∧(S n).β (r n)=c ns:=by
  by_cases h0:∃p,p<m∧(S 0).β p=c ns
  ·obtain ⟨n,h1,h2,h3,h4⟩:=left_between (β:=fun n=>(S n).β) (k:=ns) (i:=0) h0 (by rw[Nat.zero_add];exact notIn ns hns)
   exact ⟨n,by omega,(goes n _ (by omega) h3 h4).symm⟩
  ·have h1:¬ ∃p,p<m∧(S k).β p=c ns:=fun e=>h0 ((ends _).1 e)
   obtain ⟨n,h2,h3,h4,h5⟩:=left_between (β:=fun n=>(S n).β) (k:=k - (ns+1)) (i:=ns+1) (isIn ns hns) (by rw[show ns+1+(k - (ns+1))=k by omega];exact h1)
   exact ⟨n,by omega,(goes n _ (by omega) h4 h5).symm⟩
 obtain ⟨n,hn,hleave⟩:=leaves
 have hs:=h.step n hn
 have hst:=h.step ns hns
 have vn:=h.val n (by omega)
 have vs:=h.val ns (by omega)
 have hcn:=hmax n hn
 have hne:c n≠c ns:=fun e=>notIn n hn ⟨r n,hs.leaves.lt,by rw[hleave];exact e.symm⟩
 have id:=zr_two (wc:=wc) vn.tb vs.tb ha hM (cw n hn)
 have z1:0≤zr m wc (S ns) (c n):=hst.enters.least (c n) (by omega)
 have z2:=hs.enters.neg
 have d1:=dp n (by omega)
 have d2:=dp ns (by omega)
 have hsum:0<sz m fun i=>(S n).T i (c n)*zr m wc (S ns) ((S n).β i):=by
  have h1:0≤(S n).d*zr m wc (S ns) (c n):=Int.mul_nonneg (by omega) z1
  have h2:0<(S ns).d* -zr m wc (S n) (c n):=Int.mul_pos d2 (by omega)
  rw[Int.mul_neg] at h2
  omega
 have hex:∃i,i<m∧0<(S n).T i (c n)*zr m wc (S ns) ((S n).β i):=by
  by_cases e:∃i,i<m∧0<(S n).T i (c n)*zr m wc (S ns) ((S n).β i)
  ·exact e
  ·exfalso
   have:=sz_le (n:=m) (f:=fun i=>(S n).T i (c n)*zr m wc (S ns) ((S n).β i)) (g:=fun _=>0) fun i hi=>Int.not_lt.1 fun h'=>e ⟨i,hi,h'⟩
   rw[sz_zero (f:=fun _=>0) fun _ _=>rfl] at this
   omega
 obtain ⟨i,hi,hpos⟩:=hex
 have hq0:zr m wc (S ns) ((S n).β i)≠0:=fun e=>by rw[e,Int.mul_zero] at hpos;omega
 have hq1:¬ ∃p,p<m∧(S ns).β p=(S n).β i:=fun ⟨p,hp,hq⟩=>hq0 (by rw[←hq];exact zr_basis vs.tb hp)
 have hq2:∃p,p<m∧(S n).β p=(S n).β i:=⟨i,hi,rfl⟩
 have hq3:∃n',n'<k∧(S n).β i=c n':=by
  by_cases hlt:ns<n
  ·obtain ⟨n',h1,h2,h3,h4⟩:=come_between (β:=fun n=>(S n).β) (k:=n - ns) (i:=ns) hq1 (by rw[show ns+(n - ns)=n by omega];exact hq2)
   exact ⟨n',by omega,comes n' _ (by omega) h3 h4⟩
  ·by_cases h0:∃p,p<m∧(S 0).β p=(S n).β i
   ·obtain ⟨n',h1,h2,h3,h4⟩:=come_between (β:=fun n=>(S n).β) (k:=k - ns) (i:=ns) hq1 (by rw[show ns+(k - ns)=k by omega];exact (ends _).2 h0)
    exact ⟨n',by omega,comes n' _ (by omega) h3 h4⟩
   ·obtain ⟨n',h1,h2,h3,h4⟩:=come_between (β:=fun n=>(S n).β) (k:=n) (i:=0) h0 (by rw[Nat.zero_add];exact hq2)
    exact ⟨n',by omega,comes n' _ (by omega) h3 h4⟩
 obtain ⟨n',hn',hq4⟩:=hq3
 have hq5:(S n).β i≤c ns:=by rw[hq4];exact hmax n' hn'
 by_cases hqt:(S n).β i=c ns
 ·have:i=r n:=vn.tb.inj hi hs.leaves.lt (by rw[hqt,hleave])
  rw[this,hleave] at hpos
  have h1:=hs.leaves.pos
  have h2:=hst.enters.neg
  have h3:0<(S n).T (r n) (c n)* -zr m wc (S ns) (c ns):=Int.mul_pos h1 (by omega)
  rw[Int.mul_neg] at h3
  omega
 ·have z3:0≤zr m wc (S ns) ((S n).β i):=hst.enters.least _ (by omega)
  have hTi:0<(S n).T i (c n):=by
   by_cases e:0<(S n).T i (c n)
   ·exact e
   ·exfalso
    have:0≤ -(S n).T i (c n)*zr m wc (S ns) ((S n).β i):=Int.mul_nonneg (by omega) z3
    rw[Int.neg_mul] at this
    omega
  have hiR:(S n).T i R=0:=((zeroAll _ n (by omega)).1 ((zeroAll _ ns (by omega)).2 fun p hp hq=>(hq1 ⟨p,hp,hq⟩).elim)) i hi rfl
  have:=hs.leaves.tie i hi hTi (by rw[flat n hn,hiR,Int.zero_mul,Int.zero_mul])
  rw[hleave] at this
  omega
end
end Dn
end Go.Proofs.Ytnbbackjofgcfaa

namespace Go.Proofs.Ytnbbackjofgcfaa
namespace Dn
theorem pigeon:∀(K:Nat) (f:Nat→Nat),(∀i,i≤K→f i<K)→∃i j,i<j∧j≤K∧f i=f j
 | 0,f,h=>by have:=h 0 (by omega);omega
 | K+1,f,h=>by
  by_cases e:∃i,i≤K∧f i=f (K+1)
  ·obtain ⟨i,h1,h2⟩:=e
   exact ⟨i,K+1,by omega,by omega,h2⟩
  ·
   obtain ⟨i,j,h1,h2,h3⟩:=pigeon K (fun i=>if f i<f (K+1) then f i else f i - 1) fun i hi=>by
    have h4:=h i (by omega)
    have h5:=h (K+1) (by omega)
    have h6:f i≠f (K+1):=fun e'=>e ⟨i,hi,e'⟩
    show (if f i<f (K+1) then f i else f i - 1)<K
    split<;>omega
   refine ⟨i,j,h1,by omega,?_⟩
   have h6:f i≠f (K+1):=fun e'=>e ⟨i,by omega,e'⟩
   have h7:f j≠f (K+1):=fun e'=>e ⟨j,by omega,e'⟩
   have h3:(if f i<f (K+1) then f i else f i - 1)=(if f j<f (K+1) then f j else f j - 1):=h3
   split at h3<;>split at h3<;>omega
def code (w:Nat) (β:Nat→Nat):Nat→Nat
 | 0=>0
 | m+1=>code w β m*w+β m
theorem code_lt {w:Nat} {β:Nat→Nat}:∀{m:Nat},(∀i,i<m→β i<w)→code w β m<w ^ m
 | 0,_=>by simp[code]
 | m+1,h=>by
  simp only[code]
  have h1:=code_lt (m:=m) fun i hi=>h i (by omega)
  have h2:=h m (by omega)
  have h3:(code w β m+1)*w≤w ^ m*w:=Nat.mul_le_mul_right _ h1
  rw[Nat.pow_succ]
  rw[Nat.add_mul,Nat.one_mul] at h3
  omega
theorem code_inj {w:Nat} {β γ:Nat→Nat}:∀{m:Nat},(∀i,i<m→β i<w)→(∀i,i<m→γ i<w)→code w β m=code w γ m→∀i,i<m→β i=γ i
 | 0,_,_,_,i,hi=>by omega
 | m+1,hβ,hγ,h,i,hi=>by
  simp only[code] at h
  have h1:=hβ m (by omega)
  have h2:=hγ m (by omega)
  have e1:(code w β m*w+β m) % w=β m:=by rw[Nat.mul_comm,Nat.mul_add_mod,Nat.mod_eq_of_lt h1]
  have e2:(code w γ m*w+γ m) % w=γ m:=by rw[Nat.mul_comm,Nat.mul_add_mod,Nat.mod_eq_of_lt h2]
  have e3:β m=γ m:=by rw[←e1,←e2,h]
  have e4:code w β m=code w γ m:=by
   have:code w β m*w=code w γ m*w:=by omega
   exact Nat.eq_of_mul_eq_mul_right (by omega) this
  by_cases e:i=m
  ·rw[e];exact e3
  ·exact code_inj (fun i hi=>hβ i (by omega)) (fun i hi=>hγ i (by omega)) e4 i (by omega)
open Classical in
noncomputable def greatest (p:Nat→Prop):Nat→Nat
 | 0=>0
 | k+1=>if p k then k else greatest p k
theorem greatest_le {p:Nat→Prop}:∀{K k:Nat},k<K→p k→k≤greatest p K
 | K+1,k,hk,h=>by
  unfold greatest
  by_cases e:k=K
  ·subst e;rw[if_pos h];exact Nat.le_refl _
  ·split
   ·omega
   ·exact greatest_le (by omega) h
theorem greatest_spec {p:Nat→Prop} (h0:p 0):∀{K:Nat},p (greatest p K)
 | 0=>h0
 | K+1=>by
  unfold greatest
  split
  ·assumption
  ·exact greatest_spec h0
theorem greatest_lt {p:Nat→Prop}:∀{K:Nat},0<K→greatest p K<K
 | K+1,_=>by
  unfold greatest
  split
  ·omega
  ·by_cases h:K=0
   ·subst h;simp[greatest]
   ·have:=greatest_lt (p:=p) (K:=K) (by omega);omega
section
variable {m w N R:Nat} {M:Nat→Nat→Int} {wc:Nat→Int}
theorem Run.short {k:Nat} {S:Nat→Sx} {r c:Nat→Nat} {a:Nat→Nat} (ha:∀i,i<m→a i<w) (hM:∀k,k<m→∀i,i<m→M k (a i)=if k=i then 1 else 0) (hN:N≤R) (hR:R<w)
  (h:Run m w N R M wc k S r c):k<w ^ m:=by
 by_cases hk:k<w ^ m
 ·exact hk
 ·exfalso
  obtain ⟨i,j,h1,h2,h3⟩:=pigeon (w ^ m) (fun n=>code w (S n).β m) fun n hn=>code_lt (h.val n (by omega)).tb.lt
  have h4:=code_inj (h.val i (by omega)).tb.lt (h.val j (by omega)).tb.lt h3
  have h5:Run m w N R M wc (j - i) (fun n=>S (i+n)) (fun n=>r (i+n)) (fun n=>c (i+n)):=⟨fun n hn=>h.val (i+n) (by omega),fun n hn=>h.step (i+n) (by omega)⟩
  refine h5.nocycle ha hM hN hR (by omega) fun p hp=>?_
  show (S (i+(j - i))).β p=(S (i+0)).β p
  rw[show i+(j - i)=j by omega,Nat.add_zero]
  exact (h4 p hp).symm
noncomputable def left (m w N R:Nat) (M:Nat→Nat→Int) (wc:Nat→Int) (s:Sx):Nat:=greatest (fun k=>∃S r c,S 0=s∧Run m w N R M wc k S r c) (w ^ m)
theorem left_lt (hw:0<w) (s:Sx):left m w N R M wc s<w ^ m:=greatest_lt (Nat.pow_pos hw)
theorem left_step {a:Nat→Nat} (ha:∀i,i<m→a i<w) (hM:∀k,k<m→∀i,i<m→M k (a i)=if k=i then 1 else 0) (hN:N≤R) (hR:R<w)
  {s s':Sx} {r c:Nat} (hv:Val m w N R M s) (hs:Step m w N R wc s s' r c):left m w N R M wc s'<left m w N R M wc s:=by
 have hv':Val m w N R M s':=by
  have:=hs.enters.lt
  exact hv.stepAt hR (by omega) (by omega) hs.leaves hs.at'
 obtain ⟨S,rr,cc,h0,h1⟩:=greatest_spec (p:=fun k=>∃S r c,S 0=s'∧Run m w N R M wc k S r c) ⟨fun _=>s',fun _=>0,fun _=>0,rfl,⟨fun n _=>hv',fun n hn=>by omega⟩⟩ (K:=w ^ m)
 have h2:Run m w N R M wc (left m w N R M wc s'+1) (fun n=>match n with | 0=>s | n+1=>S n) (fun n=>match n with | 0=>r | n+1=>rr n) (fun n=>match n with | 0=>c | n+1=>cc n):=by
  refine ⟨fun n hn=>?_,fun n hn=>?_⟩
  ·cases n with
   | zero=>exact hv
   | succ n=>exact h1.val n (by have:n+1≤left m w N R M wc s'+1:=hn;unfold left at this;omega)
  ·cases n with
   | zero =>
    show Step m w N R wc s (S 0) r c
    rw[h0];exact hs
   | succ n=>exact h1.step n (by have:n+1<left m w N R M wc s'+1:=hn;unfold left at this;omega)
 have h3:=h2.short ha hM hN hR
 exact greatest_le h3 ⟨_,_,_,rfl,h2⟩
end
end Dn
end Go.Proofs.Ytnbbackjofgcfaa

namespace Go.Proofs.Ytnbbackjofgcfaa
namespace Dn
def sq:Nat→(Nat→Rat)→Rat
 | 0,_=>0
 | n+1,f=>sq n f+f n
theorem sq_congr:∀{n:Nat} {f g:Nat→Rat},(∀i,i<n→f i=g i)→sq n f=sq n g
 | 0,_,_,_=>rfl
 | n+1,f,g,h=>by
  simp only[sq]
  rw[sq_congr (n:=n) fun i hi=>h i (by omega),h n (by omega)]
theorem sq_add:∀{n:Nat} {f g:Nat→Rat},sq n (fun i=>f i+g i)=sq n f+sq n g
 | 0,_,_=>by simp only[sq];grind
 | n+1,f,g=>by
  simp only[sq]
  rw[sq_add]
  grind
theorem sq_mul:∀{n:Nat} {c:Rat} {f:Nat→Rat},sq n (fun i=>c*f i)=c*sq n f
 | 0,c,_=>by simp[sq]
 | n+1,c,f=>by
  simp only[sq]
  rw[sq_mul]
  grind
theorem sq_zero:∀{n:Nat} {f:Nat→Rat},(∀i,i<n→f i=0)→sq n f=0
 | 0,_,_=>rfl
 | n+1,f,h=>by
  simp only[sq]
  rw[sq_zero fun i hi=>h i (by omega),h n (by omega)]
  grind
theorem sq_le:∀{n:Nat} {f g:Nat→Rat},(∀i,i<n→f i≤g i)→sq n f≤sq n g
 | 0,_,_,_=>Rat.le_refl
 | n+1,f,g,h=>by
  simp only[sq]
  have:=sq_le (n:=n) fun i hi=>h i (by omega)
  have:=h n (by omega)
  grind
theorem sq_swap:∀{m n:Nat} {f:Nat→Nat→Rat},sq m (fun i=>sq n (fun j=>f i j))=sq n (fun j=>sq m (fun i=>f i j))
 | 0,n,f=>by
  simp only[sq]
  exact (sq_zero fun _ _=>rfl).symm
 | m+1,n,f=>by
  simp only[sq]
  rw[sq_swap,sq_add]
theorem sq_cast:∀{n:Nat} {f:Nat→Int},sq n (fun i=>(f i:Rat))=((sz n f:Int):Rat)
 | 0,_=>rfl
 | n+1,f=>by
  simp only[sq,sz]
  rw[sq_cast,Rat.intCast_add]
structure Lin where
 n:Nat
 m:Nat
 A:Nat→Nat→Int
 b:Nat→Int
 c:Nat→Int
 kd:Nat→Int
def Lin.row (L:Lin) (x:Nat→Rat) (k:Nat):Rat:=sq L.n fun j=>(L.A k j:Rat)*x j
def Lin.col (L:Lin) (y:Nat→Rat) (j:Nat):Rat:=sq L.m fun k=>(L.A k j:Rat)*y k
def Lin.val (L:Lin) (x:Nat→Rat):Rat:=sq L.n fun j=>(L.c j:Rat)*x j
def Lin.rhs (L:Lin) (y:Nat→Rat):Rat:=sq L.m fun k=>(L.b k:Rat)*y k
structure Lin.Feas (L:Lin) (x:Nat→Rat):Prop where
 pos:∀j,j<L.n→0≤x j
 most:∀k,k<L.m→L.kd k≠2→L.row x k≤L.b k
 least:∀k,k<L.m→L.kd k≠1→(L.b k:Rat)≤L.row x k
structure Lin.Sgn (L:Lin) (y:Nat→Rat):Prop where
 most:∀k,k<L.m→L.kd k=1→y k≤0
 least:∀k,k<L.m→L.kd k=2→0≤y k
structure Lin.Dual (L:Lin) (y:Nat→Rat):Prop extends L.Sgn y where
 col:∀j,j<L.n→L.col y j≤L.c j
structure Lin.Ref (L:Lin) (y:Nat→Rat):Prop extends L.Sgn y where
 col:∀j,j<L.n→L.col y j≤0
 rhs:0<L.rhs y
structure Lin.Ray (L:Lin) (r:Nat→Rat):Prop where
 pos:∀j,j<L.n→0≤r j
 most:∀k,k<L.m→L.kd k≠2→L.row r k≤0
 least:∀k,k<L.m→L.kd k≠1→0≤L.row r k
 val:L.val r<0
section
variable {L:Lin}
theorem Lin.swap (x y:Nat→Rat):sq L.n (fun j=>L.col y j*x j)=sq L.m (fun k=>y k*L.row x k):=by
 have e1:sq L.n (fun j=>L.col y j*x j)=sq L.n (fun j=>sq L.m fun k=>(L.A k j:Rat)*y k*x j):=sq_congr fun j _=>by
  unfold Lin.col
  rw[←sq_mul (c:=x j) |>fun h=>(by rw[h];grind:(sq L.m fun k=>x j*((L.A k j:Rat)*y k))=sq L.m (fun k=>(L.A k j:Rat)*y k)*x j)]
  exact sq_congr fun k _=>by grind
 rw[e1,sq_swap]
 refine sq_congr fun k _=>?_
 unfold Lin.row
 rw[←sq_mul]
 exact sq_congr fun j _=>by grind
theorem rowle {y r b:Rat} (h:(y≤0∧r≤b)∨(0≤y∧b≤r)∨r=b):b*y≤y*r:=by
 rcases h with ⟨h1,h2⟩ | ⟨h1,h2⟩ | h
 ·have:0≤(-y)*(b - r):=Rat.mul_nonneg (by grind) (by grind)
  grind
 ·have:0≤y*(r - b):=Rat.mul_nonneg h1 (by grind)
  grind
 ·subst h;grind
theorem Lin.Sgn.rows {x y:Nat→Rat} (h:L.Sgn y) {b:Nat→Rat} (h1:∀k,k<L.m→L.kd k≠2→L.row x k≤b k) (h2:∀k,k<L.m→L.kd k≠1→b k≤L.row x k):sq L.m (fun k=>b k*y k)≤sq L.m (fun k=>y k*L.row x k):=sq_le fun k hk=>by
 apply rowle
 by_cases e1:L.kd k=1
 ·exact .inl ⟨h.most k hk e1,h1 k hk (by omega)⟩
 ·by_cases e2:L.kd k=2
  ·exact .inr (.inl ⟨h.least k hk e2,h2 k hk e1⟩)
  ·have a1:=h1 k hk e2
   have a2:=h2 k hk e1
   exact .inr (.inr (Rat.le_antisymm a1 a2))
theorem Lin.weak {x y:Nat→Rat} (hx:L.Feas x) (hy:L.Dual y):L.rhs y≤L.val x:=by
 have h1:=hy.rows (x:=x) (b:=fun k=>(L.b k:Rat)) hx.most hx.least
 rw[←L.swap x y] at h1
 refine Rat.le_trans h1 (sq_le fun j hj=>?_)
 exact Rat.mul_le_mul_of_nonneg_right (hy.col j hj) (hx.pos j hj)
theorem Lin.Ref.none {x y:Nat→Rat} (hy:L.Ref y) (hx:L.Feas x):False:=by
 have h1:=hy.rows (x:=x) (b:=fun k=>(L.b k:Rat)) hx.most hx.least
 rw[←L.swap x y] at h1
 have h2:sq L.n (fun j=>L.col y j*x j)≤sq L.n (fun _=>0):=sq_le fun j hj=>by
  have:0≤(-L.col y j)*x j:=Rat.mul_nonneg (by have:=hy.col j hj;grind) (hx.pos j hj)
  grind
 rw[sq_zero (f:=fun _=>0) fun _ _=>rfl] at h2
 have h3:=hy.rhs
 unfold Lin.rhs at h3
 grind
theorem Lin.Ray.none {r y:Nat→Rat} (hr:L.Ray r) (hy:L.Dual y):False:=by
 have h1:=hy.rows (x:=r) (b:=fun _=>0) hr.most hr.least
 rw[←L.swap r y,sq_zero (f:=fun k=>0*y k) fun k _=>by grind] at h1
 have h2:sq L.n (fun j=>L.col y j*r j)≤L.val r:=sq_le fun j hj=>Rat.mul_le_mul_of_nonneg_right (hy.col j hj) (hr.pos j hj)
 have h3:=hr.val
 grind
end
structure Lay where
 N:Nat
 sl:Nat→Nat
 σ:Nat→Int
def Lay.M (Y:Lay) (L:Lin) (k j:Nat):Int :=
 if j<L.n then Y.σ k*L.A k j else if j<Y.N then (if L.kd k≠3∧j=Y.sl k then Y.σ k*(if L.kd k=1 then 1 else -1) else 0) else if j<Y.N+L.m then (if j=Y.N+k then 1 else 0) else Y.σ k*L.b k
structure Lay.ok (Y:Lay) (L:Lin):Prop where
 n:L.n≤Y.N
 kd:∀k,k<L.m→L.kd k=1∨L.kd k=2∨L.kd k=3
 sl:∀k,k<L.m→L.kd k≠3→L.n≤Y.sl k∧Y.sl k<Y.N
 inj:∀k l,k<L.m→l<L.m→L.kd k≠3→L.kd l≠3→Y.sl k=Y.sl l→k=l
 sg:∀k,k<L.m→Y.σ k=1∨Y.σ k= -1
 b:∀k,k<L.m→0≤Y.σ k*L.b k
abbrev Lay.R (Y:Lay) (L:Lin):Nat:=Y.N+L.m
abbrev Lay.w (Y:Lay) (L:Lin):Nat:=Y.N+L.m+1
section
variable {L:Lin} {Y:Lay}
theorem Lay.M_x {k j:Nat} (hj:j<L.n):Y.M L k j=Y.σ k*L.A k j:=by unfold Lay.M;rw[if_pos hj]
theorem Lay.M_sl (h:Y.ok L) {k:Nat} (hk:k<L.m) (h3:L.kd k≠3):Y.M L k (Y.sl k)=Y.σ k*(if L.kd k=1 then 1 else -1):=by
 obtain ⟨h1,h2⟩:=h.sl k hk h3
 unfold Lay.M
 rw[if_neg (by omega),if_pos h2,if_pos ⟨h3,rfl⟩]
theorem Lay.M_slo {k j:Nat} (h1:L.n≤j) (h2:j<Y.N) (h:¬ (L.kd k≠3∧j=Y.sl k)):Y.M L k j=0:=by
 unfold Lay.M
 rw[if_neg (by omega),if_pos h2,if_neg h]
theorem Lay.M_a (h:Y.ok L) {k i:Nat} (hi:i<L.m):Y.M L k (Y.N+i)=if k=i then 1 else 0:=by
 have:=h.n
 unfold Lay.M
 rw[if_neg (by omega),if_neg (by omega),if_pos (by omega)]
 by_cases e:k=i
 ·rw[if_pos e,if_pos (by omega)]
 ·rw[if_neg e,if_neg (by omega)]
theorem Lay.M_R (h:Y.ok L) {k:Nat}:Y.M L k (Y.R L)=Y.σ k*L.b k:=by
 have:=h.n
 unfold Lay.M Lay.R
 rw[if_neg (by omega),if_neg (by omega),if_neg (by omega)]
theorem Lay.ss (h:Y.ok L) {k:Nat} (hk:k<L.m):Y.σ k*Y.σ k=1:=by
 rcases h.sg k hk with e | e<;>rw[e]<;>rfl
theorem Lay.ss' (h:Y.ok L) {k:Nat} (hk:k<L.m) (x:Int):Y.σ k*(Y.σ k*x)=x:=by rw[←Int.mul_assoc,Lay.ss h hk,Int.one_mul]
abbrev Lay.Val (Y:Lay) (L:Lin) (S:Sx):Prop:=Dn.Val L.m (Y.w L) Y.N (Y.R L) (Y.M L) S
theorem Lay.art (h:Y.ok L):(∀i,i<L.m→Y.N+i<Y.w L)∧∀k,k<L.m→∀i,i<L.m→Y.M L k (Y.N+i)=if k=i then 1 else 0 :=
 ⟨fun i hi=>by unfold Lay.w;omega,fun k _ i hi=>Lay.M_a h hi⟩
theorem Lay.first (h:Y.ok L):Y.Val L ⟨Y.M L,1,fun i=>Y.N+i⟩:=by
 refine ⟨Tb.first (Lay.art h).1 (Lay.art h).2,fun i hi=>?_,fun i hi=>?_⟩
 ·show 0≤Y.M L i (Y.R L)
  rw[Lay.M_R h]
  exact h.b i hi
 ·show Y.N+i≠Y.N+L.m
  omega
def xnum (m R:Nat) (S:Sx) (j:Nat):Int:=sz m fun i=>if S.β i=j then S.T i R else 0
theorem xnum_nonneg {S:Sx} (hv:Y.Val L S) (j:Nat):0≤xnum L.m (Y.R L) S j:=sz_nonneg fun i hi=>by
 split
 ·exact hv.feas i hi
 ·exact Int.le_refl _
theorem sum_basis {m n:Nat} {β:Nat→Nat} {t f:Nat→Int}:(sz m fun i=>if β i<n then t i*f (β i) else 0)=sz n fun j=>f j*sz m fun i=>if β i=j then t i else 0:=by
 have e:∀i,i<m→(if β i<n then t i*f (β i) else 0)=sz n fun j=>if β i=j then t i*f j else 0:=fun i _=>by
  by_cases h:β i<n
  ·rw[if_pos h,sz_one h fun j _ hne=>if_neg (Ne.symm hne),if_pos rfl]
  ·rw[if_neg h,sz_zero fun j hj=>if_neg (by omega)]
 rw[sz_congr e,sz_swap]
 refine sz_congr fun j _=>?_
 rw[←sz_mul]
 refine sz_congr fun i _=>?_
 split
 ·rw[Int.mul_comm]
 ·rw[Int.mul_zero]
def noArt (m N:Nat) (S:Sx) (q:Nat):Prop:=∀i,i<m→N≤S.β i→S.T i q=0
theorem row_of (h:Y.ok L) {S:Sx} (hv:Y.Val L S) {q k:Nat} (hq:q<Y.w L) (hk:k<L.m) (ha:noArt L.m Y.N S q) :
  S.d*(Y.σ k*Y.M L k q)=(sz L.n fun j=>L.A k j*sz L.m fun i=>if S.β i=j then S.T i q else 0)+(if L.kd k≠3 then (if L.kd k=1 then 1 else -1)*sz L.m (fun i=>if S.β i=Y.sl k then S.T i q else 0) else 0):=by
 have h1:=hv.tb.co k hk q hq
 have e1:∀i,i<L.m→S.T i q*Y.M L k (S.β i)=(if S.β i<L.n then S.T i q*(Y.σ k*L.A k (S.β i)) else 0)+(if L.kd k≠3 then (Y.σ k*(if L.kd k=1 then 1 else -1))*(if S.β i=Y.sl k then S.T i q else 0) else 0):=fun i hi=>by
  by_cases c1:S.β i<L.n
  ·rw[if_pos c1,Lay.M_x c1]
   by_cases c2:L.kd k≠3
   ·rw[if_pos c2,if_neg (show ¬ S.β i=Y.sl k by have:=(h.sl k hk c2).1;omega)];omega
   ·rw[if_neg c2];omega
  ·rw[if_neg c1]
   by_cases c3:S.β i<Y.N
   ·by_cases c4:L.kd k≠3∧S.β i=Y.sl k
    ·rw[c4.2,Lay.M_sl h hk c4.1,if_pos c4.1,if_pos rfl,Int.mul_comm];omega
    ·rw[Lay.M_slo (by omega) c3 c4]
     by_cases c2:L.kd k≠3
     ·rw[if_pos c2,if_neg (show ¬ S.β i=Y.sl k from fun e=>c4 ⟨c2,e⟩)];omega
     ·rw[if_neg c2];omega
   ·rw[ha i hi (by omega)]
    by_cases c2:L.kd k≠3
    ·rw[if_pos c2,if_neg (show ¬ S.β i=Y.sl k by have:=(h.sl k hk c2).2;omega)];omega
    ·rw[if_neg c2];omega
 rw[sz_congr e1,sz_add,sum_basis (f:=fun j=>Y.σ k*L.A k j)] at h1
 have e2:(sz L.m fun i=>if L.kd k≠3 then (Y.σ k*(if L.kd k=1 then 1 else -1))*(if S.β i=Y.sl k then S.T i q else 0) else 0)=Y.σ k*(if L.kd k≠3 then (if L.kd k=1 then 1 else -1)*sz L.m (fun i=>if S.β i=Y.sl k then S.T i q else 0) else 0):=by
  by_cases c2:L.kd k≠3
  ·simp only[c2,not_false_eq_true,if_true,ne_eq]
   rw[sz_mul,Int.mul_assoc]
  ·have c2:L.kd k=3:=by omega
   simp only[c2,ne_eq,not_true_eq_false,if_false]
   rw[sz_zero fun _ _=>rfl,Int.mul_zero]
 have e3:(sz L.n fun j=>Y.σ k*L.A k j*sz L.m fun i=>if S.β i=j then S.T i q else 0)=Y.σ k*sz L.n fun j=>L.A k j*sz L.m fun i=>if S.β i=j then S.T i q else 0:=by
  rw[←sz_mul]
  exact sz_congr fun j _=>by rw[Int.mul_assoc]
 rw[e2,e3,←Int.mul_add] at h1
 have h2:=Lay.ss h hk
 have:S.d*(Y.σ k*Y.M L k q)=Y.σ k*(S.d*Y.M L k q):=by grind
 rw[this,h1,←Int.mul_assoc,h2,Int.one_mul]
theorem le_div {x y d:Int} (hd:0<d) (h:x≤y*d):(x:Rat) / (d:Rat)≤(y:Rat):=by
 have hd':(0:Rat)<(d:Rat):=by have:=Rat.intCast_lt_intCast.2 hd;simpa using this
 have h':(x:Rat)≤(y:Rat)*(d:Rat):=by rw[←Rat.intCast_mul];exact Rat.intCast_le_intCast.2 h
 refine Rat.le_of_mul_le_mul_right ?_ hd'
 have:(x:Rat) / (d:Rat)*(d:Rat)=(x:Rat):=by grind
 rw[this]
 exact h'
theorem div_le {x y d:Int} (hd:0<d) (h:y*d≤x):(y:Rat)≤(x:Rat) / (d:Rat):=by
 have hd':(0:Rat)<(d:Rat):=by have:=Rat.intCast_lt_intCast.2 hd;simpa using this
 have h':(y:Rat)*(d:Rat)≤(x:Rat):=by rw[←Rat.intCast_mul];exact Rat.intCast_le_intCast.2 h
 refine Rat.le_of_mul_le_mul_right ?_ hd'
 have:(x:Rat) / (d:Rat)*(d:Rat)=(x:Rat):=by grind
 rw[this]
 exact h'
theorem pos_div {x d:Rat} (hx:0<x) (hd:0<d):0<x / d:=by
 have e:x / d*d=x:=by grind
 refine Rat.not_le.1 fun h=>?_
 have h1:=Rat.mul_le_mul_of_nonneg_right h (Rat.le_of_lt hd)
 rw[e,Rat.zero_mul] at h1
 exact Rat.not_le.2 hx h1
theorem sum_div {n:Nat} {a X:Nat→Int} {d:Int} (hd:0<d):sq n (fun j=>(a j:Rat)*((X j:Rat) / (d:Rat)))=((sz n fun j=>a j*X j:Int):Rat) / (d:Rat):=by
 have hd':(0:Rat)<(d:Rat):=by have:=Rat.intCast_lt_intCast.2 hd;simpa using this
 have e:sq n (fun j=>(a j:Rat)*((X j:Rat) / (d:Rat)))=sq n (fun j=>(1 / (d:Rat))*((a j*X j:Int):Rat)):=sq_congr fun j _=>by
  rw[Rat.intCast_mul]
  grind
 rw[e,sq_mul,sq_cast]
 grind
def xval (m R:Nat) (S:Sx) (j:Nat):Rat:=(xnum m R S j:Rat) / (S.d:Rat)
theorem table_feas (h:Y.ok L) {S:Sx} (hv:Y.Val L S) (ha:noArt L.m Y.N S (Y.R L)):L.Feas (xval L.m (Y.R L) S):=by
 have hd:=hv.tb.dpos
 have row:∀k,k<L.m→S.d*L.b k=(sz L.n fun j=>L.A k j*xnum L.m (Y.R L) S j)+(if L.kd k≠3 then (if L.kd k=1 then 1 else -1)*xnum L.m (Y.R L) S (Y.sl k) else 0):=fun k hk=>by
  have h1:=row_of h hv (q:=Y.R L) (by unfold Lay.R Lay.w;omega) hk ha
  rw[Lay.M_R h,Lay.ss' h hk] at h1
  exact h1
 have rowq:∀k,L.row (xval L.m (Y.R L) S) k=((sz L.n fun j=>L.A k j*xnum L.m (Y.R L) S j:Int):Rat) / (S.d:Rat):=fun k=>sum_div hd
 refine ⟨fun j _=>?_,fun k hk h2=>?_,fun k hk h1=>?_⟩
 ·have:=div_le (x:=xnum L.m (Y.R L) S j) (y:=0) hd (by rw[Int.zero_mul];exact xnum_nonneg hv j)
  simpa [xval] using this
 ·rw[rowq]
  have h3:=row k hk
  have h4:=xnum_nonneg hv (Y.sl k)
  refine le_div hd ?_
  rw[Int.mul_comm,h3]
  rcases h.kd k hk with e | e | e
  ·simp[e];omega
  ·exact (h2 e).elim
  ·simp[e]
 ·rw[rowq]
  have h3:=row k hk
  have h4:=xnum_nonneg hv (Y.sl k)
  refine div_le hd ?_
  rw[Int.mul_comm,h3]
  rcases h.kd k hk with e | e | e
  ·exact (h1 e).elim
  ·simp[e];omega
  ·simp[e]
def ynum (m N:Nat) (wc:Nat→Int) (S:Sx) (σ:Nat→Int) (k:Nat):Int:=σ k*sz m fun i=>wc (S.β i)*S.T i (N+k)
def yval (m N:Nat) (wc:Nat→Int) (S:Sx) (σ:Nat→Int) (k:Nat):Rat:=(ynum m N wc S σ k:Rat) / (S.d:Rat)
theorem z_col (h:Y.ok L) {S:Sx} (hv:Y.Val L S) {wc:Nat→Int} {j:Nat} (hj:j<L.n):zr L.m wc S j=wc j*S.d - sz L.m fun k=>L.A k j*ynum L.m Y.N wc S Y.σ k:=by
 have hw:j<Y.w L:=by have:=h.n;unfold Lay.w;omega
 rw[zr_rows hv.tb (Lay.art h).1 (Lay.art h).2 hw]
 congr 1
 refine sz_congr fun k hk=>?_
 rw[Lay.M_x hj]
 unfold ynum
 grind
theorem z_slack (h:Y.ok L) {S:Sx} (hv:Y.Val L S) {wc:Nat→Int} {k:Nat} (hk:k<L.m) (h3:L.kd k≠3):zr L.m wc S (Y.sl k)=wc (Y.sl k)*S.d - (if L.kd k=1 then 1 else -1)*ynum L.m Y.N wc S Y.σ k:=by
 obtain ⟨h1,h2⟩:=h.sl k hk h3
 rw[zr_rows hv.tb (Lay.art h).1 (Lay.art h).2 (by unfold Lay.w;omega)]
 congr 1
 rw[sz_one hk fun l hl hne=>by rw[Lay.M_slo h1 h2 fun e=>hne (h.inj l k hl hk e.1 h3 e.2.symm),Int.mul_zero],Lay.M_sl h hk h3]
 unfold ynum
 grind
theorem z_right (h:Y.ok L) {S:Sx} (hv:Y.Val L S) {wc:Nat→Int}:zr L.m wc S (Y.R L)=wc (Y.R L)*S.d - sz L.m fun k=>L.b k*ynum L.m Y.N wc S Y.σ k:=by
 rw[zr_rows hv.tb (Lay.art h).1 (Lay.art h).2 (by unfold Lay.R Lay.w;omega)]
 congr 1
 refine sz_congr fun k hk=>?_
 rw[Lay.M_R h]
 unfold ynum
 grind
theorem table_sgn (h:Y.ok L) {S:Sx} (hv:Y.Val L S) {wc:Nat→Int} (hw:∀j,L.n≤j→j<Y.N→wc j=0) (hz:∀j,j<Y.N→0≤zr L.m wc S j):L.Sgn (yval L.m Y.N wc S Y.σ):=by
 have hd:=hv.tb.dpos
 refine ⟨fun k hk e=>?_,fun k hk e=>?_⟩
 ·obtain ⟨h1,h2⟩:=h.sl k hk (by omega)
  have h3:=z_slack h hv (wc:=wc) hk (by omega)
  have h4:=hz _ h2
  rw[h3,hw _ h1 h2,if_pos e] at h4
  have:=le_div (x:=ynum L.m Y.N wc S Y.σ k) (y:=0) hd (by omega)
  simpa [yval] using this
 ·obtain ⟨h1,h2⟩:=h.sl k hk (by omega)
  have h3:=z_slack h hv (wc:=wc) hk (by omega)
  have h4:=hz _ h2
  rw[h3,hw _ h1 h2,if_neg (by omega)] at h4
  have:=div_le (x:=ynum L.m Y.N wc S Y.σ k) (y:=0) hd (by omega)
  simpa [yval] using this
def costs (L:Lin) (j:Nat):Int:=if j<L.n then L.c j else 0
theorem table_dual (h:Y.ok L) {S:Sx} (hv:Y.Val L S) (hz:∀j,j<Y.N→0≤zr L.m (costs L) S j):L.Dual (yval L.m Y.N (costs L) S Y.σ):=by
 have hd:=hv.tb.dpos
 refine ⟨table_sgn h hv (fun j h1 _=>if_neg (by omega)) hz,fun j hj=>?_⟩
 have h1:=hz j (by have:=h.n;omega)
 rw[z_col h hv hj] at h1
 have e:L.col (yval L.m Y.N (costs L) S Y.σ) j=((sz L.m fun k=>L.A k j*ynum L.m Y.N (costs L) S Y.σ k:Int):Rat) / (S.d:Rat):=sum_div hd
 rw[e]
 have e2:costs L j=L.c j:=if_pos hj
 rw[e2] at h1
 exact le_div hd (by omega)
theorem table_value (h:Y.ok L) {S:Sx} (hv:Y.Val L S):L.val (xval L.m (Y.R L) S)=((sz L.m fun i=>costs L (S.β i)*S.T i (Y.R L):Int):Rat) / (S.d:Rat)∧L.rhs (yval L.m Y.N (costs L) S Y.σ)=((sz L.m fun i=>costs L (S.β i)*S.T i (Y.R L):Int):Rat) / (S.d:Rat):=by
 have hd:=hv.tb.dpos
 constructor
 ·have e:L.val (xval L.m (Y.R L) S)=((sz L.n fun j=>L.c j*xnum L.m (Y.R L) S j:Int):Rat) / (S.d:Rat):=sum_div hd
  rw[e]
  congr 2
  rw[show (sz L.n fun j=>L.c j*xnum L.m (Y.R L) S j)=sz L.n fun j=>L.c j*sz L.m fun i=>if S.β i=j then S.T i (Y.R L) else 0 from rfl,←sum_basis (f:=L.c)]
  refine sz_congr fun i _=>?_
  unfold costs
  split
  ·rw[Int.mul_comm]
  ·rw[Int.zero_mul]
 ·have e:L.rhs (yval L.m Y.N (costs L) S Y.σ)=((sz L.m fun k=>L.b k*ynum L.m Y.N (costs L) S Y.σ k:Int):Rat) / (S.d:Rat):=sum_div hd
  rw[e]
  congr 2
  have h1:=z_right h hv (wc:=costs L)
  have e0:costs L (Y.R L)=0:=if_neg (by have:=h.n;unfold Lay.R;omega)
  unfold zr at h1
  rw[e0] at h1
  omega
def arts (N:Nat) (j:Nat):Int:=if N≤j then 1 else 0
theorem table_ref (h:Y.ok L) {S:Sx} (hv:Y.Val L S) (hz:∀j,j<Y.N→0≤zr L.m (arts Y.N) S j) (hp:0<sz L.m fun i=>arts Y.N (S.β i)*S.T i (Y.R L)):L.Ref (yval L.m Y.N (arts Y.N) S Y.σ):=by
 have hd:=hv.tb.dpos
 refine ⟨table_sgn h hv (fun j _ h2=>if_neg (by omega)) hz,fun j hj=>?_,?_⟩
 ·have h1:=hz j (by have:=h.n;omega)
  rw[z_col h hv hj] at h1
  have e:L.col (yval L.m Y.N (arts Y.N) S Y.σ) j=((sz L.m fun k=>L.A k j*ynum L.m Y.N (arts Y.N) S Y.σ k:Int):Rat) / (S.d:Rat):=sum_div hd
  have e2:arts Y.N j=0:=if_neg (by have:=h.n;omega)
  rw[e2] at h1
  have:=le_div (x:=sz L.m fun k=>L.A k j*ynum L.m Y.N (arts Y.N) S Y.σ k) (y:=0) hd (by omega)
  rw[e]
  simpa using this
 ·have e:L.rhs (yval L.m Y.N (arts Y.N) S Y.σ)=((sz L.m fun k=>L.b k*ynum L.m Y.N (arts Y.N) S Y.σ k:Int):Rat) / (S.d:Rat):=sum_div hd
  have h1:=z_right h hv (wc:=arts Y.N)
  unfold zr at h1
  have h2:0<sz L.m fun k=>L.b k*ynum L.m Y.N (arts Y.N) S Y.σ k:=by omega
  rw[e]
  have hd':(0:Rat)<(S.d:Rat):=by have:=Rat.intCast_lt_intCast.2 hd;simpa using this
  have h2':(0:Rat)<((sz L.m fun k=>L.b k*ynum L.m Y.N (arts Y.N) S Y.σ k:Int):Rat):=by have:=Rat.intCast_lt_intCast.2 h2;simpa using this
  exact pos_div h2' hd'
def rnum (m:Nat) (S:Sx) (q j:Nat):Int:=(if j=q then S.d else 0) - sz m fun i=>if S.β i=j then S.T i q else 0
theorem table_ray (h:Y.ok L) {S:Sx} (hv:Y.Val L S) {q:Nat} (hq:q<Y.N) (ha:noArt L.m Y.N S q) (hz:zr L.m (costs L) S q<0) (hno:∀i,i<L.m→S.T i q≤0):L.Ray (fun j=>(rnum L.m S q j:Rat)):=by
 have hd:=hv.tb.dpos
 have hqw:q<Y.w L:=by unfold Lay.w;omega
 have pos:∀j,0≤rnum L.m S q j:=fun j=>by
  unfold rnum
  have h1:(sz L.m fun i=>if S.β i=j then S.T i q else 0)≤sz L.m fun _=>0:=sz_le fun i hi=>by
   split
   ·exact hno i hi
   ·exact Int.le_refl _
  rw[sz_zero (f:=fun _=>0) fun _ _=>rfl] at h1
  split<;>omega
 have row:∀k,k<L.m→(sz L.n fun j=>L.A k j*rnum L.m S q j)=(if L.kd k≠3 then -(if L.kd k=1 then 1 else -1)*rnum L.m S q (Y.sl k) else 0):=fun k hk=>by
  have h1:=row_of h hv hqw hk ha
  have e1:(sz L.n fun j=>L.A k j*rnum L.m S q j)=(if q<L.n then L.A k q*S.d else 0) - sz L.n fun j=>L.A k j*sz L.m fun i=>if S.β i=j then S.T i q else 0:=by
   have e0:(if q<L.n then L.A k q*S.d else 0)=sz L.n fun j=>if j=q then L.A k q*S.d else 0:=by
    by_cases e:q<L.n
    ·rw[if_pos e,sz_one e fun j _ hne=>if_neg hne,if_pos rfl]
    ·rw[if_neg e,sz_zero fun j hj=>if_neg (by omega)]
   rw[e0,←sz_sub]
   refine sz_congr fun j _=>?_
   unfold rnum
   by_cases e:j=q
   ·subst e;rw[if_pos rfl,if_pos rfl];grind
   ·rw[if_neg e,if_neg e];grind
  rw[e1]
  by_cases c1:q<L.n
  ·rw[if_pos c1]
   rw[Lay.M_x c1,Lay.ss' h hk] at h1
   by_cases c2:L.kd k≠3
   ·rw[if_pos c2] at h1 ⊢
    unfold rnum
    rw[if_neg (show ¬ Y.sl k=q by have:=(h.sl k hk c2).1;omega)]
    grind
   ·rw[if_neg c2] at h1 ⊢
    grind
  ·rw[if_neg c1]
   by_cases c2:L.kd k≠3
   ·rw[if_pos c2] at h1 ⊢
    unfold rnum
    by_cases c3:Y.sl k=q
    ·rw[if_pos c3]
     rw[←c3] at h1 ⊢
     rw[Lay.M_sl h hk c2,Lay.ss' h hk] at h1
     rcases h.kd k hk with e | e | e
     ·simp[e] at h1 ⊢;omega
     ·simp[e] at h1 ⊢;omega
     ·exact (c2 e).elim
    ·rw[if_neg c3]
     rw[Lay.M_slo (by omega) hq fun e=>c3 e.2.symm] at h1
     rcases h.kd k hk with e | e | e
     ·simp[e] at h1 ⊢;omega
     ·simp[e] at h1 ⊢;omega
     ·exact (c2 e).elim
   ·rw[if_neg c2] at h1 ⊢
    rw[Lay.M_slo (by omega) hq fun e=>c2 e.1] at h1
    omega
 have cast:∀a:Nat→Int,sq L.n (fun j=>(a j:Rat)*(rnum L.m S q j:Rat))=((sz L.n fun j=>a j*rnum L.m S q j:Int):Rat):=fun a=>by
  rw[←sq_cast]
  exact sq_congr fun j _=>by rw[Rat.intCast_mul]
 refine ⟨fun j _=>by have:=Rat.intCast_le_intCast.2 (pos j);simpa using this,fun k hk h2=>?_,fun k hk h1=>?_,?_⟩
 ·have e:L.row (fun j=>(rnum L.m S q j:Rat)) k=((sz L.n fun j=>L.A k j*rnum L.m S q j:Int):Rat):=cast _
  rw[e,row k hk]
  have h4:=pos (Y.sl k)
  have h5:(if L.kd k≠3 then -(if L.kd k=1 then 1 else -1)*rnum L.m S q (Y.sl k) else 0)≤0:=by
   rcases h.kd k hk with e | e | e
   ·simp[e];omega
   ·exact (h2 e).elim
   ·simp[e]
  have:=Rat.intCast_le_intCast.2 h5
  simpa using this
 ·have e:L.row (fun j=>(rnum L.m S q j:Rat)) k=((sz L.n fun j=>L.A k j*rnum L.m S q j:Int):Rat):=cast _
  rw[e,row k hk]
  have h4:=pos (Y.sl k)
  have h5:0≤(if L.kd k≠3 then -(if L.kd k=1 then 1 else -1)*rnum L.m S q (Y.sl k) else 0):=by
   rcases h.kd k hk with e | e | e
   ·exact (h1 e).elim
   ·simp[e];omega
   ·simp[e]
  have:=Rat.intCast_le_intCast.2 h5
  simpa using this
 ·have e:L.val (fun j=>(rnum L.m S q j:Rat))=((sz L.n fun j=>L.c j*rnum L.m S q j:Int):Rat):=cast _
  rw[e]
  have e2:(sz L.n fun j=>L.c j*rnum L.m S q j)=zr L.m (costs L) S q:=by
   unfold zr
   have e3:(sz L.m fun i=>costs L (S.β i)*S.T i q)=sz L.n fun j=>L.c j*sz L.m fun i=>if S.β i=j then S.T i q else 0:=by
    rw[←sum_basis (f:=L.c)]
    refine sz_congr fun i _=>?_
    unfold costs
    split
    ·rw[Int.mul_comm]
    ·rw[Int.zero_mul]
   rw[e3]
   have e4:costs L q*S.d=sz L.n fun j=>if j=q then L.c j*S.d else 0:=by
    unfold costs
    by_cases c:q<L.n
    ·rw[if_pos c,sz_one c fun j _ hne=>if_neg hne,if_pos rfl]
    ·rw[if_neg c,sz_zero fun j hj=>if_neg (by omega),Int.zero_mul]
   rw[e4,←sz_sub]
   refine sz_congr fun j _=>?_
   unfold rnum
   by_cases c:j=q
   ·rw[if_pos c,if_pos c];grind
   ·rw[if_neg c,if_neg c];grind
  rw[e2]
  have:=Rat.intCast_lt_intCast.2 hz
  simpa using this
end
end Dn
end Go.Proofs.Ytnbbackjofgcfaa

namespace Go.Proofs.Ytnbbackjofgcfaa
namespace Dn
theorem sz_split {a b:Nat} {f:Nat→Int}:sz (a+b) f=sz a f+sz b fun i=>f (a+i):=by
 induction b with
 | zero=>simp[sz]
 | succ b ih =>
  rw[show a+(b+1)=a+b+1 by omega,sz,sz,ih]
  omega
theorem sz_inj {m w:Nat} {γ:Nat→Nat} {f:Nat→Int} (hlt:∀p,p<m→γ p<w) (hinj:∀p q,p<m→q<m→γ p=γ q→p=q) (hf:∀j,j<w→0≤f j):(sz m fun p=>f (γ p))≤sz w f:=by
 have e:(sz m fun p=>f (γ p))=sz w fun j=>f j*sz m fun p=>if γ p=j then 1 else 0:=by
  rw[sz_congr (g:=fun p=>sz w fun j=>if γ p=j then f j else 0) fun p hp=>by
   rw[sz_one (hlt p hp) fun j _ hne=>if_neg (Ne.symm hne),if_pos rfl],sz_swap]
  refine sz_congr fun j _=>?_
  rw[←sz_mul]
  refine sz_congr fun p _=>?_
  split<;>omega
 rw[e]
 refine sz_le fun j hj=>?_
 have hc:(sz m fun p=>if γ p=j then (1:Int) else 0)≤1:=by
  by_cases h:∃p,p<m∧γ p=j
  ·obtain ⟨p,hp,rfl⟩:=h
   rw[sz_one hp fun q hq hne=>if_neg fun e'=>hne (hinj q p hq hp e'),if_pos rfl]
   exact Int.le_refl _
  ·rw[sz_zero fun p hp=>if_neg fun e'=>h ⟨p,hp,e'⟩]
   omega
 have:=Int.mul_le_mul_of_nonneg_left hc (hf j hj)
 omega
def Lin.F (L:Lin) (k:Nat):Int:=1+ab (L.b k)+sz L.n fun j=>ab (L.A k j)
def Lin.F0 (L:Lin):Int:=1+sz L.n fun j=>ab (L.c j)
theorem Lin.F_pos (L:Lin) (k:Nat):1≤L.F k:=by
 have h1:=ab_nonneg (L.b k)
 have h2:0≤sz L.n fun j=>ab (L.A k j):=sz_nonneg fun j _=>ab_nonneg _
 unfold Lin.F
 omega
theorem Lin.F0_pos (L:Lin):1≤L.F0:=by
 have h2:0≤sz L.n fun j=>ab (L.c j):=sz_nonneg fun j _=>ab_nonneg _
 unfold Lin.F0
 omega
def Lin.P (L:Lin):Int:=pz L.m L.F
theorem pz_pos:∀{n:Nat} {f:Nat→Int},(∀i,i<n→1≤f i)→1≤pz n f
 | 0,_,_=>by simp[pz]
 | n+1,f,h=>by
  simp only[pz]
  have h1:=h 0 (by omega)
  have h2:=pz_pos (n:=n) (f:=fun i=>f (i+1)) fun i hi=>h (i+1) (by omega)
  have:=Int.mul_le_mul h1 h2 (by omega) (by omega)
  omega
theorem Lin.P_pos (L:Lin):1≤L.P:=pz_pos fun k _=>L.F_pos k
section
variable {L:Lin} {Y:Lay}
theorem ab_sg (h:Y.ok L) {k:Nat} (hk:k<L.m) (x:Int):ab (Y.σ k*x)=ab x:=by
 rw[ab_mul]
 rcases h.sg k hk with e | e<;>rw[e]<;>simp[ab]
theorem row_all (h:Y.ok L) {k:Nat} (hk:k<L.m) {f:Nat→Int} (h1:∀j,j<L.n→f j=ab (Y.M L k j)) (hR:f (Y.R L)=ab (Y.M L k (Y.R L)))
  (h2:((∀j,L.n≤j→j<Y.N→f j=0)∧∀i,i<L.m→f (Y.N+i)=if i=k then 1 else 0)∨(L.kd k≠3∧(∀j,L.n≤j→j<Y.N→f j=if j=Y.sl k then 1 else 0)∧∀i,i<L.m→f (Y.N+i)=0)) :
  sz (Y.w L) f=L.F k:=by
 have hn:=h.n
 have e:Y.w L=(L.n+(Y.N - L.n))+L.m+1:=by unfold Lay.w;omega
 rw[e,sz,sz_split,sz_split,show L.n+(Y.N - L.n)+L.m=Y.R L by unfold Lay.R;omega,hR,Lay.M_R h,ab_sg h hk]
 have e1:sz L.n f=sz L.n fun j=>ab (L.A k j):=sz_congr fun j hj=>by rw[h1 j hj,Lay.M_x hj,ab_sg h hk]
 rw[e1,show L.n+(Y.N - L.n)=Y.N by omega]
 unfold Lin.F
 rcases h2 with ⟨h3,h4⟩ | ⟨h3,h4,h5⟩
 ·rw[sz_zero fun i hi=>h3 (L.n+i) (by omega) (by omega),sz_one hk fun i hi hne=>by rw[h4 i hi,if_neg hne],h4 k hk,if_pos rfl]
  omega
 ·obtain ⟨h6,h7⟩:=h.sl k hk h3
  have a1:(sz (Y.N - L.n) fun i=>f (L.n+i))=1:=by
   rw[sz_one (k:=Y.sl k - L.n) (by omega) fun i hi hne=>by rw[h4 _ (by omega) (by omega),if_neg (by omega)],h4 _ (by omega) (by omega),if_pos (by omega)]
  have a2:(sz L.m fun i=>f (Y.N+i))=0:=sz_zero fun i hi=>h5 i hi
  rw[a1,a2]
  omega
theorem dc_rows (h:Y.ok L) {γ:Nat→Nat} (hlt:∀p,p<L.m→γ p<Y.w L):dc L.m (Y.M L) γ=0∨∀k,k<L.m→(sz L.m fun p=>ab (Y.M L k (γ p)))≤L.F k:=by
 have zero:dc L.m (Y.M L) γ=0→dc L.m (Y.M L) γ=0∨∀k,k<L.m→(sz L.m fun p=>ab (Y.M L k (γ p)))≤L.F k:=fun e=>.inl e
 by_cases hinj:∀p q,p<L.m→q<L.m→γ p=γ q→p=q
 ·by_cases hboth:∃k p q,k<L.m∧L.kd k≠3∧p<L.m∧q<L.m∧γ p=Y.sl k∧γ q=Y.N+k
  ·obtain ⟨k,p,q,hk,h3,hp,hq,e1,e2⟩:=hboth
   obtain ⟨h4,h5⟩:=h.sl k hk h3
   have hpq:p≠q:=fun e=>by rw[e,e2] at e1;omega
   apply zero
   unfold dc
   have e3:det L.m (colsOf (Y.M L) γ)=det L.m (setC (colsOf (Y.M L) γ) p fun l=>(Y.σ k*(if L.kd k=1 then 1 else -1))*Y.M L l (Y.N+k)):=by
    refine det_congr fun l j hl hj=>?_
    unfold setC
    split
    ·rename_i e
     rw[e]
     show Y.M L l (γ p)=(Y.σ k*(if L.kd k=1 then 1 else -1))*Y.M L l (Y.N+k)
     rw[e1,Lay.M_a h hk]
     by_cases el:l=k
     ·subst el
      rw[Lay.M_sl h hl h3,if_pos rfl,Int.mul_one]
     ·rw[if_neg el,Int.mul_zero,Lay.M_slo h4 h5 fun e'=>el (h.inj l k hl hk e'.1 h3 e'.2.symm)]
    ·rfl
   rw[e3,det_smul hp,det_alt hp hq hpq fun l _=>by
    unfold setC
    rw[if_pos rfl,if_neg (Ne.symm hpq)]
    show Y.M L l (Y.N+k)=Y.M L l (γ q)
    rw[e2],Int.mul_zero]
  ·refine .inr fun k hk=>?_
   by_cases hs:L.kd k≠3∧∃p,p<L.m∧γ p=Y.sl k
   ·obtain ⟨h3,p,hp,e1⟩:=hs
    obtain ⟨h4,h5⟩:=h.sl k hk h3
    have e:(sz L.m fun p=>ab (Y.M L k (γ p)))=sz L.m fun p=>(fun j=>if Y.N≤j∧j<Y.N+L.m then 0 else ab (Y.M L k j)) (γ p):=sz_congr fun q hq=>by
     show _=if Y.N≤γ q∧γ q<Y.N+L.m then 0 else ab (Y.M L k (γ q))
     split
     ·rename_i hr
      obtain ⟨i,hi⟩:∃i,γ q=Y.N+i:=⟨γ q - Y.N,by omega⟩
      rw[hi,Lay.M_a h (by omega),if_neg fun e'=>hboth ⟨k,p,q,hk,h3,hp,hq,e1,by rw[hi,e']⟩]
      rfl
     ·rfl
    rw[e]
    refine Int.le_trans (sz_inj (f:=fun j=>if Y.N≤j∧j<Y.N+L.m then 0 else ab (Y.M L k j)) hlt hinj fun j _=>?_) (Int.le_of_eq (row_all h hk (fun j hj=>?_) ?_ (.inr ⟨h3,fun j h6 h7=>?_,fun i hi=>?_⟩)))
    ·split
     ·exact Int.le_refl _
     ·exact ab_nonneg _
    ·have:=h.n
     rw[if_neg (by omega)]
    ·rw[if_neg (by unfold Lay.R;omega)]
    ·rw[if_neg (by omega)]
     by_cases ej:j=Y.sl k
     ·subst ej
      rw[Lay.M_sl h hk h3,ab_sg h hk,if_pos rfl]
      split<;>rfl
     ·rw[if_neg ej,Lay.M_slo h6 h7 fun e'=>ej e'.2]
      rfl
    ·rw[if_pos (by omega)]
   ·have e:(sz L.m fun p=>ab (Y.M L k (γ p)))=sz L.m fun p=>(fun j=>if L.n≤j∧j<Y.N then 0 else ab (Y.M L k j)) (γ p):=sz_congr fun q hq=>by
     show _=if L.n≤γ q∧γ q<Y.N then 0 else ab (Y.M L k (γ q))
     split
     ·rename_i hr
      rw[Lay.M_slo hr.1 hr.2 fun e'=>hs ⟨e'.1,q,hq,e'.2⟩]
      rfl
     ·rfl
    rw[e]
    refine Int.le_trans (sz_inj (f:=fun j=>if L.n≤j∧j<Y.N then 0 else ab (Y.M L k j)) hlt hinj fun j _=>?_) (Int.le_of_eq (row_all h hk (fun j hj=>?_) ?_ (.inl ⟨fun j h6 h7=>?_,fun i hi=>?_⟩)))
    ·split
     ·exact Int.le_refl _
     ·exact ab_nonneg _
    ·rw[if_neg (by omega)]
    ·rw[if_neg (by unfold Lay.R;omega)]
    ·rw[if_pos ⟨h6,h7⟩]
    ·rw[if_neg (by omega),Lay.M_a h hi]
     by_cases ei:k=i
     ·rw[if_pos ei,if_pos ei.symm];rfl
     ·rw[if_neg ei,if_neg (Ne.symm ei)];rfl
 ·have:∃p q,p<L.m∧q<L.m∧γ p=γ q∧p≠q:=by
   apply Classical.byContradiction
   intro hno
   refine hinj fun p q hp hq e=>?_
   apply Classical.byContradiction
   intro hne
   exact hno ⟨p,q,hp,hq,e,hne⟩
  obtain ⟨p,q,hp,hq,e,hne⟩:=this
  apply zero
  refine det_alt hp hq hne fun l _=>?_
  show Y.M L l (γ p)=Y.M L l (γ q)
  rw[e]
theorem dc_bound (h:Y.ok L) {γ:Nat→Nat} (hlt:∀p,p<L.m→γ p<Y.w L):ab (dc L.m (Y.M L) γ)≤L.P:=by
 rcases dc_rows h hlt with e | e
 ·have hP:=L.P_pos
  rw[e]
  simp[ab]
  omega
 ·exact Int.le_trans det_bound (pz_le fun k hk=>⟨sz_nonneg fun _ _=>ab_nonneg _,e k hk⟩)
theorem upd_lt {m w:Nat} {β:Nat→Nat} {r c:Nat} (h:∀p,p<m→β p<w) (hc:c<w):∀p,p<m→upd β r c p<w:=fun p hp=>by
 unfold upd
 split
 ·exact hc
 ·exact h p hp
theorem table_bound (h:Y.ok L) {T:Nat→Nat→Int} {d:Int} {β:Nat→Nat} (ht:Tb L.m (Y.w L) (Y.M L) T d β):d≤L.P∧∀i j,i<L.m→j<Y.w L→ab (T i j)≤L.P:=by
 refine ⟨?_,fun i j hi hj=>by rw[ht.bound hi hj];exact dc_bound h (upd_lt ht.lt hj)⟩
 obtain ⟨σ,h1,h2,_⟩:=ht.cr
 have h3:=dc_bound h ht.lt
 have h4:ab d=ab (dc L.m (Y.M L) β):=by
  have h5:ab σ=1:=by
   have h6:ab σ*ab σ=1:=by rw[←ab_mul,h1];rfl
   have h7:=ab_nonneg σ
   have h8:ab σ≤1:=by
    apply Int.not_lt.1
    intro h9
    have:2*2≤ab σ*ab σ:=Int.mul_le_mul (by omega) (by omega) (by omega) h7
    omega
   have:ab σ≠0:=fun e=>by rw[e] at h6;simp at h6
   omega
  have h6:ab (σ*dc L.m (Y.M L) β)=ab d:=by rw[←h2]
  rw[ab_mul,h5,Int.one_mul] at h6
  exact h6.symm
 rw[←h4] at h3
 exact (ab_le.1 h3).2
end
end Dn
end Go.Proofs.Ytnbbackjofgcfaa

namespace Go.Proofs.Ytnbbackjofgcfaa
namespace Dn
theorem det_unit {n:Nat} {A:Nat→Nat→Int} {i k:Nat} (hi:i<n) (hA:∀r,r<n→A r i=if r=k then 1 else 0):∀t,t≤n→det n A=det n (fun r c=>if r=k∧c≠i∧c<t then 0 else A r c)
 | 0,_=>det_congr fun r c _ _=>by rw[if_neg (by omega)]
 | t+1,ht=>by
  rw[det_unit hi hA t (by omega)]
  obtain ⟨B,hB⟩:∃B:Nat→Nat→Int,B=fun r c=>if r=k∧c≠i∧c<t then 0 else A r c:=⟨_,rfl⟩
  rw[←hB]
  by_cases e:t=i
  ·refine det_congr fun r c _ _=>?_
   rw[hB]
   by_cases c1:r=k∧c≠i∧c<t
   ·simp only
    rw[if_pos c1,if_pos ⟨c1.1,c1.2.1,by omega⟩]
   ·simp only
    rw[if_neg c1,if_neg (by omega)]
  ·have e1:det n B=det n (setC B t fun r=>(if r=k then 0 else A r t)+(A k t*if r=k then 1 else 0)):=by
    refine det_congr fun r c _ _=>?_
    unfold setC
    by_cases c1:c=t
    ·rw[if_pos c1,hB,c1]
     simp only
     rw[if_neg (by omega)]
     by_cases c2:r=k
     ·rw[if_pos c2,if_pos c2,c2];omega
     ·rw[if_neg c2,if_neg c2];omega
    ·rw[if_neg c1]
   rw[e1,det_add (u:=fun r=>if r=k then 0 else A r t) (v:=fun r=>A k t*if r=k then 1 else 0) (by omega),det_smul (u:=fun r=>if r=k then (1:Int) else 0) (by omega)]
   have e2:det n (setC B t fun r=>if r=k then (1:Int) else 0)=0:=by
    refine det_alt (show t<n by omega) hi e fun r hr=>?_
    unfold setC
    rw[if_pos rfl,if_neg (Ne.symm e),hB]
    simp only
    rw[if_neg (show ¬ (r=k∧i≠i∧i<t) from fun h=>h.2.1 rfl),hA r hr]
   rw[e2,Int.mul_zero,Int.add_zero]
   refine det_congr fun r c _ _=>?_
   unfold setC
   by_cases c1:c=t
   ·rw[if_pos c1,c1]
    simp only
    by_cases c2:r=k
    ·rw[if_pos c2,if_pos ⟨c2,e,by omega⟩]
    ·rw[if_neg c2,if_neg fun h=>c2 h.1]
   ·rw[if_neg c1,hB]
    by_cases c2:r=k∧c≠i∧c<t
    ·simp only
     rw[if_pos c2,if_pos ⟨c2.1,c2.2.1,by omega⟩]
    ·simp only
     rw[if_neg c2,if_neg (by omega)]
theorem pz_one:∀{n k:Nat} {f:Nat→Int},k<n→f k*pz n (fun r=>if r=k then 1 else f r)=pz n f
 | 0,k,_,h=>by omega
 | n+1,k,f,h=>by
  simp only[pz]
  cases k with
  | zero =>
   rw[if_pos rfl,Int.one_mul]
   congr 1
  | succ k =>
   rw[if_neg (by omega)]
   have h1:=pz_one (n:=n) (k:=k) (f:=fun i=>f (i+1)) (by omega)
   rw[←h1]
   have e:(fun i=>if i+1=k+1 then (1:Int) else f (i+1))=fun r=>if r=k then 1 else f (r+1):=by
    funext r
    by_cases c:r=k
    ·rw[if_pos c,if_pos (by omega)]
    ·rw[if_neg c,if_neg (by omega)]
   rw[e]
   grind
section
variable {L:Lin} {Y:Lay}
theorem art_bound (h:Y.ok L) {T:Nat→Nat→Int} {d:Int} {β:Nat→Nat} (ht:Tb L.m (Y.w L) (Y.M L) T d β) {i k:Nat} (hi:i<L.m) (hk:k<L.m):L.F k*ab (T i (Y.N+k))≤L.P:=by
 have hw:Y.N+k<Y.w L:=by unfold Lay.w;omega
 have hF:=L.F_pos k
 rw[ht.bound hi hw]
 rcases dc_rows h (upd_lt ht.lt hw (r:=i)) with e | e
 ·have:=L.P_pos
  rw[e]
  simp[ab]
  omega
 ·have hcol:∀r,r<L.m→colsOf (Y.M L) (upd β i (Y.N+k)) r i=if r=k then 1 else 0:=fun r _=>by
   unfold colsOf upd
   rw[if_pos rfl,Lay.M_a h hk]
  have e1:dc L.m (Y.M L) (upd β i (Y.N+k))=_:=det_unit hi hcol L.m (Nat.le_refl _)
  rw[e1]
  have e2:=det_bound (n:=L.m) (A:=fun r c=>if r=k∧c≠i∧c<L.m then 0 else colsOf (Y.M L) (upd β i (Y.N+k)) r c)
  have e3:pz L.m (fun r=>sz L.m fun c=>ab (if r=k∧c≠i∧c<L.m then 0 else colsOf (Y.M L) (upd β i (Y.N+k)) r c))≤pz L.m (fun r=>if r=k then 1 else L.F r):=pz_le fun r hr=>by
   refine ⟨sz_nonneg fun _ _=>ab_nonneg _,?_⟩
   by_cases c:r=k
   ·rw[if_pos c,sz_one hi fun l hl hne=>by rw[if_pos ⟨c,hne,hl⟩];rfl,if_neg (by simp),hcol i hi |>fun _=>hcol r hr,if_pos c]
    exact Int.le_refl _
   ·rw[if_neg c,sz_congr (g:=fun p=>ab (Y.M L r (upd β i (Y.N+k) p))) fun l _=>by rw[if_neg fun h=>c h.1];rfl]
    exact e r hr
  have e4:=Int.le_trans e2 e3
  have e5:=Int.mul_le_mul_of_nonneg_left e4 (show 0≤L.F k by omega)
  have e6:L.F k*pz L.m (fun r=>if r=k then 1 else L.F r)=L.P:=pz_one hk
  rw[e6] at e5
  exact e5
end
end Dn
end Go.Proofs.Ytnbbackjofgcfaa

namespace Go.Proofs.Ytnbbackjofgcfaa
namespace Dn
section
variable {α R:Type} {F:(α→Option R)→α→Option R}
theorem loopF_seq (n:Nat) (st:Nat→α) (r:Option R) (hb:∀again i,i<n→F again (st i)=again (st (i+1))) (hf:∀again,F again (st n)=r):∀(k i m:Nat),i+k=n→k<m→loopF F m (st i)=r
 | 0,i,m,h1,h2=>by
  obtain ⟨m,rfl⟩:∃m',m=m'+1:=⟨m - 1,by omega⟩
  rw[loopF_succ,show i=n by omega,hf]
 | k+1,i,m,h1,h2=>by
  obtain ⟨m,rfl⟩:∃m',m=m'+1:=⟨m - 1,by omega⟩
  rw[loopF_succ,hb _ _ (by omega)]
  exact loopF_seq n st r hb hf k (i+1) m (by omega) (by omega)
theorem lpK_seq (n:Nat) (hn:n≤1180591620717411303423) (st:Nat→α) (r:Option R) (hb:∀again i,i<n→F again (st i)=again (st (i+1))) (hf:∀again,F again (st n)=r):lpK α R F (st 0)=r :=
 loopF_seq n st r hb hf n 0 K0 (by omega) (by unfold K0;omega)
theorem lpK_seqX {x:α} (n:Nat) (hn:n≤1180591620717411303423) (st:Nat→α) (r:Option R) (hx:x=st 0) (hb:∀again i,i<n→F again (st i)=again (st (i+1))) (hf:∀again,F again (st n)=r):lpK α R F x=r:=by
 rw[hx]
 exact lpK_seq n hn st r hb hf
theorem loopF_ex (I:α→Prop) (Q:R→Prop) (μ:α→Nat) (h:∀x,I x→(∃r,Q r∧∀rec,F rec x=some r)∨∃y,I y∧μ y<μ x∧∀rec,F rec x=rec y):∀(m:Nat) (x:α),I x→μ x<m→∃r,loopF F m x=some r∧Q r
 | 0,_,_,hm=>by omega
 | m+1,x,hx,hm=>by
  rw[loopF_succ]
  rcases h x hx with ⟨r,h1,h2⟩ | ⟨y,h1,h2,h3⟩
  ·exact ⟨r,h2 _,h1⟩
  ·rw[h3]
   exact loopF_ex I Q μ h m y h1 (by omega)
theorem lpK_ex (I:α→Prop) (Q:R→Prop) (μ:α→Nat) (h:∀x,I x→(∃r,Q r∧∀rec,F rec x=some r)∨∃y,I y∧μ y<μ x∧∀rec,F rec x=rec y) {x:α} (hx:I x) (hn:μ x<1180591620717411303424):∃r,lpK α R F x=some r∧Q r :=
 loopF_ex I Q μ h K0 x hx hn
theorem loopF_exG {γ:Type} (I:γ→α→Prop) (Q:R→Prop) (μ:γ→Nat) (h:∀s x,I s x→(∃r,Q r∧∀rec,F rec x=some r)∨∃s' y,I s' y∧μ s'<μ s∧∀rec,F rec x=rec y):∀(m:Nat) (s:γ) (x:α),I s x→μ s<m→∃r,loopF F m x=some r∧Q r
 | 0,_,_,_,hm=>by omega
 | m+1,s,x,hx,hm=>by
  rw[loopF_succ]
  rcases h s x hx with ⟨r,h1,h2⟩ | ⟨s',y,h1,h2,h3⟩
  ·exact ⟨r,h2 _,h1⟩
  ·rw[h3]
   exact loopF_exG I Q μ h m s' y h1 (by omega)
theorem lpK_exG {γ:Type} (I:γ→α→Prop) (Q:R→Prop) (μ:γ→Nat) (h:∀s x,I s x→(∃r,Q r∧∀rec,F rec x=some r)∨∃s' y,I s' y∧μ s'<μ s∧∀rec,F rec x=rec y) {s:γ} {x:α} (hx:I s x) (hn:μ s<1180591620717411303424):∃r,lpK α R F x=some r∧Q r :=
 loopF_exG I Q μ h K0 s x hx hn
theorem loopF_exR {γ:Type} (I:γ→α→Prop) (Q:Option R→Prop) (μ:γ→Nat) (h:∀rec s x,I s x→Q (F rec x)∨∃s' y,I s' y∧μ s'<μ s∧F rec x=rec y):∀(m:Nat) (s:γ) (x:α),I s x→μ s<m→Q (loopF F m x)
 | 0,_,_,_,hm=>by omega
 | m+1,s,x,hx,hm=>by
  rw[loopF_succ]
  rcases h (loopF F m) s x hx with h1 | ⟨s',y,h1,h2,h3⟩
  ·exact h1
  ·rw[h3]
   exact loopF_exR I Q μ h m s' y h1 (by omega)
theorem lpK_exR {γ:Type} (I:γ→α→Prop) (Q:Option R→Prop) (μ:γ→Nat) (h:∀rec s x,I s x→Q (F rec x)∨∃s' y,I s' y∧μ s'<μ s∧F rec x=rec y) {s:γ} {x:α} (hx:I s x) (hn:μ s<1180591620717411303424):Q (lpK α R F x) :=
 loopF_exR I Q μ h K0 s x hx hn
theorem lpK_seqQ {x:α} (Q:Option R→Prop) (n:Nat) (hn:n≤1180591620717411303423) (st:Nat→α) (hx:x=st 0) (hb:∀again i,i<n→F again (st i)=again (st (i+1))) (hf:∀again,Q (F again (st n))):Q (lpK α R F x) :=
 lpK_exR (γ:=Nat) (fun i x=>i≤n∧x=st i) Q (fun i=>n - i) (fun rec i x ⟨h1,h2⟩=>by
  by_cases e:i=n
  ·subst h2;subst e;exact .inl (hf rec)
  ·exact .inr ⟨i+1,st (i+1),⟨by omega,rfl⟩,by omega,by rw[h2];exact hb rec i (by omega)⟩) (s:=0) ⟨by omega,hx⟩ (by omega)
theorem lpK_inv {x:α} (Q:Option R→Prop) (n:Nat) (hn:n≤1180591620717411303423) (I:Nat→α→Prop) (hx:I 0 x) (hb:∀again i x,i<n→I i x→∃y,I (i+1) y∧F again x=again y) (hf:∀again x,I n x→Q (F again x)):Q (lpK α R F x) :=
 lpK_exR (γ:=Nat) (fun i x=>i≤n∧I i x) Q (fun i=>n - i) (fun rec i x ⟨h1,h2⟩=>by
  by_cases e:i=n
  ·subst e;exact .inl (hf rec x h2)
  ·obtain ⟨y,h3,h4⟩:=hb rec i x (by omega) h2
   exact .inr ⟨i+1,y,⟨by omega,h3⟩,by omega,h4⟩) (s:=0) ⟨by omega,hx⟩ (by omega)
end
theorem first_of (n:Nat) (p:Nat→Bool):(∀j,j<n→p j=false)∨∃j,j<n∧p j=true∧∀i,i<j→p i=false:=by
 induction n with
 | zero=>exact .inl fun j hj=>by omega
 | succ n ih =>
  rcases ih with h | ⟨j,h1,h2,h3⟩
  ·cases hp:p n with
   | true=>exact .inr ⟨n,by omega,hp,h⟩
   | false =>
    refine .inl fun j hj=>?_
    by_cases e:j=n
    ·rw[e];exact hp
    ·exact h j (by omega)
  ·exact .inr ⟨j,by omega,h2,h3⟩
def rowL {α:Type} (w:Nat) (f:Nat→α):List α:=(List.range w).map f
def matL (m w:Nat) (T:Nat→Nat→Int):List (List Int):=(List.range m).map fun i=>rowL w (T i)
def cellL (m w:Nat) (T:Nat→Nat→Int):List (Option (List Int)):=(List.range m).map fun i=>some (rowL w (T i))
def tabL (m w:Nat) (T:Nat→Nat→Int):List Nat×List (Option (List Int)):=(List.range m,cellL m w T)
def basL (m:Nat) (β:Nat→Nat):List Int:=rowL m fun i=>(β i:Int)
section
variable {α:Type} {m w:Nat} {T T':Nat→Nat→Int}
theorem rowL_len {f:Nat→α}:(rowL w f).length=w:=by unfold rowL;rw[List.length_map,List.length_range]
theorem rowL_get {f:Nat→α} {d:α} {j:Nat} (h:j<w):(rowL w f).getD j d=f j:=by
 unfold rowL
 rw[getD_nat (by rw[List.length_map,List.length_range];exact h),List.getElem_map,List.getElem_range]
theorem rowL_at {f:Nat→α} {j:Nat} (h:j<(rowL w f).length):(rowL w f)[j]=f j :=
 (List.getElem_map f (l:=List.range w) (h:=h)).trans (congrArg f (List.getElem_range _))
theorem rowL_congr {f g:Nat→α} (h:∀j,j<w→f j=g j):rowL w f=rowL w g:=by
 unfold rowL
 exact List.map_congr_left fun j hj=>h j (List.mem_range.1 hj)
theorem rowL_set {f:Nat→α} {j:Nat} {x:α} (hj:j<w):(rowL w f).set j x=rowL w fun k=>if k=j then x else f k:=by
 refine List.ext_getElem (by rw[List.length_set,rowL_len,rowL_len]) fun i h1 h2=>?_
 have h3:i<w:=by rw[rowL_len] at h2;exact h2
 rw[List.getElem_set,rowL_at,rowL_at]
 by_cases e:j=i
 ·rw[if_pos e,if_pos e.symm]
 ·rw[if_neg e,if_neg (Ne.symm e)]
theorem matL_len:(matL m w T).length=m:=by unfold matL;rw[List.length_map,List.length_range]
theorem matL_get {i:Nat} (h:i<m):(matL m w T).getD i []=rowL w (T i):=by
 unfold matL
 rw[getD_nat (by rw[List.length_map,List.length_range];exact h),List.getElem_map,List.getElem_range]
theorem cellL_len:(cellL m w T).length=m:=by unfold cellL;rw[List.length_map,List.length_range]
theorem tabL_len:(tabL m w T).1.length=m:=by unfold tabL;exact List.length_range
theorem tabL_idx {i:Nat} (h:i<m):(tabL m w T).1.getD i 0=i:=by
 unfold tabL
 rw[getD_nat (by rw[List.length_range];exact h),List.getElem_range]
theorem cellL_get {i:Nat} (h:i<m):(cellL m w T).getD i none=some (rowL w (T i)):=by
 unfold cellL
 rw[getD_nat (by rw[List.length_map,List.length_range];exact h),List.getElem_map,List.getElem_range]
theorem cellL_at {i:Nat} (h:i<(cellL m w T).length):(cellL m w T)[i]=some (rowL w (T i)) :=
 (List.getElem_map (fun i=>some (rowL w (T i))) (l:=List.range m) (h:=h)).trans (congrArg (fun i=>some (rowL w (T i))) (List.getElem_range _))
theorem cell_row {i:Nat} (h:i<m):rowD (cellL m w T) i=rowL w (T i):=by unfold rowD;rw[cellL_get h];rfl
theorem cell_live {i:Nat} (h:i<m):liveB (cellL m w T) i=true:=by unfold liveB;rw[cellL_get h];rfl
theorem cellL_congr (h:∀i j,i<m→j<w→T i j=T' i j):cellL m w T=cellL m w T':=by
 unfold cellL
 exact List.map_congr_left fun i hi=>by rw[rowL_congr fun j hj=>h i j (List.mem_range.1 hi) hj]
theorem tabL_congr (h:∀i j,i<m→j<w→T i j=T' i j):tabL m w T=tabL m w T':=by unfold tabL;rw[cellL_congr h]
theorem cell_set {i j:Nat} {x:Int} (hi:i<m) (hj:j<w):(cellL m w T).set i (some ((rowL w (T i)).set j x))=cellL m w fun k l=>if k=i∧l=j then x else T k l:=by
 rw[rowL_set hj]
 refine List.ext_getElem (by rw[List.length_set,cellL_len,cellL_len]) fun k h1 h2=>?_
 have h3:k<m:=by rw[cellL_len] at h2;exact h2
 rw[List.getElem_set,cellL_at,cellL_at]
 by_cases e:i=k
 ·subst e
  rw[if_pos rfl]
  congr 1
  refine rowL_congr fun l _=>?_
  simp
 ·rw[if_neg e]
  congr 1
  refine rowL_congr fun l _=>?_
  rw[if_neg fun h=>e h.1.symm]
theorem tab_all:((tabL m w T).1.all fun x=>liveB (tabL m w T).2 x)=true:=by
 rw[List.all_eq_true]
 intro i hi
 exact cell_live (List.mem_range.1 hi)
theorem tab_map:(tabL m w T).1.map (fun x=>rowD (tabL m w T).2 x)=matL m w T:=by
 unfold tabL matL
 exact List.map_congr_left fun i hi=>cell_row (List.mem_range.1 hi)
theorem basL_len {β:Nat→Nat}:(basL m β).length=m:=rowL_len
theorem basL_get {β:Nat→Nat} {i:Nat} (h:i<m):(basL m β).getD i 0=(β i:Int):=rowL_get h
theorem basL_set {β:Nat→Nat} {r c:Nat} (h:r<m):(basL m β).set r (c:Int)=basL m (upd β r c):=by
 unfold basL
 rw[rowL_set h]
 refine rowL_congr fun k _=>?_
 unfold upd
 by_cases e:k=r
 ·rw[if_pos e,if_pos e]
 ·rw[if_neg e,if_neg e]
end
end Dn
end Go.Proofs.Ytnbbackjofgcfaa

namespace Go.Proofs.Ytnbbackjofgcfaa
open Try Dn Dn.Sh
def prodR (x:Int):Bool×Int×Int:=(decide (x<0),hl x.natAbs)
theorem psize_ok {x:Int} (h1: -9223372036854775808≤x) (h2:x<9223372036854775808):program_size x=some (x.natAbs:Int):=size_ok h1 h2
theorem hl_ne {n:Nat}:(bif !decide ((hl n).1=0) then true else !decide ((hl n).2=0))=decide (n≠0):=by
 unfold hl
 simp only
 by_cases h:n=0
 ·subst h;rfl
 ·rw[decide_eq_true h]
  by_cases c1:((n / 18446744073709551616:Nat):Int)=0
  ·rw[decide_eq_true c1,decide_eq_false (show ¬ ((n % 18446744073709551616:Nat):Int)=0 by omega)];rfl
  ·rw[decide_eq_false c1];rfl
theorem mul_sign {a b:Int}:(bif !decide (decide (a<0)=decide (b<0)) then decide ((a.natAbs*b.natAbs)≠0) else false)=decide (a*b<0):=by
 by_cases ha:a<0
 ·by_cases hb:b<0
  ·have:=Int.mul_pos_of_neg_of_neg ha hb
   rw[decide_eq_false (show ¬ a*b<0 by omega)]
   simp[ha,hb]
  ·by_cases hb0:b=0
   ·subst hb0;simp
   ·have:=Int.mul_neg_of_neg_of_pos ha (show 0<b by omega)
    rw[decide_eq_true this,decide_eq_true (show a.natAbs*b.natAbs≠0 by rw[←Int.natAbs_mul];omega)]
    simp[ha,hb]
 ·by_cases ha0:a=0
  ·subst ha0;simp
  ·by_cases hb:b<0
   ·have:=Int.mul_neg_of_pos_of_neg (show 0<a by omega) hb
    rw[decide_eq_true this,decide_eq_true (show a.natAbs*b.natAbs≠0 by rw[←Int.natAbs_mul];omega)]
    simp[ha,hb]
   ·have:=Int.mul_nonneg (show 0≤a by omega) (show 0≤b by omega)
    rw[decide_eq_false (show ¬ a*b<0 by omega)]
    simp[ha,hb]
theorem ptimes_ok {a b:Int} (ha: -9223372036854775808≤a∧a<9223372036854775808) (hb: -9223372036854775808≤b∧b<9223372036854775808):program_times a b=some (prodR (a*b)):=by
 have e:(((a.natAbs:Nat):Int)*(b.natAbs:Int) / 18446744073709551616,((a.natAbs:Nat):Int)*(b.natAbs:Int) % 18446744073709551616,PUnit.unit)=((hl (a.natAbs*b.natAbs)).1,(hl (a.natAbs*b.natAbs)).2,PUnit.unit):=by
  rw[←Int.natCast_mul];rfl
 simp only[program_times,program_times_b,psize_ok ha.1 ha.2,psize_ok hb.1 hb.2,obind_some']
 rw[mulW (by omega) (by omega) (by omega) (by omega),obind_some',e]
 have h1:=hl_ne (n:=a.natAbs*b.natAbs)
 have h2:=mul_sign (a:=a) (b:=b)
 rw[←h1] at h2
 unfold prodR
 rw[Int.natAbs_mul,←h2]
 generalize hl (a.natAbs*b.natAbs)=p
 obtain ⟨c,hc⟩:∃c,(decide (decide (a<0)=decide (b<0)))=c:=⟨_,rfl⟩
 obtain ⟨c1,hc1⟩:∃c,decide (p.1=0)=c:=⟨_,rfl⟩
 simp only[hc,hc1]
 cases c<;>cases c1<;>rfl
theorem cmpSize_ok {s t:Bool} {m n:Nat}:program_product_cmpSize (s,hl m) (t,hl n)=some (if m<n then -1 else if m=n then 0 else 1):=by
 simp only[program_product_cmpSize,program_product_cmpSize_b]
 have e1:(hl m).1=(hl n).1↔m / 18446744073709551616=n / 18446744073709551616:=by unfold hl;simp only;omega
 have e2:(hl m).1<(hl n).1↔m / 18446744073709551616<n / 18446744073709551616:=by unfold hl;simp only;omega
 have e3:(hl m).2=(hl n).2↔m % 18446744073709551616=n % 18446744073709551616:=by unfold hl;simp only;omega
 have e4:(hl m).2<(hl n).2↔m % 18446744073709551616<n % 18446744073709551616:=by unfold hl;simp only;omega
 rw[decide_eq_decide.2 e1,decide_eq_decide.2 e2,decide_eq_decide.2 e3,decide_eq_decide.2 e4]
 generalize q1:decide (m / 18446744073709551616=n / 18446744073709551616)=c1
 generalize q2:decide (m / 18446744073709551616<n / 18446744073709551616)=c2
 generalize q3:decide (m % 18446744073709551616=n % 18446744073709551616)=c3
 generalize q4:decide (m % 18446744073709551616<n % 18446744073709551616)=c4
 cases c1<;>cases c2<;>cases c3<;>cases c4<;>simp only[decide_eq_true_iff,decide_eq_false_iff_not] at q1 q2 q3 q4 <;>
  first
  | (exfalso;omega)
  | (rw[if_pos (show m<n by omega)];rfl)
  | (rw[if_neg (show ¬ m<n by omega),if_pos (show m=n by omega)];rfl)
  | (rw[if_neg (show ¬ m<n by omega),if_neg (show ¬ m=n by omega)];rfl)
theorem pcmp2_ok {x y:Int}:program_product_cmp (prodR x) (prodR y)=some (if x<y then -1 else if x=y then 0 else 1):=by
 have key:∀{a b:Nat} (h1:a<b↔x<y) (h2:a=b↔x=y),(if a<b then (-1:Int) else if a=b then 0 else 1)=if x<y then -1 else if x=y then 0 else 1:=fun h1 h2=>by simp only[h1,h2]
 unfold prodR
 simp only[program_product_cmp,program_product_cmp_b,cmpSize_ok,obind_some']
 by_cases hx:x<0
 ·by_cases hy:y<0
  ·rw[decide_eq_true hx,decide_eq_true hy,key (by omega) (by omega)]
   rfl
  ·rw[if_pos (show x<y by omega),decide_eq_true hx,decide_eq_false hy]
   rfl
 ·by_cases hy:y<0
  ·rw[if_neg (show ¬ x<y by omega),if_neg (show ¬ x=y by omega),decide_eq_false hx,decide_eq_true hy]
   rfl
  ·rw[decide_eq_false hx,decide_eq_false hy,key (a:=x.natAbs) (b:=y.natAbs) (by omega) (by omega)]
   rfl
theorem addO_hl {m n:Nat} (h:m+n<340282366920938463463374607431768211456):(addO (hl m).1 (hl n).1 (addC (hl m).2 (hl n).2 0),addO (hl m).2 (hl n).2 0)=hl (m+n):=by
 have h1:=rPlus_ok h
 have c1:(0:Int)≤addC (hl m).2 (hl n).2 0:=by rw[addC_hl];omega
 have c2:addC (hl m).2 (hl n).2 0≤1:=by rw[addC_hl];omega
 simp only[ratio_plus,ratio_plus_b,decide_eq_true c1,decide_eq_true c2] at h1
 exact Option.some.inj h1
theorem subO_hl {m n:Nat} (h:n≤m) (hm:m<340282366920938463463374607431768211456):(subO (hl m).1 (hl n).1 (subC (hl m).2 (hl n).2 0),subO (hl m).2 (hl n).2 0)=hl (m - n):=by
 have h1:=rMinus_ok h hm
 have c1:(0:Int)≤subC (hl m).2 (hl n).2 0:=by rw[subC_hl];omega
 have c2:subC (hl m).2 (hl n).2 0≤1:=by rw[subC_hl];split<;>omega
 simp only[ratio_minus,ratio_minus_b,decide_eq_true c1,decide_eq_true c2] at h1
 exact Option.some.inj h1
theorem subC_range {m n:Nat}:(decide ((0:Int)≤subC (hl m).2 (hl n).2 0)&&decide (subC (hl m).2 (hl n).2 0≤(1:Int)))=true:=by
 rw[decide_eq_true (show (0:Int)≤subC (hl m).2 (hl n).2 0 by rw[subC_hl];omega),decide_eq_true (show subC (hl m).2 (hl n).2 0≤1 by rw[subC_hl];split<;>omega)]
 rfl
theorem addC_range {m n:Nat}:(decide ((0:Int)≤addC (hl m).2 (hl n).2 0)&&decide (addC (hl m).2 (hl n).2 0≤(1:Int)))=true:=by
 rw[decide_eq_true (show (0:Int)≤addC (hl m).2 (hl n).2 0 by rw[addC_hl];omega),decide_eq_true (show addC (hl m).2 (hl n).2 0≤1 by rw[addC_hl];omega)]
 rfl
theorem pminus_ok {x y:Int} (hx:x.natAbs<85070591730234615865843651857942052864) (hy:y.natAbs<85070591730234615865843651857942052864):program_product_minus (prodR x) (prodR y)=some (prodR (x - y)):=by
 unfold prodR
 simp only[program_product_minus,program_product_minus_b,cmpSize_ok,obind_some',jnK_eq',subC_range,addC_range]
 by_cases hs:decide (x<0)=decide (y<0)
 ·
  rw[decide_eq_true hs]
  simp only[Bool.not_true,cF]
  by_cases hlt:x.natAbs<y.natAbs
  ·have h1:=subO_hl (m:=y.natAbs) (n:=x.natAbs) (by omega) (by omega)
   have h2:=congrArg Prod.fst h1
   have h3:=congrArg Prod.snd h1
   simp only at h2 h3
   rw[if_pos hlt]
   simp only[show decide ((-1:Int)<0)=true from rfl,cT,h2,h3]
   have h4:=hl_ne (n:=y.natAbs - x.natAbs)
   have e1:decide (x - y<0)=(bif !decide (x<0) then decide (y.natAbs - x.natAbs≠0) else false):=by
    rw[decide_eq_true (show y.natAbs - x.natAbs≠0 by omega)]
    by_cases c:x<0
    ·have c':y<0:=by rw[decide_eq_true c] at hs;exact of_decide_eq_true hs.symm
     rw[decide_eq_true c,decide_eq_false (show ¬ x - y<0 by omega)];rfl
    ·have c':¬ y<0:=by rw[decide_eq_false c] at hs;exact of_decide_eq_false hs.symm
     rw[decide_eq_false c,decide_eq_true (show x - y<0 by omega)];rfl
   have e2:(x - y).natAbs=y.natAbs - x.natAbs:=by
    by_cases c:x<0
    ·have c':y<0:=by rw[decide_eq_true c] at hs;exact of_decide_eq_true hs.symm
     omega
    ·have c':¬ y<0:=by rw[decide_eq_false c] at hs;exact of_decide_eq_false hs.symm
     omega
   rw[e1,e2,←h4]
   generalize hl (y.natAbs - x.natAbs)=p
   obtain ⟨c,hc⟩:∃c,decide (p.1=0)=c:=⟨_,rfl⟩
   simp only[hc]
   cases decide (x<0)<;>cases c<;>rfl
  ·have h1:=subO_hl (m:=x.natAbs) (n:=y.natAbs) (by omega) (by omega)
   have h2:=congrArg Prod.fst h1
   have h3:=congrArg Prod.snd h1
   simp only at h2 h3
   have h0:¬ (if x.natAbs<y.natAbs then (-1:Int) else if x.natAbs=y.natAbs then 0 else 1)<0:=by
    rw[if_neg hlt]
    split<;>simp
   rw[decide_eq_false h0]
   simp only[cF,h2,h3]
   have h4:=hl_ne (n:=x.natAbs - y.natAbs)
   have e1:decide (x - y<0)=(bif decide (x<0) then decide (x.natAbs - y.natAbs≠0) else false):=by
    by_cases c:x<0
    ·have c':y<0:=by rw[decide_eq_true c] at hs;exact of_decide_eq_true hs.symm
     rw[decide_eq_true c,cond_true]
     exact decide_eq_decide.2 (by omega)
    ·have c':¬ y<0:=by rw[decide_eq_false c] at hs;exact of_decide_eq_false hs.symm
     rw[decide_eq_false c,decide_eq_false (show ¬ x - y<0 by omega)];rfl
   have e2:(x - y).natAbs=x.natAbs - y.natAbs:=by
    by_cases c:x<0
    ·have c':y<0:=by rw[decide_eq_true c] at hs;exact of_decide_eq_true hs.symm
     omega
    ·have c':¬ y<0:=by rw[decide_eq_false c] at hs;exact of_decide_eq_false hs.symm
     omega
   rw[e1,e2,←h4]
   generalize hl (x.natAbs - y.natAbs)=p
   obtain ⟨c,hc⟩:∃c,decide (p.1=0)=c:=⟨_,rfl⟩
   simp only[hc]
   cases decide (x<0)<;>cases c<;>rfl
 ·rw[decide_eq_false hs]
  have h1:=addO_hl (m:=x.natAbs) (n:=y.natAbs) (by omega)
  have h2:=congrArg Prod.fst h1
  have h3:=congrArg Prod.snd h1
  simp only at h2 h3
  simp only[Bool.not_false,cT,h2,h3]
  have h4:=hl_ne (n:=y.natAbs)
  by_cases c:x<0
  ·have c':¬ y<0:=fun c'=>hs (by rw[decide_eq_true c,decide_eq_true c'])
   rw[decide_eq_true c,decide_eq_false c',decide_eq_true (show x - y<0 by omega),show (x - y).natAbs=x.natAbs+y.natAbs by omega]
   generalize hl y.natAbs=p
   obtain ⟨d,hd⟩:∃d,decide (p.1=0)=d:=⟨_,rfl⟩
   simp only[hd]
   cases d<;>rfl
  ·have c':y<0:=by
    apply Classical.byContradiction
    intro c'
    exact hs (by rw[decide_eq_false c,decide_eq_false c'])
   rw[decide_eq_false c,decide_eq_true c',decide_eq_false (show ¬ x - y<0 by omega),show (x - y).natAbs=x.natAbs+y.natAbs by omega]
   generalize hl y.natAbs=p
   obtain ⟨d,hd⟩:∃d,decide (p.1=0)=d:=⟨_,rfl⟩
   simp only[hd]
   cases d<;>rfl
theorem pover_ok {d q:Int} (hd:0<d) (hd2:d<9223372036854775808) (hq:q.natAbs<9223372036854775808):program_product_over (prodR (d*q)) d=some q:=by
 unfold prodR
 simp only[program_product_over,program_product_over_b]
 have e:(d*q).natAbs=d.natAbs*q.natAbs:=Int.natAbs_mul _ _
 have hdn:(d.natAbs:Int)=d:=by omega
 have h1:(d*q).natAbs / 18446744073709551616<d.natAbs:=by
  rw[e]
  refine (Nat.div_lt_iff_lt_mul (by omega)).2 ?_
  exact Nat.mul_lt_mul_of_pos_left (by omega) (by omega)
 have h2:=Div64_ok (h:=(d*q).natAbs / 18446744073709551616) (l:=(d*q).natAbs % 18446744073709551616) (y:=d.natAbs) h1 (by omega) (by omega)
 have h3:(d*q).natAbs / 18446744073709551616*18446744073709551616+(d*q).natAbs % 18446744073709551616=(d*q).natAbs:=by omega
 rw[h3,e,Nat.mul_div_cancel_left _ (by omega)] at h2
 have h4:IntKind.wrap .u64 d=(d.natAbs:Int):=by rw[u_wrap (by omega) (by omega)];omega
 rw[h4]
 unfold hl
 simp only
 rw[e,h2,obind_some']
 simp only
 rw[wrap_id (x:=(q.natAbs:Int)) (by omega) (by omega)]
 by_cases c:q<0
 ·rw[decide_eq_true (show d*q<0 from Int.mul_neg_of_pos_of_neg hd c),cond_true,wrap_id (by omega) (by omega)]
  congr 1
  omega
 ·rw[decide_eq_false (show ¬ d*q<0 by have:=Int.mul_nonneg (show 0≤d by omega) (show 0≤q by omega);omega),cond_false]
  congr 1
  omega
end Go.Proofs.Ytnbbackjofgcfaa

namespace Go.Proofs.Ytnbbackjofgcfaa
open Try Dn Dn.Sh
theorem succ_wrap {i:Nat} (h:i≤1000000):IntKind.wrap .i64 ((i:Int)+1)=((i+1:Nat):Int):=by rw[wrap_id (by omega) (by omega)];rfl
def mid (T:Nat→Nat→Int) (d:Int) (r c i j:Nat):Nat→Nat→Int:=fun k l=>if k≠r∧(k<i∨(k=i∧l<j)) then piv T d r c k l else T k l
theorem mid_row {T:Nat→Nat→Int} {d:Int} {r c i j l:Nat}:mid T d r c i j r l=T r l:=if_neg fun h=>h.1 rfl
theorem mid_here {T:Nat→Nat→Int} {d:Int} {r c i j l:Nat} (h:j≤l):mid T d r c i j i l=T i l:=by
 unfold mid
 rw[if_neg fun h=>by omega]
theorem mid_zero {T:Nat→Nat→Int} {d:Int} {r c k l:Nat}:T k l=mid T d r c 0 0 k l:=by
 unfold mid
 rw[if_neg fun h=>by omega]
def midN (T:Nat→Nat→Int) (i j:Nat):Nat→Nat→Int:=fun k l=>if k<i∨(k=i∧l<j) then - T k l else T k l
theorem midN_here {T:Nat→Nat→Int} {i j l:Nat} (h:j≤l):midN T i j i l=T i l:=by
 unfold midN
 rw[if_neg fun h=>by omega]
theorem midN_zero {T:Nat→Nat→Int} {k l:Nat}:T k l=midN T 0 0 k l:=by
 unfold midN
 rw[if_neg fun h=>by omega]
theorem tab_snd {m w:Nat} {T:Nat→Nat→Int}:(tabL m w T).2=cellL m w T:=rfl
theorem tab_put {m w:Nat} {T T':Nat→Nat→Int} {i j:Nat} {x:Int} (hi:i<m) (hj:j<w) (h:∀k l,k<m→l<w→(if k=i∧l=j then x else T k l)=T' k l) :
  ((tabL m w T).1,(cellL m w T).set i (some ((rowL w (T i)).set j x)))=tabL m w T':=by
 rw[cell_set hi hj,cellL_congr h]
 rfl
structure PivOk (m w:Nat) (T:Nat→Nat→Int) (d:Int) (r c:Nat):Prop where
 hm:m≤1000
 hw:w≤1000
 hr:r<m
 hc:c<w
 hd:0<d∧d<4611686018427387904
 b:∀i j,i<m→j<w→(T i j).natAbs<4611686018427387904
 q:∀i j,i<m→i≠r→j<w→d*piv T d r c i j=T r c*T i j - T i c*T r j
 qb:∀i j,i<m→i≠r→j<w→(piv T d r c i j).natAbs<4611686018427387904
theorem abs_small {x:Int} (h:x.natAbs<4611686018427387904): -9223372036854775808≤x∧x<9223372036854775808:=by omega
theorem abs_prod {x y:Int} (hx:x.natAbs<4611686018427387904) (hy:y.natAbs<4611686018427387904):(x*y).natAbs<85070591730234615865843651857942052864:=by
 rw[Int.natAbs_mul]
 exact Nat.lt_of_le_of_lt (Nat.mul_le_mul (Nat.le_of_lt_succ (n:=4611686018427387903) hx) (Nat.le_of_lt_succ (n:=4611686018427387903) hy)) (by decide)
theorem pivot_ok {m w:Nat} {T:Nat→Nat→Int} {d:Int} {β:Nat→Nat} {r c:Nat} {x3 x4:List Int} {x5 x6:Int} (h:PivOk m w T d r c) :
  program_table_pivot (tabL m w T) d (basL m β) x3 x4 x5 x6 (r:Int) (c:Int)=some (tabL m w (pivT T d r c),sg (T r c)*T r c,basL m (upd β r c),x3,x4,x5,x6,()):=by
 obtain ⟨hm,hw,hr,hc,hd,hb,hq,hqb⟩:=h
 unfold program_table_pivot program_table_pivot_b
 simp only[tabL_len,tabL_idx hr,tab_snd,cell_row hr,rowL_len,rowL_get hc,inB_nat,Int.toNat_natCast,decide_eq_true hr,decide_eq_true hc,ble_of (show Nat.succ r≤m from hr),ble_of (show Nat.succ c≤w from hc),cT,basL_set hr,basL_len]
 refine lpK_seqX m (by omega) (fun i=>((i:Int),tabL m w (mid T d r c i 0),PUnit.unit)) _ (by rw[tabL_congr fun k l _ _=>mid_zero];rfl) (fun again i hi=>?_) (fun again=>?_)
 ·simp only[tabL_len,tabL_idx hi,tab_snd,cell_row hi,rowL_len,rowL_get hc,inB_nat,Int.toNat_natCast,decide_eq_true hi,decide_eq_true hc,decide_eq_true (show (i:Int)<m by omega),ble_of (show Nat.succ i≤m from hi),ble_of (show Nat.succ c≤w from hc),cT,cell_live hi,succ_wrap (show i≤1000000 by omega)]
  by_cases e:i=r
  ·rw[decide_eq_true (show (i:Int)=r by omega),cond_true]
   congr 3
   refine tabL_congr fun k l _ _=>?_
   unfold mid
   by_cases c1:k≠r∧(k<i∨(k=i∧l<0))
   ·rw[if_pos c1,if_pos (by omega)]
   ·rw[if_neg c1,if_neg (by omega)]
  ·rw[decide_eq_false (show ¬ (i:Int)=r by omega),cond_false]
   refine lpK_seq w (by omega) (fun j=>((j:Int),tabL m w (mid T d r c i j),PUnit.unit)) _ (fun again2 j hj=>?_) (fun again2=>?_)
   ·have t1:=ptimes_ok (abs_small (hb i j hi hj)) (abs_small (hb r c hr hc))
    have t2:=ptimes_ok (abs_small (hb i c hi hc)) (abs_small (hb r j hr hj))
    have t3:=pminus_ok (abs_prod (hb i j hi hj) (hb r c hr hc)) (abs_prod (hb i c hi hc) (hb r j hr hj))
    have t4:program_product_over (prodR (T i j*T r c - T i c*T r j)) d=some (piv T d r c i j):=by
     rw[Int.mul_comm (T i j),←hq i j hi e hj]
     exact pover_ok hd.1 (by omega) (by have:=hqb i j hi e hj;omega)
    simp only[tabL_len,tabL_idx hi,tabL_idx hr,tab_snd,cell_row hi,cell_row hr,rowL_len,rowL_get hc,rowL_get hj,inB_nat,Int.toNat_natCast,decide_eq_true hi,decide_eq_true hj,decide_eq_true hr,decide_eq_true hc,decide_eq_true (show (j:Int)<w by omega),
     ble_of (show Nat.succ j≤w from hj),ble_of (show Nat.succ r≤m from hr),cT,mid_row,mid_here (Nat.le_refl j),mid_here (Nat.zero_le c),t1,t2,t3,t4,obind_some',succ_wrap (show j≤1000000 by omega)]
    congr 3
    refine tab_put hi hj fun k l hk hl=>?_
    unfold mid
    by_cases c0:k=i∧l=j
    ·rw[if_pos c0,if_pos (by omega),c0.1,c0.2]
    ·rw[if_neg c0]
     by_cases c1:k≠r∧(k<i∨(k=i∧l<j))
     ·rw[if_pos c1,if_pos (by omega)]
     ·rw[if_neg c1,if_neg (by omega)]
   ·simp only[tabL_idx hi,tab_snd,cell_row hi,rowL_len,decide_eq_false (show ¬ (w:Int)<w by omega),cF]
    congr 3
    refine tabL_congr fun k l hk hl=>?_
    unfold mid
    by_cases c1:k≠r∧(k<i∨(k=i∧l<w))
    ·rw[if_pos c1,if_pos (by omega)]
    ·rw[if_neg c1,if_neg (by omega)]
 ·simp only[tabL_len,decide_eq_false (show ¬ (m:Int)<m by omega),cF]
  by_cases hneg:T r c<0
  ·rw[decide_eq_true hneg,cond_true]
   refine lpK_seqX m (by omega) (fun i=>((i:Int),tabL m w (midN (mid T d r c m 0) i 0),PUnit.unit)) _ (by rw[tabL_congr fun k l _ _=>midN_zero];rfl) (fun again i hi=>?_) (fun again=>?_)
   ·simp only[tabL_len,tabL_idx hi,tab_snd,cell_row hi,rowL_len,inB_nat,Int.toNat_natCast,decide_eq_true hi,decide_eq_true (show (i:Int)<m by omega),ble_of (show Nat.succ i≤m from hi),cT,cell_live hi,succ_wrap (show i≤1000000 by omega)]
    refine lpK_seq w (by omega) (fun j=>((j:Int),tabL m w (midN (mid T d r c m 0) i j),PUnit.unit)) _ (fun again2 j hj=>?_) (fun again2=>?_)
    ·have hbb:(mid T d r c m 0 i j).natAbs<4611686018427387904:=by
      unfold mid
      split
      ·rename_i hh;exact hqb i j hi hh.1 hj
      ·exact hb i j hi hj
     simp only[tabL_len,tabL_idx hi,tab_snd,cell_row hi,rowL_len,rowL_get hj,inB_nat,Int.toNat_natCast,decide_eq_true hi,decide_eq_true hj,decide_eq_true (show (j:Int)<w by omega),
      ble_of (show Nat.succ j≤w from hj),cT,midN_here (Nat.le_refl j),succ_wrap (show j≤1000000 by omega),wrap_id (show -9223372036854775808≤0 - mid T d r c m 0 i j by omega) (by omega)]
     congr 3
     refine tab_put hi hj fun k l hk hl=>?_
     unfold midN
     by_cases c0:k=i∧l=j
     ·rw[if_pos c0,if_pos (by omega),c0.1,c0.2]
      omega
     ·rw[if_neg c0]
      by_cases c1:k<i∨(k=i∧l<j)
      ·rw[if_pos c1,if_pos (by omega)]
      ·rw[if_neg c1,if_neg (by omega)]
    ·simp only[tabL_idx hi,tab_snd,cell_row hi,rowL_len,decide_eq_false (show ¬ (w:Int)<w by omega),cF]
     congr 3
     refine tabL_congr fun k l hk hl=>?_
     unfold midN
     by_cases c1:k<i∨(k=i∧l<w)
     ·rw[if_pos c1,if_pos (by omega)]
     ·rw[if_neg c1,if_neg (by omega)]
   ·have hrc:=hb r c hr hc
    simp only[tabL_len,decide_eq_false (show ¬ (m:Int)<m by omega),cF,wrap_id (show -9223372036854775808≤0 - T r c by omega) (by omega)]
    have e1:sg (T r c)= -1:=by unfold sg;rw[if_pos hneg]
    congr 2
    ·refine tabL_congr fun k l hk hl=>?_
     unfold midN mid pivT
     rw[if_pos (by omega),e1]
     by_cases c0:k=r
     ·rw[if_neg (by omega),if_pos c0,c0];omega
     ·rw[if_pos (by omega),if_neg c0];omega
    ·rw[e1]
     congr 1
     omega
  ·rw[decide_eq_false hneg,cond_false]
   have e1:sg (T r c)=1:=by unfold sg;rw[if_neg hneg]
   congr 2
   ·refine tabL_congr fun k l hk hl=>?_
    unfold mid pivT
    rw[e1,Int.one_mul]
    by_cases c0:k=r
    ·rw[if_neg (by omega),if_pos c0,c0]
    ·rw[if_pos (by omega),if_neg c0]
   ·rw[e1,Int.one_mul]
end Go.Proofs.Ytnbbackjofgcfaa

namespace Go.Proofs.Ytnbbackjofgcfaa
open Try Dn Dn.Sh
theorem frac_trans {x y z p q r:Int} (hp:0<p) (hq:0<q) (hr:0<r) (h1:x*q≤y*p) (h2:y*r≤z*q):x*r≤z*p:=by
 refine le_cancel hq ?_
 have a1:=Int.mul_le_mul_of_nonneg_right h1 (Int.le_of_lt hr)
 have a2:=Int.mul_le_mul_of_nonneg_right h2 (Int.le_of_lt hp)
 calc q*(x*r)=x*q*r:=by grind
  _≤y*p*r:=a1
  _=y*r*p:=by grind
  _≤z*q*p:=a2
  _=q*(z*p):=by grind
theorem frac_tie {x y z p q r:Int} (hp:0<p) (hq:0<q) (hr:0<r) (h1:x*q≤y*p) (h2:y*r≤z*q) (h:x*r=z*p):x*q=y*p∧y*r=z*q:=by
 have h3:=frac_trans hq hr hp h2 (by rw[h];exact Int.le_refl _)
 have h4:=frac_trans (x:=z) (y:=x) (z:=y) (p:=r) (q:=p) (r:=q) hr hp hq (by rw[h];exact Int.le_refl _) h1
 exact ⟨Int.le_antisymm h1 h3,Int.le_antisymm h2 h4⟩
theorem leaving_ok {m w:Nat} {T:Nat→Nat→Int} {d:Int} {β:Nat→Nat} {c R:Nat} {x1:Int} {x3 x4:List Int} {x5:Int} (hm:m≤1000) (hc:c<w) (hR:R<w) (hb:∀i j,i<m→j<w→(T i j).natAbs<4611686018427387904) :
  ∃b,program_table_leaving (matL m w T,x1,basL m β,x3,x4,x5,(R:Int)) (c:Int)=some b∧((b= -1∧∀i,i<m→T i c≤0)∨∃r:Nat,b=r∧Dn.Leaves m R ⟨T,d,β⟩ c r):=by
 unfold program_table_leaving program_table_leaving_b
 refine lpK_ex (fun (x:Int×Int×PUnit)=>∃i:Nat,i≤m∧x.2.1=i∧((x.1= -1∧∀k,k<i→T k c≤0)∨∃r:Nat,x.1=r∧Dn.Leaves i R ⟨T,d,β⟩ c r)) _ (fun x=>((m:Int) - x.2.1).toNat) ?_ ⟨0,by omega,rfl,.inl ⟨rfl,fun k hk=>by omega⟩⟩ (by simp only;omega)
 rintro ⟨b,_,_⟩ ⟨i,hi,rfl,hI⟩
 simp only at hI
 by_cases hlt:i<m
 ·have gR:=matL_get (w:=w) (T:=T) hlt
  have ext:∀r,Dn.Leaves i R ⟨T,d,β⟩ c r→(0<T i c→T r R*T i c≤T i R*T r c∧(T r R*T i c=T i R*T r c→β r≤β i))→Dn.Leaves (i+1) R ⟨T,d,β⟩ c r:=fun r h hn=>by
   refine ⟨by have:=h.lt;omega,h.pos,fun k hk hp=>?_,fun k hk hp he=>?_⟩
   ·by_cases e:k=i
    ·subst e;exact (hn hp).1
    ·exact h.le k (by omega) hp
   ·by_cases e:k=i
    ·subst e;exact (hn hp).2 he
    ·exact h.tie k (by omega) hp he
  right
  by_cases hpos:T i c≤0
  ·refine ⟨(b,((i+1:Nat):Int),PUnit.unit),⟨i+1,by omega,rfl,?_⟩,by simp only;omega,fun rec=>?_⟩
   ·rcases hI with ⟨h1,h2⟩ | ⟨r,h1,h2⟩
    ·exact .inl ⟨h1,fun k hk=>by
      by_cases e:k=i
      ·rw[e];exact hpos
      ·exact h2 k (by omega)⟩
    ·exact .inr ⟨r,h1,ext r h2 fun h=>by omega⟩
   ·simp only[matL_len,inB_nat,Int.toNat_natCast,decide_eq_true hlt,decide_eq_true (show (i:Int)<m by omega),gR,rowL_len,rowL_get hc,decide_eq_true hc,decide_eq_true hpos,cT,succ_wrap (show i≤1000000 by omega)]
  ·rcases hI with ⟨h1,h2⟩ | ⟨r,h1,h2⟩
   ·refine ⟨((i:Int),((i+1:Nat):Int),PUnit.unit),⟨i+1,by omega,rfl,.inr ⟨i,rfl,⟨by omega,show 0<T i c by omega,fun k hk hp=>?_,fun k hk hp _=>?_⟩⟩⟩,by simp only;omega,fun rec=>?_⟩
    ·by_cases e:k=i
     ·subst e;exact Int.le_refl _
     ·have h3:=h2 k (by omega)
      have hp:0<T k c:=hp
      omega
    ·by_cases e:k=i
     ·subst e;exact Nat.le_refl _
     ·have h3:=h2 k (by omega)
      have hp:0<T k c:=hp
      omega
    ·simp only[matL_len,inB_nat,Int.toNat_natCast,decide_eq_true hlt,decide_eq_true (show (i:Int)<m by omega),gR,rowL_len,rowL_get hc,decide_eq_true hc,decide_eq_false hpos,decide_eq_true (show b<0 by omega),cT,cF,succ_wrap (show i≤1000000 by omega)]
   ·subst h1
    have hr:r<m:=by have:=h2.lt;omega
    have gr:=matL_get (w:=w) (T:=T) hr
    have t1:=ptimes_ok (abs_small (hb i R hlt hR)) (abs_small (hb r c hr hc))
    have t2:=ptimes_ok (abs_small (hb r R hr hR)) (abs_small (hb i c hlt hc))
    have hpr:0<T r c:=h2.pos
    refine ⟨(if T i R*T r c<T r R*T i c∨(T i R*T r c=T r R*T i c∧β i<β r) then (i:Int) else (r:Int),((i+1:Nat):Int),PUnit.unit),⟨i+1,by omega,rfl,.inr ?_⟩,by simp only;omega,fun rec=>?_⟩
    ·simp only
     by_cases hq:T i R*T r c<T r R*T i c∨(T i R*T r c=T r R*T i c∧β i<β r)
     ·rw[if_pos hq]
      have hle:T i R*T r c≤T r R*T i c:=by rcases hq with h | h<;>omega
      have hpi:0<T i c:=by omega
      refine ⟨i,rfl,⟨by omega,hpi,fun k hk hp=>?_,fun k hk hp he=>?_⟩⟩
      ·have hp:0<T k c:=hp
       by_cases e:k=i
       ·subst e;exact Int.le_refl _
       ·exact frac_trans hpi hpr hp hle (h2.le k (by omega) hp)
      ·have hp:0<T k c:=hp
       have he:T i R*T k c=T k R*T i c:=he
       by_cases e:k=i
       ·subst e;exact Nat.le_refl _
       ·obtain ⟨e1,e2⟩:=frac_tie hpi hpr hp hle (h2.le k (by omega) hp) he
        have h3:β r≤β k:=h2.tie k (by omega) hp e2
        show β i≤β k
        rcases hq with h | h<;>omega
     ·rw[if_neg hq]
      have h3:=fun h=>hq (.inl h)
      refine ⟨r,rfl,ext r h2 fun hp=>⟨by omega,fun he=>?_⟩⟩
      have h4:=fun h=>hq (.inr ⟨he.symm,h⟩)
      omega
    ·simp only[matL_len,inB_nat,Int.toNat_natCast,decide_eq_true hlt,decide_eq_true hr,decide_eq_true (show (i:Int)<m by omega),gR,gr,rowL_len,rowL_get hc,rowL_get hR,decide_eq_true hc,decide_eq_true hR,decide_eq_false hpos,decide_eq_false (show ¬ (r:Int)<0 by omega),cT,cF,succ_wrap (show i≤1000000 by omega),
      t1,t2,obind_some',pcmp2_ok,basL_len,basL_get hlt,basL_get hr]
     by_cases c1:T i R*T r c<T r R*T i c
     ·rw[if_pos c1,if_pos (.inl c1)]
      generalize decide ((β i:Int)<β r)=bb
      cases bb<;>rfl
     ·by_cases c2:T i R*T r c=T r R*T i c
      ·rw[if_neg c1,if_pos c2]
       by_cases c3:β i<β r
       ·rw[if_pos (.inr ⟨c2,c3⟩),decide_eq_true (show (β i:Int)<β r by omega)]
        rfl
       ·rw[if_neg (by rintro (h | h)<;>omega),decide_eq_false (show ¬ (β i:Int)<β r by omega)]
        rfl
      ·rw[if_neg c1,if_neg c2,if_neg (by rintro (h | h)<;>omega)]
       generalize decide ((β i:Int)<β r)=bb
       cases bb<;>rfl
 ·left
  have e:i=m:=by omega
  subst e
  refine ⟨b,hI,fun rec=>?_⟩
  simp only[matL_len,decide_eq_false (show ¬ (i:Int)<i by omega),cF]
end Go.Proofs.Ytnbbackjofgcfaa

namespace Go.Proofs.Ytnbbackjofgcfaa
open Try Dn Dn.Sh
theorem sz_bound {n:Nat} {f:Nat→Int} {B:Int} (h:∀i,i<n→ -B≤f i∧f i≤B): -(n*B)≤sz n f∧sz n f≤n*B:=by
 induction n with
 | zero=>simp[sz]
 | succ n ih =>
  have h1:=ih fun i hi=>h i (by omega)
  have h2:=h n (by omega)
  simp only[sz]
  rw[show ((n+1:Nat):Int)*B=n*B+B by rw[show ((n+1:Nat):Int)=(n:Int)+1 by omega,Int.add_mul,Int.one_mul]]
  omega
theorem artificial_ok {m w:Nat} {T:Nat→Nat→Int} {β:Nat→Nat} {N j:Nat} {x1 x6:Int} {x3 x4:List Int} (hm:m≤1000) (hj:j<w) (hb:∀i,i<m→ -1125899906842624≤T i j∧T i j≤1125899906842624) :
  program_table_artificial (matL m w T,x1,basL m β,x3,x4,(N:Int),x6) (j:Int)=some (sz m fun i=>arts N (β i)*T i j):=by
 unfold program_table_artificial program_table_artificial_b
 have hterm:∀i,i<m→ -1125899906842624≤arts N (β i)*T i j∧arts N (β i)*T i j≤1125899906842624:=fun i hi=>by
  have:=hb i hi
  unfold arts
  split<;>omega
 refine lpK_seq m (by omega) (fun i=>(sz i (fun k=>arts N (β k)*T k j),(i:Int),PUnit.unit)) _ (fun again i hi=>?_) (fun again=>?_)
 ·have h1:=sz_bound (n:=i) (f:=fun k=>arts N (β k)*T k j) (B:=1125899906842624) fun k hk=>hterm k (by omega)
  have h2:=hterm i hi
  have hi2:(i:Int)≤1000:=by omega
  have h3:(i:Int)*1125899906842624≤1000*1125899906842624:=Int.mul_le_mul_of_nonneg_right hi2 (by omega)
  simp only[matL_len,basL_len,inB_nat,Int.toNat_natCast,decide_eq_true hi,decide_eq_true (show (i:Int)<m by omega),matL_get hi,basL_get hi,rowL_len,rowL_get hj,decide_eq_true hj,cT,succ_wrap (show i≤1000000 by omega)]
  have hT:=hb i hi
  by_cases e:N≤β i
  ·have e1:arts N (β i)*T i j=T i j:=by unfold arts;rw[if_pos e];omega
   rw[decide_eq_true (show (β i:Int)≥N by omega),cond_true,wrap_id (by omega) (by omega)]
   simp only[sz,e1]
  ·have e1:arts N (β i)*T i j=0:=by unfold arts;rw[if_neg e];omega
   rw[decide_eq_false (show ¬ (β i:Int)≥N by omega),cond_false]
   simp only[sz,e1,Int.add_zero]
 ·simp only[matL_len,decide_eq_false (show ¬ (m:Int)<m by omega),cF]
def costAt (cs:List Int) (j:Nat):Int:=cs.getD j 0
theorem cost_ok {M:List (List Int)} {x1:Int} {x2 x3 cs:List Int} {x5 x6:Int} {j:Nat}:program_table_cost (M,x1,x2,x3,cs,x5,x6) (j:Int)=some (costAt cs j):=by
 unfold costAt
 simp only[program_table_cost,program_table_cost_b,inB_nat,Int.toNat_natCast]
 by_cases h:j<cs.length
 ·rw[decide_eq_true h,decide_eq_true (show (j:Int)<cs.length by omega)];rfl
 ·rw[decide_eq_false (show ¬ (j:Int)<cs.length by omega),cond_false,List.getD_eq_getElem?_getD,List.getElem?_eq_none (by omega)];rfl
theorem reduced_ok {m w:Nat} {T:Nat→Nat→Int} {d:Int} {β:Nat→Nat} {j:Nat} {x3 cs:List Int} {x5 x6:Int} (hm:m≤1000) (hj:j<w) (hd: -1125899906842624≤costAt cs j*d∧costAt cs j*d≤1125899906842624)
  (hb:∀i,i<m→ -1125899906842624≤costAt cs (β i)*T i j∧costAt cs (β i)*T i j≤1125899906842624) :
  program_table_reduced (matL m w T,d,basL m β,x3,cs,x5,x6) (j:Int)=some (zr m (costAt cs) ⟨T,d,β⟩ j):=by
 unfold program_table_reduced program_table_reduced_b
 rw[cost_ok,obN]
 refine lpK_seqX m (by omega) (fun i=>(costAt cs j*d - sz i (fun k=>costAt cs (β k)*T k j),(i:Int),PUnit.unit)) _ ?_ (fun again i hi=>?_) (fun again=>?_)
 ·simp only[sz,Int.sub_zero]
  rw[wrap_id (by omega) (by omega)]
  rfl
 ·have h1:=sz_bound (n:=i) (f:=fun k=>costAt cs (β k)*T k j) (B:=1125899906842624) fun k hk=>hb k (by omega)
  have h2:=hb i hi
  have hi2:(i:Int)≤1000:=by omega
  have h3:(i:Int)*1125899906842624≤1000*1125899906842624:=Int.mul_le_mul_of_nonneg_right hi2 (by omega)
  simp only[matL_len,basL_len,inB_nat,Int.toNat_natCast,decide_eq_true hi,decide_eq_true (show (i:Int)<m by omega),matL_get hi,basL_get hi,rowL_len,rowL_get hj,decide_eq_true hj,cT,succ_wrap (show i≤1000000 by omega),cost_ok,obind_some']
  rw[wrap_id (x:=costAt cs (β i)*T i j) (by omega) (by omega),wrap_id (by omega) (by omega)]
  simp only[sz]
  congr 2
  omega
 ·simp only[matL_len,decide_eq_false (show ¬ (m:Int)<m by omega),cF]
  rfl
end Go.Proofs.Ytnbbackjofgcfaa
