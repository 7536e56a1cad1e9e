/- r15: what its functions answer (printed by a program), and that they do; part 3. r15: what its functions answer (printed by a program), and that they do; part 4. Plain lemmas for what functions answer: loops, machine numbers, lists. Names: both programs know the same ones. Fractions: rational numbers, and the pairs of numbers that stand for them. Fractions: what 'Make', 'Valid', 'Mul', 'Floor', 'Ceil' of package ratio answer. Fractions: products of two words, 'Mul', 'Floor', 'Ceil' of package ratio. Fractions of the reference: numbers of two words, their greatest common divisors and quotients. Fractions of the reference: 'Div', 'Made', 'Make', 'Times', 'Floor', 'Ceil'. Numbers of 128 bits: sums, differences, comparisons; the length of a number. The quotient of a number of 128 bits by one of 64. Fractions: 'Add' of package ratio. Loops over lists: searches and tests of all elements. Fractions: 'Add', 'Valid', 'All' of the reference. Fractions: 'Sub' and 'Cmp' of both. Loops over the elements of a list, as recursions over it. Programs: both programs know the same valid ones. Systems: both programs know the same valid ones. -/
import Derived.Laws.StructEq
import Derived.Test.YtfknoaclabfdlaaGreatMgM

namespace Go.Proofs.YtfknoaclabfdlaaGreat
open Tryz Dn Dn.Sh
set_option maxRecDepth 100000
noncomputable def ref05_Rights_b (lp:Lp) (_:Jn) (x0:(List Int)×List ((List Int)×Int×Int)):Option (List Int) :=
 lp (List Int×Int×PUnit) (List Int) (fun (again:List Int×Int×PUnit→Option (List Int)) (x:List Int×Int×PUnit)=>bif decide (x.2.1<(↑(List.length x0.2):Int)) then
  bif inB x.2.1 (List.length x0.2) then bif fitB (List.length x.1+1) 8 then again (x.1++[(List.getD x0.2 (Int.toNat x.2.1) ([],0,(0 :
  Int))).2.2],IntKind.wrap .i64 (x.2.1+1),PUnit.unit) else none else none else some x.1) ([],0,PUnit.unit)
noncomputable def ref05_Rights (x0:(List Int)×List ((List Int)×Int×Int)):Option (List Int):=ref05_Rights_b lpK jnK x0
abbrev t55:=((List Int)×List ((List Int)×Int×Int))→Option (List Int)
noncomputable def c55:Ctr:=⟨[T32],[],[],.one (.sl i64),fun x _ _=>ref05_Rights x.1⟩
theorem e55 (lp:Lp) (jn:Jn):∀(x:TsS c55.as) (F:TsF c55.fs) (y:TsS c55.cs),ref05_Rights_b lp jn x.1=runC lp jn (cx [] [(134,r134)]) hints 4 55 f55 c55 x F y:=fun x F y=>by kernel_rfl
theorem ok55:c55.ok prog 55:=Ctr.of_den (ctxT_ok (q134)) hmix (hl:=hints) (d:=4) func55 rfl (by decide) (e55 lpK jnK)
noncomputable def ref05_sign_b (_:Lp) (_:Jn) (ref02_Of:t73) (ref02_Cmp:t105) (x0:Int×Int):Option Int :=
 obind (ref02_Of 0) fun (t:Int×Int)=>obind (ref02_Cmp x0 t) fun (t:Int)=>some t
noncomputable def ref05_sign (x0:Int×Int):Option Int:=ref05_sign_b lpK jnK ref02_Of ref02_Cmp x0
abbrev t56:=(Int×Int)→Option (Int)
noncomputable def k56 (ref05_sign:t56):Ctr:=⟨[T49],[],[],.one i64,fun x _ _=>ref05_sign x.1⟩
noncomputable def c56:Ctr:=k56 ref05_sign
theorem e56 (lp:Lp) (jn:Jn) (ref02_Of:t73) (ref02_Cmp:t105):∀(x:TsS c56.as) (F:TsF c56.fs) (y:TsS c56.cs),ref05_sign_b lp jn ref02_Of ref02_Cmp x.1=runC lp jn (cx [(105,k105 ref02_Cmp),(73,k73 ref02_Of)] [(134,r134)]) hints 4 56 f56 c56 x F y:=fun x F y=>by kernel_rfl
theorem ok56:c56.ok prog 56:=Ctr.of_den (ctxT_ok (ctxOf_cons (ctxOf_cons (q134) (by kernel_rfl) ok73) (by kernel_rfl) ok105)) hmix (hl:=hints) (d:=4) func56 rfl (by decide) (e56 lpK jnK ref02_Of ref02_Cmp)
noncomputable def ref05_Signed_b (lp:Lp) (_:Jn) (ref05_sign:t56) (x0:(List Int)×List ((List Int)×Int×Int)) (x1:List (Int×Int)):Option Bool :=
 lp (Int×PUnit) Bool (fun (again:Int×PUnit→Option Bool) (x:Int×PUnit) =>
 let v6:Bool:=inB x.1 (List.length x1);
 let v7:Bool:=inB x.1 (List.length x0.2);
 let v8:Bool:=decide ((List.getD x0.2 (Int.toNat x.1) ([],0,0)).2.1=1);
 let v9:Bool:=decide ((List.getD x0.2 (Int.toNat x.1) ([],0,0)).2.1=2);
 let v10:Bool:=!v8;
 let v11:Bool:=v10||v8;bif decide (x.1<(↑(List.length x1):Int)) then bif v7 then bif v11&&(v11&&(v10||v6)) then bif v11 then bif v11 then obind (bif v8 then ref05_sign
  (List.getD x1 (Int.toNat x.1) (0,0)) else some 0) fun (t:Int) =>
 let v13:Bool:=bif v8 then decide (t>0) else false;
 let v14:Bool:=!v13;
 let v15:Bool:=!v14;
 let v16:Bool:=v14&&v9;
 let v17:Bool:=!v16;
 let v18:Bool:=v15||v14;
 let v19:Bool:=v17||v16;bif v11 then bif v11 then bif v18 then bif v18&&(v18&&(v15||v7)) then bif v18 then bif v18 then bif v18 then bif v18 then bif v19&&(v19&&(v17 ||
  v6)) then bif v19 then bif v19 then obind (bif v16 then ref05_sign (List.getD x1 (Int.toNat x.1) (0,0)) else some 0) fun (t:Int)=>bif v19 then bif (v15 ||
  v18)&&(v15||(!v9||(v15||v16))) then bif v13||v14 then bif bif v13 then true else bif v9 then decide (t<0) else false then some false else again (IntKind.wrap
  IntKind.i64 (x.1+1),PUnit.unit) else none else none else none else none else none else none else none else none else none else none else none else none else none else none
  else none else none else none else none else some true) (0,PUnit.unit)
noncomputable def ref05_Signed (x0:(List Int)×List ((List Int)×Int×Int)) (x1:List (Int×Int)):Option Bool:=ref05_Signed_b lpK jnK ref05_sign x0 x1
abbrev t57:=((List Int)×List ((List Int)×Int×Int))→(List (Int×Int))→Option (Bool)
noncomputable def c57:Ctr:=⟨[T32,(.sl T49)],[],[],.one .bool,fun x _ _=>ref05_Signed x.1 x.2.1⟩
theorem e57 (lp:Lp) (jn:Jn) (ref05_sign:t56):∀(x:TsS c57.as) (F:TsF c57.fs) (y:TsS c57.cs),ref05_Signed_b lp jn ref05_sign x.1 x.2.1=runC lp jn (cx [(56,k56 ref05_sign)] [(134,r134)]) hints 4 57 f57 c57 x F y:=fun x F y=>by kernel_rfl
theorem ok57:c57.ok prog 57:=Ctr.of_den (ctxT_ok (ctxOf_cons (q134) (by kernel_rfl) ok56)) hmix (hl:=hints) (d:=4) func57 rfl (by decide) (e57 lpK jnK ref05_sign)
noncomputable def ref05_Refutes_b (_:Lp) (_:Jn) (ref05_Sum:t54) (ref05_below:t53) (ref05_Rights:t55) (ref05_sign:t56) (ref05_Signed:t57) (x0:(List Int)×List ((List Int)×Int×Int)) (x1:List (Int×Int)):Option (Bool×Int×Unit) :=
 bif decide (0≤(↑(List.length x0.1):Int))&&fitB (Int.toNat (↑(List.length x0.1):Int)) 8 then obind (ref05_below x0 x1 (List.replicate (Int.toNat (↑(List.length
  x0.1):Int)) 0)) fun (t:Bool×Int×PUnit) =>
 let v5:Bool:=!t.1||t.1;bif !decide (t.2.1=0) then some (false,t.2.1,PUnit.unit) else obind (ref05_Rights x0) fun (t_1:List Int)=>obind (ref05_Sum t_1
  x1) fun (t_2:(Int×Int)×Int×PUnit)=>bif !decide (t_2.2.1=0) then some (false,t_2.2.1,PUnit.unit) else bif v5 then obind (bif t.1 then ref05_sign t_2.1
  else some 0) fun (t_3:Int) =>
 let v9:Bool:=bif t.1 then decide (t_3>0) else false;
 let v10:Bool:=!v9||v9;bif v5 then bif v5 then bif v10&&v10 then obind (bif v9 then ref05_Signed x0 x1 else some false) fun (t:Bool)=>bif v10 then some (bif v9 then t else
  false,0,PUnit.unit) else none else none else none else none else none else none
noncomputable def ref05_Refutes (x0:(List Int)×List ((List Int)×Int×Int)) (x1:List (Int×Int)):Option (Bool×Int×Unit):=ref05_Refutes_b lpK jnK ref05_Sum ref05_below ref05_Rights ref05_sign ref05_Signed x0 x1
abbrev t18:=((List Int)×List ((List Int)×Int×Int))→(List (Int×Int))→Option (Bool×Int×Unit)
noncomputable def k18 (ref05_Refutes:t18):Ctr:=⟨[T32,(.sl T49)],[],[],.tup [.bool,i64],fun x _ _=>ref05_Refutes x.1 x.2.1⟩
noncomputable def c18:Ctr:=k18 ref05_Refutes
theorem e18 (lp:Lp) (jn:Jn) (ref05_Sum:t54) (ref05_below:t53) (ref05_Rights:t55) (ref05_sign:t56) (ref05_Signed:t57):∀(x:TsS c18.as) (F:TsF c18.fs) (y:TsS c18.cs),ref05_Refutes_b lp jn ref05_Sum ref05_below ref05_Rights ref05_sign ref05_Signed x.1 x.2.1=runC lp jn (cx [(57,⟨[T32,(.sl T49)],[],[],.one .bool,fun x _ _=>ref05_Signed x.1 x.2.1⟩),(56,k56 ref05_sign),(55,⟨[T32],[],[],.one (.sl i64),fun x _ _=>ref05_Rights x.1⟩),(53,k53 ref05_below),(54,k54 ref05_Sum)] [(134,r134)]) hints 4 18 f18 c18 x F y:=fun x F y=>by kernel_rfl
theorem ok18:c18.ok prog 18:=Ctr.of_den (ctxT_ok (ctxOf_cons (ctxOf_cons (ctxOf_cons (ctxOf_cons (ctxOf_cons (q134) (by kernel_rfl) ok54) (by kernel_rfl) ok53) (by kernel_rfl) ok55) (by kernel_rfl) ok56) (by kernel_rfl) ok57)) hmix (hl:=hints) (d:=4) func18 rfl (by decide) (e18 lpK jnK ref05_Sum ref05_below ref05_Rights ref05_sign ref05_Signed)
noncomputable def law15_SlackPrograms_b (_:Lp) (_:Jn) (slack_Program:t11) (slack_Proves:t12) (law15_awake:t9) (law15_few:t10) (ref10_Valid:t13) (ref05_Same:t14) (ref15_Program:t15) (ref15_Ones:t16) (ref02_All:t17) (ref05_Refutes:t18) (x0:(List (ByteArray×Int))×List (ByteArray×(List (ByteArray×Int×Int×Int))×Bool)) (x1:List (Int×Int)):Option Bool :=
 obind law15_awake fun (t:Bool)=>bif !t then some false else obind (law15_few x0 x1) fun (t:Bool)=>bif !t then some true else obind (slack_Program x0) fun (t:(List Int×List (List
  Int×Int×Int))×Int×PUnit)=>obind (slack_Proves x0 x1) fun (t_1:Bool×Int×PUnit) =>
 let v8:Bool:=!t_1.1;
 let v9:Bool:=!v8||v8;
 let v10:Bool:=decide (t_1.2.1=1);obind (ref10_Valid x0) fun (t_2:Bool)=>bif !t_2 then obind (ref05_Same t.1 ([],[])) fun (t_3:Bool) =>
 let v13:Bool:=!t_3||t_3;
 let v14:Bool:=bif t_3 then decide (t.2.1=1) else false;
 let v15:Bool:=bif v14 then v8 else false;
 let v16:Bool:=!v14||v14;
 let v17:Bool:=!v15||v15;bif v13 then bif v13 then bif v16 then bif v16 then bif v17 then bif v17 then some (bif v15 then v10 else false) else none else none else none else none
  else none else none else obind (ref15_Ones x0) fun (t_3:List Int)=>obind (ref15_Program x0 t_3) fun (t_4:List Int×List (List Int×Int×Int))=>obind (ref05_Same t.1 t_4)
  fun (t_5:Bool) =>
 let v15:Bool:=!t_5;
 let v16:Bool:=!v15;bif !v16||v16 then bif v15||v16 then bif bif v15 then true else !decide (t.2.1=0) then some false else obind (ref02_All x1) fun (t:Bool)=>bif
  !t then bif v9 then bif v9 then some (bif v8 then v10 else false) else none else none else bif !decide ((↑(List.length x1):Int)=(↑(List.length x0.1):Int)) then bif v9 then bif
  v9 then some (bif v8 then decide (t_1.2.1=3) else false) else none else none else obind (ref05_Refutes t_4 x1) fun (t:Bool×Int×PUnit) =>
 let v19:Bool:=decide (t_1.1=t.1);
 let v20:Bool:=!v19||v19;bif v20&&v20 then bif v20 then some (bif v19 then decide (t_1.2.1=t.2.1) else false) else none else none else none else none
noncomputable def law15_SlackPrograms (x0:(List (ByteArray×Int))×List (ByteArray×(List (ByteArray×Int×Int×Int))×Bool)) (x1:List (Int×Int)):Option Bool:=law15_SlackPrograms_b lpK jnK slack_Program slack_Proves law15_awake law15_few ref10_Valid ref05_Same ref15_Program ref15_Ones ref02_All ref05_Refutes x0 x1
noncomputable def c3:Ctr:=⟨[T25,(.sl T49)],[],[],.one .bool,fun x _ _=>law15_SlackPrograms x.1 x.2.1⟩
theorem e3 (lp:Lp) (jn:Jn) (slack_Program:t11) (slack_Proves:t12) (law15_awake:t9) (law15_few:t10) (ref10_Valid:t13) (ref05_Same:t14) (ref15_Program:t15) (ref15_Ones:t16) (ref02_All:t17) (ref05_Refutes:t18):∀(x:TsS c3.as) (F:TsF c3.fs) (y:TsS c3.cs),law15_SlackPrograms_b lp jn slack_Program slack_Proves law15_awake law15_few ref10_Valid ref05_Same ref15_Program ref15_Ones ref02_All ref05_Refutes x.1 x.2.1=runC lp jn (cx [(18,k18 ref05_Refutes),(17,⟨[(.sl T49)],[],[],.one .bool,fun x _ _=>ref02_All x.1⟩),(16,k16 ref15_Ones),(15,k15 ref15_Program),(14,⟨[T32,T32],[],[],.one .bool,fun x _ _=>ref05_Same x.1 x.2.1⟩),(13,k13 ref10_Valid),(10,k10 law15_few),(9,k9 law15_awake),(12,k12 slack_Proves),(11,k11 slack_Program)] [(134,r134)]) hints 4 3 f3 c3 x F y:=fun x F y=>by kernel_rfl
theorem ok3:c3.ok prog 3:=Ctr.of_den (ctxT_ok (ctxOf_cons (ctxOf_cons (ctxOf_cons (ctxOf_cons (ctxOf_cons (ctxOf_cons (ctxOf_cons (ctxOf_cons (ctxOf_cons (ctxOf_cons (q134) (by kernel_rfl) ok11) (by kernel_rfl) ok12) (by kernel_rfl) ok9) (by kernel_rfl) ok10) (by kernel_rfl) ok13) (by kernel_rfl) ok14) (by kernel_rfl) ok15) (by kernel_rfl) ok16) (by kernel_rfl) ok17) (by kernel_rfl) ok18)) hmix (hl:=hints) (d:=4) func3 rfl (by decide) (e3 lpK jnK slack_Program slack_Proves law15_awake law15_few ref10_Valid ref05_Same ref15_Program ref15_Ones ref02_All ref05_Refutes)
noncomputable def ref05_size_b (_:Lp) (_:Jn) (x0:Int):Option Int :=
 some (if IntKind.wrap .i64 (0 - x0)>x0 then IntKind.wrap .i64 (0 - x0) else x0)
noncomputable def ref05_size (x0:Int):Option Int:=ref05_size_b lpK jnK x0
abbrev t163:=(Int)→Option (Int)
noncomputable def ref05_Factors_b (lp:Lp) (_:Jn) (ref05_size:t163) (x0:(List Int)×List ((List Int)×Int×Int)):Option (List Int) :=
 lp (Int×Int×PUnit) (List Int) (fun (again:Int×Int×PUnit→Option (List Int)) (x:Int×Int×PUnit)=>bif decide (x.2.1<(↑(List.length x0.1):Int)) then bif inB
  x.2.1 (List.length x0.1) then obind (ref05_size (List.getD x0.1 (Int.toNat x.2.1) 0)) fun (t:Int)=>again (IntKind.wrap .i64 (x.1+t),IntKind.wrap
  IntKind.i64 (x.2.1+1),PUnit.unit) else none else lp (List Int×Int×PUnit) (List Int) (fun (again:List Int×Int×PUnit→Option (List Int)) (x:List Int×Int ×
  PUnit) =>
 let v7:Bool:=inB x.2.1 (List.length x0.2);
 let v8:List Int×Int×Int:=List.getD x0.2 (Int.toNat x.2.1) ([],0,0);bif decide (x.2.1<(↑(List.length x0.2):Int)) then bif v7 then obind
  (ref05_size v8.2.2) fun (t:Int)=>lp (Int×Int×PUnit) (List Int) (fun (again_1:Int×Int×PUnit→Option (List Int)) (x_1:Int×Int×PUnit)=>bif decide (x_1.2.1 <
  (↑(List.length x0.1):Int)) then bif v7 then bif inB x_1.2.1 (List.length v8.1) then obind (ref05_size (List.getD v8.1 (Int.toNat x_1.2.1) 0)) fun (t:Int) =>
  again_1 (IntKind.wrap .i64 (x_1.1+t),IntKind.wrap .i64 (x_1.2.1+1),PUnit.unit) else none else none else bif fitB (List.length x.1+1) (8 :
  Nat) then again (x.1++[x_1.1],IntKind.wrap .i64 (x.2.1+1),PUnit.unit) else none) (IntKind.wrap .i64 (1+t),0,PUnit.unit) else none
  else some x.1) ([x.1],0,PUnit.unit)) (1,0,PUnit.unit)
noncomputable def ref05_Factors (x0:(List Int)×List ((List Int)×Int×Int)):Option (List Int):=ref05_Factors_b lpK jnK ref05_size x0
abbrev t118:=((List Int)×List ((List Int)×Int×Int))→Option (List Int)
noncomputable def ref05_product_b (lp:Lp) (_:Jn) (x0:List Int) (x1:Int):Option (Int×Bool×Unit) :=
 lp (Int×Int×PUnit) (Int×Bool×PUnit) (fun (again:Int×Int×PUnit→Option (Int×Bool×PUnit)) (x:Int×Int×PUnit) =>
 let v6:Bool:=inB x.2.1 (List.length x0);bif decide (x.2.1<(↑(List.length x0):Int)) then bif v6 then bif nzB x.1 then bif decide (List.getD x0 (Int.toNat x.2.1) (0 :
  Int)>IntKind.wrap .i64 (Int.tdiv x1 x.1)) then some (0,false,PUnit.unit) else bif v6 then again (IntKind.wrap .i64 (x.1*List.getD x0 (Int.toNat
  x.2.1) 0),IntKind.wrap .i64 (x.2.1+1),PUnit.unit) else none else none else none else some (x.1,true,PUnit.unit)) (1,0,PUnit.unit)
noncomputable def ref05_product (x0:List Int) (x1:Int):Option (Int×Bool×Unit):=ref05_product_b lpK jnK x0 x1
abbrev t119:=(List Int)→(Int)→Option (Int×Bool×Unit)
noncomputable def ref05_Fits_b (lp:Lp) (_:Jn) (ref05_Factors:t118) (ref05_product:t119) (x0:(List Int)×List ((List Int)×Int×Int)):Option Bool :=
 obind (ref05_Factors x0) fun (t:List Int)=>obind (ref05_product t 17592186044416) fun (t_1:Int×Bool×PUnit) =>
 let v5:Bool:=!t_1.2.1;
 let v6:Int:=IntKind.wrap .i64 (Int.tdiv 144115188075855872 t_1.1);
 let v7:Bool:=v5||t_1.2.1;lp (Int×Int×PUnit) Bool (fun (again:Int×Int×PUnit→Option Bool) (x:Int×Int×PUnit)=>bif decide (x.2.1<(↑(List.length t):Int))
  then bif inB x.2.1 (List.length t) then again (if List.getD t (Int.toNat x.2.1) 0>x.1 then List.getD t (Int.toNat x.2.1) 0 else x.1,IntKind.wrap
  IntKind.i64 (x.2.1+1),PUnit.unit) else none else bif v7&&(v5||nzB t_1.1) then bif v7&&v7 then bif v7 then some (bif t_1.2.1 then decide (x.1≤v6) else
  false) else none else none else none) (0,0,PUnit.unit)
noncomputable def ref05_Fits (x0:(List Int)×List ((List Int)×Int×Int)):Option Bool:=ref05_Fits_b lpK jnK ref05_Factors ref05_product x0
abbrev t63:=((List Int)×List ((List Int)×Int×Int))→Option (Bool)
noncomputable def ref15_Fits_b (_:Lp) (_:Jn) (ref15_Program:t15) (ref15_Ones:t16) (ref05_Fits:t63) (x0:(List (ByteArray×Int))×List (ByteArray×(List (ByteArray×Int×Int×Int))×Bool)):Option Bool :=
 obind (ref15_Ones x0) fun (t:List Int)=>obind (ref15_Program x0 t) fun (t:List Int×List (List Int×Int×Int))=>obind (ref05_Fits t) fun (t:Bool)=>some t
noncomputable def ref15_Fits (x0:(List (ByteArray×Int))×List (ByteArray×(List (ByteArray×Int×Int×Int))×Bool)):Option Bool:=ref15_Fits_b lpK jnK ref15_Program ref15_Ones ref05_Fits x0
abbrev t23:=((List (ByteArray×Int))×List (ByteArray×(List (ByteArray×Int×Int×Int))×Bool))→Option (Bool)
noncomputable def ref15_Only_b (_:Lp) (_:Jn) (x0:(List (ByteArray×Int))×List (ByteArray×(List (ByteArray×Int×Int×Int))×Bool)) (x1:Int) (x2:Int):Option (List Int) :=
 bif decide (0≤(↑(List.length x0.2):Int))&&fitB (Int.toNat (↑(List.length x0.2):Int)) 8 then bif inB x1 (Int.toNat (↑(List.length x0.2):Int)) then bif Nat.ble
  (Nat.succ (Int.toNat x1)) (Int.toNat (↑(List.length x0.2):Int)) then some (List.set (List.replicate (Int.toNat (↑(List.length x0.2):Int)) 0) (Int.toNat x1) x2) else none
  else none else none
noncomputable def ref15_Only (x0:(List (ByteArray×Int))×List (ByteArray×(List (ByteArray×Int×Int×Int))×Bool)) (x1:Int) (x2:Int):Option (List Int):=ref15_Only_b lpK jnK x0 x1 x2
abbrev t64:=((List (ByteArray×Int))×List (ByteArray×(List (ByteArray×Int×Int×Int))×Bool))→(Int)→(Int)→Option (List Int)
noncomputable def ref15_FitsOne_b (_:Lp) (_:Jn) (ref15_Program:t15) (ref05_Fits:t63) (ref15_Only:t64) (x0:(List (ByteArray×Int))×List (ByteArray×(List (ByteArray×Int×Int×Int))×Bool)):Option Bool :=
 obind (ref15_Only x0 0 1) fun (t:List Int)=>obind (ref15_Program x0 t) fun (t:List Int×List (List Int×Int×Int))=>obind (ref05_Fits t) fun (t:Bool)=>some t
noncomputable def ref15_FitsOne (x0:(List (ByteArray×Int))×List (ByteArray×(List (ByteArray×Int×Int×Int))×Bool)):Option Bool:=ref15_FitsOne_b lpK jnK ref15_Program ref05_Fits ref15_Only x0
abbrev t24:=((List (ByteArray×Int))×List (ByteArray×(List (ByteArray×Int×Int×Int))×Bool))→Option (Bool)
noncomputable def ref05_Small_b (_:Lp) (_:Jn) (ref05_Factors:t118) (ref05_product:t119) (x0:(List Int)×List ((List Int)×Int×Int)):Option Bool :=
 obind (ref05_Factors x0) fun (t:List Int)=>obind (ref05_product t 536870912) fun (t:Int×Bool×PUnit)=>some t.2.1
noncomputable def ref05_Small (x0:(List Int)×List ((List Int)×Int×Int)):Option Bool:=ref05_Small_b lpK jnK ref05_Factors ref05_product x0
abbrev t65:=((List Int)×List ((List Int)×Int×Int))→Option (Bool)
noncomputable def ref15_Small_b (_:Lp) (_:Jn) (ref15_Program:t15) (ref15_Ones:t16) (ref05_Small:t65) (x0:(List (ByteArray×Int))×List (ByteArray×(List (ByteArray×Int×Int×Int))×Bool)):Option Bool :=
 obind (ref15_Ones x0) fun (t:List Int)=>obind (ref15_Program x0 t) fun (t:List Int×List (List Int×Int×Int))=>obind (ref05_Small t) fun (t:Bool)=>some t
noncomputable def ref15_Small (x0:(List (ByteArray×Int))×List (ByteArray×(List (ByteArray×Int×Int×Int))×Bool)):Option Bool:=ref15_Small_b lpK jnK ref15_Program ref15_Ones ref05_Small x0
abbrev t25:=((List (ByteArray×Int))×List (ByteArray×(List (ByteArray×Int×Int×Int))×Bool))→Option (Bool)
noncomputable def ref05_pivot_b (lp:Lp) (_:Jn) (x0:List Nat×List (Option (List Int))) (x1:List Int) (x2:Int) (x3:Int) (x4:Int) (x5:Int):Option ((List Nat×List (Option (List Int)))×(List Int)×Int×Int×Unit) :=
 bif inB x4 (List.length x0.1) then bif Nat.ble (Nat.succ (Int.toNat x4)) (List.length x0.1) then bif inB x5 (List.length (rowD x0.2 (List.getD x0.1 (Int.toNat x4) 0))) then
  bif Nat.ble (Nat.succ (Int.toNat x5)) (List.length (rowD x0.2 (List.getD x0.1 (Int.toNat x4) 0))) then lp (Int×(List Nat×List (Option (List Int)))×PUnit) ((List Nat ×
  List (Option (List Int)))×List Int×Int×Int×PUnit) (fun (again:Int×(List Nat×List (Option (List Int)))×PUnit→Option ((List Nat×List (Option (List Int)))×List Int ×
  Int×Int×PUnit)) (x:Int×(List Nat×List (Option (List Int)))×PUnit) =>
 let v10:Int:=IntKind.wrap .i64 (x.1+1);
 let v11:(List Nat×List (Option (List Int)))×PUnit:=(x.2.1,PUnit.unit);bif decide (x.1<(↑(List.length x.2.1.1):Int)) then bif inB x.1 (List.length
  x.2.1.1) then bif Nat.ble (Nat.succ (Int.toNat x.1)) (List.length x.2.1.1) then bif inB x5 (List.length (rowD x.2.1.2 (List.getD x.2.1.1 (Int.toNat x.1) (0 :
  Nat)))) then bif Nat.ble (Nat.succ (Int.toNat x5)) (List.length (rowD x.2.1.2 (List.getD x.2.1.1 (Int.toNat x.1) 0))) then bif decide (x.1=x4) then again (v10,
  v11) else lp (Int×(List Nat×List (Option (List Int)))×PUnit) ((List Nat×List (Option (List Int)))×List Int×Int×Int×PUnit) (fun (again_1:Int×(List Nat×List (Option
  (List Int)))×PUnit→Option ((List Nat×List (Option (List Int)))×List Int×Int×Int×PUnit)) (x_1:Int×(List Nat×List (Option (List Int)))×PUnit) =>
 let v14:Bool:=inB x.1 (List.length x_1.2.1.1);
 let v15:Bool:=Nat.ble (Nat.succ (Int.toNat x.1)) (List.length x_1.2.1.1);bif v14 then bif v15 then bif liveB x_1.2.1.2 (List.getD x_1.2.1.1 (Int.toNat x.1) (0 :
  Nat)) then bif decide (x_1.1<(↑(List.length (rowD x_1.2.1.2 (List.getD x_1.2.1.1 (Int.toNat x.1) 0))):Int)) then bif v14 then bif v15 then bif v14 then bif
  v15 then bif inB x_1.1 (List.length (rowD x_1.2.1.2 (List.getD x_1.2.1.1 (Int.toNat x.1) 0))) then bif Nat.ble (Nat.succ (Int.toNat x_1.1)) (List.length (rowD
  x_1.2.1.2 (List.getD x_1.2.1.1 (Int.toNat x.1) 0))) then bif inB x4 (List.length x_1.2.1.1) then bif Nat.ble (Nat.succ (Int.toNat x4)) (List.length
  x_1.2.1.1) then bif inB x_1.1 (List.length (rowD x_1.2.1.2 (List.getD x_1.2.1.1 (Int.toNat x4) 0))) then bif Nat.ble (Nat.succ (Int.toNat x_1.1))
  (List.length (rowD x_1.2.1.2 (List.getD x_1.2.1.1 (Int.toNat x4) 0))) then bif nzB x2 then bif inB x_1.1 (List.length (rowD x_1.2.1.2 (List.getD
  x_1.2.1.1 (Int.toNat x.1) 0))) then bif Nat.ble (Nat.succ (Int.toNat x_1.1)) (List.length (rowD x_1.2.1.2 (List.getD x_1.2.1.1 (Int.toNat x.1) (0 :
  Nat)))) then again_1 (IntKind.wrap .i64 (x_1.1+1),(x_1.2.1.1,List.set x_1.2.1.2 (List.getD x_1.2.1.1 (Int.toNat x.1) 0) (some (List.set
  (rowD x_1.2.1.2 (List.getD x_1.2.1.1 (Int.toNat x.1) 0)) (Int.toNat x_1.1) (IntKind.wrap .i64 (Int.tdiv (IntKind.wrap .i64 (IntKind.wrap
  IntKind.i64 (List.getD (rowD x_1.2.1.2 (List.getD x_1.2.1.1 (Int.toNat x.1) 0)) (Int.toNat x_1.1) 0*List.getD (rowD x0.2 (List.getD x0.1 (Int.toNat
  x4) 0)) (Int.toNat x5) 0) - IntKind.wrap .i64 (List.getD (rowD x.2.1.2 (List.getD x.2.1.1 (Int.toNat x.1) 0)) (Int.toNat x5) 0 *
  List.getD (rowD x_1.2.1.2 (List.getD x_1.2.1.1 (Int.toNat x4) 0)) (Int.toNat x_1.1) 0))) x2))))),PUnit.unit) else none else none else none else none else
  none else none else none else none else none else none else none else none else none else again (v10,x_1.2.1,PUnit.unit) else none else none else none) (0,v11) else none
  else none else none else none else bif inB x4 (List.length x1) then bif Nat.ble (Nat.succ (Int.toNat x4)) (List.length x1) then some (x.2.1,List.set x1 (Int.toNat x4) x5,List.getD
  (rowD x0.2 (List.getD x0.1 (Int.toNat x4) 0)) (Int.toNat x5) 0,x3,PUnit.unit) else none else none) (0,x0,PUnit.unit) else none else none else none else
  none
noncomputable def ref05_pivot (x0:List Nat×List (Option (List Int))) (x1:List Int) (x2:Int) (x3:Int) (x4:Int) (x5:Int):Option ((List Nat×List (Option (List Int)))×(List Int)×Int×Int×Unit):=ref05_pivot_b lpK jnK x0 x1 x2 x3 x4 x5
abbrev t120:=(List Nat×List (Option (List Int)))→(List Int)→(Int)→(Int)→(Int)→(Int)→Option ((List Nat×List (Option (List Int)))×(List Int)×Int×Int×Unit)
noncomputable def ref05_run_b (lp:Lp) (_:Jn) (ref05_pivot:t120) (x0:List Nat×List (Option (List Int))) (x1:List Int) (x2:Int) (x3:Int):Option ((List Nat×List (Option (List Int)))×(List Int)×Int×Int×Bool×Unit) :=
 
 let v6:Int:=IntKind.wrap .i64 ((↑(List.length x0.1):Int) - 1);lp ((List Nat×List (Option (List Int)))×List Int×Int×Int×(List Nat×List (Option (List
  Int)))×List Int×Int×Int×PUnit) ((List Nat×List (Option (List Int)))×List Int×Int×Int×Bool×PUnit) (fun (again:(List Nat×List (Option (List Int)))×List Int×Int
  × Int×(List Nat×List (Option (List Int)))×List Int×Int×Int×PUnit→Option ((List Nat×List (Option (List Int)))×List Int×Int×Int×Bool×PUnit)) (x:(List Nat ×
  List (Option (List Int)))×List Int×Int×Int×(List Nat×List (Option (List Int)))×List Int×Int×Int×PUnit)=>lp (Int×PUnit) ((List Nat×List (Option (List Int))) ×
  List Int×Int×Int×Bool×PUnit) (fun (again_1:Int×PUnit→Option ((List Nat×List (Option (List Int)))×List Int×Int×Int×Bool×PUnit)) (x_1:Int×PUnit) =>
 let v11:Bool:=decide (x_1.1<x.2.2.2.1);
 let v12:Bool:=!v11;
 let v13:Bool:=v12||v11;bif v13 then bif v13&&(v13&&(v12||inB v6 (List.length x.1.1))) then bif v13&&(v12||Nat.ble (Nat.succ (Int.toNat v6)) (List.length x.1.1))
  then bif v13&&(v13&&(v12||inB x_1.1 (List.length (rowD x.1.2 (List.getD x.1.1 (Int.toNat v6) 0))))) then bif v13&&(v12||Nat.ble (Nat.succ (Int.toNat
  x_1.1)) (List.length (rowD x.1.2 (List.getD x.1.1 (Int.toNat v6) 0)))) then bif v13 then bif v13 then bif bif v11 then decide (List.getD (rowD x.1.2 (List.getD
  x.1.1 (Int.toNat v6) 0)) (Int.toNat x_1.1) 0≥0) else false then again_1 (IntKind.wrap .i64 (x_1.1+1),PUnit.unit) else bif decide
  (x_1.1=x.2.2.2.1) then some (x.1,x.2.1,x.2.2.1,x.2.2.2.1,true,PUnit.unit) else bif inB 0 (List.length x.1.1) then bif Nat.ble 1
  (List.length x.1.1) then bif liveB x.1.2 (List.getD x.1.1 0 0) then lp (Int×Int×PUnit) ((List Nat×List (Option (List Int)))×List Int×Int×Int ×
  Bool×PUnit) (fun (again_2:Int×Int×PUnit→Option ((List Nat×List (Option (List Int)))×List Int×Int×Int×Bool×PUnit)) (x_2:Int×Int×PUnit) =>
 let v16:Int×PUnit:=(IntKind.wrap .i64 (x_2.2.1+1),PUnit.unit);
 let v17:Bool:=decide (x_2.1<0);
 let v18:Bool:=inB x_2.1 (List.length x.1.1);
 let v19:Bool:=Nat.ble (Nat.succ (Int.toNat x_2.1)) (List.length x.1.1);
 let v20:Bool:=inB x_2.2.1 (List.length x.1.1);
 let v21:Bool:=Nat.ble (Nat.succ (Int.toNat x_2.2.1)) (List.length x.1.1);bif decide (x_2.2.1<v6) then bif v20 then bif v21 then bif inB x_1.1 (List.length (rowD
  x.1.2 (List.getD x.1.1 (Int.toNat x_2.2.1) 0))) then bif Nat.ble (Nat.succ (Int.toNat x_1.1)) (List.length (rowD x.1.2 (List.getD x.1.1 (Int.toNat
  x_2.2.1) 0))) then bif decide (List.getD (rowD x.1.2 (List.getD x.1.1 (Int.toNat x_2.2.1) 0)) (Int.toNat x_1.1) 0≤0) then again_2
  (x_2.1,v16) else bif v17 then again_2 (x_2.2.1,v16) else bif v20 then bif v21 then bif inB (IntKind.wrap .i64 ((↑(List.length (rowD x.1.2 (List.getD x.1.1 (0 :
  Nat) 0))):Int) - 1)) (List.length (rowD x.1.2 (List.getD x.1.1 (Int.toNat x_2.2.1) 0))) then bif Nat.ble (Nat.succ (Int.toNat (IntKind.wrap
  IntKind.i64 ((↑(List.length (rowD x.1.2 (List.getD x.1.1 0 0))):Int) - 1)))) (List.length (rowD x.1.2 (List.getD x.1.1 (Int.toNat x_2.2.1)
  0))) then bif v18 then bif v19 then bif inB x_1.1 (List.length (rowD x.1.2 (List.getD x.1.1 (Int.toNat x_2.1) 0))) then bif Nat.ble (Nat.succ (Int.toNat
  x_1.1)) (List.length (rowD x.1.2 (List.getD x.1.1 (Int.toNat x_2.1) 0))) then bif v18 then bif v19 then bif inB (IntKind.wrap .i64 ((↑(List.length (rowD
  x.1.2 (List.getD x.1.1 0 0))):Int) - 1)) (List.length (rowD x.1.2 (List.getD x.1.1 (Int.toNat x_2.1) 0))) then bif Nat.ble (Nat.succ
  (Int.toNat (IntKind.wrap .i64 ((↑(List.length (rowD x.1.2 (List.getD x.1.1 0 0))):Int) - 1)))) (List.length (rowD x.1.2 (List.getD x.1.1
  (Int.toNat x_2.1) 0))) then bif v20 then bif v21 then bif inB x_1.1 (List.length (rowD x.1.2 (List.getD x.1.1 (Int.toNat x_2.2.1) 0))) then bif Nat.ble
  (Nat.succ (Int.toNat x_1.1)) (List.length (rowD x.1.2 (List.getD x.1.1 (Int.toNat x_2.2.1) 0))) then bif (!!decide (IntKind.wrap .i64 (List.getD (rowD
  x.1.2 (List.getD x.1.1 (Int.toNat x_2.2.1) 0)) (Int.toNat (IntKind.wrap .i64 ((↑(List.length (rowD x.1.2 (List.getD x.1.1 0 0))) :
  Int) - 1))) 0*List.getD (rowD x.1.2 (List.getD x.1.1 (Int.toNat x_2.1) 0)) (Int.toNat x_1.1) 0)<IntKind.wrap .i64 (List.getD (rowD
  x.1.2 (List.getD x.1.1 (Int.toNat x_2.1) 0)) (Int.toNat (IntKind.wrap .i64 ((↑(List.length (rowD x.1.2 (List.getD x.1.1 0 0))):Int) -
  1))) 0*List.getD (rowD x.1.2 (List.getD x.1.1 (Int.toNat x_2.2.1) 0)) (Int.toNat x_1.1) 0))||!decide (IntKind.wrap .i64
  (List.getD (rowD x.1.2 (List.getD x.1.1 (Int.toNat x_2.2.1) 0)) (Int.toNat (IntKind.wrap .i64 ((↑(List.length (rowD x.1.2 (List.getD x.1.1 0
  0))):Int) - 1))) 0*List.getD (rowD x.1.2 (List.getD x.1.1 (Int.toNat x_2.1) 0)) (Int.toNat x_1.1) 0)<IntKind.wrap .i64
  (List.getD (rowD x.1.2 (List.getD x.1.1 (Int.toNat x_2.1) 0)) (Int.toNat (IntKind.wrap .i64 ((↑(List.length (rowD x.1.2 (List.getD x.1.1 0 (0 :
  Nat)))):Int) - 1))) 0*List.getD (rowD x.1.2 (List.getD x.1.1 (Int.toNat x_2.2.1) 0)) (Int.toNat x_1.1) 0)))&&(!!decide (IntKind.wrap
  IntKind.i64 (List.getD (rowD x.1.2 (List.getD x.1.1 (Int.toNat x_2.2.1) 0)) (Int.toNat (IntKind.wrap .i64 ((↑(List.length (rowD x.1.2 (List.getD x.1.1
  0 0))):Int) - 1))) 0*List.getD (rowD x.1.2 (List.getD x.1.1 (Int.toNat x_2.1) 0)) (Int.toNat x_1.1) 0)<IntKind.wrap
  IntKind.i64 (List.getD (rowD x.1.2 (List.getD x.1.1 (Int.toNat x_2.1) 0)) (Int.toNat (IntKind.wrap .i64 ((↑(List.length (rowD x.1.2 (List.getD x.1.1 (0
  : Nat) 0))):Int) - 1))) 0*List.getD (rowD x.1.2 (List.getD x.1.1 (Int.toNat x_2.2.1) 0)) (Int.toNat x_1.1) 0))||!decide
  (IntKind.wrap .i64 (List.getD (rowD x.1.2 (List.getD x.1.1 (Int.toNat x_2.2.1) 0)) (Int.toNat (IntKind.wrap .i64 ((↑(List.length (rowD x.1.2
  (List.getD x.1.1 0 0))):Int) - 1))) 0*List.getD (rowD x.1.2 (List.getD x.1.1 (Int.toNat x_2.1) 0)) (Int.toNat x_1.1) (0 :
  Int))<IntKind.wrap .i64 (List.getD (rowD x.1.2 (List.getD x.1.1 (Int.toNat x_2.1) 0)) (Int.toNat (IntKind.wrap .i64 ((↑(List.length (rowD x.1.2
  (List.getD x.1.1 0 0))):Int) - 1))) 0*List.getD (rowD x.1.2 (List.getD x.1.1 (Int.toNat x_2.2.1) 0)) (Int.toNat x_1.1) (0 :
  Int)))) then bif !!decide (IntKind.wrap .i64 (List.getD (rowD x.1.2 (List.getD x.1.1 (Int.toNat x_2.2.1) 0)) (Int.toNat (IntKind.wrap .i64
  ((↑(List.length (rowD x.1.2 (List.getD x.1.1 0 0))):Int) - 1))) 0*List.getD (rowD x.1.2 (List.getD x.1.1 (Int.toNat x_2.1) (0 :
  Nat))) (Int.toNat x_1.1) 0)<IntKind.wrap .i64 (List.getD (rowD x.1.2 (List.getD x.1.1 (Int.toNat x_2.1) 0)) (Int.toNat (IntKind.wrap .i64
  ((↑(List.length (rowD x.1.2 (List.getD x.1.1 0 0))):Int) - 1))) 0*List.getD (rowD x.1.2 (List.getD x.1.1 (Int.toNat x_2.2.1) (0 :
  Nat))) (Int.toNat x_1.1) 0))||!decide (IntKind.wrap .i64 (List.getD (rowD x.1.2 (List.getD x.1.1 (Int.toNat x_2.2.1) 0)) (Int.toNat (IntKind.wrap
  IntKind.i64 ((↑(List.length (rowD x.1.2 (List.getD x.1.1 0 0))):Int) - 1))) 0*List.getD (rowD x.1.2 (List.getD x.1.1 (Int.toNat
  x_2.1) 0)) (Int.toNat x_1.1) 0)<IntKind.wrap .i64 (List.getD (rowD x.1.2 (List.getD x.1.1 (Int.toNat x_2.1) 0)) (Int.toNat (IntKind.wrap
  IntKind.i64 ((↑(List.length (rowD x.1.2 (List.getD x.1.1 0 0))):Int) - 1))) 0*List.getD (rowD x.1.2 (List.getD x.1.1 (Int.toNat
  x_2.2.1) 0)) (Int.toNat x_1.1) 0)) then bif !(!decide (IntKind.wrap .i64 (List.getD (rowD x.1.2 (List.getD x.1.1 (Int.toNat x_2.2.1) 0))
  (Int.toNat (IntKind.wrap .i64 ((↑(List.length (rowD x.1.2 (List.getD x.1.1 0 0))):Int) - 1))) 0*List.getD (rowD x.1.2 (List.getD
  x.1.1 (Int.toNat x_2.1) 0)) (Int.toNat x_1.1) 0)<IntKind.wrap .i64 (List.getD (rowD x.1.2 (List.getD x.1.1 (Int.toNat x_2.1) 0))
  (Int.toNat (IntKind.wrap .i64 ((↑(List.length (rowD x.1.2 (List.getD x.1.1 0 0))):Int) - 1))) 0*List.getD (rowD x.1.2 (List.getD
  x.1.1 (Int.toNat x_2.2.1) 0)) (Int.toNat x_1.1) 0))&&decide (IntKind.wrap .i64 (List.getD (rowD x.1.2 (List.getD x.1.1 (Int.toNat x_2.2.1)
  0)) (Int.toNat (IntKind.wrap .i64 ((↑(List.length (rowD x.1.2 (List.getD x.1.1 0 0))):Int) - 1))) 0*List.getD (rowD x.1.2
  (List.getD x.1.1 (Int.toNat x_2.1) 0)) (Int.toNat x_1.1) 0)=IntKind.wrap .i64 (List.getD (rowD x.1.2 (List.getD x.1.1 (Int.toNat x_2.1) (0 :
  Nat))) (Int.toNat (IntKind.wrap .i64 ((↑(List.length (rowD x.1.2 (List.getD x.1.1 0 0))):Int) - 1))) 0*List.getD (rowD x.1.2
  (List.getD x.1.1 (Int.toNat x_2.2.1) 0)) (Int.toNat x_1.1) 0)))||!decide (IntKind.wrap .i64 (List.getD (rowD x.1.2 (List.getD x.1.1 (Int.toNat
  x_2.2.1) 0)) (Int.toNat (IntKind.wrap .i64 ((↑(List.length (rowD x.1.2 (List.getD x.1.1 0 0))):Int) - 1))) 0*List.getD
  (rowD x.1.2 (List.getD x.1.1 (Int.toNat x_2.1) 0)) (Int.toNat x_1.1) 0)<IntKind.wrap .i64 (List.getD (rowD x.1.2 (List.getD x.1.1 (Int.toNat
  x_2.1) 0)) (Int.toNat (IntKind.wrap .i64 ((↑(List.length (rowD x.1.2 (List.getD x.1.1 0 0))):Int) - 1))) 0*List.getD (rowD
  x.1.2 (List.getD x.1.1 (Int.toNat x_2.2.1) 0)) (Int.toNat x_1.1) 0))&&decide (IntKind.wrap .i64 (List.getD (rowD x.1.2 (List.getD x.1.1
  (Int.toNat x_2.2.1) 0)) (Int.toNat (IntKind.wrap .i64 ((↑(List.length (rowD x.1.2 (List.getD x.1.1 0 0))):Int) - 1))) 0 *
  List.getD (rowD x.1.2 (List.getD x.1.1 (Int.toNat x_2.1) 0)) (Int.toNat x_1.1) 0)=IntKind.wrap .i64 (List.getD (rowD x.1.2 (List.getD x.1.1
  (Int.toNat x_2.1) 0)) (Int.toNat (IntKind.wrap .i64 ((↑(List.length (rowD x.1.2 (List.getD x.1.1 0 0))):Int) - 1))) 0 *
  List.getD (rowD x.1.2 (List.getD x.1.1 (Int.toNat x_2.2.1) 0)) (Int.toNat x_1.1) 0)) then bif (!(!decide (IntKind.wrap .i64 (List.getD (rowD
  x.1.2 (List.getD x.1.1 (Int.toNat x_2.2.1) 0)) (Int.toNat (IntKind.wrap .i64 ((↑(List.length (rowD x.1.2 (List.getD x.1.1 0 0))) :
  Int) - 1))) 0*List.getD (rowD x.1.2 (List.getD x.1.1 (Int.toNat x_2.1) 0)) (Int.toNat x_1.1) 0)<IntKind.wrap .i64 (List.getD (rowD
  x.1.2 (List.getD x.1.1 (Int.toNat x_2.1) 0)) (Int.toNat (IntKind.wrap .i64 ((↑(List.length (rowD x.1.2 (List.getD x.1.1 0 0))):Int) -
  1))) 0*List.getD (rowD x.1.2 (List.getD x.1.1 (Int.toNat x_2.2.1) 0)) (Int.toNat x_1.1) 0))&&decide (IntKind.wrap .i64
  (List.getD (rowD x.1.2 (List.getD x.1.1 (Int.toNat x_2.2.1) 0)) (Int.toNat (IntKind.wrap .i64 ((↑(List.length (rowD x.1.2 (List.getD x.1.1 0
  0))):Int) - 1))) 0*List.getD (rowD x.1.2 (List.getD x.1.1 (Int.toNat x_2.1) 0)) (Int.toNat x_1.1) 0)=IntKind.wrap .i64
  (List.getD (rowD x.1.2 (List.getD x.1.1 (Int.toNat x_2.1) 0)) (Int.toNat (IntKind.wrap .i64 ((↑(List.length (rowD x.1.2 (List.getD x.1.1 0 (0 :
  Nat)))):Int) - 1))) 0*List.getD (rowD x.1.2 (List.getD x.1.1 (Int.toNat x_2.2.1) 0)) (Int.toNat x_1.1) 0)))||!decide (IntKind.wrap
  IntKind.i64 (List.getD (rowD x.1.2 (List.getD x.1.1 (Int.toNat x_2.2.1) 0)) (Int.toNat (IntKind.wrap .i64 ((↑(List.length (rowD x.1.2 (List.getD x.1.1
  0 0))):Int) - 1))) 0*List.getD (rowD x.1.2 (List.getD x.1.1 (Int.toNat x_2.1) 0)) (Int.toNat x_1.1) 0)<IntKind.wrap
  IntKind.i64 (List.getD (rowD x.1.2 (List.getD x.1.1 (Int.toNat x_2.1) 0)) (Int.toNat (IntKind.wrap .i64 ((↑(List.length (rowD x.1.2 (List.getD x.1.1 (0
  : Nat) 0))):Int) - 1))) 0*List.getD (rowD x.1.2 (List.getD x.1.1 (Int.toNat x_2.2.1) 0)) (Int.toNat x_1.1) 0))&&decide
  (IntKind.wrap .i64 (List.getD (rowD x.1.2 (List.getD x.1.1 (Int.toNat x_2.2.1) 0)) (Int.toNat (IntKind.wrap .i64 ((↑(List.length (rowD x.1.2
  (List.getD x.1.1 0 0))):Int) - 1))) 0*List.getD (rowD x.1.2 (List.getD x.1.1 (Int.toNat x_2.1) 0)) (Int.toNat x_1.1) (0 :
  Int))=IntKind.wrap .i64 (List.getD (rowD x.1.2 (List.getD x.1.1 (Int.toNat x_2.1) 0)) (Int.toNat (IntKind.wrap .i64 ((↑(List.length (rowD x.1.2
  (List.getD x.1.1 0 0))):Int) - 1))) 0*List.getD (rowD x.1.2 (List.getD x.1.1 (Int.toNat x_2.2.1) 0)) (Int.toNat x_1.1) (0 :
  Int))))&&((!(!decide (IntKind.wrap .i64 (List.getD (rowD x.1.2 (List.getD x.1.1 (Int.toNat x_2.2.1) 0)) (Int.toNat (IntKind.wrap .i64 ((↑(List.length
  (rowD x.1.2 (List.getD x.1.1 0 0))):Int) - 1))) 0*List.getD (rowD x.1.2 (List.getD x.1.1 (Int.toNat x_2.1) 0)) (Int.toNat
  x_1.1) 0)<IntKind.wrap .i64 (List.getD (rowD x.1.2 (List.getD x.1.1 (Int.toNat x_2.1) 0)) (Int.toNat (IntKind.wrap .i64 ((↑(List.length (rowD
  x.1.2 (List.getD x.1.1 0 0))):Int) - 1))) 0*List.getD (rowD x.1.2 (List.getD x.1.1 (Int.toNat x_2.2.1) 0)) (Int.toNat
  x_1.1) 0))&&decide (IntKind.wrap .i64 (List.getD (rowD x.1.2 (List.getD x.1.1 (Int.toNat x_2.2.1) 0)) (Int.toNat (IntKind.wrap .i64
  ((↑(List.length (rowD x.1.2 (List.getD x.1.1 0 0))):Int) - 1))) 0*List.getD (rowD x.1.2 (List.getD x.1.1 (Int.toNat x_2.1) (0 :
  Nat))) (Int.toNat x_1.1) 0)=IntKind.wrap .i64 (List.getD (rowD x.1.2 (List.getD x.1.1 (Int.toNat x_2.1) 0)) (Int.toNat (IntKind.wrap .i64
  ((↑(List.length (rowD x.1.2 (List.getD x.1.1 0 0))):Int) - 1))) 0*List.getD (rowD x.1.2 (List.getD x.1.1 (Int.toNat x_2.2.1) (0 :
  Nat))) (Int.toNat x_1.1) 0)))||!decide (IntKind.wrap .i64 (List.getD (rowD x.1.2 (List.getD x.1.1 (Int.toNat x_2.2.1) 0)) (Int.toNat (IntKind.wrap
  IntKind.i64 ((↑(List.length (rowD x.1.2 (List.getD x.1.1 0 0))):Int) - 1))) 0*List.getD (rowD x.1.2 (List.getD x.1.1 (Int.toNat
  x_2.1) 0)) (Int.toNat x_1.1) 0)<IntKind.wrap .i64 (List.getD (rowD x.1.2 (List.getD x.1.1 (Int.toNat x_2.1) 0)) (Int.toNat (IntKind.wrap
  IntKind.i64 ((↑(List.length (rowD x.1.2 (List.getD x.1.1 0 0))):Int) - 1))) 0*List.getD (rowD x.1.2 (List.getD x.1.1 (Int.toNat
  x_2.2.1) 0)) (Int.toNat x_1.1) 0))&&decide (IntKind.wrap .i64 (List.getD (rowD x.1.2 (List.getD x.1.1 (Int.toNat x_2.2.1) 0))
  (Int.toNat (IntKind.wrap .i64 ((↑(List.length (rowD x.1.2 (List.getD x.1.1 0 0))):Int) - 1))) 0*List.getD (rowD x.1.2 (List.getD
  x.1.1 (Int.toNat x_2.1) 0)) (Int.toNat x_1.1) 0)=IntKind.wrap .i64 (List.getD (rowD x.1.2 (List.getD x.1.1 (Int.toNat x_2.1) 0))
  (Int.toNat (IntKind.wrap .i64 ((↑(List.length (rowD x.1.2 (List.getD x.1.1 0 0))):Int) - 1))) 0*List.getD (rowD x.1.2 (List.getD
  x.1.1 (Int.toNat x_2.2.1) 0)) (Int.toNat x_1.1) 0)))&&(!(!decide (IntKind.wrap .i64 (List.getD (rowD x.1.2 (List.getD x.1.1 (Int.toNat
  x_2.2.1) 0)) (Int.toNat (IntKind.wrap .i64 ((↑(List.length (rowD x.1.2 (List.getD x.1.1 0 0))):Int) - 1))) 0*List.getD
  (rowD x.1.2 (List.getD x.1.1 (Int.toNat x_2.1) 0)) (Int.toNat x_1.1) 0)<IntKind.wrap .i64 (List.getD (rowD x.1.2 (List.getD x.1.1 (Int.toNat
  x_2.1) 0)) (Int.toNat (IntKind.wrap .i64 ((↑(List.length (rowD x.1.2 (List.getD x.1.1 0 0))):Int) - 1))) 0*List.getD (rowD
  x.1.2 (List.getD x.1.1 (Int.toNat x_2.2.1) 0)) (Int.toNat x_1.1) 0))&&decide (IntKind.wrap .i64 (List.getD (rowD x.1.2 (List.getD x.1.1
  (Int.toNat x_2.2.1) 0)) (Int.toNat (IntKind.wrap .i64 ((↑(List.length (rowD x.1.2 (List.getD x.1.1 0 0))):Int) - 1))) 0 *
  List.getD (rowD x.1.2 (List.getD x.1.1 (Int.toNat x_2.1) 0)) (Int.toNat x_1.1) 0)=IntKind.wrap .i64 (List.getD (rowD x.1.2 (List.getD x.1.1
  (Int.toNat x_2.1) 0)) (Int.toNat (IntKind.wrap .i64 ((↑(List.length (rowD x.1.2 (List.getD x.1.1 0 0))):Int) - 1))) 0 *
  List.getD (rowD x.1.2 (List.getD x.1.1 (Int.toNat x_2.2.1) 0)) (Int.toNat x_1.1) 0)))||inB x_2.2.1 (List.length x.2.1))) then bif (!(!decide
  (IntKind.wrap .i64 (List.getD (rowD x.1.2 (List.getD x.1.1 (Int.toNat x_2.2.1) 0)) (Int.toNat (IntKind.wrap .i64 ((↑(List.length (rowD x.1.2
  (List.getD x.1.1 0 0))):Int) - 1))) 0*List.getD (rowD x.1.2 (List.getD x.1.1 (Int.toNat x_2.1) 0)) (Int.toNat x_1.1) (0 :
  Int))<IntKind.wrap .i64 (List.getD (rowD x.1.2 (List.getD x.1.1 (Int.toNat x_2.1) 0)) (Int.toNat (IntKind.wrap .i64 ((↑(List.length (rowD x.1.2
  (List.getD x.1.1 0 0))):Int) - 1))) 0*List.getD (rowD x.1.2 (List.getD x.1.1 (Int.toNat x_2.2.1) 0)) (Int.toNat x_1.1) (0 :
  Int)))&&decide (IntKind.wrap .i64 (List.getD (rowD x.1.2 (List.getD x.1.1 (Int.toNat x_2.2.1) 0)) (Int.toNat (IntKind.wrap .i64 ((↑(List.length (rowD
  x.1.2 (List.getD x.1.1 0 0))):Int) - 1))) 0*List.getD (rowD x.1.2 (List.getD x.1.1 (Int.toNat x_2.1) 0)) (Int.toNat
  x_1.1) 0)=IntKind.wrap .i64 (List.getD (rowD x.1.2 (List.getD x.1.1 (Int.toNat x_2.1) 0)) (Int.toNat (IntKind.wrap .i64 ((↑(List.length (rowD
  x.1.2 (List.getD x.1.1 0 0))):Int) - 1))) 0*List.getD (rowD x.1.2 (List.getD x.1.1 (Int.toNat x_2.2.1) 0)) (Int.toNat
  x_1.1) 0)))||!decide (IntKind.wrap .i64 (List.getD (rowD x.1.2 (List.getD x.1.1 (Int.toNat x_2.2.1) 0)) (Int.toNat (IntKind.wrap .i64
  ((↑(List.length (rowD x.1.2 (List.getD x.1.1 0 0))):Int) - 1))) 0*List.getD (rowD x.1.2 (List.getD x.1.1 (Int.toNat x_2.1) (0 :
  Nat))) (Int.toNat x_1.1) 0)<IntKind.wrap .i64 (List.getD (rowD x.1.2 (List.getD x.1.1 (Int.toNat x_2.1) 0)) (Int.toNat (IntKind.wrap .i64
  ((↑(List.length (rowD x.1.2 (List.getD x.1.1 0 0))):Int) - 1))) 0*List.getD (rowD x.1.2 (List.getD x.1.1 (Int.toNat x_2.2.1) (0 :
  Nat))) (Int.toNat x_1.1) 0))&&decide (IntKind.wrap .i64 (List.getD (rowD x.1.2 (List.getD x.1.1 (Int.toNat x_2.2.1) 0)) (Int.toNat (IntKind.wrap
  IntKind.i64 ((↑(List.length (rowD x.1.2 (List.getD x.1.1 0 0))):Int) - 1))) 0*List.getD (rowD x.1.2 (List.getD x.1.1 (Int.toNat
  x_2.1) 0)) (Int.toNat x_1.1) 0)=IntKind.wrap .i64 (List.getD (rowD x.1.2 (List.getD x.1.1 (Int.toNat x_2.1) 0)) (Int.toNat (IntKind.wrap
  IntKind.i64 ((↑(List.length (rowD x.1.2 (List.getD x.1.1 0 0))):Int) - 1))) 0*List.getD (rowD x.1.2 (List.getD x.1.1 (Int.toNat
  x_2.2.1) 0)) (Int.toNat x_1.1) 0)))&&(!(!decide (IntKind.wrap .i64 (List.getD (rowD x.1.2 (List.getD x.1.1 (Int.toNat x_2.2.1) 0))
  (Int.toNat (IntKind.wrap .i64 ((↑(List.length (rowD x.1.2 (List.getD x.1.1 0 0))):Int) - 1))) 0*List.getD (rowD x.1.2 (List.getD
  x.1.1 (Int.toNat x_2.1) 0)) (Int.toNat x_1.1) 0)<IntKind.wrap .i64 (List.getD (rowD x.1.2 (List.getD x.1.1 (Int.toNat x_2.1) 0))
  (Int.toNat (IntKind.wrap .i64 ((↑(List.length (rowD x.1.2 (List.getD x.1.1 0 0))):Int) - 1))) 0*List.getD (rowD x.1.2 (List.getD
  x.1.1 (Int.toNat x_2.2.1) 0)) (Int.toNat x_1.1) 0))&&decide (IntKind.wrap .i64 (List.getD (rowD x.1.2 (List.getD x.1.1 (Int.toNat x_2.2.1)
  0)) (Int.toNat (IntKind.wrap .i64 ((↑(List.length (rowD x.1.2 (List.getD x.1.1 0 0))):Int) - 1))) 0*List.getD (rowD x.1.2
  (List.getD x.1.1 (Int.toNat x_2.1) 0)) (Int.toNat x_1.1) 0)=IntKind.wrap .i64 (List.getD (rowD x.1.2 (List.getD x.1.1 (Int.toNat x_2.1) (0 :
  Nat))) (Int.toNat (IntKind.wrap .i64 ((↑(List.length (rowD x.1.2 (List.getD x.1.1 0 0))):Int) - 1))) 0*List.getD (rowD x.1.2
  (List.getD x.1.1 (Int.toNat x_2.2.1) 0)) (Int.toNat x_1.1) 0)))||Nat.ble (Nat.succ (Int.toNat x_2.2.1)) (List.length x.2.1)) then bif !(!decide
  (IntKind.wrap .i64 (List.getD (rowD x.1.2 (List.getD x.1.1 (Int.toNat x_2.2.1) 0)) (Int.toNat (IntKind.wrap .i64 ((↑(List.length (rowD x.1.2
  (List.getD x.1.1 0 0))):Int) - 1))) 0*List.getD (rowD x.1.2 (List.getD x.1.1 (Int.toNat x_2.1) 0)) (Int.toNat x_1.1) (0 :
  Int))<IntKind.wrap .i64 (List.getD (rowD x.1.2 (List.getD x.1.1 (Int.toNat x_2.1) 0)) (Int.toNat (IntKind.wrap .i64 ((↑(List.length (rowD x.1.2
  (List.getD x.1.1 0 0))):Int) - 1))) 0*List.getD (rowD x.1.2 (List.getD x.1.1 (Int.toNat x_2.2.1) 0)) (Int.toNat x_1.1) (0 :
  Int)))&&decide (IntKind.wrap .i64 (List.getD (rowD x.1.2 (List.getD x.1.1 (Int.toNat x_2.2.1) 0)) (Int.toNat (IntKind.wrap .i64 ((↑(List.length (rowD
  x.1.2 (List.getD x.1.1 0 0))):Int) - 1))) 0*List.getD (rowD x.1.2 (List.getD x.1.1 (Int.toNat x_2.1) 0)) (Int.toNat
  x_1.1) 0)=IntKind.wrap .i64 (List.getD (rowD x.1.2 (List.getD x.1.1 (Int.toNat x_2.1) 0)) (Int.toNat (IntKind.wrap .i64 ((↑(List.length (rowD
  x.1.2 (List.getD x.1.1 0 0))):Int) - 1))) 0*List.getD (rowD x.1.2 (List.getD x.1.1 (Int.toNat x_2.2.1) 0)) (Int.toNat
  x_1.1) 0)))||!decide (IntKind.wrap .i64 (List.getD (rowD x.1.2 (List.getD x.1.1 (Int.toNat x_2.2.1) 0)) (Int.toNat (IntKind.wrap .i64
  ((↑(List.length (rowD x.1.2 (List.getD x.1.1 0 0))):Int) - 1))) 0*List.getD (rowD x.1.2 (List.getD x.1.1 (Int.toNat x_2.1) (0 :
  Nat))) (Int.toNat x_1.1) 0)<IntKind.wrap .i64 (List.getD (rowD x.1.2 (List.getD x.1.1 (Int.toNat x_2.1) 0)) (Int.toNat (IntKind.wrap .i64
  ((↑(List.length (rowD x.1.2 (List.getD x.1.1 0 0))):Int) - 1))) 0*List.getD (rowD x.1.2 (List.getD x.1.1 (Int.toNat x_2.2.1) (0 :
  Nat))) (Int.toNat x_1.1) 0))&&decide (IntKind.wrap .i64 (List.getD (rowD x.1.2 (List.getD x.1.1 (Int.toNat x_2.2.1) 0)) (Int.toNat (IntKind.wrap
  IntKind.i64 ((↑(List.length (rowD x.1.2 (List.getD x.1.1 0 0))):Int) - 1))) 0*List.getD (rowD x.1.2 (List.getD x.1.1 (Int.toNat
  x_2.1) 0)) (Int.toNat x_1.1) 0)=IntKind.wrap .i64 (List.getD (rowD x.1.2 (List.getD x.1.1 (Int.toNat x_2.1) 0)) (Int.toNat (IntKind.wrap
  IntKind.i64 ((↑(List.length (rowD x.1.2 (List.getD x.1.1 0 0))):Int) - 1))) 0*List.getD (rowD x.1.2 (List.getD x.1.1 (Int.toNat
  x_2.2.1) 0)) (Int.toNat x_1.1) 0)) then bif (!(!decide (IntKind.wrap .i64 (List.getD (rowD x.1.2 (List.getD x.1.1 (Int.toNat x_2.2.1) (0 :
  Nat))) (Int.toNat (IntKind.wrap .i64 ((↑(List.length (rowD x.1.2 (List.getD x.1.1 0 0))):Int) - 1))) 0*List.getD (rowD x.1.2
  (List.getD x.1.1 (Int.toNat x_2.1) 0)) (Int.toNat x_1.1) 0)<IntKind.wrap .i64 (List.getD (rowD x.1.2 (List.getD x.1.1 (Int.toNat x_2.1) (0 :
  Nat))) (Int.toNat (IntKind.wrap .i64 ((↑(List.length (rowD x.1.2 (List.getD x.1.1 0 0))):Int) - 1))) 0*List.getD (rowD x.1.2
  (List.getD x.1.1 (Int.toNat x_2.2.1) 0)) (Int.toNat x_1.1) 0))&&decide (IntKind.wrap .i64 (List.getD (rowD x.1.2 (List.getD x.1.1 (Int.toNat
  x_2.2.1) 0)) (Int.toNat (IntKind.wrap .i64 ((↑(List.length (rowD x.1.2 (List.getD x.1.1 0 0))):Int) - 1))) 0*List.getD
  (rowD x.1.2 (List.getD x.1.1 (Int.toNat x_2.1) 0)) (Int.toNat x_1.1) 0)=IntKind.wrap .i64 (List.getD (rowD x.1.2 (List.getD x.1.1 (Int.toNat
  x_2.1) 0)) (Int.toNat (IntKind.wrap .i64 ((↑(List.length (rowD x.1.2 (List.getD x.1.1 0 0))):Int) - 1))) 0*List.getD (rowD
  x.1.2 (List.getD x.1.1 (Int.toNat x_2.2.1) 0)) (Int.toNat x_1.1) 0)))||!decide (IntKind.wrap .i64 (List.getD (rowD x.1.2 (List.getD x.1.1
  (Int.toNat x_2.2.1) 0)) (Int.toNat (IntKind.wrap .i64 ((↑(List.length (rowD x.1.2 (List.getD x.1.1 0 0))):Int) - 1))) 0 *
  List.getD (rowD x.1.2 (List.getD x.1.1 (Int.toNat x_2.1) 0)) (Int.toNat x_1.1) 0)<IntKind.wrap .i64 (List.getD (rowD x.1.2 (List.getD x.1.1
  (Int.toNat x_2.1) 0)) (Int.toNat (IntKind.wrap .i64 ((↑(List.length (rowD x.1.2 (List.getD x.1.1 0 0))):Int) - 1))) 0 *
  List.getD (rowD x.1.2 (List.getD x.1.1 (Int.toNat x_2.2.1) 0)) (Int.toNat x_1.1) 0))&&decide (IntKind.wrap .i64 (List.getD (rowD x.1.2
  (List.getD x.1.1 (Int.toNat x_2.2.1) 0)) (Int.toNat (IntKind.wrap .i64 ((↑(List.length (rowD x.1.2 (List.getD x.1.1 0 0))):Int) - (1 :
  Int)))) 0*List.getD (rowD x.1.2 (List.getD x.1.1 (Int.toNat x_2.1) 0)) (Int.toNat x_1.1) 0)=IntKind.wrap .i64 (List.getD (rowD x.1.2
  (List.getD x.1.1 (Int.toNat x_2.1) 0)) (Int.toNat (IntKind.wrap .i64 ((↑(List.length (rowD x.1.2 (List.getD x.1.1 0 0))):Int) - (1 :
  Int)))) 0*List.getD (rowD x.1.2 (List.getD x.1.1 (Int.toNat x_2.2.1) 0)) (Int.toNat x_1.1) 0)))&&((!(!decide (IntKind.wrap .i64
  (List.getD (rowD x.1.2 (List.getD x.1.1 (Int.toNat x_2.2.1) 0)) (Int.toNat (IntKind.wrap .i64 ((↑(List.length (rowD x.1.2 (List.getD x.1.1 0
  0))):Int) - 1))) 0*List.getD (rowD x.1.2 (List.getD x.1.1 (Int.toNat x_2.1) 0)) (Int.toNat x_1.1) 0)<IntKind.wrap .i64
  (List.getD (rowD x.1.2 (List.getD x.1.1 (Int.toNat x_2.1) 0)) (Int.toNat (IntKind.wrap .i64 ((↑(List.length (rowD x.1.2 (List.getD x.1.1 0 (0 :
  Nat)))):Int) - 1))) 0*List.getD (rowD x.1.2 (List.getD x.1.1 (Int.toNat x_2.2.1) 0)) (Int.toNat x_1.1) 0))&&decide (IntKind.wrap
  IntKind.i64 (List.getD (rowD x.1.2 (List.getD x.1.1 (Int.toNat x_2.2.1) 0)) (Int.toNat (IntKind.wrap .i64 ((↑(List.length (rowD x.1.2 (List.getD x.1.1
  0 0))):Int) - 1))) 0*List.getD (rowD x.1.2 (List.getD x.1.1 (Int.toNat x_2.1) 0)) (Int.toNat x_1.1) 0)=IntKind.wrap
  IntKind.i64 (List.getD (rowD x.1.2 (List.getD x.1.1 (Int.toNat x_2.1) 0)) (Int.toNat (IntKind.wrap .i64 ((↑(List.length (rowD x.1.2 (List.getD x.1.1 (0
  : Nat) 0))):Int) - 1))) 0*List.getD (rowD x.1.2 (List.getD x.1.1 (Int.toNat x_2.2.1) 0)) (Int.toNat x_1.1) 0)))||!decide
  (IntKind.wrap .i64 (List.getD (rowD x.1.2 (List.getD x.1.1 (Int.toNat x_2.2.1) 0)) (Int.toNat (IntKind.wrap .i64 ((↑(List.length (rowD x.1.2
  (List.getD x.1.1 0 0))):Int) - 1))) 0*List.getD (rowD x.1.2 (List.getD x.1.1 (Int.toNat x_2.1) 0)) (Int.toNat x_1.1) (0 :
  Int))<IntKind.wrap .i64 (List.getD (rowD x.1.2 (List.getD x.1.1 (Int.toNat x_2.1) 0)) (Int.toNat (IntKind.wrap .i64 ((↑(List.length (rowD x.1.2
  (List.getD x.1.1 0 0))):Int) - 1))) 0*List.getD (rowD x.1.2 (List.getD x.1.1 (Int.toNat x_2.2.1) 0)) (Int.toNat x_1.1) (0 :
  Int)))&&decide (IntKind.wrap .i64 (List.getD (rowD x.1.2 (List.getD x.1.1 (Int.toNat x_2.2.1) 0)) (Int.toNat (IntKind.wrap .i64 ((↑(List.length (rowD
  x.1.2 (List.getD x.1.1 0 0))):Int) - 1))) 0*List.getD (rowD x.1.2 (List.getD x.1.1 (Int.toNat x_2.1) 0)) (Int.toNat
  x_1.1) 0)=IntKind.wrap .i64 (List.getD (rowD x.1.2 (List.getD x.1.1 (Int.toNat x_2.1) 0)) (Int.toNat (IntKind.wrap .i64 ((↑(List.length (rowD
  x.1.2 (List.getD x.1.1 0 0))):Int) - 1))) 0*List.getD (rowD x.1.2 (List.getD x.1.1 (Int.toNat x_2.2.1) 0)) (Int.toNat
  x_1.1) 0)))&&(!(!decide (IntKind.wrap .i64 (List.getD (rowD x.1.2 (List.getD x.1.1 (Int.toNat x_2.2.1) 0)) (Int.toNat (IntKind.wrap .i64
  ((↑(List.length (rowD x.1.2 (List.getD x.1.1 0 0))):Int) - 1))) 0*List.getD (rowD x.1.2 (List.getD x.1.1 (Int.toNat x_2.1) (0 :
  Nat))) (Int.toNat x_1.1) 0)<IntKind.wrap .i64 (List.getD (rowD x.1.2 (List.getD x.1.1 (Int.toNat x_2.1) 0)) (Int.toNat (IntKind.wrap .i64
  ((↑(List.length (rowD x.1.2 (List.getD x.1.1 0 0))):Int) - 1))) 0*List.getD (rowD x.1.2 (List.getD x.1.1 (Int.toNat x_2.2.1) (0 :
  Nat))) (Int.toNat x_1.1) 0))&&decide (IntKind.wrap .i64 (List.getD (rowD x.1.2 (List.getD x.1.1 (Int.toNat x_2.2.1) 0)) (Int.toNat (IntKind.wrap
  IntKind.i64 ((↑(List.length (rowD x.1.2 (List.getD x.1.1 0 0))):Int) - 1))) 0*List.getD (rowD x.1.2 (List.getD x.1.1 (Int.toNat
  x_2.1) 0)) (Int.toNat x_1.1) 0)=IntKind.wrap .i64 (List.getD (rowD x.1.2 (List.getD x.1.1 (Int.toNat x_2.1) 0)) (Int.toNat (IntKind.wrap
  IntKind.i64 ((↑(List.length (rowD x.1.2 (List.getD x.1.1 0 0))):Int) - 1))) 0*List.getD (rowD x.1.2 (List.getD x.1.1 (Int.toNat
  x_2.2.1) 0)) (Int.toNat x_1.1) 0)))||inB x_2.1 (List.length x.2.1))) then bif (!(!decide (IntKind.wrap .i64 (List.getD (rowD x.1.2 (List.getD
  x.1.1 (Int.toNat x_2.2.1) 0)) (Int.toNat (IntKind.wrap .i64 ((↑(List.length (rowD x.1.2 (List.getD x.1.1 0 0))):Int) - 1))) (0 :
  Int)*List.getD (rowD x.1.2 (List.getD x.1.1 (Int.toNat x_2.1) 0)) (Int.toNat x_1.1) 0)<IntKind.wrap .i64 (List.getD (rowD x.1.2 (List.getD
  x.1.1 (Int.toNat x_2.1) 0)) (Int.toNat (IntKind.wrap .i64 ((↑(List.length (rowD x.1.2 (List.getD x.1.1 0 0))):Int) - 1))) (0 :
  Int)*List.getD (rowD x.1.2 (List.getD x.1.1 (Int.toNat x_2.2.1) 0)) (Int.toNat x_1.1) 0))&&decide (IntKind.wrap .i64 (List.getD (rowD x.1.2
  (List.getD x.1.1 (Int.toNat x_2.2.1) 0)) (Int.toNat (IntKind.wrap .i64 ((↑(List.length (rowD x.1.2 (List.getD x.1.1 0 0))):Int) - (1 :
  Int)))) 0*List.getD (rowD x.1.2 (List.getD x.1.1 (Int.toNat x_2.1) 0)) (Int.toNat x_1.1) 0)=IntKind.wrap .i64 (List.getD (rowD x.1.2
  (List.getD x.1.1 (Int.toNat x_2.1) 0)) (Int.toNat (IntKind.wrap .i64 ((↑(List.length (rowD x.1.2 (List.getD x.1.1 0 0))):Int) - (1 :
  Int)))) 0*List.getD (rowD x.1.2 (List.getD x.1.1 (Int.toNat x_2.2.1) 0)) (Int.toNat x_1.1) 0)))||!decide (IntKind.wrap .i64 (List.getD
  (rowD x.1.2 (List.getD x.1.1 (Int.toNat x_2.2.1) 0)) (Int.toNat (IntKind.wrap .i64 ((↑(List.length (rowD x.1.2 (List.getD x.1.1 0 0)))
  : Int) - 1))) 0*List.getD (rowD x.1.2 (List.getD x.1.1 (Int.toNat x_2.1) 0)) (Int.toNat x_1.1) 0)<IntKind.wrap .i64 (List.getD
  (rowD x.1.2 (List.getD x.1.1 (Int.toNat x_2.1) 0)) (Int.toNat (IntKind.wrap .i64 ((↑(List.length (rowD x.1.2 (List.getD x.1.1 0 0))) :
  Int) - 1))) 0*List.getD (rowD x.1.2 (List.getD x.1.1 (Int.toNat x_2.2.1) 0)) (Int.toNat x_1.1) 0))&&decide (IntKind.wrap .i64
  (List.getD (rowD x.1.2 (List.getD x.1.1 (Int.toNat x_2.2.1) 0)) (Int.toNat (IntKind.wrap .i64 ((↑(List.length (rowD x.1.2 (List.getD x.1.1 0
  0))):Int) - 1))) 0*List.getD (rowD x.1.2 (List.getD x.1.1 (Int.toNat x_2.1) 0)) (Int.toNat x_1.1) 0)=IntKind.wrap .i64
  (List.getD (rowD x.1.2 (List.getD x.1.1 (Int.toNat x_2.1) 0)) (Int.toNat (IntKind.wrap .i64 ((↑(List.length (rowD x.1.2 (List.getD x.1.1 0 (0 :
  Nat)))):Int) - 1))) 0*List.getD (rowD x.1.2 (List.getD x.1.1 (Int.toNat x_2.2.1) 0)) (Int.toNat x_1.1) 0)))&&(!(!decide (IntKind.wrap
  IntKind.i64 (List.getD (rowD x.1.2 (List.getD x.1.1 (Int.toNat x_2.2.1) 0)) (Int.toNat (IntKind.wrap .i64 ((↑(List.length (rowD x.1.2 (List.getD x.1.1
  0 0))):Int) - 1))) 0*List.getD (rowD x.1.2 (List.getD x.1.1 (Int.toNat x_2.1) 0)) (Int.toNat x_1.1) 0)<IntKind.wrap
  IntKind.i64 (List.getD (rowD x.1.2 (List.getD x.1.1 (Int.toNat x_2.1) 0)) (Int.toNat (IntKind.wrap .i64 ((↑(List.length (rowD x.1.2 (List.getD x.1.1 (0
  : Nat) 0))):Int) - 1))) 0*List.getD (rowD x.1.2 (List.getD x.1.1 (Int.toNat x_2.2.1) 0)) (Int.toNat x_1.1) 0))&&decide
  (IntKind.wrap .i64 (List.getD (rowD x.1.2 (List.getD x.1.1 (Int.toNat x_2.2.1) 0)) (Int.toNat (IntKind.wrap .i64 ((↑(List.length (rowD x.1.2
  (List.getD x.1.1 0 0))):Int) - 1))) 0*List.getD (rowD x.1.2 (List.getD x.1.1 (Int.toNat x_2.1) 0)) (Int.toNat x_1.1) (0 :
  Int))=IntKind.wrap .i64 (List.getD (rowD x.1.2 (List.getD x.1.1 (Int.toNat x_2.1) 0)) (Int.toNat (IntKind.wrap .i64 ((↑(List.length (rowD x.1.2
  (List.getD x.1.1 0 0))):Int) - 1))) 0*List.getD (rowD x.1.2 (List.getD x.1.1 (Int.toNat x_2.2.1) 0)) (Int.toNat x_1.1) (0 :
  Int))))||Nat.ble (Nat.succ (Int.toNat x_2.1)) (List.length x.2.1)) then bif (!(!decide (IntKind.wrap .i64 (List.getD (rowD x.1.2 (List.getD x.1.1 (Int.toNat
  x_2.2.1) 0)) (Int.toNat (IntKind.wrap .i64 ((↑(List.length (rowD x.1.2 (List.getD x.1.1 0 0))):Int) - 1))) 0*List.getD
  (rowD x.1.2 (List.getD x.1.1 (Int.toNat x_2.1) 0)) (Int.toNat x_1.1) 0)<IntKind.wrap .i64 (List.getD (rowD x.1.2 (List.getD x.1.1 (Int.toNat
  x_2.1) 0)) (Int.toNat (IntKind.wrap .i64 ((↑(List.length (rowD x.1.2 (List.getD x.1.1 0 0))):Int) - 1))) 0*List.getD (rowD
  x.1.2 (List.getD x.1.1 (Int.toNat x_2.2.1) 0)) (Int.toNat x_1.1) 0))&&decide (IntKind.wrap .i64 (List.getD (rowD x.1.2 (List.getD x.1.1
  (Int.toNat x_2.2.1) 0)) (Int.toNat (IntKind.wrap .i64 ((↑(List.length (rowD x.1.2 (List.getD x.1.1 0 0))):Int) - 1))) 0 *
  List.getD (rowD x.1.2 (List.getD x.1.1 (Int.toNat x_2.1) 0)) (Int.toNat x_1.1) 0)=IntKind.wrap .i64 (List.getD (rowD x.1.2 (List.getD x.1.1
  (Int.toNat x_2.1) 0)) (Int.toNat (IntKind.wrap .i64 ((↑(List.length (rowD x.1.2 (List.getD x.1.1 0 0))):Int) - 1))) 0 *
  List.getD (rowD x.1.2 (List.getD x.1.1 (Int.toNat x_2.2.1) 0)) (Int.toNat x_1.1) 0)))||!decide (IntKind.wrap .i64 (List.getD (rowD x.1.2
  (List.getD x.1.1 (Int.toNat x_2.2.1) 0)) (Int.toNat (IntKind.wrap .i64 ((↑(List.length (rowD x.1.2 (List.getD x.1.1 0 0))):Int) - (1 :
  Int)))) 0*List.getD (rowD x.1.2 (List.getD x.1.1 (Int.toNat x_2.1) 0)) (Int.toNat x_1.1) 0)<IntKind.wrap .i64 (List.getD (rowD x.1.2
  (List.getD x.1.1 (Int.toNat x_2.1) 0)) (Int.toNat (IntKind.wrap .i64 ((↑(List.length (rowD x.1.2 (List.getD x.1.1 0 0))):Int) - (1 :
  Int)))) 0*List.getD (rowD x.1.2 (List.getD x.1.1 (Int.toNat x_2.2.1) 0)) (Int.toNat x_1.1) 0))&&decide (IntKind.wrap .i64 (List.getD
  (rowD x.1.2 (List.getD x.1.1 (Int.toNat x_2.2.1) 0)) (Int.toNat (IntKind.wrap .i64 ((↑(List.length (rowD x.1.2 (List.getD x.1.1 0 0)))
  : Int) - 1))) 0*List.getD (rowD x.1.2 (List.getD x.1.1 (Int.toNat x_2.1) 0)) (Int.toNat x_1.1) 0)=IntKind.wrap .i64 (List.getD
  (rowD x.1.2 (List.getD x.1.1 (Int.toNat x_2.1) 0)) (Int.toNat (IntKind.wrap .i64 ((↑(List.length (rowD x.1.2 (List.getD x.1.1 0 0))) :
  Int) - 1))) 0*List.getD (rowD x.1.2 (List.getD x.1.1 (Int.toNat x_2.2.1) 0)) (Int.toNat x_1.1) 0)))&&(!(!decide (IntKind.wrap
  IntKind.i64 (List.getD (rowD x.1.2 (List.getD x.1.1 (Int.toNat x_2.2.1) 0)) (Int.toNat (IntKind.wrap .i64 ((↑(List.length (rowD x.1.2 (List.getD x.1.1
  0 0))):Int) - 1))) 0*List.getD (rowD x.1.2 (List.getD x.1.1 (Int.toNat x_2.1) 0)) (Int.toNat x_1.1) 0)<IntKind.wrap
  IntKind.i64 (List.getD (rowD x.1.2 (List.getD x.1.1 (Int.toNat x_2.1) 0)) (Int.toNat (IntKind.wrap .i64 ((↑(List.length (rowD x.1.2 (List.getD x.1.1 (0
  : Nat) 0))):Int) - 1))) 0*List.getD (rowD x.1.2 (List.getD x.1.1 (Int.toNat x_2.2.1) 0)) (Int.toNat x_1.1) 0))&&decide
  (IntKind.wrap .i64 (List.getD (rowD x.1.2 (List.getD x.1.1 (Int.toNat x_2.2.1) 0)) (Int.toNat (IntKind.wrap .i64 ((↑(List.length (rowD x.1.2
  (List.getD x.1.1 0 0))):Int) - 1))) 0*List.getD (rowD x.1.2 (List.getD x.1.1 (Int.toNat x_2.1) 0)) (Int.toNat x_1.1) (0 :
  Int))=IntKind.wrap .i64 (List.getD (rowD x.1.2 (List.getD x.1.1 (Int.toNat x_2.1) 0)) (Int.toNat (IntKind.wrap .i64 ((↑(List.length (rowD x.1.2
  (List.getD x.1.1 0 0))):Int) - 1))) 0*List.getD (rowD x.1.2 (List.getD x.1.1 (Int.toNat x_2.2.1) 0)) (Int.toNat x_1.1) (0 :
  Int))))||!decide (IntKind.wrap .i64 (List.getD (rowD x.1.2 (List.getD x.1.1 (Int.toNat x_2.2.1) 0)) (Int.toNat (IntKind.wrap .i64 ((↑(List.length
  (rowD x.1.2 (List.getD x.1.1 0 0))):Int) - 1))) 0*List.getD (rowD x.1.2 (List.getD x.1.1 (Int.toNat x_2.1) 0)) (Int.toNat
  x_1.1) 0)<IntKind.wrap .i64 (List.getD (rowD x.1.2 (List.getD x.1.1 (Int.toNat x_2.1) 0)) (Int.toNat (IntKind.wrap .i64 ((↑(List.length (rowD
  x.1.2 (List.getD x.1.1 0 0))):Int) - 1))) 0*List.getD (rowD x.1.2 (List.getD x.1.1 (Int.toNat x_2.2.1) 0)) (Int.toNat
  x_1.1) 0))&&decide (IntKind.wrap .i64 (List.getD (rowD x.1.2 (List.getD x.1.1 (Int.toNat x_2.2.1) 0)) (Int.toNat (IntKind.wrap .i64
  ((↑(List.length (rowD x.1.2 (List.getD x.1.1 0 0))):Int) - 1))) 0*List.getD (rowD x.1.2 (List.getD x.1.1 (Int.toNat x_2.1) (0 :
  Nat))) (Int.toNat x_1.1) 0)=IntKind.wrap .i64 (List.getD (rowD x.1.2 (List.getD x.1.1 (Int.toNat x_2.1) 0)) (Int.toNat (IntKind.wrap .i64
  ((↑(List.length (rowD x.1.2 (List.getD x.1.1 0 0))):Int) - 1))) 0*List.getD (rowD x.1.2 (List.getD x.1.1 (Int.toNat x_2.2.1) (0 :
  Nat))) (Int.toNat x_1.1) 0))) then bif (!!decide (IntKind.wrap .i64 (List.getD (rowD x.1.2 (List.getD x.1.1 (Int.toNat x_2.2.1) 0)) (Int.toNat
  (IntKind.wrap .i64 ((↑(List.length (rowD x.1.2 (List.getD x.1.1 0 0))):Int) - 1))) 0*List.getD (rowD x.1.2 (List.getD x.1.1
  (Int.toNat x_2.1) 0)) (Int.toNat x_1.1) 0)<IntKind.wrap .i64 (List.getD (rowD x.1.2 (List.getD x.1.1 (Int.toNat x_2.1) 0)) (Int.toNat
  (IntKind.wrap .i64 ((↑(List.length (rowD x.1.2 (List.getD x.1.1 0 0))):Int) - 1))) 0*List.getD (rowD x.1.2 (List.getD x.1.1
  (Int.toNat x_2.2.1) 0)) (Int.toNat x_1.1) 0))||(!!decide (IntKind.wrap .i64 (List.getD (rowD x.1.2 (List.getD x.1.1 (Int.toNat x_2.2.1) (0 :
  Nat))) (Int.toNat (IntKind.wrap .i64 ((↑(List.length (rowD x.1.2 (List.getD x.1.1 0 0))):Int) - 1))) 0*List.getD (rowD x.1.2
  (List.getD x.1.1 (Int.toNat x_2.1) 0)) (Int.toNat x_1.1) 0)<IntKind.wrap .i64 (List.getD (rowD x.1.2 (List.getD x.1.1 (Int.toNat x_2.1) (0 :
  Nat))) (Int.toNat (IntKind.wrap .i64 ((↑(List.length (rowD x.1.2 (List.getD x.1.1 0 0))):Int) - 1))) 0*List.getD (rowD x.1.2
  (List.getD x.1.1 (Int.toNat x_2.2.1) 0)) (Int.toNat x_1.1) 0))||!decide (IntKind.wrap .i64 (List.getD (rowD x.1.2 (List.getD x.1.1 (Int.toNat
  x_2.2.1) 0)) (Int.toNat (IntKind.wrap .i64 ((↑(List.length (rowD x.1.2 (List.getD x.1.1 0 0))):Int) - 1))) 0*List.getD
  (rowD x.1.2 (List.getD x.1.1 (Int.toNat x_2.1) 0)) (Int.toNat x_1.1) 0)<IntKind.wrap .i64 (List.getD (rowD x.1.2 (List.getD x.1.1 (Int.toNat
  x_2.1) 0)) (Int.toNat (IntKind.wrap .i64 ((↑(List.length (rowD x.1.2 (List.getD x.1.1 0 0))):Int) - 1))) 0*List.getD (rowD
  x.1.2 (List.getD x.1.1 (Int.toNat x_2.2.1) 0)) (Int.toNat x_1.1) 0))))&&(!!decide (IntKind.wrap .i64 (List.getD (rowD x.1.2 (List.getD
  x.1.1 (Int.toNat x_2.2.1) 0)) (Int.toNat (IntKind.wrap .i64 ((↑(List.length (rowD x.1.2 (List.getD x.1.1 0 0))):Int) - 1))) (0 :
  Int)*List.getD (rowD x.1.2 (List.getD x.1.1 (Int.toNat x_2.1) 0)) (Int.toNat x_1.1) 0)<IntKind.wrap .i64 (List.getD (rowD x.1.2 (List.getD
  x.1.1 (Int.toNat x_2.1) 0)) (Int.toNat (IntKind.wrap .i64 ((↑(List.length (rowD x.1.2 (List.getD x.1.1 0 0))):Int) - 1))) (0 :
  Int)*List.getD (rowD x.1.2 (List.getD x.1.1 (Int.toNat x_2.2.1) 0)) (Int.toNat x_1.1) 0))||(!decide (IntKind.wrap .i64 (List.getD (rowD
  x.1.2 (List.getD x.1.1 (Int.toNat x_2.2.1) 0)) (Int.toNat (IntKind.wrap .i64 ((↑(List.length (rowD x.1.2 (List.getD x.1.1 0 0))) :
  Int) - 1))) 0*List.getD (rowD x.1.2 (List.getD x.1.1 (Int.toNat x_2.1) 0)) (Int.toNat x_1.1) 0)=IntKind.wrap .i64 (List.getD (rowD
  x.1.2 (List.getD x.1.1 (Int.toNat x_2.1) 0)) (Int.toNat (IntKind.wrap .i64 ((↑(List.length (rowD x.1.2 (List.getD x.1.1 0 0))):Int) -
  1))) 0*List.getD (rowD x.1.2 (List.getD x.1.1 (Int.toNat x_2.2.1) 0)) (Int.toNat x_1.1) 0))||(!!decide (IntKind.wrap .i64
  (List.getD (rowD x.1.2 (List.getD x.1.1 (Int.toNat x_2.2.1) 0)) (Int.toNat (IntKind.wrap .i64 ((↑(List.length (rowD x.1.2 (List.getD x.1.1 0
  0))):Int) - 1))) 0*List.getD (rowD x.1.2 (List.getD x.1.1 (Int.toNat x_2.1) 0)) (Int.toNat x_1.1) 0)<IntKind.wrap .i64
  (List.getD (rowD x.1.2 (List.getD x.1.1 (Int.toNat x_2.1) 0)) (Int.toNat (IntKind.wrap .i64 ((↑(List.length (rowD x.1.2 (List.getD x.1.1 0 (0 :
  Nat)))):Int) - 1))) 0*List.getD (rowD x.1.2 (List.getD x.1.1 (Int.toNat x_2.2.1) 0)) (Int.toNat x_1.1) 0))||!decide (IntKind.wrap
  IntKind.i64 (List.getD (rowD x.1.2 (List.getD x.1.1 (Int.toNat x_2.2.1) 0)) (Int.toNat (IntKind.wrap .i64 ((↑(List.length (rowD x.1.2 (List.getD x.1.1
  0 0))):Int) - 1))) 0*List.getD (rowD x.1.2 (List.getD x.1.1 (Int.toNat x_2.1) 0)) (Int.toNat x_1.1) 0)<IntKind.wrap
  IntKind.i64 (List.getD (rowD x.1.2 (List.getD x.1.1 (Int.toNat x_2.1) 0)) (Int.toNat (IntKind.wrap .i64 ((↑(List.length (rowD x.1.2 (List.getD x.1.1 (0
  : Nat) 0))):Int) - 1))) 0*List.getD (rowD x.1.2 (List.getD x.1.1 (Int.toNat x_2.2.1) 0)) (Int.toNat x_1.1) 0))&&decide
  (IntKind.wrap .i64 (List.getD (rowD x.1.2 (List.getD x.1.1 (Int.toNat x_2.2.1) 0)) (Int.toNat (IntKind.wrap .i64 ((↑(List.length (rowD x.1.2
  (List.getD x.1.1 0 0))):Int) - 1))) 0*List.getD (rowD x.1.2 (List.getD x.1.1 (Int.toNat x_2.1) 0)) (Int.toNat x_1.1) (0 :
  Int))=IntKind.wrap .i64 (List.getD (rowD x.1.2 (List.getD x.1.1 (Int.toNat x_2.1) 0)) (Int.toNat (IntKind.wrap .i64 ((↑(List.length (rowD x.1.2
  (List.getD x.1.1 0 0))):Int) - 1))) 0*List.getD (rowD x.1.2 (List.getD x.1.1 (Int.toNat x_2.2.1) 0)) (Int.toNat x_1.1) (0 :
  Int)))))) then bif decide (IntKind.wrap .i64 (List.getD (rowD x.1.2 (List.getD x.1.1 (Int.toNat x_2.2.1) 0)) (Int.toNat (IntKind.wrap .i64
  ((↑(List.length (rowD x.1.2 (List.getD x.1.1 0 0))):Int) - 1))) 0*List.getD (rowD x.1.2 (List.getD x.1.1 (Int.toNat x_2.1) (0 :
  Nat))) (Int.toNat x_1.1) 0)<IntKind.wrap .i64 (List.getD (rowD x.1.2 (List.getD x.1.1 (Int.toNat x_2.1) 0)) (Int.toNat (IntKind.wrap .i64
  ((↑(List.length (rowD x.1.2 (List.getD x.1.1 0 0))):Int) - 1))) 0*List.getD (rowD x.1.2 (List.getD x.1.1 (Int.toNat x_2.2.1) (0 :
  Nat))) (Int.toNat x_1.1) 0))||!decide (IntKind.wrap .i64 (List.getD (rowD x.1.2 (List.getD x.1.1 (Int.toNat x_2.2.1) 0)) (Int.toNat (IntKind.wrap
  IntKind.i64 ((↑(List.length (rowD x.1.2 (List.getD x.1.1 0 0))):Int) - 1))) 0*List.getD (rowD x.1.2 (List.getD x.1.1 (Int.toNat
  x_2.1) 0)) (Int.toNat x_1.1) 0)<IntKind.wrap .i64 (List.getD (rowD x.1.2 (List.getD x.1.1 (Int.toNat x_2.1) 0)) (Int.toNat (IntKind.wrap
  IntKind.i64 ((↑(List.length (rowD x.1.2 (List.getD x.1.1 0 0))):Int) - 1))) 0*List.getD (rowD x.1.2 (List.getD x.1.1 (Int.toNat
  x_2.2.1) 0)) (Int.toNat x_1.1) 0)) then bif bif decide (IntKind.wrap .i64 (List.getD (rowD x.1.2 (List.getD x.1.1 (Int.toNat x_2.2.1) (0 :
  Nat))) (Int.toNat (IntKind.wrap .i64 ((↑(List.length (rowD x.1.2 (List.getD x.1.1 0 0))):Int) - 1))) 0*List.getD (rowD x.1.2
  (List.getD x.1.1 (Int.toNat x_2.1) 0)) (Int.toNat x_1.1) 0)<IntKind.wrap .i64 (List.getD (rowD x.1.2 (List.getD x.1.1 (Int.toNat x_2.1) (0 :
  Nat))) (Int.toNat (IntKind.wrap .i64 ((↑(List.length (rowD x.1.2 (List.getD x.1.1 0 0))):Int) - 1))) 0*List.getD (rowD x.1.2
  (List.getD x.1.1 (Int.toNat x_2.2.1) 0)) (Int.toNat x_1.1) 0)) then true else bif decide (IntKind.wrap .i64 (List.getD (rowD x.1.2 (List.getD
  x.1.1 (Int.toNat x_2.2.1) 0)) (Int.toNat (IntKind.wrap .i64 ((↑(List.length (rowD x.1.2 (List.getD x.1.1 0 0))):Int) - 1))) (0 :
  Int)*List.getD (rowD x.1.2 (List.getD x.1.1 (Int.toNat x_2.1) 0)) (Int.toNat x_1.1) 0)=IntKind.wrap .i64 (List.getD (rowD x.1.2 (List.getD
  x.1.1 (Int.toNat x_2.1) 0)) (Int.toNat (IntKind.wrap .i64 ((↑(List.length (rowD x.1.2 (List.getD x.1.1 0 0))):Int) - 1))) (0 :
  Int)*List.getD (rowD x.1.2 (List.getD x.1.1 (Int.toNat x_2.2.1) 0)) (Int.toNat x_1.1) 0)) then decide (List.getD x.2.1 (Int.toNat x_2.2.1) (0 :
  Int)<List.getD x.2.1 (Int.toNat x_2.1) 0) else false then again_2 (x_2.2.1,v16) else again_2 (x_2.1,v16) else none else none else none else none else none else
  none else none else none else none else none else none else none else none else none else none else none else none else none else none else none else none else none else none else none
  else none else none else none else none else none else none else none else bif v17 then some (x.1,x.2.1,x.2.2.1,x.2.2.2.1,false,PUnit.unit) else obind
  (ref05_pivot x.1 x.2.1 x.2.2.1 x.2.2.2.1 x_2.1 x_1.1) fun (y:(List Nat×List (Option (List Int)))×List Int×Int×Int×PUnit)=>again (y.1,y.2.1,
  y.2.2.1,y.2.2.2.1,x.2.2.2.2.1,x.2.2.2.2.2.1,x.2.2.2.2.2.2.1,x.2.2.2.2.2.2.2.1,PUnit.unit)) ((-1),(0 :
  Int),PUnit.unit) else none else none else none else none else none else none else none else none else none else none) (0,PUnit.unit)) (x0,x1,x2,x3,([],[]),[],0,
  0,PUnit.unit)
noncomputable def ref05_run (x0:List Nat×List (Option (List Int))) (x1:List Int) (x2:Int) (x3:Int):Option ((List Nat×List (Option (List Int)))×(List Int)×Int×Int×Bool×Unit):=ref05_run_b lpK jnK ref05_pivot x0 x1 x2 x3
abbrev t66:=(List Nat×List (Option (List Int)))→(List Int)→(Int)→(Int)→Option ((List Nat×List (Option (List Int)))×(List Int)×Int×Int×Bool×Unit)
noncomputable def ref05_begin_b (lp:Lp) (jn:Jn) (x0:(List Int)×List ((List Int)×Int×Int)):Option ((List Nat×List (Option (List Int)))×(List Int)×Int×Int×Unit) :=
 
 let v3:Int:=IntKind.wrap .i64 ((↑(List.length x0.1):Int)+(↑(List.length x0.2):Int));
 let v4:Int:=IntKind.wrap .i64 ((↑(List.length x0.1):Int)+IntKind.wrap .i64 (2*(↑(List.length x0.2):Int)));
 let v5:List Int×PUnit:=(List.replicate (Int.toNat (IntKind.wrap .i64 (v4+1))) 0,PUnit.unit);
 let v6:Bool:=decide (0≤IntKind.wrap .i64 (v4+1))&&fitB (Int.toNat (IntKind.wrap .i64 (v4+1))) 8;bif v6 then lp (Int×(List Nat
  × List (Option (List Int)))×List Int×Int×Int×List Int×PUnit) ((List Nat×List (Option (List Int)))×List Int×Int×Int×PUnit) (fun (again:Int×(List Nat×List
  (Option (List Int)))×List Int×Int×Int×List Int×PUnit→Option ((List Nat×List (Option (List Int)))×List Int×Int×Int×PUnit)) (x:Int×(List Nat×List (Option (List
  Int)))×List Int×Int×Int×List Int×PUnit) =>
 let v9:Int:=IntKind.wrap .i64 (v3+x.1);
 let v10:Bool:=inB x.1 (List.length x0.2);
 let v11:Int:=IntKind.wrap .i64 ((↑(List.length x0.1):Int)+x.1);
 let v12:List Int×Int×Int:=List.getD x0.2 (Int.toNat x.1) ([],0,0);
 let v13:Bool:=fitB (List.length x.2.1.1+1) 24;
 let v14:List Nat:=x.2.1.1++[List.length x.2.1.2+0];bif decide (x.1<(↑(List.length x0.2):Int)) then bif v6 then bif v10 then lp (Int×List Int ×
  PUnit) ((List Nat×List (Option (List Int)))×List Int×Int×Int×PUnit) (fun (again_1:Int×List Int×PUnit→Option ((List Nat×List (Option (List Int)))×List Int×Int ×
  Int×PUnit)) (x_1:Int×List Int×PUnit)=>bif decide (x_1.1<(↑(List.length v12.1):Int)) then bif inB x_1.1 (List.length v12.1) then bif inB x_1.1 (List.length
  x_1.2.1) then bif Nat.ble (Nat.succ (Int.toNat x_1.1)) (List.length x_1.2.1) then again_1 (IntKind.wrap .i64 (x_1.1+1),List.set x_1.2.1 (Int.toNat
  x_1.1) (List.getD v12.1 (Int.toNat x_1.1) 0),PUnit.unit) else none else none else none else bif v10 then jn (List Int×PUnit) ((List Nat×List (Option (List Int))) ×
  List Int×Int×Int×PUnit) (fun (x_2:List Int×PUnit)=>bif v10 then jn (List Int×PUnit) ((List Nat×List (Option (List Int)))×List Int×Int×Int×PUnit) (fun (x_3:List
  Int×PUnit) =>
 let v19:List Int×PUnit:=(List.set x_3.1 (Int.toNat v4) v12.2.2,PUnit.unit);bif v10 then bif inB v4 (List.length x_3.1) then bif Nat.ble (Nat.succ (Int.toNat v4))
  (List.length x_3.1) then bif v10 then jn (List Int×PUnit) ((List Nat×List (Option (List Int)))×List Int×Int×Int×PUnit) (fun (x_4:List Int×PUnit)=>lp (Int×List Int
  × PUnit) ((List Nat×List (Option (List Int)))×List Int×Int×Int×PUnit) (fun (again_2:Int×List Int×PUnit→Option ((List Nat×List (Option (List Int)))×List Int×Int ×
  Int×PUnit)) (x_5:Int×List Int×PUnit) =>
 let v23:Bool:=inB x_5.1 (List.length x_5.2.1);
 let v24:Bool:=Nat.ble (Nat.succ (Int.toNat x_5.1)) (List.length x_5.2.1);bif decide (x_5.1<(↑(List.length x_4.1):Int)) then bif v23 then bif v24 then bif inB x_5.1
  (List.length x_4.1) then bif Nat.ble (Nat.succ (Int.toNat x_5.1)) (List.length x_4.1) then bif v23 then bif v24 then again_2 (IntKind.wrap .i64 (x_5.1+1),
  List.set x_5.2.1 (Int.toNat x_5.1) (IntKind.wrap .i64 (List.getD x_5.2.1 (Int.toNat x_5.1) 0 - List.getD x_4.1 (Int.toNat x_5.1) 0)),PUnit.unit)
  else none else none else none else none else none else none else bif inB v9 (List.length x_4.1) then bif Nat.ble (Nat.succ (Int.toNat v9)) (List.length x_4.1) then bif v13 then bif
  fitB (List.length x.2.2.1+1) 8 then again (IntKind.wrap .i64 (x.1+1),(v14,x.2.1.2++[some (List.set x_4.1 (Int.toNat v9) (1 :
  Int))]),x.2.2.1++[v9],x.2.2.2.1,x.2.2.2.2.1,x_5.2.1,PUnit.unit) else none else none else none else none) (0,x.2.2.2.2.2.1,
  PUnit.unit)) fun (j:List Int×PUnit→Option ((List Nat×List (Option (List Int)))×List Int×Int×Int×PUnit))=>bif decide (v12.2.2<0) then lp (Int×List Int ×
  PUnit) ((List Nat×List (Option (List Int)))×List Int×Int×Int×PUnit) (fun (again:Int×List Int×PUnit→Option ((List Nat×List (Option (List Int)))×List Int×Int×Int
  × PUnit)) (x:Int×List Int×PUnit) =>
 let v23:Bool:=inB x.1 (List.length x.2.1);
 let v24:Bool:=Nat.ble (Nat.succ (Int.toNat x.1)) (List.length x.2.1);bif decide (x.1<(↑(List.length x.2.1):Int)) then bif v23 then bif v24 then bif v23 then bif v24
  then again (IntKind.wrap .i64 (x.1+1),List.set x.2.1 (Int.toNat x.1) (IntKind.wrap .i64 (0 - List.getD x.2.1 (Int.toNat x.1) 0)),
  PUnit.unit) else none else none else none else none else j (x.2.1,PUnit.unit)) (0,v19) else j v19 else none else none else none else none) fun (j:List Int×PUnit →
  Option ((List Nat×List (Option (List Int)))×List Int×Int×Int×PUnit))=>bif decide (v12.2.1=2) then bif inB v11 (List.length x_2.1) then bif Nat.ble (Nat.succ
  (Int.toNat v11)) (List.length x_2.1) then j (List.set x_2.1 (Int.toNat v11) (-1),PUnit.unit) else none else none else j (x_2.1,PUnit.unit) else none) fun (j:List Int ×
  PUnit→Option ((List Nat×List (Option (List Int)))×List Int×Int×Int×PUnit))=>bif decide (v12.2.1=1) then bif inB v11 (List.length x_1.2.1) then bif
  Nat.ble (Nat.succ (Int.toNat v11)) (List.length x_1.2.1) then j (List.set x_1.2.1 (Int.toNat v11) 1,PUnit.unit) else none else none else j (x_1.2.1,PUnit.unit)
  else none) (0,v5) else none else none else bif v13 then some ((v14,x.2.1.2++[some x.2.2.2.2.2.1]),x.2.2.1,x.2.2.2.1,x.2.2.2.2.1,
  PUnit.unit) else none) (0,([],[]),[],1,v3,v5) else none
noncomputable def ref05_begin (x0:(List Int)×List ((List Int)×Int×Int)):Option ((List Nat×List (Option (List Int)))×(List Int)×Int×Int×Unit):=ref05_begin_b lpK jnK x0
abbrev t67:=((List Int)×List ((List Int)×Int×Int))→Option ((List Nat×List (Option (List Int)))×(List Int)×Int×Int×Unit)
noncomputable def ref05_out_b (lp:Lp) (_:Jn) (ref05_pivot:t120) (x0:List Nat×List (Option (List Int))) (x1:List Int) (x2:Int) (x3:Int):Option ((List Nat×List (Option (List Int)))×(List Int)×Int×Int×Unit) :=
 lp (Int×(List Nat×List (Option (List Int)))×List Int×Int×Int×PUnit) ((List Nat×List (Option (List Int)))×List Int×Int×Int×PUnit) (fun (again:Int×(List Nat×List
  (Option (List Int)))×List Int×Int×Int×PUnit→Option ((List Nat×List (Option (List Int)))×List Int×Int×Int×PUnit)) (x:Int×(List Nat×List (Option (List Int))) ×
  List Int×Int×Int×PUnit) =>
 let v8:Int:=IntKind.wrap .i64 (x.1+1);
 let v9:Bool:=inB x.1 (List.length x.2.1.1);
 let v10:Bool:=Nat.ble (Nat.succ (Int.toNat x.1)) (List.length x.2.1.1);
 let v11:(List Nat×List (Option (List Int)))×List Int×Int×Int×PUnit:=(x.2.1,x.2.2.1,x.2.2.2.1,x.2.2.2.2.1,PUnit.unit);bif decide (x.1 <
  (↑(List.length x.2.2.1):Int)) then bif inB x.1 (List.length x.2.2.1) then bif Nat.ble (Nat.succ (Int.toNat x.1)) (List.length x.2.2.1) then bif decide (List.getD
  x.2.2.1 (Int.toNat x.1) 0<x.2.2.2.2.1) then again (v8,v11) else lp (Int×PUnit) ((List Nat×List (Option (List Int)))×List Int×Int×Int×PUnit) (fun
  (again_1:Int×PUnit→Option ((List Nat×List (Option (List Int)))×List Int×Int×Int×PUnit)) (x_1:Int×PUnit) =>
 let v14:Bool:=decide (x_1.1<x.2.2.2.2.1);
 let v15:Bool:=!v14;
 let v16:Bool:=v15||v14;bif v16 then bif v16&&(v16&&(v15||v9)) then bif v16&&(v15||v10) then bif v16&&(v16&&(v15||inB x_1.1 (List.length (rowD x.2.1.2
  (List.getD x.2.1.1 (Int.toNat x.1) 0))))) then bif v16&&(v15||Nat.ble (Nat.succ (Int.toNat x_1.1)) (List.length (rowD x.2.1.2 (List.getD x.2.1.1
  (Int.toNat x.1) 0)))) then bif v16 then bif v16 then bif bif v14 then decide (List.getD (rowD x.2.1.2 (List.getD x.2.1.1 (Int.toNat x.1) 0)) (Int.toNat
  x_1.1) 0=0) else false then again_1 (IntKind.wrap .i64 (x_1.1+1),PUnit.unit) else bif decide (x_1.1=x.2.2.2.2.1) then again (v8,
  v11) else bif v9 then bif v10 then bif inB x_1.1 (List.length (rowD x.2.1.2 (List.getD x.2.1.1 (Int.toNat x.1) 0))) then bif Nat.ble (Nat.succ (Int.toNat
  x_1.1)) (List.length (rowD x.2.1.2 (List.getD x.2.1.1 (Int.toNat x.1) 0))) then bif decide (List.getD (rowD x.2.1.2 (List.getD x.2.1.1 (Int.toNat
  x.1) 0)) (Int.toNat x_1.1) 0<0) then lp (Int×(List Nat×List (Option (List Int)))×PUnit) ((List Nat×List (Option (List Int)))×List Int×Int×Int
  × PUnit) (fun (again_2:Int×(List Nat×List (Option (List Int)))×PUnit→Option ((List Nat×List (Option (List Int)))×List Int×Int×Int×PUnit)) (x_2:Int×(List Nat ×
  List (Option (List Int)))×PUnit) =>
 let v19:Bool:=inB x.1 (List.length x_2.2.1.1);
 let v20:Bool:=Nat.ble (Nat.succ (Int.toNat x.1)) (List.length x_2.2.1.1);bif v19 then bif v20 then bif liveB x_2.2.1.2 (List.getD x_2.2.1.1 (Int.toNat x.1) (0 :
  Nat)) then bif decide (x_2.1<(↑(List.length (rowD x_2.2.1.2 (List.getD x_2.2.1.1 (Int.toNat x.1) 0))):Int)) then bif v19 then bif v20 then bif v19 then bif
  v20 then bif inB x_2.1 (List.length (rowD x_2.2.1.2 (List.getD x_2.2.1.1 (Int.toNat x.1) 0))) then bif Nat.ble (Nat.succ (Int.toNat x_2.1)) (List.length (rowD
  x_2.2.1.2 (List.getD x_2.2.1.1 (Int.toNat x.1) 0))) then bif inB x_2.1 (List.length (rowD x_2.2.1.2 (List.getD x_2.2.1.1 (Int.toNat x.1) (0 :
  Nat)))) then bif Nat.ble (Nat.succ (Int.toNat x_2.1)) (List.length (rowD x_2.2.1.2 (List.getD x_2.2.1.1 (Int.toNat x.1) 0))) then again_2 (IntKind.wrap
  IntKind.i64 (x_2.1+1),(x_2.2.1.1,List.set x_2.2.1.2 (List.getD x_2.2.1.1 (Int.toNat x.1) 0) (some (List.set (rowD x_2.2.1.2 (List.getD
  x_2.2.1.1 (Int.toNat x.1) 0)) (Int.toNat x_2.1) (IntKind.wrap .i64 (0 - List.getD (rowD x_2.2.1.2 (List.getD x_2.2.1.1 (Int.toNat x.1) (0
  : Nat))) (Int.toNat x_2.1) 0))))),PUnit.unit) else none else none else none else none else none else none else none else none else obind (ref05_pivot x_2.2.1
  x.2.2.1 x.2.2.2.1 x.2.2.2.2.1 x.1 x_1.1) fun (y:(List Nat×List (Option (List Int)))×List Int×Int×Int×PUnit)=>again (v8,y.1,y.2.1,
  y.2.2.1,y.2.2.2.1,PUnit.unit) else none else none else none) (0,x.2.1,PUnit.unit) else obind (ref05_pivot x.2.1 x.2.2.1 x.2.2.2.1
  x.2.2.2.2.1 x.1 x_1.1) fun (y:(List Nat×List (Option (List Int)))×List Int×Int×Int×PUnit)=>again (v8,y.1,y.2.1,y.2.2.1,y.2.2.2.1,
  PUnit.unit) else none else none else none else none else none else none else none else none else none else none else none) (0,PUnit.unit) else none else none else some v11) ((0
  : Int),x0,x1,x2,x3,PUnit.unit)
noncomputable def ref05_out (x0:List Nat×List (Option (List Int))) (x1:List Int) (x2:Int) (x3:Int):Option ((List Nat×List (Option (List Int)))×(List Int)×Int×Int×Unit):=ref05_out_b lpK jnK ref05_pivot x0 x1 x2 x3
abbrev t68:=(List Nat×List (Option (List Int)))→(List Int)→(Int)→(Int)→Option ((List Nat×List (Option (List Int)))×(List Int)×Int×Int×Unit)
noncomputable def ref02_Make_b (_:Lp) (_:Jn) (ref02_Size:t103) (ref02_Made:t121) (x0:Int) (x1:Int):Option ((Int×Int)×Int×Unit) :=
 obind (ref02_Size x0) fun (t:Int)=>obind (ref02_Size x1) fun (t_1:Int)=>obind (ref02_Made (0,t) (!decide (decide (x0<0)=decide (x1<0))) (0,
  t_1)) fun (t:(Int×Int)×Int×PUnit)=>some (t.1,t.2.1,PUnit.unit)
noncomputable def ref02_Make (x0:Int) (x1:Int):Option ((Int×Int)×Int×Unit):=ref02_Make_b lpK jnK ref02_Size ref02_Made x0 x1
abbrev t70:=(Int)→(Int)→Option ((Int×Int)×Int×Unit)
noncomputable def ref05_Least_b (lp:Lp) (_:Jn) (ref02_Make:t70) (ref05_run:t66) (ref05_begin:t67) (ref05_out:t68) (x0:(List Int)×List ((List Int)×Int×Int)):Option ((Int×Int)×Int×Unit) :=
 obind (ref05_begin x0) fun (y:(List Nat×List (Option (List Int)))×List Int×Int×Int×PUnit)=>obind (ref05_run y.1 y.2.1 y.2.2.1 y.2.2.2.1) fun (y:(List Nat
  × List (Option (List Int)))×List Int×Int×Int×Bool×PUnit) =>
 let v5:Int:=IntKind.wrap .i64 ((↑(List.length y.1.1):Int) - 1);bif inB 0 (List.length y.1.1) then bif Nat.ble 1 (List.length y.1.1) then
  bif liveB y.1.2 (List.getD y.1.1 0 0) then bif inB v5 (List.length y.1.1) then bif Nat.ble (Nat.succ (Int.toNat v5)) (List.length y.1.1) then bif inB
  (IntKind.wrap .i64 ((↑(List.length (rowD y.1.2 (List.getD y.1.1 0 0))):Int) - 1)) (List.length (rowD y.1.2 (List.getD y.1.1 (Int.toNat
  v5) 0))) then bif Nat.ble (Nat.succ (Int.toNat (IntKind.wrap .i64 ((↑(List.length (rowD y.1.2 (List.getD y.1.1 0 0))):Int) - 1))))
  (List.length (rowD y.1.2 (List.getD y.1.1 (Int.toNat v5) 0))) then bif decide (List.getD (rowD y.1.2 (List.getD y.1.1 (Int.toNat v5) 0)) (Int.toNat
  (IntKind.wrap .i64 ((↑(List.length (rowD y.1.2 (List.getD y.1.1 0 0))):Int) - 1))) 0<0) then some ((0,0),(22
  : Int),PUnit.unit) else obind (ref05_out y.1 y.2.1 y.2.2.1 y.2.2.2.1) fun (y_1:(List Nat×List (Option (List Int)))×List Int×Int×Int×PUnit)=>bif decide
  (0≤IntKind.wrap .i64 (IntKind.wrap .i64 ((↑(List.length (rowD y.1.2 (List.getD y.1.1 0 0))):Int) - 1)+1))&&fitB
  (Int.toNat (IntKind.wrap .i64 (IntKind.wrap .i64 ((↑(List.length (rowD y.1.2 (List.getD y.1.1 0 0))):Int) - 1)+1))) 8
  then lp (Int×List Int×PUnit) ((Int×Int)×Int×PUnit) (fun (again:Int×List Int×PUnit→Option ((Int×Int)×Int×PUnit)) (x:Int×List Int×PUnit)=>bif decide (x.1
  < (↑(List.length x0.1):Int)) then bif inB x.1 (List.length x0.1) then bif inB x.1 (List.length x.2.1) then bif Nat.ble (Nat.succ (Int.toNat x.1)) (List.length x.2.1)
  then again (IntKind.wrap .i64 (x.1+1),List.set x.2.1 (Int.toNat x.1) (List.getD x0.1 (Int.toNat x.1) 0),PUnit.unit) else none else none else none
  else lp (Int×(List Nat×List (Option (List Int)))×PUnit) ((Int×Int)×Int×PUnit) (fun (again:Int×(List Nat×List (Option (List Int)))×PUnit→Option ((Int×Int)×Int ×
  PUnit)) (x_1:Int×(List Nat×List (Option (List Int)))×PUnit)=>bif decide (x_1.1≤IntKind.wrap .i64 ((↑(List.length (rowD y.1.2 (List.getD y.1.1 0 (0 :
  Nat)))):Int) - 1)) then bif inB x_1.1 (List.length x.2.1) then bif Nat.ble (Nat.succ (Int.toNat x_1.1)) (List.length x.2.1) then lp (Int×Int×PUnit) ((Int ×
  Int)×Int×PUnit) (fun (again_1:Int×Int×PUnit→Option ((Int×Int)×Int×PUnit)) (x_2:Int×Int×PUnit) =>
 let v13:Int:=List.getD y_1.2.1 (Int.toNat x_2.2.1) 0;bif decide (x_2.2.1<v5) then bif inB x_2.2.1 (List.length y_1.2.1) then bif Nat.ble (Nat.succ
  (Int.toNat x_2.2.1)) (List.length y_1.2.1) then bif inB v13 (List.length x.2.1) then bif Nat.ble (Nat.succ (Int.toNat v13)) (List.length x.2.1) then bif inB x_2.2.1
  (List.length x_1.2.1.1) then bif Nat.ble (Nat.succ (Int.toNat x_2.2.1)) (List.length x_1.2.1.1) then bif inB x_1.1 (List.length (rowD x_1.2.1.2 (List.getD
  x_1.2.1.1 (Int.toNat x_2.2.1) 0))) then bif Nat.ble (Nat.succ (Int.toNat x_1.1)) (List.length (rowD x_1.2.1.2 (List.getD x_1.2.1.1 (Int.toNat
  x_2.2.1) 0))) then again_1 (IntKind.wrap .i64 (x_2.1 - IntKind.wrap .i64 (List.getD x.2.1 (Int.toNat v13) 0*List.getD (rowD x_1.2.1.2
  (List.getD x_1.2.1.1 (Int.toNat x_2.2.1) 0)) (Int.toNat x_1.1) 0)),IntKind.wrap .i64 (x_2.2.1+1),PUnit.unit) else none else none else
  none else none else none else none else none else none else bif inB v5 (List.length x_1.2.1.1) then bif Nat.ble (Nat.succ (Int.toNat v5)) (List.length x_1.2.1.1) then bif
  inB x_1.1 (List.length (rowD x_1.2.1.2 (List.getD x_1.2.1.1 (Int.toNat v5) 0))) then bif Nat.ble (Nat.succ (Int.toNat x_1.1)) (List.length (rowD x_1.2.1.2
  (List.getD x_1.2.1.1 (Int.toNat v5) 0))) then again (IntKind.wrap .i64 (x_1.1+1),(x_1.2.1.1,List.set x_1.2.1.2 (List.getD x_1.2.1.1
  (Int.toNat v5) 0) (some (List.set (rowD x_1.2.1.2 (List.getD x_1.2.1.1 (Int.toNat v5) 0)) (Int.toNat x_1.1) x_2.1))),PUnit.unit) else none else none
  else none else none) (IntKind.wrap .i64 (List.getD x.2.1 (Int.toNat x_1.1) 0*y_1.2.2.1),0,PUnit.unit) else none else none else obind (ref05_run
  x_1.2.1 y_1.2.1 y_1.2.2.1 y_1.2.2.2.1) fun (y_2:(List Nat×List (Option (List Int)))×List Int×Int×Int×Bool×PUnit)=>bif !y_2.2.2.2.2.1 then
  some ((0,0),21,PUnit.unit) else bif inB v5 (List.length y_2.1.1) then bif Nat.ble (Nat.succ (Int.toNat v5)) (List.length y_2.1.1) then bif inB
  (IntKind.wrap .i64 ((↑(List.length (rowD y.1.2 (List.getD y.1.1 0 0))):Int) - 1)) (List.length (rowD y_2.1.2 (List.getD y_2.1.1
  (Int.toNat v5) 0))) then bif Nat.ble (Nat.succ (Int.toNat (IntKind.wrap .i64 ((↑(List.length (rowD y.1.2 (List.getD y.1.1 0 0))):Int) - (1 :
  Int))))) (List.length (rowD y_2.1.2 (List.getD y_2.1.1 (Int.toNat v5) 0))) then obind (ref02_Make (IntKind.wrap .i64 (0 - List.getD (rowD y_2.1.2
  (List.getD y_2.1.1 (Int.toNat v5) 0)) (Int.toNat (IntKind.wrap .i64 ((↑(List.length (rowD y.1.2 (List.getD y.1.1 0 0))):Int) - 1)))
  0)) y_2.2.2.1) fun (t:(Int×Int)×Int×PUnit)=>some (t.1,t.2.1,PUnit.unit) else none else none else none else none) (0,y_1.1,PUnit.unit)) ((0 :
  Int),List.replicate (Int.toNat (IntKind.wrap .i64 (IntKind.wrap .i64 ((↑(List.length (rowD y.1.2 (List.getD y.1.1 0 0))):Int) - 1)+(1
  : Int)))) 0,PUnit.unit) else none else none else none else none else none else none else none else none
noncomputable def ref05_Least (x0:(List Int)×List ((List Int)×Int×Int)):Option ((Int×Int)×Int×Unit):=ref05_Least_b lpK jnK ref02_Make ref05_run ref05_begin ref05_out x0
abbrev t26:=((List Int)×List ((List Int)×Int×Int))→Option ((Int×Int)×Int×Unit)
noncomputable def k26 (ref05_Least:t26):Ctr:=⟨[T32],[],[],.tup [T49,i64],fun x _ _=>ref05_Least x.1⟩
noncomputable def ratio_Sum_1_b (_:Lp) (_:Jn) (ratio_Valid:t72) (x0:Int×Int):Option Bool :=
 obind (ratio_Valid x0) fun (t:Bool)=>some !t
noncomputable def ratio_Sum_1 (x0:Int×Int):Option Bool:=ratio_Sum_1_b lpK jnK ratio_Valid x0
abbrev t71:=(Int×Int)→Option (Bool)
noncomputable def ratio_Sum_b (lp:Lp) (_:Jn) (slices_ContainsFunc_32:t32) (ratio_Add:t35) (ratio_Sum_1:t71) (x0:List (Int×Int)):Option ((Int×Int)×Int×Unit) :=
 obind (slices_ContainsFunc_32 x0 fun (x:(Int×Int)×PUnit)=>ratio_Sum_1 x.1) fun (t:Bool)=>bif t then some ((0,0),1,PUnit.unit) else bif decide
  ((↑(List.length x0):Int)>1000) then some ((0,0),4,PUnit.unit) else lp (Int×(Int×Int)×(Int×Int)×PUnit) ((Int×Int)×Int×PUnit) (fun
  (again:Int×(Int×Int)×(Int×Int)×PUnit→Option ((Int×Int)×Int×PUnit)) (x:Int×(Int×Int)×(Int×Int)×PUnit)=>bif decide (x.1<(↑(List.length x0):Int))
  then bif inB x.1 (List.length x0) then obind (ratio_Add x.2.2.1 (List.getD x0 (Int.toNat x.1) (0,0))) fun (t:(Int×Int)×Int×PUnit)=>bif !decide
  (t.2.1=0) then some ((0,0),t.2.1,PUnit.unit) else again (IntKind.wrap .i64 (x.1+1),x.2.1,t.1,PUnit.unit) else none else
  some (x.2.2.1,0,PUnit.unit)) (0,(0,0),(0,1),PUnit.unit)
noncomputable def ratio_Sum (x0:List (Int×Int)):Option ((Int×Int)×Int×Unit):=ratio_Sum_b lpK jnK slices_ContainsFunc_32 ratio_Add ratio_Sum_1 x0
abbrev t27:=(List (Int×Int))→Option ((Int×Int)×Int×Unit)
noncomputable def k27 (ratio_Sum:t27):Ctr:=⟨[(.sl T49)],[],[],.tup [T49,i64],fun x _ _=>ratio_Sum x.1⟩
noncomputable def ref15_Slack_b (lp:Lp) (_:Jn) (ref02_Of:t73) (ref15_Program:t15) (ref15_Only:t64) (ref05_Least:t26) (x0:(List (ByteArray×Int))×List (ByteArray×(List (ByteArray×Int×Int×Int))×Bool)):Option ((List ByteArray)×Int×Unit) :=
 lp (List ByteArray×Int×PUnit) (List ByteArray×Int×PUnit) (fun (again:List ByteArray×Int×PUnit→Option (List ByteArray×Int×PUnit)) (x:List ByteArray×Int×PUnit) =>
 let v5:Int×PUnit:=(IntKind.wrap .i64 (x.2.1+1),PUnit.unit);bif decide (x.2.1<(↑(List.length x0.2):Int)) then obind (ref15_Only x0 x.2.1 (-1 :
  Int)) fun (t:List Int)=>obind (ref15_Program x0 t) fun (t:List Int×List (List Int×Int×Int))=>obind (ref05_Least t) fun (t:(Int×Int)×Int×PUnit) =>
 let v9:Bool:=decide (t.2.1=0);
 let v10:Bool:=!v9||v9;bif decide (t.2.1=22) then some ([],t.2.1,PUnit.unit) else obind (bif v9 then ref02_Of 0 else some (0,0)) fun
  (t_1:Int×Int)=>bif v10&&v10 then bif v10 then bif bif v9 then decide (t.1.1=t_1.1)&&(decide (t.1.2=t_1.2)&&true) else false then bif inB x.2.1
  (List.length x0.2) then bif fitB (List.length x.1+1) 16 then again (x.1++[(List.getD x0.2 (Int.toNat x.2.1) ({ data:={ toList:=[] } },[],
  false)).1],v5) else none else none else again (x.1,v5) else none else none else some (x.1,0,PUnit.unit)) ([],0,PUnit.unit)
noncomputable def ref15_Slack (x0:(List (ByteArray×Int))×List (ByteArray×(List (ByteArray×Int×Int×Int))×Bool)):Option ((List ByteArray)×Int×Unit):=ref15_Slack_b lpK jnK ref02_Of ref15_Program ref15_Only ref05_Least x0
abbrev t28:=((List (ByteArray×Int))×List (ByteArray×(List (ByteArray×Int×Int×Int))×Bool))→Option ((List ByteArray)×Int×Unit)
noncomputable def slices_Equal_29_b (lp:Lp) (_:Jn) (x0:List ByteArray) (x1:List ByteArray):Option Bool :=
 bif !decide ((↑(List.length x0):Int)=(↑(List.length x1):Int)) then some false else lp (Int×PUnit) Bool (fun (again:Int×PUnit→Option Bool) (x:Int×PUnit)=>bif decide
  (x.1<(↑(List.length x0):Int)) then bif inB x.1 (List.length x0) then bif inB x.1 (List.length x1) then bif !List.beq (ByteArray.toList (List.getD x0 (Int.toNat x.1) { data
  :={ toList:=[] } })) (ByteArray.toList (List.getD x1 (Int.toNat x.1) { data:={ toList:=[] } })) then some false else again (IntKind.wrap .i64 (x.1+1),
  PUnit.unit) else none else none else some true) (0,PUnit.unit)
noncomputable def slices_Equal_29 (x0:List ByteArray) (x1:List ByteArray):Option Bool:=slices_Equal_29_b lpK jnK x0 x1
abbrev t29:=(List ByteArray)→(List ByteArray)→Option (Bool)
noncomputable def k29 (slices_Equal_29:t29):Ctr:=⟨[(.sl .str),(.sl .str)],[],[],.one .bool,fun x _ _=>slices_Equal_29 x.1 x.2.1⟩
noncomputable def ref15_Least_b (_:Lp) (_:Jn) (ref15_Program:t15) (ref15_Only:t64) (ref05_Least:t26) (x0:(List (ByteArray×Int))×List (ByteArray×(List (ByteArray×Int×Int×Int))×Bool)) (x1:Int):Option ((Int×Int)×Int×Unit) :=
 obind (ref15_Only x0 x1 1) fun (t:List Int)=>obind (ref15_Program x0 t) fun (t:List Int×List (List Int×Int×Int))=>obind (ref05_Least t) fun (t:(Int×Int)×Int ×
  PUnit)=>some (t.1,t.2.1,PUnit.unit)
noncomputable def ref15_Least (x0:(List (ByteArray×Int))×List (ByteArray×(List (ByteArray×Int×Int×Int))×Bool)) (x1:Int):Option ((Int×Int)×Int×Unit):=ref15_Least_b lpK jnK ref15_Program ref15_Only ref05_Least x0 x1
abbrev t30:=((List (ByteArray×Int))×List (ByteArray×(List (ByteArray×Int×Int×Int))×Bool))→(Int)→Option ((Int×Int)×Int×Unit)
noncomputable def law15_SlackLeast_b (_:Lp) (jn:Jn) (slack_Taut:t19) (slack_Least:t20) (slack_Slack:t21) (law15_awake:t9) (law15_few:t10) (ref10_FindRope:t22) (ref10_Valid:t13) (ref15_Program:t15) (ref15_Ones:t16) (ref15_Fits:t23) (ref15_FitsOne:t24) (ref15_Small:t25) (ref05_Least:t26) (ratio_Sum:t27) (ref15_Slack:t28) (slices_Equal_29:t29) (ref15_Least:t30) (x0:(List (ByteArray×Int))×List (ByteArray×(List (ByteArray×Int×Int×Int))×Bool)) (x1:ByteArray):Option Bool :=
 obind law15_awake fun (t:Bool)=>bif !t then some false else obind (law15_few x0 []) fun (t:Bool) =>
 let v6:Bool:=!t;
 let v7:Bool:=!v6;
 let v8:Bool:=!v7||v7;bif v8 then bif v8 then bif v6||v7 then bif bif v6 then true else decide ((↑(ByteArray.size x1):Int)>60) then some true else obind (slack_Taut
  x0) fun (t:List (Int×Int)×Int×PUnit) =>
 let v10:Bool:=decide (t.2.1=0);
 let v11:Bool:=!v10;
 let v12:Bool:=decide ((↑(List.length t.1):Int)=0);
 let v13:Bool:=!v12;
 let v14:Bool:=bif v12 then decide (t.2.1=1) else false;
 let v15:Bool:=v13||v12;
 let v16:Bool:=!v14||v14;obind (slack_Least x0 x1) fun (t_1:(Int×Int)×Int×PUnit) =>
 let v18:Bool:=decide (t_1.1.1=0)&&(decide (t_1.1.2=0)&&true);
 let v19:Bool:=!v18;
 let v20:Bool:=bif v14 then v18 else false;
 let v21:Bool:=bif v20 then decide (t_1.2.1=1) else false;
 let v22:Bool:=!v20||v20;
 let v23:Bool:=!v21||v21;obind (slack_Slack x0) fun (t_2:List ByteArray×Int×PUnit) =>
 let v25:Bool:=decide ((↑(List.length t_2.1):Int)=0);
 let v26:Bool:=bif v21 then v25 else false;
 let v27:Bool:=bif v25 then decide (t_2.2.1=5) else false;
 let v28:Bool:=!v27;
 let v29:Bool:=!v25||v25;
 let v30:Bool:=!v26||v26;
 let v31:Bool:=v28||v27;obind (ref10_Valid x0) fun (t_3:Bool)=>bif !t_3 then bif v15 then bif v15 then bif v16&&v16 then bif v16 then bif v22 then bif v22 then bif v23 then
  bif v23 then bif v23 then bif v30 then bif v30 then some (bif v26 then decide (t_2.2.1=1) else false) else none else none else none else none else none else none else none
  else none else none else none else none else obind (ref10_FindRope x0 x1) fun (t_4:Int) =>
 let v34:Bool:=decide (t_4<0);
 let v35:Bool:=!v34;
 let v36:Bool:=v34&&!v19;
 let v37:Bool:=v27&&v35;
 let v38:Bool:=!v37;
 let v39:Bool:=v37&&v18;
 let v40:Bool:=v35||v34;
 let v41:Bool:=v38||v37;bif v40&&v40 then bif v40 then bif !v36||v36 then bif (v35||v40)&&(v35||(v19||(v35||v36))) then bif v40 then bif bif v34 then bif v19 then true
  else !decide (t_1.2.1=9) else false then some false else obind (ref15_Fits x0) fun (t_5:Bool) =>
 let v43:Bool:=!t_5;
 let v44:Bool:=!v43;
 let v45:Bool:=v43&&!v13;
 let v46:Bool:=v44||v43;bif v46 then bif v46 then bif v46 then bif !v45||v45 then bif (v44||v46)&&(v44||(v13||(v44||v45))) then bif v46 then bif bif v43 then bif v13
  then true else !decide (t.2.1=5) else false then some false else obind (ref15_FitsOne x0) fun (t_6:Bool)=>bif !t_6 then bif v29 then bif v29 then bif v31 then bif v31
  then bif v41&&v41 then bif v41 then bif !v39||v39 then bif (v38||v41)&&(v38||(v19||(v38||v39))) then bif (v28||v31)&&(v28||(v34||(v28||v37))) then bif v31 then
  some (bif v27 then bif v34 then true else bif v18 then decide (t_1.2.1=5) else false else false) else none else none else none else none else none else none else none else
  none else none else none else obind (ref15_Small x0) fun (t_7:Bool)=>bif !t_7 then some true else obind (ref15_Ones x0) fun (t_8:List Int)=>obind (ref15_Program x0 t_8) fun (t_9
  : List Int×List (List Int×Int×Int))=>obind (ref05_Least t_9) fun (t_10:(Int×Int)×Int×PUnit) =>
 let v52:Bool:=!decide (t.2.1=t_10.2.1);
 let v53:Bool:=!v52;
 let v54:Bool:=!v53;
 let v55:Bool:=v53&&v11;
 let v56:Bool:=v54||v53;
 let v57:Bool:=!v55||v55;bif v56 then bif v56 then bif v57 then bif v57 then bif (v54||v56)&&(v54||(!v11||(v54||v55))) then bif v52||v53 then bif bif v52 then true else
  bif v11 then v13 else false then some false else jn PUnit Bool (fun (_:PUnit)=>obind (ref15_Slack x0) fun (t:List ByteArray×Int×PUnit)=>obind (slices_Equal_29 t_2.1 t.1)
  fun (t_11:Bool) =>
 let v61:Bool:=!t_11;
 let v62:Bool:=!v61;
 let v63:Bool:=!v62||v62;bif v63&&v63 then bif v61||v62 then bif bif v61 then true else !decide (t_2.2.1=t.2.1) then some false else bif v34 then some true else obind
  (ref15_Least x0 t_4) fun (t:(Int×Int)×Int×PUnit) =>
 let v65:Bool:=decide (t_1.1.1=t.1.1)&&(decide (t_1.1.2=t.1.2)&&true);
 let v66:Bool:=!v65||v65;bif v66&&v66 then bif v66 then some (bif v65 then decide (t_1.2.1=t.2.1) else false) else none else none else none else none) fun (j:PUnit →
  Option Bool)=>bif v10 then obind (ratio_Sum t.1) fun (t_11:(Int×Int)×Int×PUnit) =>
 let v60:Bool:=!decide (t_11.2.1=0);
 let v61:Bool:=!v60;
 let v62:Bool:=!v61||v61;
 let v63:Bool:=bif v60 then true else !(decide (t_11.1.1=t_10.1.1)&&(decide (t_11.1.2=t_10.1.2)&&true));
 let v64:Bool:=!v63;
 let v65:Bool:=!v64||v64;bif v62&&v62 then bif v60||v61 then bif v65 then bif v65 then bif v65 then bif v65&&v65 then bif v63||v64 then bif bif v63 then true else !decide
  ((↑(List.length t.1):Int)=(↑(List.length x0.2):Int)) then some false else j PUnit.unit else none else none else none else none else none else none else none else j PUnit.unit
  else none else none else none else none else none else none else none else none else none else none else none else none else none else none else none else none else none else none else
  none else none
noncomputable def law15_SlackLeast (x0:(List (ByteArray×Int))×List (ByteArray×(List (ByteArray×Int×Int×Int))×Bool)) (x1:ByteArray):Option Bool:=law15_SlackLeast_b lpK jnK slack_Taut slack_Least slack_Slack law15_awake law15_few ref10_FindRope ref10_Valid ref15_Program ref15_Ones ref15_Fits ref15_FitsOne ref15_Small ref05_Least ratio_Sum ref15_Slack slices_Equal_29 ref15_Least x0 x1
noncomputable def c4:Ctr:=⟨[T25,.str],[],[],.one .bool,fun x _ _=>law15_SlackLeast x.1 x.2.1⟩
theorem e4 (lp:Lp) (jn:Jn) (slack_Taut:t19) (slack_Least:t20) (slack_Slack:t21) (law15_awake:t9) (law15_few:t10) (ref10_FindRope:t22) (ref10_Valid:t13) (ref15_Program:t15) (ref15_Ones:t16) (ref15_Fits:t23) (ref15_FitsOne:t24) (ref15_Small:t25) (ref05_Least:t26) (ratio_Sum:t27) (ref15_Slack:t28) (slices_Equal_29:t29) (ref15_Least:t30):∀(x:TsS c4.as) (F:TsF c4.fs) (y:TsS c4.cs),law15_SlackLeast_b lp jn slack_Taut slack_Least slack_Slack law15_awake law15_few ref10_FindRope ref10_Valid ref15_Program ref15_Ones ref15_Fits ref15_FitsOne ref15_Small ref05_Least ratio_Sum ref15_Slack slices_Equal_29 ref15_Least x.1 x.2.1=runC lp jn (cx [(30,⟨[T25,i64],[],[],.tup [T49,i64],fun x _ _=>ref15_Least x.1 x.2.1⟩),(29,k29 slices_Equal_29),(28,⟨[T25],[],[],.tup [(.sl .str),i64],fun x _ _=>ref15_Slack x.1⟩),(27,k27 ratio_Sum),(26,k26 ref05_Least),(25,⟨[T25],[],[],.one .bool,fun x _ _=>ref15_Small x.1⟩),(24,⟨[T25],[],[],.one .bool,fun x _ _=>ref15_FitsOne x.1⟩),(23,⟨[T25],[],[],.one .bool,fun x _ _=>ref15_Fits x.1⟩),(16,k16 ref15_Ones),(15,k15 ref15_Program),(13,k13 ref10_Valid),(22,k22 ref10_FindRope),(10,k10 law15_few),(9,k9 law15_awake),(21,k21 slack_Slack),(20,k20 slack_Least),(19,k19 slack_Taut)] [(134,r134)]) hints 4 4 f4 c4 x F y:=fun x F y=>by kernel_rfl
noncomputable def ref10_Copy_b (lp:Lp) (_:Jn) (x0:(List (ByteArray×Int))×List (ByteArray×(List (ByteArray×Int×Int×Int))×Bool)):Option ((List (ByteArray×Int))×List (ByteArray×(List (ByteArray×Int×Int×Int))×Bool)) :=
 
 let v3:List (ByteArray×List (ByteArray×Int×Int×Int)×Bool):=[];bif fitB (0+List.length x0.1) 24 then lp (Int×List (ByteArray×Int)×List (ByteArray ×
  List (ByteArray×Int×Int×Int)×Bool)×PUnit) (List (ByteArray×Int)×List (ByteArray×List (ByteArray×Int×Int×Int)×Bool)) (fun (again:Int×List (ByteArray×Int) ×
  List (ByteArray×List (ByteArray×Int×Int×Int)×Bool)×PUnit→Option (List (ByteArray×Int)×List (ByteArray×List (ByteArray×Int×Int×Int)×Bool))) (x:Int×List
  (ByteArray×Int)×List (ByteArray×List (ByteArray×Int×Int×Int)×Bool)×PUnit) =>
 let v6:ByteArray×List (ByteArray×Int×Int×Int)×Bool:=List.getD x0.2 (Int.toNat x.1) ({ data:={ toList:=[] } },[],false);bif decide (x.1<(↑(List.length x0.2)
  : Int)) then bif inB x.1 (List.length x0.2) then bif fitB (0+List.length v6.2.1) 40 then bif fitB (List.length x.2.2.1+1) 48 then again
  (IntKind.wrap .i64 (x.1+1),x.2.1,x.2.2.1++v6 ::v3,PUnit.unit) else none else none else none else some (x.2.1,x.2.2.1)) (0,x0.1,
  v3,PUnit.unit) else none
noncomputable def ref10_Copy (x0:(List (ByteArray×Int))×List (ByteArray×(List (ByteArray×Int×Int×Int))×Bool)):Option ((List (ByteArray×Int))×List (ByteArray×(List (ByteArray×Int×Int×Int))×Bool)):=ref10_Copy_b lpK jnK x0
abbrev t31:=((List (ByteArray×Int))×List (ByteArray×(List (ByteArray×Int×Int×Int))×Bool))→Option ((List (ByteArray×Int))×List (ByteArray×(List (ByteArray×Int×Int×Int))×Bool))
end Go.Proofs.YtfknoaclabfdlaaGreat

namespace Go.Proofs.YtfknoaclabfdlaaGreat
open Tryz Dn Dn.Sh
set_option maxRecDepth 100000
noncomputable def law15_SlackLoads_1_b (_:Lp) (_:Jn) (law15_whole:t34) (x0:Int×Int):Option Bool :=
 obind (law15_whole 0) fun (t:Int×Int)=>some !(decide (x0.1=t.1)&&(decide (x0.2=t.2)&&true))
noncomputable def law15_SlackLoads_1 (x0:Int×Int):Option Bool:=law15_SlackLoads_1_b lpK jnK law15_whole x0
abbrev t33:=(Int×Int)→Option (Bool)
noncomputable def law15_SlackLoads_b (lp:Lp) (jn:Jn) (slices_ContainsFunc_32:t32) (ratio_Add:t35) (slack_Taut:t19) (slack_Slack:t21) (law15_awake:t9) (law15_few:t10) (ref10_Valid:t13) (ratio_Sum:t27) (slices_Equal_29:t29) (ref10_Copy:t31) (law15_SlackLoads_1:t33) (x0:(List (ByteArray×Int))×List (ByteArray×(List (ByteArray×Int×Int×Int))×Bool)):Option Bool :=
 obind law15_awake fun (t:Bool)=>bif !t then some false else obind (law15_few x0 []) fun (t:Bool) =>
 let v5:Bool:=!t;
 let v6:Bool:=!v5;
 let v7:Bool:=!v6||v6;bif v7 then obind (bif v6 then ref10_Valid x0 else some false) fun (t:Bool)=>bif v7 then bif v5||v6 then bif bif v5 then true else !t then some true else
  obind (ref10_Copy x0) fun (t:List (ByteArray×Int)×List (ByteArray×List (ByteArray×Int×Int×Int)×Bool))=>obind (ref10_Copy x0) fun (t_1:List (ByteArray×Int)×List
  (ByteArray×List (ByteArray×Int×Int×Int)×Bool))=>lp (Int×PUnit) Bool (fun (again:Int×PUnit→Option Bool) (x:Int×PUnit)=>bif decide (x.1<(↑(List.length
  x0.1):Int)) then bif inB x.1 (List.length t.1) then none else none else obind (slack_Taut t) fun (t:List (Int×Int)×Int×PUnit) =>
 let v14:Bool:=!decide (t.2.1=0);
 let v15:Bool:=!v14;
 let v16:Bool:=!v15||v15;
 let v17:Bool:=bif v14 then true else !decide ((↑(List.length t.1):Int)=(↑(List.length x0.2):Int));
 let v18:Bool:=!v17;jn PUnit Bool (fun (_:PUnit)=>obind (slack_Taut x0) fun (t:List (Int×Int)×Int×PUnit) =>
 let v21:Bool:=decide (t.2.1=5);
 let v22:Bool:=!v21;
 let v23:Bool:=!decide (t.2.1=0);
 let v24:Bool:=!v23;obind (slack_Taut t_1) fun (t_2:List (Int×Int)×Int×PUnit) =>
 let v26:Bool:=bif v21 then true else decide (t_2.2.1=5);
 let v27:Bool:=!v26;
 let v28:Bool:=decide (t.2.1=t_2.2.1);
 let v29:Bool:=!v28||v28;bif !v22||v22 then bif v21||v22 then bif !v27||v27 then bif v26||v27 then bif bif v26 then true else decide (t_2.2.1=1) then some true
  else bif !v24||v24 then bif v23||v24 then bif bif v23 then true else !decide (t_2.2.1=0) then bif v29 then bif v29 then some (bif v28 then decide (t.2.1=(22 :
  Int)) else false) else none else none else obind (ratio_Sum t.1) fun (t:(Int×Int)×Int×PUnit) =>
 let v31:Bool:=!decide (t.2.1=0);
 let v32:Bool:=!v31;obind (ratio_Sum t_2.1) fun (t_3:(Int×Int)×Int×PUnit) =>
 let v34:Bool:=bif v31 then true else !decide (t_3.2.1=0);
 let v35:Bool:=!v34;obind (ratio_Add t.1 t.1) fun (t:(Int×Int)×Int×PUnit) =>
 let v37:Bool:=bif v34 then true else !decide (t.2.1=0);
 let v38:Bool:=!v37;
 let v39:Bool:=!v38||v38;bif !v32||v32 then bif v31||v32 then bif !v35||v35 then bif v34||v35 then bif v39&&v39 then bif v37||v38 then bif bif v37 then true else
  !(decide (t_3.1.1=t.1.1)&&(decide (t_3.1.2=t.1.2)&&true)) then some false else obind (slack_Slack x0) fun (t:List ByteArray×Int×PUnit) =>
 let v41:Bool:=!decide (t.2.1=0);
 let v42:Bool:=!v41;obind (slack_Slack t_1) fun (t_4:List ByteArray×Int×PUnit) =>
 let v44:Bool:=bif v41 then true else !decide (t_4.2.1=0);
 let v45:Bool:=!v44;
 let v46:Bool:=!v45||v45;bif !v42||v42 then bif v41||v42 then bif v46&&v46 then obind (bif v45 then slices_Equal_29 t.1 t_4.1 else some false) fun (t:Bool)=>bif v44 ||
  v45 then some (bif v44 then true else t) else none else none else none else none else none else none else none else none else none else none else none else none else none else none else
  none else none) fun (j:PUnit→Option Bool)=>bif !decide (t.2.1=5) then bif v16 then bif v16 then bif v16 then bif v16&&v16 then bif v14||v15 then bif !v18||v18
  then obind (bif v18 then slices_ContainsFunc_32 t.1 fun (x:(Int×Int)×PUnit)=>law15_SlackLoads_1 x.1 else some false) fun (t:Bool)=>bif v17||v18 then bif bif v17 then
  true else t then some false else j PUnit.unit else none else none else none else none else none else none else none else j PUnit.unit) (0,PUnit.unit) else none else none else
  none
noncomputable def law15_SlackLoads (x0:(List (ByteArray×Int))×List (ByteArray×(List (ByteArray×Int×Int×Int))×Bool)):Option Bool:=law15_SlackLoads_b lpK jnK slices_ContainsFunc_32 ratio_Add slack_Taut slack_Slack law15_awake law15_few ref10_Valid ratio_Sum slices_Equal_29 ref10_Copy law15_SlackLoads_1 x0
noncomputable def c5:Ctr:=⟨[T25],[],[],.one .bool,fun x _ _=>law15_SlackLoads x.1⟩
theorem e5 (lp:Lp) (jn:Jn) (slices_ContainsFunc_32:t32) (ratio_Add:t35) (slack_Taut:t19) (slack_Slack:t21) (law15_awake:t9) (law15_few:t10) (ref10_Valid:t13) (ratio_Sum:t27) (slices_Equal_29:t29) (ref10_Copy:t31) (law15_SlackLoads_1:t33):∀(x:TsS c5.as) (F:TsF c5.fs) (y:TsS c5.cs),law15_SlackLoads_b lp jn slices_ContainsFunc_32 ratio_Add slack_Taut slack_Slack law15_awake law15_few ref10_Valid ratio_Sum slices_Equal_29 ref10_Copy law15_SlackLoads_1 x.1=runC lp jn (cx [(33,⟨[T49],[],[],.one .bool,fun x _ _=>law15_SlackLoads_1 x.1⟩),(31,⟨[T25],[],[],.one T25,fun x _ _=>ref10_Copy x.1⟩),(29,k29 slices_Equal_29),(27,k27 ratio_Sum),(13,k13 ref10_Valid),(10,k10 law15_few),(9,k9 law15_awake),(21,k21 slack_Slack),(19,k19 slack_Taut),(35,k35 ratio_Add),(32,k32 slices_ContainsFunc_32)] [(134,r134)]) hints 4 5 f5 c5 x F y:=fun x F y=>by kernel_rfl
noncomputable def program_Farkas_b (lp:Lp) (jn:Jn) (program_Valid:t91) (program_fits:t108) (slices_Clone_134:t134) (program_table_start:t110) (program_table_artificial:t126) (program_table_part:t113) (x0:(List Int)×List ((List Int)×Int×Int)):Option ((List (Int×Int))×Int×Unit) :=
 obind (program_Valid x0) fun (t:Bool)=>bif !t then some ([],1,PUnit.unit) else obind (program_fits x0) fun (t:Bool)=>bif !t then some ([],5,PUnit.unit) else lp
  (Int×Int×PUnit) (List (Int×Int)×Int×PUnit) (fun (again:Int×Int×PUnit→Option (List (Int×Int)×Int×PUnit)) (x:Int×Int×PUnit) =>
 let v7:Int×PUnit:=(IntKind.wrap .i64 (x.2.1+1),PUnit.unit);
 let v8:Int:=IntKind.wrap .i64 ((↑(List.length x0.1):Int)+x.1);bif decide (x.2.1<(↑(List.length x0.2):Int)) then bif inB x.2.1 (List.length x0.2) then
  bif !decide ((List.getD x0.2 (Int.toNat x.2.1) ([],0,0)).2.1=3) then again (IntKind.wrap .i64 (x.1+1),v7) else again (x.1,
  v7) else none else obind (slices_Clone_134 x0.1) fun (t:List Int)=>lp (Int×Int×(List Nat×List (Option (List Int)))×Int×List Int×List Int×List Int×Int×Int ×
  PUnit) (List (Int×Int)×Int×PUnit) (fun (again:Int×Int×(List Nat×List (Option (List Int)))×Int×List Int×List Int×List Int×Int×Int×PUnit→Option (List (Int ×
  Int)×Int×PUnit)) (x:Int×Int×(List Nat×List (Option (List Int)))×Int×List Int×List Int×List Int×Int×Int×PUnit) =>
 let v12:Int:=IntKind.wrap .i64 (x.1+1);
 let v13:List Int×Int×Int:=List.getD x0.2 (Int.toNat x.2.1) ([],0,0);
 let v14:List Int:=List.replicate (Int.toNat (IntKind.wrap .i64 (x.2.2.2.2.2.2.2.2.1+1))) 0;
 let v15:Bool:=inB x.1 (Int.toNat (IntKind.wrap .i64 (x.2.2.2.2.2.2.2.2.1+1)));
 let v16:Bool:=Nat.ble (Nat.succ (Int.toNat x.1)) (Int.toNat (IntKind.wrap .i64 (x.2.2.2.2.2.2.2.2.1+1)));
 let v17:Int:=IntKind.wrap .i64 (x.2.2.2.2.2.2.2.1+x.2.1);
 let v18:List Int:=List.take (Int.toNat (IntKind.wrap .i64 (x.2.2.2.2.2.2.2.2.1+1))) v13.1;
 let v19:List Int:=List.set (List.take 0 v14++v18++List.drop (0+List.length v18) v14) (Int.toNat x.2.2.2.2.2.2.2.2.1) v13.2.2;bif decide
  (x.2.1<(↑(List.length x0.2):Int)) then bif inB x.2.1 (List.length x0.2) then bif decide (0≤IntKind.wrap .i64 (x.2.2.2.2.2.2.2.2.1+(1
  : Int)))&&fitB (Int.toNat (IntKind.wrap .i64 (x.2.2.2.2.2.2.2.2.1+1))) 8 then bif inB x.2.2.2.2.2.2.2.2.1 (Int.toNat
  (IntKind.wrap .i64 (x.2.2.2.2.2.2.2.2.1+1))) then bif Nat.ble (Nat.succ (Int.toNat x.2.2.2.2.2.2.2.2.1)) (Int.toNat (IntKind.wrap
  IntKind.i64 (x.2.2.2.2.2.2.2.2.1+1))) then jn (Int×List Int×PUnit) (List (Int×Int)×Int×PUnit) (fun (x_1:Int×List Int×PUnit) =>
 let v21:List Int×PUnit:=(x_1.2.1,PUnit.unit);jn (Int×List Int×PUnit) (List (Int×Int)×Int×PUnit) (fun (x_2:Int×List Int×PUnit)=>bif inB v17 (List.length
  x_2.2.1) then bif Nat.ble (Nat.succ (Int.toNat v17)) (List.length x_2.2.1) then bif fitB (List.length x.2.2.1.1+1) 24 then bif fitB (List.length
  x.2.2.2.2.2.1+1) 8 then bif fitB (List.length x.2.2.2.2.1+1) 8 then again (x_1.1,IntKind.wrap .i64 (x.2.1+(1 :
  Int)),(x.2.2.1.1++[List.length x.2.2.1.2+0],x.2.2.1.2++[some (List.set x_2.2.1 (Int.toNat v17) 1)]),x.2.2.2.1,
  x.2.2.2.2.1++[v17],x.2.2.2.2.2.1++[x_2.1],x.2.2.2.2.2.2.1,x.2.2.2.2.2.2.2.1,x.2.2.2.2.2.2.2.2.1,
  PUnit.unit) else none else none else none else none else none) fun (j:Int×List Int×PUnit→Option (List (Int×Int)×Int×PUnit))=>bif decide (v13.2.2<0) then lp
  (Int×List Int×PUnit) (List (Int×Int)×Int×PUnit) (fun (again:Int×List Int×PUnit→Option (List (Int×Int)×Int×PUnit)) (x:Int×List Int×PUnit) =>
 let v25:Bool:=inB x.1 (List.length x.2.1);
 let v26:Bool:=Nat.ble (Nat.succ (Int.toNat x.1)) (List.length x.2.1);bif decide (x.1<(↑(List.length x_1.2.1):Int)) then bif v25 then bif v26 then bif v25 then bif v26
  then again (IntKind.wrap .i64 (x.1+1),List.set x.2.1 (Int.toNat x.1) (IntKind.wrap .i64 (0 - List.getD x.2.1 (Int.toNat x.1) 0)),
  PUnit.unit) else none else none else none else none else j ((-1),x.2.1,PUnit.unit)) (0,v21) else j (1,v21)) fun (j:Int×List Int×PUnit→Option (List
  (Int×Int)×Int×PUnit))=>bif decide (v13.2.1=1) then bif v15 then bif v16 then j (v12,List.set v19 (Int.toNat x.1) 1,PUnit.unit) else none else none else
  jn (Int×List Int×PUnit) (List (Int×Int)×Int×PUnit) (fun (x:Int×List Int×PUnit)=>j (x.1,x.2.1,PUnit.unit)) fun (j:Int×List Int×PUnit→Option (List (Int ×
  Int)×Int×PUnit))=>bif decide (v13.2.1=2) then bif v15 then bif v16 then j (v12,List.set v19 (Int.toNat x.1) (-1),PUnit.unit) else none else none else j
  (x.1,v19,PUnit.unit) else none else none else none else none else obind (program_table_start x.2.2.1 x.2.2.2.1 x.2.2.2.2.1 x.2.2.2.2.2.1
  x.2.2.2.2.2.2.1 x.2.2.2.2.2.2.2.1 x.2.2.2.2.2.2.2.2.1) fun (y:(List Nat×List (Option (List Int)))×Int×List Int×List Int×List
  Int×Int×Int×Bool×PUnit)=>bif y.2.2.2.2.2.2.2.1 then some ([],12,PUnit.unit) else lp (List (Int×Int)×Int×PUnit) (List (Int×Int)×Int×PUnit)
  (fun (again:List (Int×Int)×Int×PUnit→Option (List (Int×Int)×Int×PUnit)) (x:List (Int×Int)×Int×PUnit)=>bif decide (x.2.1<(↑(List.length x0.2):Int))
  then bif inB x.2.1 (List.length y.2.2.2.1) then bif Nat.ble (Nat.succ (Int.toNat x.2.1)) (List.length y.2.2.2.1) then obind (bif List.all y.1.1 fun (x:Nat)
  =>liveB y.1.2 x then program_table_artificial (List.map (fun (x:Nat)=>rowD y.1.2 x) y.1.1,y.2.1,y.2.2.1,y.2.2.2.1,y.2.2.2.2.1,
  y.2.2.2.2.2.1,y.2.2.2.2.2.2.1) (IntKind.wrap .i64 (y.2.2.2.2.2.1+x.2.1)) else none) fun (t:Int)=>obind (bif List.all y.1.1
  fun (x:Nat)=>liveB y.1.2 x then program_table_part (List.map (fun (x:Nat)=>rowD y.1.2 x) y.1.1,y.2.1,y.2.2.1,y.2.2.2.1,y.2.2.2.2.1,
  y.2.2.2.2.2.1,y.2.2.2.2.2.2.1) (IntKind.wrap .i64 (List.getD y.2.2.2.1 (Int.toNat x.2.1) 0*t)) else none) fun (t:Int×Int) =>
  bif fitB (List.length x.1+1) 16 then again (x.1++[t],IntKind.wrap .i64 (x.2.1+1),PUnit.unit) else none else none else none else some
  (x.1,0,PUnit.unit)) ([],0,PUnit.unit)) ((↑(List.length x0.1):Int),0,([],[]),1,[],[],t,v8,IntKind.wrap .i64 (v8+(↑(List.length
  x0.2):Int)),PUnit.unit)) (0,0,PUnit.unit)
noncomputable def program_Farkas (x0:(List Int)×List ((List Int)×Int×Int)):Option ((List (Int×Int))×Int×Unit):=program_Farkas_b lpK jnK program_Valid program_fits slices_Clone_134 program_table_start program_table_artificial program_table_part x0
abbrev t83:=((List Int)×List ((List Int)×Int×Int))→Option ((List (Int×Int))×Int×Unit)
noncomputable def slack_Refute_b (_:Lp) (_:Jn) (slack_Program:t11) (program_Farkas:t83) (x0:(List (ByteArray×Int))×List (ByteArray×(List (ByteArray×Int×Int×Int))×Bool)):Option ((List (Int×Int))×Int×Unit) :=
 obind (slack_Program x0) fun (t:(List Int×List (List Int×Int×Int))×Int×PUnit)=>bif !decide (t.2.1=0) then some ([],t.2.1,PUnit.unit) else obind
  (program_Farkas t.1) fun (t:List (Int×Int)×Int×PUnit)=>some (t.1,t.2.1,PUnit.unit)
noncomputable def slack_Refute (x0:(List (ByteArray×Int))×List (ByteArray×(List (ByteArray×Int×Int×Int))×Bool)):Option ((List (Int×Int))×Int×Unit):=slack_Refute_b lpK jnK slack_Program program_Farkas x0
abbrev t36:=((List (ByteArray×Int))×List (ByteArray×(List (ByteArray×Int×Int×Int))×Bool))→Option ((List (Int×Int))×Int×Unit)
noncomputable def k36 (slack_Refute:t36):Ctr:=⟨[T25],[],[],.tup [(.sl T49),i64],fun x _ _=>slack_Refute x.1⟩
noncomputable def statics_given_1_b (_:Lp) (_:Jn) (ratio_Valid:t72) (x0:Int×Int):Option Bool :=
 obind (ratio_Valid x0) fun (t:Bool)=>some !t
noncomputable def statics_given_1 (x0:Int×Int):Option Bool:=statics_given_1_b lpK jnK ratio_Valid x0
abbrev t166:=(Int×Int)→Option (Bool)
noncomputable def statics_given_b (_:Lp) (_:Jn) (reeving_Matrix:t87) (slices_ContainsFunc_32:t32) (statics_given_1:t166) (x0:(List (ByteArray×Int))×List (ByteArray×(List (ByteArray×Int×Int×Int))×Bool)) (x1:List (Int×Int)):Option ((List (List Int))×Int×Unit) :=
 obind (reeving_Matrix x0) fun (t:List (List Int)×Int×PUnit)=>bif !decide (t.2.1=0) then some ([],t.2.1,PUnit.unit) else obind (slices_ContainsFunc_32 x1 fun (x :
  (Int×Int)×PUnit)=>statics_given_1 x.1) fun (t_1:Bool)=>bif t_1 then some ([],1,PUnit.unit) else bif !decide ((↑(List.length x1):Int)=(↑(List.length x0.2) :
  Int)) then some ([],3,PUnit.unit) else some (t.1,0,PUnit.unit)
noncomputable def statics_given (x0:(List (ByteArray×Int))×List (ByteArray×(List (ByteArray×Int×Int×Int))×Bool)) (x1:List (Int×Int)):Option ((List (List Int))×Int×Unit):=statics_given_b lpK jnK reeving_Matrix slices_ContainsFunc_32 statics_given_1 x0 x1
abbrev t127:=((List (ByteArray×Int))×List (ByteArray×(List (ByteArray×Int×Int×Int))×Bool))→(List (Int×Int))→Option ((List (List Int))×Int×Unit)
noncomputable def statics_of_b (_:Lp) (_:Jn) (x0:Int):Option (Int×Int) :=
 some (x0,1)
noncomputable def statics_of (x0:Int):Option (Int×Int):=statics_of_b lpK jnK x0
abbrev t128:=(Int)→Option (Int×Int)
noncomputable def statics_plus_b (_:Lp) (_:Jn) (ratio_Add:t35) (ratio_Mul:t146) (statics_of:t128) (x0:Int×Int) (x1:Int) (x2:Int×Int):Option ((Int×Int)×Int×Unit) :=
 obind (statics_of x1) fun (t:Int×Int)=>obind (ratio_Mul t x2) fun (t:(Int×Int)×Int×PUnit)=>bif !decide (t.2.1=0) then some ((0,0),t.2.1,
  PUnit.unit) else obind (ratio_Add x0 t.1) fun (t:(Int×Int)×Int×PUnit)=>some (t.1,t.2.1,PUnit.unit)
noncomputable def statics_plus (x0:Int×Int) (x1:Int) (x2:Int×Int):Option ((Int×Int)×Int×Unit):=statics_plus_b lpK jnK ratio_Add ratio_Mul statics_of x0 x1 x2
noncomputable def ratio_Sub_b (_:Lp) (_:Jn) (ratio_Valid:t72) (ratio_Add:t35) (x0:Int×Int) (x1:Int×Int):Option ((Int×Int)×Int×Unit) :=
 obind (ratio_Valid x0) fun (t:Bool) =>
 let v5:Bool:=!t;
 let v6:Bool:=!v5;
 let v7:Bool:=!v6||v6;bif v7 then obind (bif v6 then ratio_Valid x1 else some false) fun (t:Bool)=>bif v7 then bif v5||v6 then bif bif v5 then true else !t then some (((0 :
  Int),0),1,PUnit.unit) else obind (ratio_Add x0 (IntKind.wrap .i64 (0 - x1.1),x1.2)) fun (t:(Int×Int)×Int×PUnit)=>some (t.1,t.2.1,
  PUnit.unit) else none else none else none
noncomputable def ratio_Sub (x0:Int×Int) (x1:Int×Int):Option ((Int×Int)×Int×Unit):=ratio_Sub_b lpK jnK ratio_Valid ratio_Add x0 x1
noncomputable def statics_Residuals_b (_:Lp) (_:Jn) (statics_given:t127) (_:(Int)→Option (Int×Int)) (_:(Int×Int)→(Int)→(Int×Int)→Option ((Int×Int)×Int×Unit)) (_:(Int×Int)→(Int×Int)→Option ((Int×Int)×Int×Unit)) (x0:(List (ByteArray×Int))×List (ByteArray×(List (ByteArray×Int×Int×Int))×Bool)) (x1:List (Int×Int)):Option ((List (Int×Int))×Int×Unit) :=
 obind (statics_given x0 x1) fun (t:List (List Int)×Int×PUnit)=>bif !decide (t.2.1=0) then some ([],t.2.1,PUnit.unit) else none
noncomputable def statics_Residuals (x0:(List (ByteArray×Int))×List (ByteArray×(List (ByteArray×Int×Int×Int))×Bool)) (x1:List (Int×Int)):Option ((List (Int×Int))×Int×Unit):=statics_Residuals_b lpK jnK statics_given statics_of statics_plus ratio_Sub x0 x1
abbrev t84:=((List (ByteArray×Int))×List (ByteArray×(List (ByteArray×Int×Int×Int))×Bool))→(List (Int×Int))→Option ((List (Int×Int))×Int×Unit)
noncomputable def statics_Check_1_b (_:Lp) (_:Jn) (x0:Int×Int):Option Bool :=
 some !decide (x0.1=0)
noncomputable def statics_Check_1 (x0:Int×Int):Option Bool:=statics_Check_1_b lpK jnK x0
abbrev t85:=(Int×Int)→Option (Bool)
noncomputable def statics_Check_b (_:Lp) (_:Jn) (slices_ContainsFunc_32:t32) (statics_Residuals:t84) (statics_Check_1:t85) (x0:(List (ByteArray×Int))×List (ByteArray×(List (ByteArray×Int×Int×Int))×Bool)) (x1:List (Int×Int)):Option (Bool×Int×Unit) :=
 obind (statics_Residuals x0 x1) fun (t:List (Int×Int)×Int×PUnit)=>bif !decide (t.2.1=0) then some (false,t.2.1,PUnit.unit) else obind (slices_ContainsFunc_32
  t.1 fun (x:(Int×Int)×PUnit)=>statics_Check_1 x.1) fun (t:Bool)=>some (!t,0,PUnit.unit)
noncomputable def statics_Check (x0:(List (ByteArray×Int))×List (ByteArray×(List (ByteArray×Int×Int×Int))×Bool)) (x1:List (Int×Int)):Option (Bool×Int×Unit):=statics_Check_b lpK jnK slices_ContainsFunc_32 statics_Residuals statics_Check_1 x0 x1
abbrev t37:=((List (ByteArray×Int))×List (ByteArray×(List (ByteArray×Int×Int×Int))×Bool))→(List (Int×Int))→Option (Bool×Int×Unit)
noncomputable def k37 (statics_Check:t37):Ctr:=⟨[T25,(.sl T49)],[],[],.tup [.bool,i64],fun x _ _=>statics_Check x.1 x.2.1⟩
noncomputable def ref15_Positive_b (lp:Lp) (_:Jn) (x0:List (Int×Int)):Option Bool :=
 lp (Int×PUnit) Bool (fun (again:Int×PUnit→Option Bool) (x:Int×PUnit)=>bif decide (x.1<(↑(List.length x0):Int)) then bif inB x.1 (List.length x0) then bif decide
  ((List.getD x0 (Int.toNat x.1) (0,0)).1<0) then some false else again (IntKind.wrap .i64 (x.1+1),PUnit.unit) else none else some true)
  (0,PUnit.unit)
noncomputable def ref15_Positive (x0:List (Int×Int)):Option Bool:=ref15_Positive_b lpK jnK x0
abbrev t38:=(List (Int×Int))→Option (Bool)
noncomputable def k38 (ref15_Positive:t38):Ctr:=⟨[(.sl T49)],[],[],.one .bool,fun x _ _=>ref15_Positive x.1⟩
noncomputable def law15_SlackHolds_b (_:Lp) (_:Jn) (slack_Proves:t12) (slack_Taut:t19) (law15_awake:t9) (law15_few:t10) (slack_Refute:t36) (statics_Check:t37) (ref15_Positive:t38) (x0:(List (ByteArray×Int))×List (ByteArray×(List (ByteArray×Int×Int×Int))×Bool)):Option Bool :=
 obind law15_awake fun (t:Bool)=>bif !t then some false else obind (law15_few x0 []) fun (t:Bool)=>bif !t then some true else obind (slack_Taut x0) fun (t:List (Int×Int)×Int ×
  PUnit) =>
 let v6:Bool:=decide (t.2.1=1);
 let v7:Bool:=decide ((↑(List.length t.1):Int)=0);
 let v8:Bool:=!v7||v7;obind (slack_Refute x0) fun (t_1:List (Int×Int)×Int×PUnit) =>
 let v10:Bool:=bif v7 then decide (t_1.2.1=0) else false;
 let v11:Bool:=decide ((↑(List.length t_1.1):Int)=0);
 let v12:Bool:=bif v7 then decide (t_1.2.1=t.2.1) else false;
 let v13:Bool:=!v10||v10;
 let v14:Bool:=bif v12 then v11 else false;
 let v15:Bool:=!v14;
 let v16:Bool:=v14&&!v6;
 let v17:Bool:=!v12||v12;
 let v18:Bool:=v15||v14;bif decide (t.2.1=0) then obind (statics_Check x0 t.1) fun (t_2:Bool×Int×PUnit)=>obind (ref15_Positive t.1) fun (t:Bool) =>
 let v21:Bool:=!t||t;
 let v22:Bool:=bif t then decide (t_2.2.1=0) else false;
 let v23:Bool:=bif v22 then t_2.1 else false;
 let v24:Bool:=bif v23 then decide (t_1.2.1=12) else false;
 let v25:Bool:=!v23||v23;
 let v26:Bool:=!v24||v24;bif v21 then bif v21 then bif !v22||v22 then bif v25 then bif v25 then bif v26 then bif v26 then bif v26 then some (bif v24 then v11 else false) else none
  else none else none else none else none else none else none else none else bif decide (t.2.1=22) then obind (slack_Proves x0 t_1.1) fun (t:Bool×Int×PUnit) =>
 let v20:Bool:=bif v10 then decide (t.2.1=0) else false;bif v8 then bif v8 then bif v13 then bif v13 then bif !v20||v20 then some (bif v20 then t.1 else false) else
  none else none else none else none else none else bif v8&&v8 then bif v8 then bif v17 then bif v17 then bif v17 then bif v18 then bif v18 then bif !v16||v16 then bif (v15||v18) &&
  (v15||(v6||(v15||v16))) then bif v18 then some (bif v14 then bif v6 then true else decide (t.2.1=5) else false) else none else none else none else none else none
  else none else none else none else none else none
noncomputable def law15_SlackHolds (x0:(List (ByteArray×Int))×List (ByteArray×(List (ByteArray×Int×Int×Int))×Bool)):Option Bool:=law15_SlackHolds_b lpK jnK slack_Proves slack_Taut law15_awake law15_few slack_Refute statics_Check ref15_Positive x0
noncomputable def c6:Ctr:=⟨[T25],[],[],.one .bool,fun x _ _=>law15_SlackHolds x.1⟩
theorem e6 (lp:Lp) (jn:Jn) (slack_Proves:t12) (slack_Taut:t19) (law15_awake:t9) (law15_few:t10) (slack_Refute:t36) (statics_Check:t37) (ref15_Positive:t38):∀(x:TsS c6.as) (F:TsF c6.fs) (y:TsS c6.cs),law15_SlackHolds_b lp jn slack_Proves slack_Taut law15_awake law15_few slack_Refute statics_Check ref15_Positive x.1=runC lp jn (cx [(38,k38 ref15_Positive),(37,k37 statics_Check),(36,k36 slack_Refute),(10,k10 law15_few),(9,k9 law15_awake),(19,k19 slack_Taut),(12,k12 slack_Proves)] [(134,r134)]) hints 4 6 f6 c6 x F y:=fun x F y=>by kernel_rfl
noncomputable def slices_Index_86_b (lp:Lp) (_:Jn) (x0:List ByteArray) (x1:ByteArray):Option Int :=
 lp (Int×PUnit) Int (fun (again:Int×PUnit→Option Int) (x:Int×PUnit)=>bif decide (x.1<(↑(List.length x0):Int)) then bif inB x.1 (List.length x0) then bif List.beq
  (ByteArray.toList x1) (ByteArray.toList (List.getD x0 (Int.toNat x.1) { data:={ toList:=[] } })) then some x.1 else again (IntKind.wrap .i64 (x.1+1),
  PUnit.unit) else none else some (-1)) (0,PUnit.unit)
noncomputable def slices_Index_86 (x0:List ByteArray) (x1:ByteArray):Option Int:=slices_Index_86_b lpK jnK x0 x1
abbrev t86:=(List ByteArray)→(ByteArray)→Option (Int)
noncomputable def slices_Contains_40_b (_:Lp) (_:Jn) (slices_Index_86:t86) (x0:List ByteArray) (x1:ByteArray):Option Bool :=
 obind (slices_Index_86 x0 x1) fun (t:Int)=>some (decide (t≥0))
noncomputable def slices_Contains_40 (x0:List ByteArray) (x1:ByteArray):Option Bool:=slices_Contains_40_b lpK jnK slices_Index_86 x0 x1
abbrev t40:=(List ByteArray)→(ByteArray)→Option (Bool)
noncomputable def k40 (slices_Contains_40:t40):Ctr:=⟨[(.sl .str),.str],[],[],.one .bool,fun x _ _=>slices_Contains_40 x.1 x.2.1⟩
noncomputable def law15_SlackBounds_b (lp:Lp) (jn:Jn) (ratio_Cmp:t39) (slack_Proves:t12) (slack_Taut:t19) (slack_Least:t20) (slack_Slack:t21) (law15_awake:t9) (law15_few:t10) (ratio_Sum:t27) (slack_Refute:t36) (statics_Check:t37) (ref15_Positive:t38) (slices_Contains_40:t40) (x0:(List (ByteArray×Int))×List (ByteArray×(List (ByteArray×Int×Int×Int))×Bool)) (x1:List (Int×Int)) (x2:List (Int×Int)):Option Bool :=
 obind law15_awake fun (t:Bool)=>bif !t then some false else obind (law15_few x0 x1) fun (t:Bool) =>
 let v7:Bool:=!t;
 let v8:Bool:=!v7;
 let v9:Bool:=!v8||v8;bif v9 then bif v9 then bif v7||v8 then bif bif v7 then true else decide ((↑(List.length x2):Int)>10) then some true else obind (statics_Check x0
  x1) fun (t:Bool×Int×PUnit) =>
 let v11:Bool:=!decide (t.2.1=0);
 let v12:Bool:=!v11;
 let v13:Bool:=bif v11 then true else !t.1;
 let v14:Bool:=!v13;
 let v15:Bool:=!v14||v14;bif !v12||v12 then bif v11||v12 then bif v15 then obind (bif v14 then ref15_Positive x1 else some false) fun (t:Bool)=>bif v15 then bif v13||v14
  then bif bif v13 then true else !t then some true else obind (slack_Proves x0 x2) fun (t:Bool×Int×PUnit) =>
 let v18:Bool:=decide (t.2.1=0);bif !v18||v18 then bif bif v18 then t.1 else false then some false else obind (slack_Refute x0) fun (t:List (Int×Int)×Int ×
  PUnit) =>
 let v20:Bool:=!decide (t.2.1=12);
 let v21:Bool:=!v20||v20;bif v21 then bif v21 then bif bif v20 then !decide (t.2.1=5) else false then some false else obind (slack_Taut x0) fun (t:List (Int×Int) ×
  Int×PUnit)=>bif !decide (t.2.1=0) then some (decide (t.2.1=5)) else obind (ratio_Sum x1) fun (t_1:(Int×Int)×Int×PUnit) =>
 let v24:Bool:=decide (t_1.2.1=0);
 let v25:Bool:=!v24||v24;obind (ratio_Sum t.1) fun (t:(Int×Int)×Int×PUnit)=>bif v25 then bif v25 then jn PUnit Bool (fun (_:PUnit)=>obind (slack_Slack x0) fun (t :
  List ByteArray×Int×PUnit) =>
 let v29:Bool:=decide (t.2.1=0);
 let v30:Bool:=!v29||v29;lp (Int×PUnit) Bool (fun (again:Int×PUnit→Option Bool) (x:Int×PUnit) =>
 let v33:Bool:=inB x.1 (List.length x1);bif decide (x.1<(↑(List.length x0.2):Int)) then bif inB x.1 (List.length x0.2) then obind (slack_Least x0 (List.getD x0.2
  (Int.toNat x.1) ({ data:={ toList:=[] } },[],false)).1) fun (t_2:(Int×Int)×Int×PUnit) =>
 let v35:Bool:=!decide (t_2.2.1=0);
 let v36:Bool:=!v35;bif decide (t_2.2.1=5) then again (IntKind.wrap .i64 (x.1+1),PUnit.unit) else bif v33 then obind (ratio_Cmp t_2.1 (List.getD x1
  (Int.toNat x.1) (0,0))) fun (t_3:Int×Int×PUnit) =>
 let v38:Bool:=bif v35 then true else !decide (t_3.2.1=0);
 let v39:Bool:=!v38;bif !v36||v36 then bif v35||v36 then bif !v39||v39 then bif v38||v39 then bif bif v38 then true else decide (t_3.1>0) then some false else bif
  v30 then bif v30&&v30 then obind (bif v29 then slices_Contains_40 t.1 (List.getD x0.2 (Int.toNat x.1) ({ data:={ toList:=[] } },[],false)).1 else some false) fun (t :
  Bool) =>
 let v41:Bool:=bif v29 then t else false;
 let v42:Bool:=!v41;
 let v43:Bool:=v42||v41;bif v30 then bif v43&&(v43&&(v42||v33)) then bif v43 then bif v43 then bif v43 then bif v43 then bif bif v41 then !decide ((List.getD x1 (Int.toNat
  x.1) (0,0)).1=0) else false then some false else again (IntKind.wrap .i64 (x.1+1),PUnit.unit) else none else none else none else none
  else none else none else none else none else none else none else none else none else none else none else some true) (0,PUnit.unit)) fun (j:PUnit→Option Bool)=>bif bif v24
  then decide (t.2.1=0) else false then obind (ratio_Cmp t.1 t_1.1) fun (t:Int×Int×PUnit) =>
 let v29:Bool:=!decide (t.2.1=0);
 let v30:Bool:=!v29;bif !v30||v30 then bif v29||v30 then bif bif v29 then true else decide (t.1>0) then some false else j PUnit.unit else none else none else j
  PUnit.unit else none else none else none else none else none else none else none else none else none else none else none else none else none
noncomputable def law15_SlackBounds (x0:(List (ByteArray×Int))×List (ByteArray×(List (ByteArray×Int×Int×Int))×Bool)) (x1:List (Int×Int)) (x2:List (Int×Int)):Option Bool:=law15_SlackBounds_b lpK jnK ratio_Cmp slack_Proves slack_Taut slack_Least slack_Slack law15_awake law15_few ratio_Sum slack_Refute statics_Check ref15_Positive slices_Contains_40 x0 x1 x2
noncomputable def c7:Ctr:=⟨[T25,(.sl T49),(.sl T49)],[],[],.one .bool,fun x _ _=>law15_SlackBounds x.1 x.2.1 x.2.2.1⟩
theorem e7 (lp:Lp) (jn:Jn) (ratio_Cmp:t39) (slack_Proves:t12) (slack_Taut:t19) (slack_Least:t20) (slack_Slack:t21) (law15_awake:t9) (law15_few:t10) (ratio_Sum:t27) (slack_Refute:t36) (statics_Check:t37) (ref15_Positive:t38) (slices_Contains_40:t40):∀(x:TsS c7.as) (F:TsF c7.fs) (y:TsS c7.cs),law15_SlackBounds_b lp jn ratio_Cmp slack_Proves slack_Taut slack_Least slack_Slack law15_awake law15_few ratio_Sum slack_Refute statics_Check ref15_Positive slices_Contains_40 x.1 x.2.1 x.2.2.1=runC lp jn (cx [(40,k40 slices_Contains_40),(38,k38 ref15_Positive),(37,k37 statics_Check),(36,k36 slack_Refute),(27,k27 ratio_Sum),(10,k10 law15_few),(9,k9 law15_awake),(21,k21 slack_Slack),(20,k20 slack_Least),(19,k19 slack_Taut),(12,k12 slack_Proves),(39,k39 ratio_Cmp)] [(134,r134)]) hints 4 7 f7 c7 x F y:=fun x F y=>by kernel_rfl
end Go.Proofs.YtfknoaclabfdlaaGreat

namespace Go.Proofs.YtfknoaclabfdlaaGreat
namespace Dn
section
variable {T R α σ:Type}
theorem obind_some' {t:T} {k:T→Option R}:obind (some t) k=k t:=rfl
theorem loopF_eq {F:(α→Option R)→α→Option R} {g:α→Option R} (I:α→Prop) (μ:α→Nat)
  (h:∀x rec,I x→(∀y,I y→μ y<μ x→rec y=g y)→F rec x=g x):∀{n:Nat} {x:α},I x→μ x<n→loopF F n x=g x
 | 0,x,_,hn=>by omega
 | n+1,x,hx,hn=>by
  rw[loopF_succ]
  exact h x _ hx fun y hy hlt=>loopF_eq I μ h hy (by omega)
theorem lpK_loop {F:(α→Option R)→α→Option R} {g:α→Option R} (I:α→Prop) (μ:α→Nat)
  (h:∀x rec,I x→(∀y,I y→μ y<μ x→rec y=g y)→F rec x=g x) {x:α} (hx:I x) (hn:μ x<1180591620717411303424):lpK α R F x=g x:=loopF_eq I μ h hx hn
theorem jnK_eq' {j:α→Option R} {f:(α→Option R)→Option R}:jnK α R j f=f j:=rfl
theorem wrap_id {x:Int} (h1: -9223372036854775808≤x) (h2:x<9223372036854775808):IntKind.wrap .i64 x=x:=by
 rw[IntKind.wrap_i64];omega
def upF (b:Nat→σ→(σ→Option R)→Option R) (f:σ→Option R):Nat→Nat→σ→Option R
 | 0,_,s=>f s
 | k+1,i,s=>b i s (upF b f k (i+1))
theorem loopF_up {F:(α→Option R)→α→Option R} (n:Nat) (hn:n≤1180591620717411303423) (enc:Nat→σ→α) (b:Nat→σ→(σ→Option R)→Option R) (f:σ→Option R)
  (hb:∀again (i:Nat) s,i<n→F again (enc i s)=b i s (fun s'=>again (enc (i+1) s'))) (hf:∀again s,F again (enc n s)=f s) (s:σ) :
  loopF F K0 (enc 0 s)=upF b f n 0 s:=by
 have key:∀(k:Nat) (i:Nat) (m:Nat) (s:σ),i+k=n→k<m→loopF F m (enc i s)=upF b f k i s:=by
  intro k
  induction k with
  | zero =>
   intro i m s h1 h2
   obtain ⟨m,rfl⟩:∃m',m=m'+1:=⟨m - 1,by omega⟩
   have:i=n:=by omega
   subst this
   simp only[loopF_succ,hf,upF]
  | succ k ih =>
   intro i m s h1 h2
   obtain ⟨m,rfl⟩:∃m',m=m'+1:=⟨m - 1,by omega⟩
   simp only[loopF_succ,upF]
   rw[hb _ _ _ (by omega)]
   congr 1
   funext s'
   exact ih (i+1) m s' (by omega) (by omega)
 exact key n 0 K0 s (by omega) (by unfold K0;omega)
theorem inB_nat {i n:Nat}:inB (i:Int) n=decide (i<n):=by
 rw[Bool.eq_iff_iff,inB_iff,decide_eq_true_iff];omega
theorem inB_of {i:Int} {n:Nat} (h1:0≤i) (h2:i<n):inB i n=true:=inB_iff.2 ⟨h1,h2⟩
theorem nzB_of {n:Int} (h:n≠0):nzB n=true:=nzB_iff.2 h
theorem slB_of {lo hi:Int} {n:Nat} (h1:0≤lo) (h2:lo≤hi) (h3:hi≤n):slB lo hi n=true:=slB_iff.2 ⟨h1,h2,h3⟩
theorem fitB_of {n k:Nat} (h:n*k≤140737488355328):fitB n k=true:=fitB_iff.2 h
theorem ble_of {n m:Nat} (h:n≤m):Nat.ble n m=true:=by rw[Nat.ble_eq];exact h
theorem cT0 {α:Sort _} {c:Bool} (h:c=true) (a b:α):cond c a b=a:=by subst h;rfl
theorem cT {α:Sort _} (a b:α):cond true a b=a:=cT0 (Eq.trans rfl rfl) a b
theorem cF0 {α:Sort _} {c:Bool} (h:c=false) (a b:α):cond c a b=b:=by subst h;rfl
theorem cF {α:Sort _} (a b:α):cond false a b=b:=cF0 (Eq.trans rfl rfl) a b
theorem or_self_not {b:Bool}:(b||!b)=true:=by cases b<;>rfl
theorem not_or_self' {b:Bool}:(!b||b)=true:=by cases b<;>rfl
theorem bif_false' {b:Bool} {c:Bool}:(bif b then c else false)=(b&&c):=by cases b<;>rfl
theorem bif_true' {b:Bool} {c:Bool}:(bif b then true else c)=(b||c):=by cases b<;>rfl
theorem getD_nat {l:List α} {d:α} {i:Nat} (h:i<l.length):l.getD i d=l[i]:=by simp[List.getD,h]
end
end Dn
end Go.Proofs.YtfknoaclabfdlaaGreat

namespace Go.Proofs.YtfknoaclabfdlaaGreat
open Tryz Dn Dn.Sh
theorem str_beq (a b:ByteArray):List.beq (ByteArray.toList a) (ByteArray.toList b)=decide (a=b):=by
 show (a.toList ==b.toList)=_
 rw[ByteArray.toList_eq,ByteArray.toList_eq,Bool.eq_iff_iff,decide_eq_true_iff,beq_iff_eq]
 exact ⟨fun h=>ByteArray.ext (Array.toList_inj.mp h),fun h=>by rw[h]⟩
theorem lpK_some {α R:Type} {F:(α→Option R)→α→Option R} (I:α→Prop) (μ:α→Nat) (h:∀x rec,I x→(∀y,I y→μ y<μ x→(rec y).isSome=true)→(F rec x).isSome=true) {x:α} (hx:I x) (hn:μ x<1180591620717411303424):(lpK α R F x).isSome=true:=by
 have key:∀n x,I x→μ x<n→(loopF F n x).isSome=true:=by
  intro n
  induction n with
  | zero=>intro x _ h;omega
  | succ n ih =>
   intro x hx hn
   rw[loopF_succ]
   exact h x _ hx fun y hy hlt=>ih y hy (by omega)
 exact key _ x hx hn
theorem letter_same:decimal_letter=ref01_Letter:=by
 funext c
 rfl
theorem digit_same:decimal_digit=ref01_Digit:=by
 funext c
 rfl
theorem letter_some (c:Int):∃b,decimal_letter c=some b:=by
 simp only[decimal_letter,decimal_letter_b,not_or_self',or_self_not,cond_true]
 cases decide (c≥97)<;>cases decide (c≤122)<;>cases decide (c≥65)<;>exact ⟨_,rfl⟩
theorem digit_some (c:Int):∃b,decimal_digit c=some b:=by
 simp only[decimal_digit,decimal_digit_b,not_or_self',cond_true]
 exact ⟨_,rfl⟩
theorem word_some {s:ByteArray} (h:s.size≤1000000):∃n,decimal_word s=some n:=by
 rw[←Option.isSome_iff_exists]
 simp only[decimal_word,decimal_word_b]
 refine lpK_some (I:=fun (x:Int×PUnit)=>0≤x.1∧x.1≤s.size) (μ:=fun (x:Int×PUnit)=>((s.size:Int) - x.1).toNat) (x:=((0:Int),PUnit.unit)) ?_ ⟨Int.le_refl _,by simp only;omega⟩ (by simp only;omega)
 rintro ⟨i,_⟩ rec ⟨h0,h1⟩ hrec
 simp only at h0 h1 ⊢
 by_cases hi:i<s.size
 ·rw[inB_of h0 hi,decide_eq_true hi]
  obtain ⟨b,hb⟩:=letter_some (byteAt s i.toNat)
  obtain ⟨c,hc⟩:=digit_some (byteAt s i.toNat)
  have hw:IntKind.wrap .i64 (i+1)=i+1:=wrap_id (by omega) (by omega)
  have hr:=hrec (i+1,PUnit.unit) ⟨by simp only;omega,by simp only;omega⟩ (by simp only;omega)
  simp only[hb,hc,hw]
  cases b<;>cases c<;>cases decide (byteAt s i.toNat=95)<;>simp[obind_some',hr]
 ·rw[decide_eq_false hi]
  simp[obind_some']
theorem word_same (s:ByteArray):ref01_word s 0=decimal_word s:=by
 simp only[ref01_word,ref01_word_b,decimal_word,decimal_word_b,letter_same,digit_same]
noncomputable def nameB (s:ByteArray):Bool:=decide (0<s.size)&&(decide (s.size≤20)&&((decimal_letter (byteAt s 0)).getD false&&decide ((decimal_word s).getD 0=(s.size:Int))))
theorem empty_iff (s:ByteArray):s={ data:=#[] }↔s.size=0:=by
 constructor
 ·intro h;rw[h];rfl
 ·intro h
  apply ByteArray.ext
  exact Array.eq_empty_of_size_eq_zero h
theorem isName_ok (s:ByteArray):decimal_IsName s=some (nameB s):=by
 simp only[decimal_IsName,decimal_IsName_b,str_beq,not_or_self',Bool.and_self,cond_true]
 unfold nameB
 by_cases h0:s.size=0
 ·have e:decide (s={ data:=#[] })=true:=decide_eq_true ((empty_iff s).2 h0)
  simp[e,h0,obind_some']
 ·have e:decide (s={ data:=#[] })=false:=decide_eq_false fun h=>h0 ((empty_iff s).1 h)
  by_cases h1:s.size≤20
  ·obtain ⟨b,hb⟩:=letter_some (byteAt s 0)
   obtain ⟨n,hn⟩:=word_some (s:=s) (by omega)
   have h2:decide ((s.size:Int)≤20)=true:=decide_eq_true (by omega)
   rw[inB_of (show (0:Int)≤0 by omega) (show (0:Int)<s.size by omega)]
   simp only[e,h2,hb,hn]
   cases b<;>simp[obind_some',h1,show 0<s.size by omega]
  ·have h2:decide ((s.size:Int)≤20)=false:=decide_eq_false (by omega)
   simp[e,h2,h1,obind_some']
theorem refIsName_ok (s:ByteArray):ref01_IsName s=some (nameB s):=by
 simp only[ref01_IsName,ref01_IsName_b,not_or_self',or_self_not,cond_true]
 unfold nameB
 by_cases h0:s.size=0
 ·simp[h0,obind_some']
 ·have e:decide ((s.size:Int)=0)=false:=decide_eq_false (by omega)
  by_cases h1:s.size≤20
  ·obtain ⟨b,hb⟩:=letter_some (byteAt s 0)
   obtain ⟨n,hn⟩:=word_some (s:=s) (by omega)
   have h2:decide ((s.size:Int)>20)=false:=decide_eq_false (by omega)
   rw[inB_of (show (0:Int)≤0 by omega) (show (0:Int)<s.size by omega),word_same]
   simp only[e,h2,←letter_same,hb,hn]
   cases b<;>simp[obind_some',h1,show 0<s.size by omega]
  ·have h2:decide ((s.size:Int)>20)=true:=decide_eq_true (by omega)
   simp[h2,h1,obind_some']
end Go.Proofs.YtfknoaclabfdlaaGreat

namespace Go.Proofs.YtfknoaclabfdlaaGreat
namespace Dn
abbrev Fq:=Int×Int
def okF (a:Fq):Prop:=(1≤a.2∧a.2≤1152921504606846976)∧(-1152921504606846976≤a.1∧a.1≤1152921504606846976)∧Nat.gcd a.1.natAbs a.2.natAbs=1
instance (a:Fq):Decidable (okF a):=by unfold okF;infer_instance
def qv (a:Fq):Rat:=mkRat a.1 a.2.toNat
def fitsQ (q:Rat):Prop:=q.num.natAbs≤1152921504606846976∧q.den≤1152921504606846976
instance (q:Rat):Decidable (fitsQ q):=by unfold fitsQ;infer_instance
def prQ (q:Rat):Fq:=(q.num,(q.den:Int))
def fitQ (q:Rat):Fq×Int×Unit:=if fitsQ q then (prQ q,0,()) else ((0,0),5,())
theorem okF_num {a:Fq} (h:okF a):(qv a).num=a.1:=by
 obtain ⟨⟨h1,h2⟩,_,h3⟩:=h
 have h0:a.2.toNat≠0:=by omega
 have h4:Nat.gcd a.2.toNat a.1.natAbs=1:=by rw[Nat.gcd_comm,show a.2.toNat=a.2.natAbs by omega];exact h3
 rw[qv,Rat.num_mkRat,if_neg h0,h4]
 simp
theorem okF_den {a:Fq} (h:okF a):((qv a).den:Int)=a.2:=by
 obtain ⟨⟨h1,h2⟩,_,h3⟩:=h
 have h0:a.2.toNat≠0:=by omega
 have h4:Nat.gcd a.2.toNat a.1.natAbs=1:=by rw[Nat.gcd_comm,show a.2.toNat=a.2.natAbs by omega];exact h3
 rw[qv,Rat.den_mkRat,if_neg h0,h4]
 simp;omega
theorem qv_prQ (q:Rat):qv (prQ q)=q:=by
 unfold qv prQ
 simp only[Int.toNat_natCast]
 exact Rat.mkRat_self q
theorem okF_prQ {q:Rat} (h:fitsQ q):okF (prQ q):=by
 obtain ⟨h1,h2⟩:=h
 have:=q.den_pos
 refine ⟨⟨?_,?_⟩,⟨?_,?_⟩,?_⟩
 ·simp only[prQ];omega
 ·simp only[prQ];omega
 ·simp only[prQ];omega
 ·simp only[prQ];omega
 ·simp only[prQ]
  rw[Int.natAbs_natCast]
  exact q.reduced
theorem fitQ_cases (q:Rat):(fitsQ q∧fitQ q=(prQ q,0,()))∨(¬ fitsQ q∧fitQ q=((0,0),5,())):=by
 unfold fitQ
 by_cases h:fitsQ q
 ·exact .inl ⟨h,by rw[if_pos h]⟩
 ·exact .inr ⟨h,by rw[if_neg h]⟩
theorem qv_int (n:Int):qv (n,1)=(n:Rat):=by
 show mkRat n 1=(n:Rat)
 rw[Rat.mkRat_eq_div]
 show (n:Rat) / ((1:Nat):Rat)=n
 rw[show ((1:Nat):Rat)=1 from rfl]
 grind
theorem okF_int {n:Int} (h1: -1152921504606846976≤n) (h2:n≤1152921504606846976):okF (n,1):=⟨⟨by simp,by simp⟩,⟨h1,h2⟩,by simp⟩
theorem okF_nonneg {a:Fq} (h:okF a):0≤qv a↔0≤a.1:=by rw[←Rat.num_nonneg,okF_num h]
theorem okF_zero {a:Fq} (h:okF a):qv a=0↔a.1=0:=by rw[←Rat.num_eq_zero,okF_num h]
theorem okF_neg {a:Fq} (h:okF a):qv a<0↔a.1<0:=by
 rw[←Rat.not_le,okF_nonneg h];omega
theorem okF_le {a b:Fq} (ha:okF a) (hb:okF b):qv a≤qv b↔a.1*b.2≤b.1*a.2:=by
 rw[Rat.le_iff,okF_num ha,okF_num hb,okF_den ha,okF_den hb]
theorem okF_lt {a b:Fq} (ha:okF a) (hb:okF b):qv a<qv b↔a.1*b.2<b.1*a.2:=by
 rw[Rat.lt_iff,okF_num ha,okF_num hb,okF_den ha,okF_den hb]
def sgn (s:Bool) (n:Nat):Int:=if s then -(n:Int) else n
theorem mkQ_low {s:Bool} {n d:Nat} (hd:0<d) (hc:Nat.gcd n d=1):(mkRat (sgn s n) d).num=sgn s n∧(mkRat (sgn s n) d).den=d:=by
 have h0:d≠0:=by omega
 have ha:(sgn s n).natAbs=n:=by unfold sgn;split<;>simp
 have hg:Nat.gcd d (sgn s n).natAbs=1:=by rw[ha,Nat.gcd_comm];exact hc
 rw[Rat.num_mkRat,Rat.den_mkRat,if_neg h0,if_neg h0,hg]
 simp
theorem mkQ_div {s:Bool} {n d:Nat} (hd:0<d):mkRat (sgn s n) d=mkRat (sgn s (n / Nat.gcd n d)) (d / Nat.gcd n d)∧0<d / Nat.gcd n d∧Nat.gcd (n / Nat.gcd n d) (d / Nat.gcd n d)=1:=by
 have hg:0<Nat.gcd n d:=Nat.gcd_pos_of_pos_right _ hd
 have h1:n / Nat.gcd n d*Nat.gcd n d=n:=Nat.div_mul_cancel (Nat.gcd_dvd_left n d)
 have h2:d / Nat.gcd n d*Nat.gcd n d=d:=Nat.div_mul_cancel (Nat.gcd_dvd_right n d)
 refine ⟨?_,Nat.div_pos (Nat.le_of_dvd hd (Nat.gcd_dvd_right n d)) hg,Nat.gcd_div_gcd_div_gcd_of_pos_right hd⟩
 have h3:sgn s n=sgn s (n / Nat.gcd n d)*(Nat.gcd n d:Int):=by
  unfold sgn
  split
  ·rw[Int.neg_mul,←Int.natCast_mul,h1]
  ·rw[←Int.natCast_mul,h1]
 have h4:mkRat (sgn s n) d=mkRat (sgn s (n / Nat.gcd n d)*(Nat.gcd n d:Int)) (d / Nat.gcd n d*Nat.gcd n d):=by rw[←h3,h2]
 rw[h4]
 exact Rat.mkRat_mul_right (by omega)
theorem mkQ_congr {s:Bool} {n d m e:Nat} (hd:0<d) (he:0<e) (h:n*e=m*d):mkRat (sgn s n) d=mkRat (sgn s m) e:=by
 rw[Rat.mkRat_eq_iff (by omega) (by omega)]
 unfold sgn
 split
 ·rw[Int.neg_mul,Int.neg_mul,←Int.natCast_mul,←Int.natCast_mul,h]
 ·rw[←Int.natCast_mul,←Int.natCast_mul,h]
theorem fit_low {s:Bool} {n d:Nat} (hd:0<d) (hc:Nat.gcd n d=1):fitQ (mkRat (sgn s n) d)=if n≤1152921504606846976∧d≤1152921504606846976 then ((sgn s n,(d:Int)),0,()) else ((0,0),5,()):=by
 obtain ⟨h1,h2⟩:=mkQ_low (s:=s) hd hc
 have ha:(sgn s n).natAbs=n:=by unfold sgn;split<;>simp
 unfold fitQ
 have e:fitsQ (mkRat (sgn s n) d)↔n≤1152921504606846976∧d≤1152921504606846976:=by unfold fitsQ;rw[h1,h2,ha]
 have e2:prQ (mkRat (sgn s n) d)=(sgn s n,(d:Int)):=by unfold prQ;rw[h1,h2]
 rw[e2]
 by_cases h:n≤1152921504606846976∧d≤1152921504606846976
 ·rw[if_pos h,if_pos (e.2 h)]
 ·rw[if_neg h,if_neg (fun hh=>h (e.1 hh))]
theorem size_sgn (n:Int):n=sgn (decide (n<0)) n.natAbs:=by
 unfold sgn
 by_cases h:n<0
 ·simp[h];omega
 ·simp[h];omega
theorem okF_mkQ (a:Fq):qv a=mkRat (sgn (decide (a.1<0)) a.1.natAbs) a.2.toNat:=by
 unfold qv
 rw[←size_sgn]
theorem mul_sgn {s t:Bool} {m n:Nat}:sgn s m*sgn t n=sgn (s !=t) (m*n):=by
 unfold sgn
 cases s<;>cases t<;>simp[Int.neg_mul,Int.mul_neg]
theorem mkQ_mul {s t:Bool} {m n d e:Nat}:mkRat (sgn s m) d*mkRat (sgn t n) e=mkRat (sgn (s !=t) (m*n)) (d*e):=by
 rw[Rat.mkRat_mul_mkRat,mul_sgn]
theorem sgn_zero (s t:Bool):sgn s 0=sgn t 0:=by unfold sgn;cases s<;>cases t<;>rfl
end Dn
end Go.Proofs.YtfknoaclabfdlaaGreat

namespace Go.Proofs.YtfknoaclabfdlaaGreat
open Tryz Dn Dn.Sh
theorem u_wrap {x:Int} (h1:0≤x) (h2:x<18446744073709551616):IntKind.wrap .u64 x=x:=by
 rw[IntKind.wrap_u64];omega
theorem size_ok {x:Int} (h1: -9223372036854775808≤x) (h2:x<9223372036854775808):ratio_size x=some (x.natAbs:Int):=by
 simp only[ratio_size,ratio_size_b]
 by_cases h:x<0
 ·simp only[h,decide_true,cond_true]
  rw[IntKind.wrap_u64,IntKind.wrap_u64]
  congr 1;omega
 ·simp only[h,decide_false,cond_false]
  rw[u_wrap (by omega) (by omega)]
  congr 1;omega
theorem gcd_ok (m n:Nat) (hn:n<18446744073709551616):ratio_gcd (m:Int) (n:Int)=some ((Nat.gcd m n:Nat):Int):=by
 simp only[ratio_gcd,ratio_gcd_b]
 refine lpK_loop (g:=fun x=>some ((Nat.gcd x.1.toNat x.2.1.toNat:Nat):Int)) (I:=fun (x:Int×Int×PUnit)=>0≤x.1∧0≤x.2.1) (μ:=fun (x:Int×Int×PUnit)=>x.2.1.toNat) (x:=((m:Int),(n:Int),PUnit.unit)) ?_ ⟨Int.natCast_nonneg _,Int.natCast_nonneg _⟩ (by simp only;omega)
 rintro ⟨a,b,_⟩ rec ⟨h1,h2⟩ hrec
 simp only at h1 h2 ⊢
 by_cases hb:b=0
 ·subst hb
  simp only[decide_true,Bool.not_true,cond_false,Int.toNat_zero,Nat.gcd_zero_right]
  congr 1;omega
 ·rw[decide_eq_false hb,nzB_of hb,Int.tmod_eq_emod_of_nonneg h1]
  simp only[Bool.not_false,cT]
  have h3:0≤a % b:=Int.emod_nonneg _ hb
  have h4:a % b<b:=Int.emod_lt_of_pos _ (by omega)
  rw[hrec _ ⟨by simp only;omega,by simp only;omega⟩ (by simp only;omega)]
  simp only
  congr 2
  rw[Int.toNat_emod h1 h2,Nat.gcd_comm a.toNat,Nat.gcd_rec b.toNat a.toNat,Nat.gcd_comm]
theorem signed_ok (s:Bool) (n d:Nat) (h1:n<18446744073709551616) (h2:d<18446744073709551616) :
  ratio_signed s (n:Int) (d:Int)=some (if n≤1152921504606846976∧d≤1152921504606846976 then ((sgn s n,(d:Int)),0,()) else ((0,0),5,())):=by
 simp only[ratio_signed,ratio_signed_b,not_or_self',or_self_not,cond_true]
 by_cases hn:n≤1152921504606846976
 ·by_cases hd:d≤1152921504606846976
  ·have e1:decide ((n:Int)>1152921504606846976)=false:=decide_eq_false (by omega)
   have e2:decide ((d:Int)>1152921504606846976)=false:=decide_eq_false (by omega)
   rw[wrap_id (x:=(n:Int)) (by omega) (by omega),wrap_id (x:=(d:Int)) (by omega) (by omega),wrap_id (x:=0 - (n:Int)) (by omega) (by omega)]
   simp only[e1,e2,cond_false,hn,hd,and_self,if_true]
   cases s<;>simp[sgn]
  ·have e2:decide ((d:Int)>1152921504606846976)=true:=decide_eq_true (by omega)
   simp only[e2,bif_true',Bool.or_true,cond_true,hd,and_false,if_false]
 ·have e1:decide ((n:Int)>1152921504606846976)=true:=decide_eq_true (by omega)
  simp only[e1,cond_true,hn,false_and,if_false]
theorem tdiv_nat (m n:Nat):Int.tdiv (m:Int) (n:Int)=((m / n:Nat):Int):=by
 rw[Int.tdiv_eq_ediv_of_nonneg (by omega)]
 rfl
theorem Valid_ok {a:Fq}:ratio_Valid a=some (decide (okF a)):=by
 simp only[ratio_Valid,ratio_Valid_b,not_or_self',Bool.and_self,cond_true,bif_false']
 unfold okF
 by_cases h1:1≤a.2
 ·by_cases h2:a.2≤1152921504606846976
  ·by_cases h3: -1152921504606846976≤a.1
   ·by_cases h4:a.1≤1152921504606846976
    ·have e:IntKind.wrap .u64 a.2=((a.2.natAbs:Nat):Int):=by rw[u_wrap (by omega) (by omega)];omega
     simp only[ge_iff_le,h1,h2,h3,h4,decide_true,Bool.and_self,cond_true]
     rw[size_ok (by omega) (by omega),obind_some',e,gcd_ok _ _ (by omega),obind_some']
     congr 1
     rw[Bool.eq_iff_iff]
     simp only[Bool.true_and,decide_eq_true_eq,true_and]
     generalize Nat.gcd a.1.natAbs a.2.natAbs=g
     omega
    ·simp[obind_some',h4]
   ·simp[obind_some',h3]
  ·simp[obind_some',h2]
 ·simp[obind_some',h1]
end Go.Proofs.YtfknoaclabfdlaaGreat

namespace Go.Proofs.YtfknoaclabfdlaaGreat
open Tryz Dn Dn.Sh
theorem land32 {x:Int} (h1:0≤x) (h2:x<18446744073709551616):((Nat.land (Int.toNat (x % Int.ofNat 18446744073709551616)) (Int.toNat ((4294967295:Int) % Int.ofNat 18446744073709551616)):Nat):Int)=x % 4294967296:=by
 have e1:x % Int.ofNat 18446744073709551616=x:=Int.emod_eq_of_lt h1 h2
 have e2:Int.toNat ((4294967295:Int) % Int.ofNat 18446744073709551616)=2 ^ 32 - 1:=by decide
 rw[e1,e2]
 have:Nat.land x.toNat (2 ^ 32 - 1)=x.toNat % 2 ^ 32:=Nat.and_two_pow_sub_one_eq_mod x.toNat 32
 rw[this]
 omega
def hl (n:Nat):Int×Int:=(((n / 18446744073709551616:Nat):Int),((n % 18446744073709551616:Nat):Int))
theorem mulW {x y:Int} (x0:0≤x) (x1:x<18446744073709551616) (y0:0≤y) (y1:y<18446744073709551616):bits_Mul64 x y=some (x*y / 18446744073709551616,x*y % 18446744073709551616,()):=by
 have p32:(2:Int) ^ (32:Nat)=4294967296:=by decide
 simp only[bits_Mul64,bits_Mul64_b,p32,show decide ((0:Int)≤32)=true from rfl,cond_true]
 obtain ⟨a,b,ha,hb,hx⟩:∃a b,a=x / 4294967296∧b=x % 4294967296∧x=a*4294967296+b:=⟨_,_,rfl,rfl,by omega⟩
 obtain ⟨c,d,hc,hd,hy⟩:∃c d,c=y / 4294967296∧d=y % 4294967296∧y=c*4294967296+d:=⟨_,_,rfl,rfl,by omega⟩
 have fd:∀n:Int,Int.fdiv n 4294967296=n / 4294967296:=fun n=>Int.fdiv_eq_ediv_of_nonneg n (by omega)
 rw[land32 x0 x1,land32 y0 y1,←hb,←hd]
 simp only[fd,←ha,←hc]
 have a0:0≤a∧a≤4294967295:=by omega
 have b0:0≤b∧b≤4294967295:=by omega
 have c0:0≤c∧c≤4294967295:=by omega
 have d0:0≤d∧d≤4294967295:=by omega
 have mb:∀{m n:Int},0≤m∧m≤4294967295→0≤n∧n≤4294967295→0≤m*n∧m*n≤18446744065119617025:=fun {m n} hm hn=>⟨Int.mul_nonneg hm.1 hn.1,Int.le_trans (Int.mul_le_mul hm.2 hn.2 hn.1 (by omega)) (by decide)⟩
 have e1:=mb a0 c0
 have e2:=mb a0 d0
 have e3:=mb b0 c0
 have e4:=mb b0 d0
 have hxy:x*y=a*c*18446744073709551616+(a*d+b*c)*4294967296+b*d:=by rw[hx,hy];grind
 rw[IntKind.wrap_u64 (x*y)]
 rw[hxy]
 rw[u_wrap (x:=b) (by omega) (by omega),u_wrap (x:=d) (by omega) (by omega)]
 rw[u_wrap (x:=b*d) (by omega) (by omega),u_wrap (x:=a*d) (by omega) (by omega),u_wrap (x:=b*c) (by omega) (by omega),u_wrap (x:=a*c) (by omega) (by omega)]
 generalize b*d=bd at *
 generalize a*d=ad at *
 generalize b*c=bc at *
 generalize a*c=ac at *
 rw[u_wrap (x:=ad+bd / 4294967296) (by omega) (by omega)]
 generalize ht:ad+bd / 4294967296=t
 rw[land32 (by omega) (by omega)]
 rw[u_wrap (x:=t % 4294967296) (by omega) (by omega)]
 rw[u_wrap (x:=t % 4294967296+bc) (by omega) (by omega),u_wrap (x:=ac+t / 4294967296) (by omega) (by omega)]
 rw[u_wrap (x:=ac+t / 4294967296+(t % 4294967296+bc) / 4294967296) (by omega) (by omega)]
 congr 1
 ext
 ·simp only;omega
 ·rfl
theorem product_ok {m n:Nat} (hm:m<18446744073709551616) (hn:n<18446744073709551616):ratio_product (m:Int) (n:Int)=some (hl (m*n)):=by
 simp only[ratio_product,ratio_product_b]
 rw[mulW (by omega) (by omega) (by omega) (by omega),obind_some',←Int.natCast_mul]
 rfl
theorem hl_small {n:Nat} (h:n<18446744073709551616):hl n=(0,(n:Int)):=by
 unfold hl
 rw[Nat.div_eq_of_lt h,Nat.mod_eq_of_lt h]
 rfl
theorem hl_big {n:Nat} (h:¬ n<18446744073709551616):(hl n).1>0:=by
 unfold hl
 simp only
 omega
theorem Mul_ok {a b:Fq} (ha:okF a) (hb:okF b):ratio_Mul a b=some (fitQ (qv a*qv b)):=by
 simp only[ratio_Mul,ratio_Mul_b,Valid_ok,ha,hb,decide_true,obind_some',Bool.not_true,Bool.not_false,Bool.and_self,cond_true,cond_false,not_or_self',or_self_not]
 have ha':=ha
 have hb':=hb
 obtain ⟨⟨a1,a2⟩,⟨a3,a4⟩,a5⟩:=ha'
 obtain ⟨⟨b1,b2⟩,⟨b3,b4⟩,b5⟩:=hb'
 rw[okF_mkQ a,okF_mkQ b,mkQ_mul]
 obtain ⟨d,hd⟩:∃d:Nat,a.2=(d:Int):=⟨a.2.toNat,by omega⟩
 obtain ⟨e,he⟩:∃e:Nat,b.2=(e:Int):=⟨b.2.toNat,by omega⟩
 rw[size_ok (by omega) (by omega),size_ok (by omega) (by omega)]
 simp only[obind_some',hd,he,Int.toNat_natCast] at *
 rw[u_wrap (x:=(d:Int)) (by omega) (by omega),u_wrap (x:=(e:Int)) (by omega) (by omega),gcd_ok _ _ (by omega),obind_some',gcd_ok _ _ (by omega),obind_some']
 have sa:a.1.natAbs≤1152921504606846976:=by omega
 have sb:b.1.natAbs≤1152921504606846976:=by omega
 have za:a.1=0↔a.1.natAbs=0:=by omega
 have zb:b.1=0↔b.1.natAbs=0:=by omega
 have hlt:decide (a.1<0)=true→a.1.natAbs≠0:=fun h=>by have:=of_decide_eq_true h;omega
 rw[Int.natAbs_natCast] at a5 b5
 generalize a.1.natAbs=m at *
 generalize b.1.natAbs=n at *
 generalize decide (a.1<0)=s at *
 generalize decide (b.1<0)=t at *
 have hd0:0<d:=by omega
 have he0:0<e:=by omega
 have hg:0<Nat.gcd m e:=Nat.gcd_pos_of_pos_right _ he0
 have hh:0<Nat.gcd n d:=Nat.gcd_pos_of_pos_right _ hd0
 rw[nzB_of (show ((Nat.gcd m e:Nat):Int)≠0 by omega),nzB_of (show ((Nat.gcd n d:Nat):Int)≠0 by omega)]
 simp only[cond_true,tdiv_nat]
 have m1:m / Nat.gcd m e*Nat.gcd m e=m:=Nat.div_mul_cancel (Nat.gcd_dvd_left m e)
 have e1:e / Nat.gcd m e*Nat.gcd m e=e:=Nat.div_mul_cancel (Nat.gcd_dvd_right m e)
 have n1:n / Nat.gcd n d*Nat.gcd n d=n:=Nat.div_mul_cancel (Nat.gcd_dvd_left n d)
 have d1:d / Nat.gcd n d*Nat.gcd n d=d:=Nat.div_mul_cancel (Nat.gcd_dvd_right n d)
 have c1:Nat.Coprime (m / Nat.gcd m e) (e / Nat.gcd m e):=Nat.coprime_div_gcd_div_gcd hg
 have c2:Nat.Coprime (n / Nat.gcd n d) (d / Nat.gcd n d):=Nat.coprime_div_gcd_div_gcd hh
 have q1:m / Nat.gcd m e≤m:=Nat.div_le_self _ _
 have q2:e / Nat.gcd m e≤e:=Nat.div_le_self _ _
 have q3:n / Nat.gcd n d≤n:=Nat.div_le_self _ _
 have q4:d / Nat.gcd n d≤d:=Nat.div_le_self _ _
 have p2:0<e / Nat.gcd m e:=Nat.div_pos (Nat.le_of_dvd he0 (Nat.gcd_dvd_right m e)) hg
 have p4:0<d / Nat.gcd n d:=Nat.div_pos (Nat.le_of_dvd hd0 (Nat.gcd_dvd_right n d)) hh
 have x1:m / Nat.gcd m e∣m:=Nat.div_dvd_of_dvd (Nat.gcd_dvd_left m e)
 have x2:e / Nat.gcd m e∣e:=Nat.div_dvd_of_dvd (Nat.gcd_dvd_right m e)
 have x3:n / Nat.gcd n d∣n:=Nat.div_dvd_of_dvd (Nat.gcd_dvd_left n d)
 have x4:d / Nat.gcd n d∣d:=Nat.div_dvd_of_dvd (Nat.gcd_dvd_right n d)
 generalize Nat.gcd m e=g at *
 generalize Nat.gcd n d=h at *
 generalize m / g=m' at *
 generalize e / g=e' at *
 generalize n / h=n' at *
 generalize d / h=d' at *
 have cop:Nat.gcd (m'*n') (d'*e')=1:=by
  refine Nat.Coprime.mul_left (Nat.Coprime.mul_right ?_ c1) (Nat.Coprime.mul_right c2 ?_)
  ·exact Nat.Coprime.coprime_dvd_left x1 (Nat.Coprime.coprime_dvd_right x4 a5)
  ·exact Nat.Coprime.coprime_dvd_left x3 (Nat.Coprime.coprime_dvd_right x2 b5)
 have hq:mkRat (sgn (s !=t) (m*n)) (d*e)=mkRat (sgn (s !=t) (m'*n')) (d'*e'):=by
  refine mkQ_congr (Nat.mul_pos hd0 he0) (Nat.mul_pos p4 p2) ?_
  rw[←m1,←n1,←d1,←e1]
  grind
 rw[hq,fit_low (Nat.mul_pos p4 p2) cop]
 rw[u_wrap (by omega) (by omega),u_wrap (by omega) (by omega),product_ok (by omega) (by omega),obind_some',u_wrap (by omega) (by omega),u_wrap (by omega) (by omega),product_ok (by omega) (by omega),obind_some']
 by_cases hN:m'*n'<18446744073709551616
 ·rw[hl_small hN]
  by_cases hD:d'*e'<18446744073709551616
  ·rw[hl_small hD]
   simp only[show decide ((0:Int)>0)=false from rfl,cond_false]
   rw[signed_ok _ _ _ hN hD,obind_some']
   have hs:sgn (bif decide (((m'*n':Nat):Int)>0) then !decide (s=t) else false) (m'*n')=sgn (s !=t) (m'*n'):=by
    by_cases h0:m'*n'=0
    ·rw[h0];exact sgn_zero _ _
    ·rw[decide_eq_true (show ((m'*n':Nat):Int)>0 by omega)]
     cases s<;>cases t<;>rfl
   rw[hs]
  ·have:=hl_big hD
   simp only[show decide ((0:Int)>0)=false from rfl,cond_false,decide_eq_true this,cond_true]
   rw[if_neg (by omega)]
 ·have:=hl_big hN
  simp only[decide_eq_true this,cond_true]
  rw[if_neg (by omega)]
end Go.Proofs.YtfknoaclabfdlaaGreat

namespace Go.Proofs.YtfknoaclabfdlaaGreat
open Tryz Dn Dn.Sh
theorem fdiv_of {n d:Int} (h:0≤d):Int.fdiv n d=n / d:=Int.fdiv_eq_ediv_of_nonneg n h
theorem Half_ok {n:Nat} (_:n<340282366920938463463374607431768211456):ref02_Half (hl n)=some (hl (n / 2)):=by
 simp only[ref02_Half,ref02_Half_b,show decide ((0:Int)≤1)=true from rfl,show decide ((0:Int)≤63)=true from rfl,cond_true,show (2:Int) ^ (1:Nat)=2 from rfl,show (2:Int) ^ (63:Nat)=9223372036854775808 from rfl,IntKind.wrap_u64,fdiv_of (show (0:Int)≤2 by omega),hl]
 congr 1
 ext<;>simp only<;>omega
theorem Less_ok {a b:Nat}:ref02_Less (hl a) (hl b)=some (decide (a<b)):=by
 simp only[ref02_Less,ref02_Less_b]
 have e:decide (a<b)=(bif decide ((hl a).1<(hl b).1) then true else bif decide ((hl a).1=(hl b).1) then decide ((hl a).2<(hl b).2) else false):=by
  by_cases c1:(hl a).1<(hl b).1
  ·simp only[c1,decide_true,cond_true]
   simp only[hl] at c1
   exact decide_eq_true (by omega)
  ·by_cases c2:(hl a).1=(hl b).1
   ·rw[decide_eq_false c1,decide_eq_true c2,cond_true,cond_false]
    have e2:a<b↔(hl a).2<(hl b).2:=by
     simp only[hl] at c1 c2 ⊢
     omega
    rw[Bool.eq_iff_iff,decide_eq_true_iff,decide_eq_true_iff]
    exact e2
   ·simp only[c1,c2,decide_false,cond_false]
    simp only[hl] at c1 c2
    exact decide_eq_false (by omega)
 rw[e]
 cases decide ((hl a).1<(hl b).1)<;>cases decide ((hl a).1=(hl b).1)<;>rfl
theorem Minus_ok {a b:Nat} (h:b≤a) (ha:a<340282366920938463463374607431768211456):ref02_Minus (hl a) (hl b)=some (hl (a - b)):=by
 simp only[ref02_Minus,ref02_Minus_b]
 by_cases hc:(hl a).2<(hl b).2
 ·rw[decide_eq_true hc,cond_true]
  simp only[IntKind.wrap_u64,hl] at hc ⊢
  congr 1
  ext<;>simp only<;>omega
 ·rw[decide_eq_false hc,cond_false]
  simp only[IntKind.wrap_u64,hl] at hc ⊢
  congr 1
  ext<;>simp only<;>omega
theorem Minus_over {a b:Nat} (h:b≤a) (hb:a - b<340282366920938463463374607431768211456) (_:b<340282366920938463463374607431768211456):ref02_Minus (hl (a % 340282366920938463463374607431768211456)) (hl b)=some (hl (a - b)):=by
 simp only[ref02_Minus,ref02_Minus_b]
 by_cases hc:(hl (a % 340282366920938463463374607431768211456)).2<(hl b).2
 ·rw[decide_eq_true hc,cond_true]
  simp only[IntKind.wrap_u64,hl] at hc ⊢
  congr 1
  ext<;>simp only<;>omega
 ·rw[decide_eq_false hc,cond_false]
  simp only[IntKind.wrap_u64,hl] at hc ⊢
  congr 1
  ext<;>simp only<;>omega
theorem Plus_ok {m n:Nat} (h:m+n<340282366920938463463374607431768211456):ref02_Plus (hl m) (hl n)=some (hl (m+n)):=by
 simp only[ref02_Plus,ref02_Plus_b]
 by_cases hc:IntKind.wrap .u64 ((hl m).2+(hl n).2)<(hl m).2
 ·rw[decide_eq_true hc,cond_true]
  simp only[IntKind.wrap_u64,hl] at hc ⊢
  congr 1
  ext<;>simp only<;>omega
 ·rw[decide_eq_false hc,cond_false]
  simp only[IntKind.wrap_u64,hl] at hc ⊢
  congr 1
  ext<;>simp only<;>omega
theorem low1 {x:Int} (h1:0≤x) (h2:x<18446744073709551616):IntKind.wrap .u64 ((Nat.land (Int.toNat (x % Int.ofNat 18446744073709551616)) (Int.toNat ((1:Int) % Int.ofNat 18446744073709551616)):Nat):Int)=x % 2:=by
 have e1:x % Int.ofNat 18446744073709551616=x:=Int.emod_eq_of_lt h1 h2
 have e2:Int.toNat ((1:Int) % Int.ofNat 18446744073709551616)=2 ^ 1 - 1:=by decide
 rw[e1,e2]
 have:Nat.land x.toNat (2 ^ 1 - 1)=x.toNat % 2 ^ 1:=Nat.and_two_pow_sub_one_eq_mod x.toNat 1
 rw[this,IntKind.wrap_u64]
 omega
theorem even_hl {n:Nat}:decide (IntKind.wrap .u64 ((Nat.land (Int.toNat ((hl n).2 % Int.ofNat 18446744073709551616)) (Int.toNat ((1:Int) % Int.ofNat 18446744073709551616)):Nat):Int)=0)=decide (n % 2=0):=by
 rw[low1 (by simp only[hl];omega) (by simp only[hl];omega)]
 rw[Bool.eq_iff_iff,decide_eq_true_iff,decide_eq_true_iff]
 simp only[hl]
 omega
theorem zero_hl {n:Nat} (_:n<340282366920938463463374607431768211456):(decide ((hl n).1=0)&&(decide ((hl n).2=0)&&true))=decide (n=0):=by
 rw[Bool.and_true,Bool.eq_iff_iff,Bool.and_eq_true,decide_eq_true_iff,decide_eq_true_iff,decide_eq_true_iff]
 simp only[hl]
 omega
def unhl (p:Int×Int):Nat:=p.1.toNat*18446744073709551616+p.2.toNat
theorem unhl_hl {n:Nat}:unhl (hl n)=n:=by
 simp only[unhl,hl];omega
theorem gcd_half {a b:Nat} (ha:a % 2=0) (h:Nat.gcd a b % 2=1):Nat.gcd (a / 2) b=Nat.gcd a b:=by
 have h2:a / 2∣a:=Nat.div_dvd_of_dvd (Nat.dvd_of_mod_eq_zero ha)
 refine Nat.dvd_antisymm (Nat.dvd_gcd (Nat.dvd_trans (Nat.gcd_dvd_left _ _) h2) (Nat.gcd_dvd_right _ _)) (Nat.dvd_gcd ?_ (Nat.gcd_dvd_right _ _))
 have h3:Nat.gcd a b∣2*(a / 2):=by rw[show 2*(a / 2)=a by omega];exact Nat.gcd_dvd_left _ _
 refine Nat.Coprime.dvd_of_dvd_mul_left ?_ h3
 show Nat.gcd (Nat.gcd a b) 2=1
 rw[Nat.gcd_comm,Nat.gcd_rec,h]
 rfl
theorem log2_half {a:Nat} (h:2≤a):Nat.log2 (a / 2)+1=Nat.log2 a:=by
 conv=>rhs;rw[Nat.log2_def]
 rw[if_pos h]
theorem log2_mono {a b:Nat} (h:a≤b):Nat.log2 a≤Nat.log2 b:=by
 by_cases ha:a=0
 ·subst ha;simp
 ·have hb:b≠0:=by omega
  rw[Nat.le_log2 hb]
  exact Nat.le_trans ((Nat.le_log2 ha).1 (Nat.le_refl _)) h
theorem log2_dbl {a b:Nat} (ha:0<a) (h:2*a≤b):Nat.log2 a+1≤Nat.log2 b:=by
 have h1:=log2_half (a:=b) (by omega)
 have:=log2_mono (show a≤b / 2 by omega)
 omega
theorem log2_128 {a:Nat} (h:a<340282366920938463463374607431768211456):Nat.log2 a≤127:=by
 by_cases ha:a=0
 ·subst ha;simp
 ·have:Nat.log2 a<128:=(Nat.log2_lt ha).2 h
  omega
theorem Gcd_ok {A B:Nat} (hA:A<340282366920938463463374607431768211456) (hB0:0<B) (hB:B<340282366920938463463374607431768211456):ref02_Gcd (hl A) (hl B)=some (hl (Nat.gcd A B)):=by
 simp only[ref02_Gcd,ref02_Gcd_b]
 rw[zero_hl hA]
 by_cases hA0:A=0
 ·rw[decide_eq_true hA0,cond_true,hA0,Nat.gcd_zero_left]
 rw[decide_eq_false hA0,cond_false]
 have hG:Nat.gcd A B≤B:=Nat.le_of_dvd hB0 (Nat.gcd_dvd_right A B)
 have hGdef:∃G,G=Nat.gcd A B:=⟨_,rfl⟩
 obtain ⟨G,hGd⟩:=hGdef
 rw[←hGd]
 refine lpK_loop (g:=fun _=>some (hl G)) (I:=fun (x:Int×(Int×Int)×(Int×Int)×PUnit)=>∃t a b:Nat,x=((t:Int),hl a,hl b,⟨⟩)∧0<a∧a<340282366920938463463374607431768211456∧0<b∧b<340282366920938463463374607431768211456∧2 ^ t*Nat.gcd a b=G∧t+Nat.log2 a≤127)
  (μ:=fun (x:Int×(Int×Int)×(Int×Int)×PUnit)=>Nat.log2 (unhl x.2.1)) (x:=((0:Int),hl A,hl B,PUnit.unit)) ?_ ⟨0,A,B,rfl,by omega,hA,hB0,hB,by rw[hGd];simp,by have:=log2_128 hA;omega⟩ (by simp only[unhl_hl];have:=log2_128 hA;omega)
 rintro _ rec ⟨t,a,b,rfl,a0,a1,b0,b1,hg,ht⟩ hrec
 simp only[even_hl,not_or_self',cond_true]
 by_cases hev:a % 2=0∧b % 2=0
 ·rw[decide_eq_true hev.1,cond_true,decide_eq_true hev.2,cond_true,Half_ok a1,obind_some',Half_ok b1,obind_some',wrap_id (by omega) (by omega)]
  have hl2:=log2_half (a:=a) (by omega)
  refine hrec _ ⟨t+1,a / 2,b / 2,by rfl,by omega,by omega,by omega,by omega,?_,by omega⟩ (by simp only[unhl_hl];omega)
  rw[←hg,Nat.pow_succ,Nat.mul_assoc,←Nat.gcd_mul_left,show 2*(a / 2)=a by omega,show 2*(b / 2)=b by omega]
 have hodd:Nat.gcd a b % 2=1:=by
  rcases Nat.mod_two_eq_zero_or_one (Nat.gcd a b) with h | h
  ·exfalso
   have h2:=Nat.dvd_of_mod_eq_zero h
   exact hev ⟨Nat.mod_eq_zero_of_dvd (Nat.dvd_trans h2 (Nat.gcd_dvd_left a b)),Nat.mod_eq_zero_of_dvd (Nat.dvd_trans h2 (Nat.gcd_dvd_right a b))⟩
  ·exact h
 have hcond:(bif decide (a % 2=0) then decide (b % 2=0) else false)=false:=by
  rw[Bool.eq_false_iff]
  intro h
  by_cases h2:a % 2=0
  ·rw[decide_eq_true h2,cond_true,decide_eq_true_iff] at h
   exact hev ⟨h2,h⟩
  ·rw[decide_eq_false h2,cond_false] at h
   cases h
 rw[hcond,cond_false]
 clear hcond hrec
 generalize hgd:Nat.gcd a b=g at *
 refine lpK_loop (g:=fun _=>some (hl G)) (I:=fun (x:(Int×Int)×(Int×Int)×PUnit)=>∃a b:Nat,x=(hl a,hl b,⟨⟩)∧a<340282366920938463463374607431768211456∧0<b∧b<340282366920938463463374607431768211456∧Nat.gcd a b=g)
  (μ:=fun (x:(Int×Int)×(Int×Int)×PUnit)=>Nat.log2 (unhl x.1)+Nat.log2 (unhl x.2.1)+unhl x.1 % 2) (x:=(hl a,hl b,PUnit.unit)) ?_ ⟨a,b,rfl,a1,b0,b1,hgd⟩ (by simp only[unhl_hl];have:=log2_128 a1;have:=log2_128 b1;omega)
 clear hgd hev a0 a1 b0 b1
 rintro _ rec ⟨a,b,rfl,a1,b0,b1,hgd⟩ hrec
 simp only[zero_hl a1]
 by_cases ha0:a=0
 ·rw[decide_eq_true ha0,Bool.not_true,cond_false]
  have hbg:b=g:=by rw[←hgd,ha0,Nat.gcd_zero_left]
  refine lpK_loop (g:=fun _=>some (hl G)) (I:=fun (x:Int×(Int×Int)×PUnit)=>∃t b:Nat,x=((t:Int),hl b,⟨⟩)∧0<b∧2 ^ t*b=G∧t≤127)
   (μ:=fun (x:Int×(Int×Int)×PUnit)=>x.1.toNat) (x:=((t:Int),hl b,PUnit.unit)) ?_ ⟨t,b,rfl,b0,by rw[hbg];exact hg,by omega⟩ (by simp only;omega)
  rintro _ rec ⟨t,b,rfl,b0,hg,ht⟩ hrec
  simp only
  by_cases ht0:t=0
  ·rw[decide_eq_false (by omega),cond_false,←hg,ht0];simp
  ·rw[decide_eq_true (by omega),cond_true]
   obtain ⟨s,rfl⟩:∃s,t=s+1:=⟨t - 1,by omega⟩
   have h2:2 ^ s*(b+b)=G:=by rw[←hg,Nat.pow_succ,Nat.mul_assoc];congr 1;omega
   have h3:b+b≤G:=by
    rw[←h2]
    exact Nat.le_mul_of_pos_left _ (Nat.pow_pos (by omega))
   rw[Plus_ok (by omega),obind_some',wrap_id (by omega) (by omega)]
   exact hrec _ ⟨s,b+b,by simp only[Prod.mk.injEq,and_true];omega,by omega,h2,by omega⟩ (by simp only;omega)
 rw[decide_eq_false ha0,Bool.not_false,cond_true]
 refine lpK_loop (g:=fun _=>some (hl G)) (I:=fun (x:(Int×Int)×PUnit)=>∃c:Nat,x=(hl c,⟨⟩)∧0<c∧c<340282366920938463463374607431768211456∧Nat.gcd c b=g∧(c=a∨2*c≤a))
  (μ:=fun (x:(Int×Int)×PUnit)=>Nat.log2 (unhl x.1)) (x:=(hl a,PUnit.unit)) ?_ ⟨a,rfl,by omega,a1,hgd,.inl rfl⟩ (by simp only[unhl_hl];have:=log2_128 a1;omega)
 rintro _ rec3 ⟨c,rfl,c0,c1,hgc,hca⟩ hrec3
 simp only[even_hl]
 by_cases hce:c % 2=0
 ·rw[decide_eq_true hce,cond_true,Half_ok c1,obind_some']
  have hl2:=log2_half (a:=c) (by omega)
  exact hrec3 _ ⟨c / 2,rfl,by omega,by omega,by rw[gcd_half hce (by rw[hgc];exact hodd),hgc],.inr (by omega)⟩ (by simp only[unhl_hl];omega)
 rw[decide_eq_false hce,cond_false]
 clear hrec3
 refine lpK_loop (g:=fun _=>some (hl G)) (I:=fun (x:(Int×Int)×PUnit)=>∃d:Nat,x=(hl d,⟨⟩)∧0<d∧d≤b∧Nat.gcd c d=g)
  (μ:=fun (x:(Int×Int)×PUnit)=>Nat.log2 (unhl x.1)) (x:=(hl b,PUnit.unit)) ?_ ⟨b,rfl,b0,Nat.le_refl _,hgc⟩ (by simp only[unhl_hl];have:=log2_128 b1;omega)
 rintro _ rec4 ⟨d,rfl,d0,d1,hgd'⟩ hrec4
 simp only[even_hl]
 by_cases hde:d % 2=0
 ·rw[decide_eq_true hde,cond_true,Half_ok (by omega),obind_some']
  have hl2:=log2_half (a:=d) (by omega)
  exact hrec4 _ ⟨d / 2,rfl,by omega,by omega,by rw[Nat.gcd_comm,gcd_half hde (by rw[Nat.gcd_comm,hgd'];exact hodd),Nat.gcd_comm,hgd']⟩ (by simp only[unhl_hl];omega)
 rw[decide_eq_false hde,cond_false,Less_ok,obind_some']
 clear hrec4
 have lb:=log2_mono d1
 have la:Nat.log2 c+1≤Nat.log2 a+a % 2:=by
  rcases hca with rfl | h
  ·omega
  ·have:=log2_dbl c0 h;omega
 by_cases hlt:c<d
 ·rw[decide_eq_true hlt,cond_true,Minus_ok (by omega) (by omega),obind_some']
  have l1:=log2_mono (show d - c≤d by omega)
  exact hrec _ ⟨d - c,c,rfl,by omega,c0,c1,by rw[Nat.gcd_sub_self_left (by omega),Nat.gcd_comm,hgd']⟩ (by simp only[unhl_hl];omega)
 ·rw[decide_eq_false hlt,cond_false,Minus_ok (by omega) (by omega),obind_some']
  have l1:=log2_mono (show c - d≤c by omega)
  exact hrec _ ⟨c - d,d,rfl,by omega,d0,by omega,by rw[Nat.gcd_sub_self_left (by omega),hgd']⟩ (by simp only[unhl_hl];omega)
end Go.Proofs.YtfknoaclabfdlaaGreat

namespace Go.Proofs.YtfknoaclabfdlaaGreat
open Tryz Dn Dn.Sh
theorem dbl_hl {n:Nat}:(IntKind.wrap .u64 (IntKind.wrap .u64 ((hl n).1*2)+(hl n).2 / 9223372036854775808),IntKind.wrap .u64 ((hl n).2*2))=hl (2*n % 340282366920938463463374607431768211456):=by
 simp only[IntKind.wrap_u64,hl]
 ext<;>simp only<;>omega
theorem dblb_hl {r a:Nat} (_:r<340282366920938463463374607431768211456) (ha:a<340282366920938463463374607431768211456):(IntKind.wrap .u64 (IntKind.wrap .u64 ((hl r).1*2)+(hl r).2 / 9223372036854775808),IntKind.wrap .u64 (IntKind.wrap .u64 ((hl r).2*2)+(hl a).1 / 9223372036854775808))=hl ((2*r+2*a / 340282366920938463463374607431768211456) % 340282366920938463463374607431768211456):=by
 simp only[IntKind.wrap_u64,hl]
 ext<;>simp only<;>omega
theorem dbl1_hl {q:Nat} (hq:2*q+1<340282366920938463463374607431768211456):(IntKind.wrap .u64 (IntKind.wrap .u64 ((hl q).1*2)+(hl q).2 / 9223372036854775808),IntKind.wrap .u64 (IntKind.wrap .u64 ((hl q).2*2)+1))=hl (2*q+1):=by
 simp only[IntKind.wrap_u64,hl]
 ext<;>simp only<;>omega
theorem over_hl {r a:Nat} (hr:r<340282366920938463463374607431768211456) (ha:a<340282366920938463463374607431768211456):decide ((hl r).1 / 9223372036854775808>0)=decide (340282366920938463463374607431768211456≤2*r+2*a / 340282366920938463463374607431768211456):=by
 rw[Bool.eq_iff_iff,decide_eq_true_iff,decide_eq_true_iff]
 simp only[hl]
 omega
theorem divMod_of {t b q r:Nat} (hr:r<b) (h:t=q*b+r):t / b=q∧t % b=r:=by
 subst h
 constructor
 ·rw[Nat.mul_comm,Nat.mul_add_div (by omega),Nat.div_eq_of_lt hr,Nat.add_zero]
 ·rw[Nat.mul_comm,Nat.mul_add_mod,Nat.mod_eq_of_lt hr]
theorem RDiv_ok {A B:Nat} (hA:A<340282366920938463463374607431768211456) (hB0:0<B) (hB:B<340282366920938463463374607431768211456):ref02_Div (hl A) (hl B)=some (hl (A / B),hl (A % B),()):=by
 simp only[ref02_Div,ref02_Div_b,show decide ((0:Int)≤1)=true from rfl,show decide ((0:Int)≤63)=true from rfl,cond_true,not_or_self',show (2:Int) ^ (1:Nat)=2 from rfl,show (2:Int) ^ (63:Nat)=9223372036854775808 from rfl,fdiv_of (show (0:Int)≤9223372036854775808 by omega),Bool.and_self]
 by_cases hs:A<18446744073709551616∧B<18446744073709551616
 ·rw[hl_small hs.1,hl_small hs.2]
  have q1:A / B≤A:=Nat.div_le_self _ _
  have q2:A % B≤A:=Nat.mod_le _ _
  simp only[decide_true,cond_true,nzB_of (show (B:Int)≠0 by omega),tdiv_nat]
  have hq:((A / B:Nat):Int)<18446744073709551616:=by
   generalize A / B=z at *
   omega
  rw[hl_small (show A / B<18446744073709551616 by omega),hl_small (show A % B<18446744073709551616 by omega),u_wrap (Int.natCast_nonneg _) hq,Int.tmod_eq_emod_of_nonneg (by omega),Int.natCast_emod]
 ·have hc:(bif decide ((hl A).1=0) then decide ((hl B).1=0) else false)=false:=by
   rw[Bool.eq_false_iff]
   intro h
   by_cases h1:(hl A).1=0
   ·rw[decide_eq_true h1,cond_true,decide_eq_true_iff] at h
    simp only[hl] at h1 h
    omega
   ·rw[decide_eq_false h1,cond_false] at h
    cases h
  rw[hc,cond_false]
  refine lpK_loop (g:=fun _=>some (hl (A / B),hl (A % B),())) (I:=fun (x:Int×(Int×Int)×(Int×Int)×(Int×Int)×PUnit)=>∃i X:Nat,i≤128∧X=A*2 ^ i∧x=((i:Int),hl (X % 340282366920938463463374607431768211456),hl (X / 340282366920938463463374607431768211456 / B),hl (X / 340282366920938463463374607431768211456 % B),⟨⟩))
   (μ:=fun (x:Int×(Int×Int)×(Int×Int)×(Int×Int)×PUnit)=>(128 - x.1).toNat) (x:=((0:Int),hl A,((0:Int),(0:Int)),((0:Int),(0:Int)),PUnit.unit)) ?_ ⟨0,A,by omega,by simp,by
    rw[Nat.mod_eq_of_lt hA,Nat.div_eq_of_lt hA,Nat.zero_div,Nat.zero_mod];rfl⟩ (by simp only;omega)
  rintro _ rec ⟨i,X,hi,hX,rfl⟩ hrec
  simp only
  by_cases hlt:i<128
  ·rw[decide_eq_true (show (i:Int)<128 by omega),cond_true]
   have hX2:2*X=A*2 ^ (i+1):=by rw[hX,Nat.pow_succ];grind
   have hT:2*X / 340282366920938463463374607431768211456≤A:=by
    have:A*2 ^ (i+1)≤A*2 ^ 128:=Nat.mul_le_mul_left _ (Nat.pow_le_pow_right (by omega) (by omega))
    rw[hX2]
    refine Nat.div_le_of_le_mul ?_
    rw[show (2:Nat) ^ 128=340282366920938463463374607431768211456 from rfl,Nat.mul_comm A 340282366920938463463374607431768211456] at this
    exact this
   have ha:=Nat.mod_lt X (show 340282366920938463463374607431768211456>0 by omega)
   have hr:=Nat.mod_lt (X / 340282366920938463463374607431768211456) hB0
   have e1:2*X % 340282366920938463463374607431768211456=2*(X % 340282366920938463463374607431768211456) % 340282366920938463463374607431768211456:=by omega
   have e2:2*X / 340282366920938463463374607431768211456=2*(X / 340282366920938463463374607431768211456)+2*(X % 340282366920938463463374607431768211456) / 340282366920938463463374607431768211456:=by omega
   have e3:X / 340282366920938463463374607431768211456=X / 340282366920938463463374607431768211456 / B*B+X / 340282366920938463463374607431768211456 % B:=by rw[Nat.mul_comm];exact (Nat.div_add_mod _ _).symm
   have hq:X / 340282366920938463463374607431768211456 / B≤X / 340282366920938463463374607431768211456:=Nat.div_le_self _ _
   rw[wrap_id (x:=(i:Int)+1) (by omega) (by omega)]
   have bit:2*(X % 340282366920938463463374607431768211456) / 340282366920938463463374607431768211456≤1:=by omega
   have step:∀q r,r<B→2*X / 340282366920938463463374607431768211456=q*B+r→rec ((i:Int)+1,hl (2*(X % 340282366920938463463374607431768211456) % 340282366920938463463374607431768211456),hl q,hl r,PUnit.unit)=some (hl (A / B),hl (A % B),()):=fun q r h1 h2=>by
    obtain ⟨h3,h4⟩:=divMod_of h1 h2
    exact hrec _ ⟨i+1,2*X,by omega,hX2,by rw[h3,h4,e1];rfl⟩ (by simp only;omega)
   generalize hTd:X / 340282366920938463463374607431768211456=T at *
   generalize hαd:X % 340282366920938463463374607431768211456=α at *
   generalize hqd:T / B=q at *
   generalize hrd:T % B=r at *
   have hq2:2*q+1<340282366920938463463374607431768211456:=by
    by_cases hq0:q=0
    ·omega
    ·have h1:q*1≤q*B:=Nat.mul_le_mul_left _ hB0
     have h2:A≤340282366920938463463374607431768211455:=by omega
     omega
   rw[over_hl (r:=r) (a:=α) (by omega) ha,dbl_hl (n:=α),dblb_hl (r:=r) (a:=α) (by omega) ha]
   have hmul2:2*(q*B)=2*q*B:=by rw[Nat.mul_assoc]
   have hmul3:(2*q+1)*B=2*q*B+B:=by rw[Nat.add_mul,Nat.one_mul]
   by_cases ho:340282366920938463463374607431768211456≤2*r+2*α / 340282366920938463463374607431768211456
   ·simp only[decide_eq_true ho,Bool.not_true,cond_true,cond_false,obind_some']
    rw[Minus_over (a:=2*r+2*α / 340282366920938463463374607431768211456) (b:=B) (by omega) (by omega) hB,obind_some',dbl1_hl hq2]
    exact step _ _ (by omega) (by rw[hmul3];omega)
   ·have hR:(2*r+2*α / 340282366920938463463374607431768211456) % 340282366920938463463374607431768211456=2*r+2*α / 340282366920938463463374607431768211456:=Nat.mod_eq_of_lt (by omega)
    simp only[decide_eq_false ho,hR,Bool.not_false,cond_true,cond_false,obind_some',Bool.or_true,Less_ok]
    by_cases hl2:2*r+2*α / 340282366920938463463374607431768211456<B
    ·simp only[decide_eq_true hl2,Bool.not_true,cond_false]
     have e:=dbl_hl (n:=q)
     rw[Nat.mod_eq_of_lt (show 2*q<340282366920938463463374607431768211456 by omega)] at e
     rw[e]
     exact step _ _ (by omega) (by omega)
    ·simp only[decide_eq_false hl2,Bool.not_false,cond_true]
     rw[Minus_ok (by omega) (by omega),obind_some',dbl1_hl hq2]
     exact step _ _ (by omega) (by rw[hmul3];omega)
  ·have:i=128:=by omega
   subst this
   have hx:X / 340282366920938463463374607431768211456=A:=by
    rw[hX]
    exact Nat.mul_div_cancel A (by decide)
   rw[decide_eq_false (by omega),cond_false,hx]
theorem RMade_ok {s:Bool} {n d:Nat} (hn:n<340282366920938463463374607431768211456) (hd0:0<d) (hd:d<340282366920938463463374607431768211456):ref02_Made (hl n) s (hl d)=some (fitQ (mkRat (sgn s n) d)):=by
 have hG0:0<Nat.gcd n d:=Nat.gcd_pos_of_pos_right _ hd0
 have hG:Nat.gcd n d≤d:=Nat.le_of_dvd hd0 (Nat.gcd_dvd_right n d)
 simp only[ref02_Made,ref02_Made_b,not_or_self',or_self_not,cond_true]
 rw[zero_hl hd,decide_eq_false (show ¬ d=0 by omega),cond_false,Gcd_ok hn hd0 hd,obind_some',RDiv_ok hn hG0 (by omega),obind_some',RDiv_ok hd hG0 (by omega),obind_some']
 obtain ⟨m1,m2,m3⟩:=mkQ_div (s:=s) (n:=n) (d:=d) hd0
 rw[m1,fit_low m2 m3]
 have q1:n / Nat.gcd n d≤n:=Nat.div_le_self _ _
 have q2:d / Nat.gcd n d≤d:=Nat.div_le_self _ _
 generalize n / Nat.gcd n d=p at *
 generalize d / Nat.gcd n d=q at *
 simp only
 have big:∀{x:Nat},x<340282366920938463463374607431768211456→(bif decide ((hl x).1>0) then true else decide ((hl x).2>1152921504606846976))=decide (¬ x≤1152921504606846976):=fun {x} hx=>by
  by_cases h1:(hl x).1>0
  ·rw[decide_eq_true h1,cond_true]
   simp only[hl] at h1
   exact (decide_eq_true (by omega)).symm
  ·rw[decide_eq_false h1,cond_false,Bool.eq_iff_iff,decide_eq_true_iff,decide_eq_true_iff]
   simp only[hl] at h1 ⊢
   omega
 rw[big (show p<340282366920938463463374607431768211456 by omega)]
 by_cases hp:p≤1152921504606846976
 ·simp only[hp,not_true_eq_false,decide_false,cond_false,true_and]
  rw[big (show q<340282366920938463463374607431768211456 by omega)]
  by_cases hq:q≤1152921504606846976
  ·simp only[hq,not_true_eq_false,decide_false,cond_false,if_true]
   rw[hl_small (show p<18446744073709551616 by omega),hl_small (show q<18446744073709551616 by omega)]
   simp only
   rw[wrap_id (x:=(p:Int)) (by omega) (by omega),wrap_id (x:=(q:Int)) (by omega) (by omega),wrap_id (x:=0 - (p:Int)) (by omega) (by omega)]
   cases s<;>simp[sgn]
  ·simp only[hq,not_false_eq_true,decide_true,cond_true,if_false]
 ·simp only[hp,not_false_eq_true,decide_true,cond_true,false_and,if_false]
theorem RSize_ok {x:Int} (h1: -9223372036854775808≤x) (h2:x<9223372036854775808):ref02_Size x=some (x.natAbs:Int):=by
 simp only[ref02_Size,ref02_Size_b]
 by_cases h:x<0
 ·simp only[h,decide_true,cond_true]
  rw[IntKind.wrap_u64,IntKind.wrap_u64]
  congr 1;omega
 ·simp only[h,decide_false,cond_false]
  rw[u_wrap (by omega) (by omega)]
  congr 1;omega
theorem not_dec_eq {a b:Prop} [Decidable a] [Decidable b]:(!decide (decide a=decide b))=(decide a !=decide b):=by
 cases decide a<;>cases decide b<;>rfl
theorem RMul_ok {m n:Nat} (hm:m<18446744073709551616) (hn:n<18446744073709551616):ref02_Mul (m:Int) (n:Int)=some (hl (m*n)):=by
 have x0:0≤(m:Int):=by omega
 have x1:(m:Int)<18446744073709551616:=by omega
 have y0:0≤(n:Int):=by omega
 have y1:(n:Int)<18446744073709551616:=by omega
 have hmn:((m*n:Nat):Int)=(m:Int)*n:=Int.natCast_mul m n
 simp only[hl,Int.natCast_ediv,Int.natCast_emod,hmn]
 generalize (m:Int)=x at *
 generalize (n:Int)=y at *
 have p32:(2:Int) ^ (32:Nat)=4294967296:=by decide
 simp only[ref02_Mul,ref02_Mul_b,p32,show decide ((0:Int)≤32)=true from rfl,cond_true]
 obtain ⟨a,b,ha,hb,hx⟩:∃a b,a=x / 4294967296∧b=x % 4294967296∧x=a*4294967296+b:=⟨_,_,rfl,rfl,by omega⟩
 obtain ⟨c,d,hc,hd,hy⟩:∃c d,c=y / 4294967296∧d=y % 4294967296∧y=c*4294967296+d:=⟨_,_,rfl,rfl,by omega⟩
 rw[land32 x0 x1,land32 y0 y1,←hb,←hd]
 simp only[fdiv_of (show (0:Int)≤4294967296 by omega),←ha,←hc]
 have a0:0≤a∧a≤4294967295:=by omega
 have b0:0≤b∧b≤4294967295:=by omega
 have c0:0≤c∧c≤4294967295:=by omega
 have d0:0≤d∧d≤4294967295:=by omega
 have mb:∀{m n:Int},0≤m∧m≤4294967295→0≤n∧n≤4294967295→0≤m*n∧m*n≤18446744065119617025:=fun {m n} hm hn=>⟨Int.mul_nonneg hm.1 hn.1,Int.le_trans (Int.mul_le_mul hm.2 hn.2 hn.1 (by omega)) (by decide)⟩
 have e1:=mb a0 c0
 have e2:=mb a0 d0
 have e3:=mb b0 c0
 have e4:=mb b0 d0
 have hxy:x*y=a*c*18446744073709551616+(a*d+b*c)*4294967296+b*d:=by rw[hx,hy];grind
 rw[hxy]
 rw[u_wrap (x:=b) (by omega) (by omega),u_wrap (x:=d) (by omega) (by omega)]
 rw[u_wrap (x:=b*d) (by omega) (by omega),u_wrap (x:=a*d) (by omega) (by omega),u_wrap (x:=b*c) (by omega) (by omega),u_wrap (x:=a*c) (by omega) (by omega)]
 generalize b*d=bd at *
 generalize a*d=ad at *
 generalize b*c=bc at *
 generalize a*c=ac at *
 rw[u_wrap (x:=ad+bd / 4294967296) (by omega) (by omega)]
 generalize ht:ad+bd / 4294967296=t
 rw[land32 (by omega) (by omega),land32 (by omega) (by omega)]
 rw[u_wrap (x:=t % 4294967296) (by omega) (by omega),u_wrap (x:=bd % 4294967296) (by omega) (by omega)]
 rw[u_wrap (x:=bc+t % 4294967296) (by omega) (by omega),u_wrap (x:=ac+t / 4294967296) (by omega) (by omega)]
 rw[u_wrap (x:=ac+t / 4294967296+(bc+t % 4294967296) / 4294967296) (by omega) (by omega)]
 rw[IntKind.wrap_u64 ((bc+t % 4294967296)*4294967296),IntKind.wrap_u64]
 congr 1
 ext<;>simp only<;>omega
theorem RTimes_ok {a b:Fq} (ha:okF a) (hb:okF b):ref02_Times a b=some (fitQ (qv a*qv b)):=by
 have ha':=ha
 have hb':=hb
 obtain ⟨⟨a1,a2⟩,⟨a3,a4⟩,_⟩:=ha'
 obtain ⟨⟨b1,b2⟩,⟨b3,b4⟩,_⟩:=hb'
 simp only[ref02_Times,ref02_Times_b]
 rw[RSize_ok (by omega) (by omega),obind_some',RSize_ok (by omega) (by omega),obind_some',RMul_ok (by omega) (by omega),obind_some',RSize_ok (by omega) (by omega),obind_some',RSize_ok (by omega) (by omega),obind_some',RMul_ok (by omega) (by omega),obind_some',not_dec_eq]
 have bd:∀{x y:Nat},x≤1152921504606846976→y≤1152921504606846976→x*y<340282366920938463463374607431768211456:=fun {x y} hx hy=>Nat.lt_of_le_of_lt (Nat.mul_le_mul hx hy) (by decide)
 rw[RMade_ok (bd (by omega) (by omega)) (Nat.mul_pos (by omega) (by omega)) (bd (by omega) (by omega)),obind_some',okF_mkQ a,okF_mkQ b,mkQ_mul,show a.2.natAbs=a.2.toNat by omega,show b.2.natAbs=b.2.toNat by omega]
end Go.Proofs.YtfknoaclabfdlaaGreat

namespace Go.Proofs.YtfknoaclabfdlaaGreat
open Tryz Dn Dn.Sh
theorem rLess_ok {a b:Nat}:ratio_less (hl a) (hl b)=some (decide (a<b)):=by
 simp only[ratio_less,ratio_less_b]
 have e:decide (a<b)=(bif decide ((hl a).1<(hl b).1) then true else bif decide ((hl a).1=(hl b).1) then decide ((hl a).2<(hl b).2) else false):=by
  by_cases c1:(hl a).1<(hl b).1
  ·simp only[c1,decide_true,cond_true]
   simp only[hl] at c1
   exact decide_eq_true (by omega)
  ·by_cases c2:(hl a).1=(hl b).1
   ·rw[decide_eq_false c1,decide_eq_true c2,cond_true,cond_false]
    have e2:a<b↔(hl a).2<(hl b).2:=by
     simp only[hl] at c1 c2 ⊢
     omega
    rw[Bool.eq_iff_iff,decide_eq_true_iff,decide_eq_true_iff]
    exact e2
   ·simp only[c1,c2,decide_false,cond_false]
    simp only[hl] at c1 c2
    exact decide_eq_false (by omega)
 rw[e]
 cases decide ((hl a).1<(hl b).1)<;>cases decide ((hl a).1=(hl b).1)<;>rfl
theorem addC_hl {m n:Nat}:addC (hl m).2 (hl n).2 0=(((m % 18446744073709551616+n % 18446744073709551616) / 18446744073709551616:Nat):Int):=by
 simp only[addC,hl,Int.toNat_natCast,Int.toNat_zero,Nat.add_zero]
 rfl
theorem subC_hl {m n:Nat}:subC (hl m).2 (hl n).2 0=(((if m % 18446744073709551616<n % 18446744073709551616 then 1 else 0:Nat):Nat):Int):=by
 simp only[subC,hl,Int.toNat_natCast,Int.toNat_zero,Nat.add_zero]
 cases h:Nat.blt (m % 18446744073709551616) (n % 18446744073709551616) with
 | true =>
  have h':m % 18446744073709551616<n % 18446744073709551616:=by simpa [Nat.blt_eq] using h
  rw[if_pos h'];rfl
 | false =>
  have h':¬ m % 18446744073709551616<n % 18446744073709551616:=by
   intro h2
   have:Nat.blt (m % 18446744073709551616) (n % 18446744073709551616)=true:=by simpa [Nat.blt_eq] using h2
   rw[this] at h;cases h
  rw[if_neg h'];rfl
theorem rPlus_ok {m n:Nat} (h:m+n<340282366920938463463374607431768211456):ratio_plus (hl m) (hl n)=some (hl (m+n)):=by
 simp only[ratio_plus,ratio_plus_b,addC_hl]
 have c1:decide ((0:Int)≤(0:Int))=true:=rfl
 have c2:decide ((0:Int)≤(1:Int))=true:=rfl
 rw[c1,c2,decide_eq_true (show (0:Int)≤(((m % 18446744073709551616+n % 18446744073709551616) / 18446744073709551616:Nat):Int) by omega),decide_eq_true (show (((m % 18446744073709551616+n % 18446744073709551616) / 18446744073709551616:Nat):Int)≤1 by omega)]
 simp only[Bool.and_self,cT,Option.some.injEq,addO,hl,Int.toNat_natCast,Int.toNat_zero,Nat.add_zero,Prod.mk.injEq]
 constructor
 ·show ((_:Nat):Int)=((_:Nat):Int)
  omega
 ·show ((_:Nat):Int)=((_:Nat):Int)
  omega
theorem rMinus_ok {m n:Nat} (h:n≤m) (hm:m<340282366920938463463374607431768211456):ratio_minus (hl m) (hl n)=some (hl (m - n)):=by
 simp only[ratio_minus,ratio_minus_b,subC_hl]
 have c1:decide ((0:Int)≤(0:Int))=true:=rfl
 have c2:decide ((0:Int)≤(1:Int))=true:=rfl
 have hb:(if m % 18446744073709551616<n % 18446744073709551616 then 1 else 0:Nat)≤1:=by split<;>omega
 have hc:(if m % 18446744073709551616<n % 18446744073709551616 then 1 else 0:Nat)=1∧m % 18446744073709551616<n % 18446744073709551616∨(if m % 18446744073709551616<n % 18446744073709551616 then 1 else 0:Nat)=0∧¬ m % 18446744073709551616<n % 18446744073709551616:=by split<;>simp_all
 generalize (if m % 18446744073709551616<n % 18446744073709551616 then 1 else 0:Nat)=c at *
 rw[c1,c2,decide_eq_true (show (0:Int)≤(c:Int) by omega),decide_eq_true (show (c:Int)≤1 by omega)]
 simp only[Bool.and_self,cT,Option.some.injEq,subO,hl,Int.toNat_natCast,Int.toNat_zero,Nat.sub_zero,Prod.mk.injEq]
 constructor
 ·show ((_:Nat):Int)=((_:Nat):Int)
  omega
 ·show ((_:Nat):Int)=((_:Nat):Int)
  omega
noncomputable def lenT (T:ByteArray) (a b:Int):Option Int :=
 bif decide (a≥(256:Int)) then bif decide ((0:Int)≤(8:Int)) then bif inB (IntKind.wrap .u8 (Int.fdiv a ((2:Int) ^ (8:Nat)))) (256:Nat) then
  some (IntKind.wrap .i64 (IntKind.wrap .i64 (b+(8:Int))+IntKind.wrap .i64 (byteAt T (Int.toNat (IntKind.wrap .u8 (Int.fdiv a ((2:Int) ^ (8:Nat)))))))) else none else none
 else bif inB (IntKind.wrap .u8 a) (256:Nat) then some (IntKind.wrap .i64 (b+IntKind.wrap .i64 (byteAt T (Int.toNat (IntKind.wrap .u8 a))))) else none
noncomputable def lenU (T:ByteArray) (a b:Int):Option Int:=bif decide (a≥(65536:Int)) then bif decide ((0:Int)≤(16:Int)) then lenT T (Int.fdiv a ((2:Int) ^ (16:Nat))) (IntKind.wrap .i64 (b+(16:Int))) else none else lenT T a b
theorem len_table:∃T:ByteArray,(∀i,i<256→0≤byteAt T i∧byteAt T i≤8∧(0<i→i<2 ^ (byteAt T i).toNat∧2 ^ (byteAt T i).toNat≤2*i)) ∧
  ∀x,bits_Len64 x=bif decide (x≥(4294967296:Int)) then bif decide ((0:Int)≤(32:Int)) then lenU T (Int.fdiv x ((2:Int) ^ (32:Nat))) 32 else none else lenU T x 0 :=
 ⟨_,by decide +kernel,fun _=>rfl⟩
def isLen (n L:Nat):Prop:=n<2 ^ L∧2 ^ L≤2*n
theorem isLen_shift {n k L:Nat} (h:isLen (n / 2 ^ k) L):isLen n (L+k):=by
 obtain ⟨h1,h2⟩:=h
 have hk:0<2 ^ k:=Nat.two_pow_pos k
 unfold isLen
 rw[Nat.pow_add]
 constructor
 ·exact (Nat.div_lt_iff_lt_mul hk).1 h1
 ·have h3:n / 2 ^ k*2 ^ k≤n:=Nat.div_mul_le_self n _
  have h4:=Nat.mul_le_mul_right (2 ^ k) h2
  rw[Nat.mul_assoc] at h4
  omega
theorem u8_wrap {x:Int} (h1:0≤x) (h2:x<256):IntKind.wrap .u8 x=x:=by
 rw[IntKind.wrap_u8];omega
theorem Len64_ok {n:Nat} (h0:0<n) (h1:n<18446744073709551616):∃L:Nat,bits_Len64 (n:Int)=some (L:Int)∧isLen n L∧L≤64:=by
 obtain ⟨T,hT,hx⟩:=len_table
 have tab:∀i:Nat,0<i→i<256→∃L:Nat,byteAt T i=L∧L≤8∧isLen i L:=fun i h2 h3=>by
  obtain ⟨a1,a2,a3⟩:=hT i h3
  exact ⟨(byteAt T i).toNat,by omega,by omega,a3 h2⟩
 have p8:(2:Int) ^ (8:Nat)=256:=by decide
 have p16:(2:Int) ^ (16:Nat)=65536:=by decide
 have p32:(2:Int) ^ (32:Nat)=4294967296:=by decide
 have stepT:∀a b:Nat,0<a→a<65536→b≤48→∃L:Nat,lenT T (a:Int) (b:Int)=some ((L+b:Nat):Int)∧isLen a L∧L≤16:=fun a b ha hb hb2=>by
  unfold lenT
  by_cases h:a<256
  ·obtain ⟨L,e1,e2,e3⟩:=tab a ha h
   rw[decide_eq_false (show ¬ (a:Int)≥256 by omega),cond_false,u8_wrap (by omega) (by omega),inB_of (by omega) (by omega),cond_true,Int.toNat_natCast,e1,wrap_id (x:=(L:Int)) (by omega) (by omega),wrap_id (by omega) (by omega)]
   exact ⟨L,by congr 1;omega,e3,by omega⟩
  ·obtain ⟨L,e1,e2,e3⟩:=tab (a / 256) (by omega) (by omega)
   rw[decide_eq_true (show (a:Int)≥256 by omega),cond_true,show decide ((0:Int)≤8)=true from rfl,cond_true,p8,fdiv_of (by omega),u8_wrap (by omega) (by omega),inB_of (by omega) (by omega),cond_true,show ((a:Int) / 256).toNat=a / 256 by omega,e1,wrap_id (x:=(L:Int)) (by omega) (by omega),wrap_id (x:=(b:Int)+8) (by omega) (by omega),wrap_id (by omega) (by omega)]
   exact ⟨L+8,by congr 1;omega,isLen_shift (k:=8) e3,by omega⟩
 have stepU:∀a b:Nat,0<a→a<4294967296→b≤32→∃L:Nat,lenU T (a:Int) (b:Int)=some ((L+b:Nat):Int)∧isLen a L∧L≤32:=fun a b ha hb hb2=>by
  unfold lenU
  by_cases h:a<65536
  ·obtain ⟨L,e1,e2,e3⟩:=stepT a b ha h (by omega)
   rw[decide_eq_false (show ¬ (a:Int)≥65536 by omega),cond_false,e1]
   exact ⟨L,rfl,e2,by omega⟩
  ·obtain ⟨L,e1,e2,e3⟩:=stepT (a / 65536) (b+16) (by omega) (by omega) (by omega)
   rw[decide_eq_true (show (a:Int)≥65536 by omega),cond_true,show decide ((0:Int)≤16)=true from rfl,cond_true,p16,fdiv_of (by omega),wrap_id (by omega) (by omega),show (a:Int) / 65536=((a / 65536:Nat):Int) by omega,show (b:Int)+16=((b+16:Nat):Int) by omega,e1]
   exact ⟨L+16,by congr 1;omega,isLen_shift (k:=16) e2,by omega⟩
 rw[hx]
 by_cases h:n<4294967296
 ·obtain ⟨L,e1,e2,e3⟩:=stepU n 0 h0 h (by omega)
  rw[decide_eq_false (show ¬ (n:Int)≥4294967296 by omega),cond_false]
  exact ⟨L,e1,e2,by omega⟩
 ·obtain ⟨L,e1,e2,e3⟩:=stepU (n / 4294967296) 32 (by omega) (by omega) (by omega)
  rw[decide_eq_true (show (n:Int)≥4294967296 by omega),cond_true,show decide ((0:Int)≤32)=true from rfl,cond_true,p32,fdiv_of (by omega),show (n:Int) / 4294967296=((n / 4294967296:Nat):Int) by omega]
  exact ⟨L+32,e1,isLen_shift (k:=32) e2,by omega⟩
end Go.Proofs.YtfknoaclabfdlaaGreat

namespace Go.Proofs.YtfknoaclabfdlaaGreat
open Tryz Dn Dn.Sh
theorem digit_stop {q r U u y1 y0:Int} (hq:q*y1+r=U) (_:0≤u) (hy:0<y1*4294967296+y0) (hge:(U*4294967296+u) / (y1*4294967296+y0)≤q) (ht:q*y0≤4294967296*r+u):q=(U*4294967296+u) / (y1*4294967296+y0):=by
 refine Int.le_antisymm (Int.le_ediv_of_mul_le hy ?_) hge
 rw[Int.mul_add,←Int.mul_assoc]
 omega
theorem digit_less {q r U u y1 y0:Int} (hq:q*y1+r=U) (hy:0<y1*4294967296+y0) (hU:U*4294967296+u<(y1*4294967296+y0)*4294967296) (ht:q≥4294967296∨q*y0>4294967296*r+u):(U*4294967296+u) / (y1*4294967296+y0)≤q - 1:=by
 have:(U*4294967296+u) / (y1*4294967296+y0)<q:=by
  refine Int.ediv_lt_of_lt_mul hy ?_
  rcases ht with ht | ht
  ·exact Int.lt_of_lt_of_le hU (by rw[Int.mul_comm q];exact Int.mul_le_mul_of_nonneg_left ht (by omega))
  ·rw[Int.mul_add,←Int.mul_assoc]
   omega
 omega
theorem digit_end {q r U u y1 y0:Int} (hq:q*y1+r=U) (hu:0≤u) (hy:0<y1*4294967296+y0) (h0:0≤y0∧y0<4294967296) (hge:(U*4294967296+u) / (y1*4294967296+y0)≤q - 1) (hr:r+y1≥4294967296) (hq2:1≤q∧q≤4294967297):q - 1=(U*4294967296+u) / (y1*4294967296+y0):=by
 refine Int.le_antisymm (Int.le_ediv_of_mul_le hy ?_) hge
 have e1:(q - 1)*y0≤4294967296*4294967295:=Int.mul_le_mul (by omega) (by omega) h0.1 (by omega)
 rw[Int.mul_add,←Int.mul_assoc,Int.sub_mul q 1 y1,Int.one_mul]
 omega
theorem lor_add {s:Nat} {a b:Nat} (h:b<2 ^ s):Nat.lor (a*2 ^ s) b=a*2 ^ s+b:=by
 have:=Nat.two_pow_add_eq_or_of_lt h a
 rw[Nat.mul_comm a]
 exact this.symm
theorem digit_loop {α R:Type} {F:(α→Option R)→α→Option R} {J:Int→Option R} {U u y1 y0:Int} (enc:Int→Int→α) (dec:α→Int) (hdec:∀q r,dec (enc q r)=q)
  (hu:0≤u) (h0:0≤y0∧y0<4294967296) (h1:2147483648≤y1∧y1<4294967296) (hU0:0≤U) (hU:U*4294967296+u<(y1*4294967296+y0)*4294967296)
  (hF1:∀again q r,1≤q→q≤4294967297→0≤r→r<4294967296→(q≥4294967296∨q*y0>4294967296*r+u)→F again (enc q r)=bif decide (r+y1≥4294967296) then J (q - 1) else again (enc (q - 1) (r+y1)))
  (hF2:∀again q r,0≤q→q<4294967296→0≤r→r<4294967296→¬ q*y0>4294967296*r+u→F again (enc q r)=J q)
  {q r:Int} (hq:q*y1+r=U) (hq0:0≤q) (hq2:q≤4294967297) (hr0:0≤r) (hr1:r<4294967296) (hge:(U*4294967296+u) / (y1*4294967296+y0)≤q) :
  lpK α R F (enc q r)=J ((U*4294967296+u) / (y1*4294967296+y0)):=by
 have hD:0≤(U*4294967296+u) / (y1*4294967296+y0):=Int.ediv_nonneg (by omega) (by omega)
 refine lpK_loop (g:=fun _=>J ((U*4294967296+u) / (y1*4294967296+y0))) (I:=fun x=>∃q r,x=enc q r∧q*y1+r=U∧0≤q∧q≤4294967297∧0≤r∧r<4294967296∧(U*4294967296+u) / (y1*4294967296+y0)≤q) (μ:=fun x=>(dec x).toNat) ?_ ⟨q,r,rfl,hq,hq0,hq2,hr0,hr1,hge⟩ (by rw[hdec];omega)
 rintro _ rec ⟨q,r,rfl,hq,hq0,hq2,hr0,hr1,hge⟩ hrec
 have hy:0<y1*4294967296+y0:=by omega
 by_cases ht:q≥4294967296∨q*y0>4294967296*r+u
 ·have hl:=digit_less hq hy hU ht
  rw[hF1 _ _ _ (by omega) hq2 hr0 hr1 ht]
  by_cases hr:r+y1≥4294967296
  ·rw[decide_eq_true hr,cond_true,digit_end hq hu hy h0 hl hr ⟨by omega,hq2⟩]
  ·rw[decide_eq_false hr,cond_false]
   refine hrec _ ⟨q - 1,r+y1,rfl,?_,by omega,by omega,by omega,by omega,hl⟩ (by rw[hdec,hdec];omega)
   rw[Int.sub_mul,Int.one_mul];omega
 ·rw[not_or] at ht
  rw[hF2 _ _ _ hq0 (by omega) hr0 hr1 ht.2,←digit_stop hq hu hy hge (by omega)]
theorem digit_init {U u y1 y0:Int} (hu:0≤u∧u<4294967296) (h0:0≤y0∧y0<4294967296) (h1:2147483648≤y1∧y1<4294967296) (hU0:0≤U) (hU:U<y1*4294967296+y0) :
  (U / y1)*y1+(U - U / y1*y1)=U∧0≤U / y1∧U / y1≤4294967297∧0≤U - U / y1*y1∧U - U / y1*y1<4294967296∧(U*4294967296+u) / (y1*4294967296+y0)≤U / y1:=by
 have e1:=Int.mul_ediv_add_emod U y1
 have e2:=Int.emod_nonneg U (show y1≠0 by omega)
 have e3:=Int.emod_lt_of_pos U (show 0<y1 by omega)
 rw[Int.mul_comm] at e1
 refine ⟨by omega,Int.ediv_nonneg hU0 (by omega),?_,by omega,by omega,?_⟩
 ·have:U / y1<4294967298:=Int.ediv_lt_of_lt_mul (by omega) (by omega)
  omega
 ·have:(U*4294967296+u) / (y1*4294967296+y0)<U / y1+1:=by
   refine Int.ediv_lt_of_lt_mul (by omega) ?_
   have hq:0≤U / y1:=Int.ediv_nonneg hU0 (by omega)
   have e4:0≤(U / y1+1)*y0:=Int.mul_nonneg (by omega) h0.1
   rw[Int.mul_add,←Int.mul_assoc,Int.add_mul (U / y1) 1 y1,Int.one_mul]
   omega
  omega
noncomputable def dv2E (_ _ Y u0 P q1 un:Int) (q:Int):Option (Int×Int×Unit):=some (IntKind.wrap .u64 (IntKind.wrap .u64 (q1*4294967296)+q),Int.fdiv (IntKind.wrap .u64 (IntKind.wrap .u64 (IntKind.wrap .u64 (un*4294967296)+u0) - IntKind.wrap .u64 (q*Y))) P,())
noncomputable def dv2 (y1 y0 Y u0 P q1 un:Int):Option (Int×Int×Unit):=lpK (Int×Int×PUnit) (Int×Int×PUnit) (fun again x=>bif (bif decide (x.2.1≥4294967296) then true else decide (IntKind.wrap .u64 (x.2.1*y0)>IntKind.wrap .u64 (IntKind.wrap .u64 (4294967296*x.1)+u0))) then
 (bif decide (IntKind.wrap .u64 (x.1+y1)≥4294967296) then dv2E y1 y0 Y u0 P q1 un (IntKind.wrap .u64 (x.2.1 - 1)) else again (IntKind.wrap .u64 (x.1+y1),IntKind.wrap .u64 (x.2.1 - 1),PUnit.unit)) else dv2E y1 y0 Y u0 P q1 un x.2.1)
 (IntKind.wrap .u64 (un - IntKind.wrap .u64 (IntKind.wrap .u64 (Int.tdiv un y1)*y1)),IntKind.wrap .u64 (Int.tdiv un y1),PUnit.unit)
theorem dv2_ok {y1 y0 u0 P q1 un:Int} (hu:0≤u0∧u0<4294967296) (h0:0≤y0∧y0<4294967296) (h1:2147483648≤y1∧y1<4294967296) (hU0:0≤un) (hU:un<y1*4294967296+y0) :
  dv2 y1 y0 (y1*4294967296+y0) u0 P q1 un=dv2E y1 y0 (y1*4294967296+y0) u0 P q1 un ((un*4294967296+u0) / (y1*4294967296+y0)):=by
 obtain ⟨i1,i2,i3,i4,i5,i6⟩:=digit_init (U:=un) hu h0 h1 hU0 hU
 unfold dv2
 rw[Int.tdiv_eq_ediv_of_nonneg hU0]
 have hm:un / y1*y1≤un:=by omega
 have hm0:0≤un / y1*y1:=Int.mul_nonneg i2 (by omega)
 rw[u_wrap (x:=un / y1) i2 (by omega),u_wrap (x:=un / y1*y1) hm0 (by omega),u_wrap (x:=un - un / y1*y1) (by omega) (by omega)]
 refine digit_loop (α:=Int×Int×PUnit) (enc:=fun q r=>(r,q,PUnit.unit)) (dec:=fun x=>x.2.1) (fun _ _=>rfl) hu.1 h0 h1 hU0 (by omega) ?_ ?_ i1 i2 i3 i4 i5 i6
 ·intro again q r g1 g2 g3 g4 g5
  have e1:0≤q*y0:=Int.mul_nonneg (by omega) h0.1
  have e2:q*y0≤4294967297*4294967295:=Int.mul_le_mul g2 (by omega) h0.1 (by omega)
  simp only
  rw[u_wrap (x:=q*y0) e1 (by omega),u_wrap (x:=4294967296*r) (by omega) (by omega),u_wrap (x:=4294967296*r+u0) (by omega) (by omega),u_wrap (x:=r+y1) (by omega) (by omega),u_wrap (x:=q - 1) (by omega) (by omega)]
  have e:(bif decide (q≥4294967296) then true else decide (q*y0>4294967296*r+u0))=true:=by
   rcases g5 with ht | ht
   ·rw[decide_eq_true ht];rfl
   ·rw[decide_eq_true ht];cases decide (q≥4294967296)<;>rfl
  rw[e,cT]
 ·intro again q r g1 g2 g3 g4 g5
  have e1:0≤q*y0:=Int.mul_nonneg (by omega) h0.1
  have e2:q*y0≤4294967297*4294967295:=Int.mul_le_mul (by omega) (by omega) h0.1 (by omega)
  simp only
  rw[u_wrap (x:=q*y0) e1 (by omega),u_wrap (x:=4294967296*r) (by omega) (by omega),u_wrap (x:=4294967296*r+u0) (by omega) (by omega)]
  rw[decide_eq_false (show ¬ q≥4294967296 by omega),decide_eq_false g5,cF,cF]
noncomputable def dv1E (y1 y0 Y u1 u0 P U:Int) (q1:Int):Option (Int×Int×Unit):=dv2 y1 y0 Y u0 P q1 (IntKind.wrap .u64 (IntKind.wrap .u64 (IntKind.wrap .u64 (U*4294967296)+u1) - IntKind.wrap .u64 (q1*Y)))
noncomputable def dv1 (y1 y0 Y u1 u0 P U:Int):Option (Int×Int×Unit):=lpK (Int×Int×PUnit) (Int×Int×PUnit) (fun again x=>bif (bif decide (x.1≥4294967296) then true else decide (IntKind.wrap .u64 (x.1*y0)>IntKind.wrap .u64 (IntKind.wrap .u64 (4294967296*x.2.1)+u1))) then
 (bif decide (IntKind.wrap .u64 (x.2.1+y1)≥4294967296) then dv1E y1 y0 Y u1 u0 P U (IntKind.wrap .u64 (x.1 - 1)) else again (IntKind.wrap .u64 (x.1 - 1),IntKind.wrap .u64 (x.2.1+y1),PUnit.unit)) else dv1E y1 y0 Y u1 u0 P U x.1)
 (IntKind.wrap .u64 (Int.tdiv U y1),IntKind.wrap .u64 (U - IntKind.wrap .u64 (IntKind.wrap .u64 (Int.tdiv U y1)*y1)),PUnit.unit)
theorem dv1_ok {y1 y0 u1 u0 P U:Int} (hu:0≤u1∧u1<4294967296) (h0:0≤y0∧y0<4294967296) (h1:2147483648≤y1∧y1<4294967296) (hU0:0≤U) (hU:U<y1*4294967296+y0) :
  dv1 y1 y0 (y1*4294967296+y0) u1 u0 P U=dv1E y1 y0 (y1*4294967296+y0) u1 u0 P U ((U*4294967296+u1) / (y1*4294967296+y0)):=by
 obtain ⟨i1,i2,i3,i4,i5,i6⟩:=digit_init (U:=U) hu h0 h1 hU0 hU
 unfold dv1
 rw[Int.tdiv_eq_ediv_of_nonneg hU0]
 have hm:U / y1*y1≤U:=by omega
 have hm0:0≤U / y1*y1:=Int.mul_nonneg i2 (by omega)
 rw[u_wrap (x:=U / y1) i2 (by omega),u_wrap (x:=U / y1*y1) hm0 (by omega),u_wrap (x:=U - U / y1*y1) (by omega) (by omega)]
 refine digit_loop (α:=Int×Int×PUnit) (enc:=fun q r=>(q,r,PUnit.unit)) (dec:=fun x=>x.1) (fun _ _=>rfl) hu.1 h0 h1 hU0 (by omega) ?_ ?_ i1 i2 i3 i4 i5 i6
 ·intro again q r g1 g2 g3 g4 g5
  have e1:0≤q*y0:=Int.mul_nonneg (by omega) h0.1
  have e2:q*y0≤4294967297*4294967295:=Int.mul_le_mul g2 (by omega) h0.1 (by omega)
  simp only
  rw[u_wrap (x:=q*y0) e1 (by omega),u_wrap (x:=4294967296*r) (by omega) (by omega),u_wrap (x:=4294967296*r+u1) (by omega) (by omega),u_wrap (x:=r+y1) (by omega) (by omega),u_wrap (x:=q - 1) (by omega) (by omega)]
  have e:(bif decide (q≥4294967296) then true else decide (q*y0>4294967296*r+u1))=true:=by
   rcases g5 with ht | ht
   ·rw[decide_eq_true ht];rfl
   ·rw[decide_eq_true ht];cases decide (q≥4294967296)<;>rfl
  rw[e,cT]
 ·intro again q r g1 g2 g3 g4 g5
  have e1:0≤q*y0:=Int.mul_nonneg (by omega) h0.1
  have e2:q*y0≤4294967297*4294967295:=Int.mul_le_mul (by omega) (by omega) h0.1 (by omega)
  simp only
  rw[u_wrap (x:=q*y0) e1 (by omega),u_wrap (x:=4294967296*r) (by omega) (by omega),u_wrap (x:=4294967296*r+u1) (by omega) (by omega)]
  rw[decide_eq_false (show ¬ q≥4294967296 by omega),decide_eq_false g5,cF,cF]
theorem dv_ok {U W Y P:Nat} (hY:9223372036854775808≤Y) (hY2:Y<18446744073709551616) (hW:W<18446744073709551616) (hU:U<Y) :
  dv1 ((Y:Int) / 4294967296) ((Y:Int) % 4294967296) (Y:Int) ((W:Int) / 4294967296) ((W:Int) % 4294967296) (P:Int) (U:Int)=some ((((U*18446744073709551616+W) / Y:Nat):Int),(((U*18446744073709551616+W) % Y / P:Nat):Int),()):=by
 have eY:(Y:Int) / 4294967296*4294967296+(Y:Int) % 4294967296=Y:=by omega
 have h1:=dv1_ok (y1:=(Y:Int) / 4294967296) (y0:=(Y:Int) % 4294967296) (u1:=(W:Int) / 4294967296) (u0:=(W:Int) % 4294967296) (P:=(P:Int)) (U:=(U:Int)) (by omega) (by omega) (by omega) (by omega) (by omega)
 rw[eY] at h1
 rw[h1]
 unfold dv1E
 obtain ⟨A,hA⟩:∃A:Nat,A=U*4294967296+W / 4294967296:=⟨_,rfl⟩
 have hAi:(U:Int)*4294967296+(W:Int) / 4294967296=(A:Int):=by omega
 rw[hAi]
 have hq1:A / Y<4294967296:=(Nat.div_lt_iff_lt_mul (by omega)).2 (by omega)
 have d1:=Nat.div_add_mod A Y
 have d2:=Nat.mod_lt A (show Y>0 by omega)
 rw[show (A:Int) / (Y:Int)=((A / Y:Nat):Int) from rfl]
 have hun:IntKind.wrap .u64 (IntKind.wrap .u64 (IntKind.wrap .u64 ((U:Int)*4294967296)+(W:Int) / 4294967296) - IntKind.wrap .u64 (((A / Y:Nat):Int)*(Y:Int)))=((A % Y:Nat):Int):=by
  rw[←Int.natCast_mul,Nat.mul_comm (A / Y)]
  generalize A / Y=q1 at *
  generalize Y*q1=m at *
  rw[IntKind.wrap_u64,IntKind.wrap_u64,IntKind.wrap_u64,IntKind.wrap_u64]
  omega
 rw[hun]
 have h2:=dv2_ok (y1:=(Y:Int) / 4294967296) (y0:=(Y:Int) % 4294967296) (u0:=(W:Int) % 4294967296) (P:=(P:Int)) (q1:=((A / Y:Nat):Int)) (un:=((A % Y:Nat):Int)) (by omega) (by omega) (by omega) (by omega) (by omega)
 rw[eY] at h2
 rw[h2]
 unfold dv2E
 obtain ⟨B,hB⟩:∃B:Nat,B=A % Y*4294967296+W % 4294967296:=⟨_,rfl⟩
 have hBi:((A % Y:Nat):Int)*4294967296+(W:Int) % 4294967296=(B:Int):=by omega
 rw[hBi,show (B:Int) / (Y:Int)=((B / Y:Nat):Int) from rfl]
 have hq0:B / Y<4294967296:=(Nat.div_lt_iff_lt_mul (by omega)).2 (by omega)
 have d3:=Nat.div_add_mod B Y
 have d4:=Nat.mod_lt B (show Y>0 by omega)
 have hN:U*18446744073709551616+W=(A / Y*4294967296+B / Y)*Y+B % Y:=by
  rw[Nat.add_mul,Nat.mul_right_comm,Nat.mul_comm (A / Y),Nat.mul_comm (B / Y)]
  omega
 obtain ⟨n1,n2⟩:=divMod_of d4 hN
 rw[n1,n2]
 have hrest:IntKind.wrap .u64 (IntKind.wrap .u64 (IntKind.wrap .u64 (((A % Y:Nat):Int)*4294967296)+(W:Int) % 4294967296) - IntKind.wrap .u64 (((B / Y:Nat):Int)*(Y:Int)))=((B % Y:Nat):Int):=by
  rw[←Int.natCast_mul,Nat.mul_comm (B / Y)]
  generalize B / Y=q0 at *
  generalize Y*q0=m at *
  generalize A % Y=r1 at *
  rw[IntKind.wrap_u64,IntKind.wrap_u64,IntKind.wrap_u64,IntKind.wrap_u64]
  omega
 rw[hrest,fdiv_of (by omega)]
 generalize A / Y=q1 at *
 generalize B / Y=q0 at *
 rw[u_wrap (x:=(q1:Int)*4294967296) (by omega) (by omega),u_wrap (by omega) (by omega)]
 rfl
theorem tmod_nat (m n:Nat):Int.tmod (m:Int) (n:Int)=((m % n:Nat):Int):=by
 rw[Int.tmod_eq_emod_of_nonneg (by omega)]
 rfl
theorem jnT {α R:Type} (j:α→Option R) (f:(α→Option R)→Option R):jnK α R j f=f j:=Eq.trans rfl rfl
theorem Div64_ok {h l y:Nat} (hy:h<y) (hy2:y<18446744073709551616) (hl0:l<18446744073709551616):bits_Div64 (h:Int) (l:Int) (y:Int)=some ((((h*18446744073709551616+l) / y:Nat):Int),(((h*18446744073709551616+l) % y:Nat):Int),()):=by
 simp only[bits_Div64,bits_Div64_b,jnT]
 rw[decide_eq_false (show ¬ (y:Int)=0 by omega),cF,decide_eq_false (show ¬ (y:Int)≤(h:Int) by omega),cF]
 have hz:nzB (y:Int)=true:=nzB_of (by omega)
 by_cases h0:h=0
 ·subst h0
  rw[decide_eq_true (show ((0:Nat):Int)=0 from rfl),cT,hz,cT,cT,tdiv_nat,tmod_nat,Nat.zero_mul,Nat.zero_add]
  have:=Nat.div_le_self l y
  generalize l / y=d at *
  rw[u_wrap (by omega) (by omega)]
 ·rw[decide_eq_false (show ¬ (h:Int)=0 by omega),cF]
  obtain ⟨L,e1,⟨e2,e3⟩,e4⟩:=Len64_ok (n:=y) (by omega) hy2
  simp only[bits_LeadingZeros64,bits_LeadingZeros64_b,e1,obind_some']
  rw[wrap_id (x:=64 - (L:Int)) (by omega) (by omega)]
  obtain ⟨s,hs⟩:∃s:Nat,L+s=64:=⟨64 - L,by omega⟩
  have w1:IntKind.wrap .u64 (64 - (L:Int))=(s:Int):=by rw[u_wrap (by omega) (by omega)];omega
  have w2:IntKind.wrap .u64 (64 - (s:Int))=(L:Int):=by rw[u_wrap (by omega) (by omega)];omega
  have p2:∀k:Nat,(2:Int) ^ k=((2 ^ k:Nat):Int):=fun k=>by rw[Int.natCast_pow];rfl
  have p32:(2:Int) ^ (32:Nat)=4294967296:=by decide
  simp only[w1,w2,Int.toNat_natCast,Nat.min_eq_left (show s≤64 by omega),Nat.min_eq_left (show L≤64 by omega),p32]
  simp only[p2]
  have hPQ:2 ^ s*2 ^ L=18446744073709551616:=by rw[←Nat.pow_add,show s+L=64 by omega]
  have hP:0<2 ^ s:=Nat.two_pow_pos s
  have hQ:0<2 ^ L:=Nat.two_pow_pos L
  have hYlt:y*2 ^ s<18446744073709551616:=by rw[←hPQ,Nat.mul_comm (2 ^ s)];exact Nat.mul_lt_mul_of_pos_right e2 hP
  have hYge:9223372036854775808≤y*2 ^ s:=by
   have:=Nat.mul_le_mul_right (2 ^ s) e3
   rw[Nat.mul_comm (2 ^ L),hPQ,Nat.mul_assoc] at this
   omega
  have hhP:h*2 ^ s+2 ^ s≤y*2 ^ s:=by rw[←Nat.succ_mul];exact Nat.mul_le_mul_right _ hy
  have hlQ:l / 2 ^ L<2 ^ s:=by rw[Nat.div_lt_iff_lt_mul hQ,hPQ];exact hl0
  have hlor:IntKind.wrap .u64 ((Nat.lor (Int.toNat (IntKind.wrap .u64 ((h:Int)*((2 ^ s:Nat):Int)) % Int.ofNat 18446744073709551616)) (Int.toNat (Int.fdiv (l:Int) ((2 ^ L:Nat):Int) % Int.ofNat 18446744073709551616)):Nat):Int)=((h*2 ^ s+l / 2 ^ L:Nat):Int):=by
   have a1:IntKind.wrap .u64 ((h:Int)*((2 ^ s:Nat):Int))=((h*2 ^ s:Nat):Int):=by rw[←Int.natCast_mul,u_wrap (by omega) (by omega)]
   have a2:Int.fdiv (l:Int) ((2 ^ L:Nat):Int)=((l / 2 ^ L:Nat):Int):=by rw[fdiv_of (by omega)];rfl
   have a3:∀n:Nat,n<18446744073709551616→Int.toNat ((n:Int) % Int.ofNat 18446744073709551616)=n:=fun n hn=>by
    rw[show Int.ofNat 18446744073709551616=(18446744073709551616:Int) from rfl];omega
   rw[a1,a2,a3 (h*2 ^ s) (by omega),a3 (l / 2 ^ L) (by omega),lor_add hlQ]
   exact u_wrap (Int.natCast_nonneg _) (by
    have h5:h*2 ^ s+l / 2 ^ L<18446744073709551616:=by omega
    exact Int.ofNat_lt.2 h5)
  have hlo:IntKind.wrap .u64 ((l:Int)*((2 ^ s:Nat):Int))=((l % 2 ^ L*2 ^ s:Nat):Int):=by
   rw[←Int.natCast_mul,IntKind.wrap_u64]
   have a1:l*2 ^ s=(l / 2 ^ L)*18446744073709551616+l % 2 ^ L*2 ^ s:=by
    rw[←hPQ,Nat.mul_comm (2 ^ s),←Nat.mul_assoc,←Nat.add_mul,Nat.mul_comm (l / 2 ^ L),Nat.div_add_mod]
   have a2:l % 2 ^ L*2 ^ s<18446744073709551616:=by rw[←hPQ,Nat.mul_comm (2 ^ s)];exact Nat.mul_lt_mul_of_pos_right (Nat.mod_lt _ hQ) hP
   rw[a1]
   generalize l / 2 ^ L=A at *
   generalize l % 2 ^ L*2 ^ s=B at *
   omega
  have hlolt:l % 2 ^ L*2 ^ s<18446744073709551616:=by rw[←hPQ,Nat.mul_comm (2 ^ s)];exact Nat.mul_lt_mul_of_pos_right (Nat.mod_lt _ hQ) hP
  have hN:(h*18446744073709551616+l)*2 ^ s=(h*2 ^ s+l / 2 ^ L)*18446744073709551616+l % 2 ^ L*2 ^ s:=by
   have a1:l*2 ^ s=(l / 2 ^ L)*18446744073709551616+l % 2 ^ L*2 ^ s:=by
    rw[←hPQ,Nat.mul_comm (2 ^ s),←Nat.mul_assoc,←Nat.add_mul,Nat.mul_comm (l / 2 ^ L),Nat.div_add_mod]
   rw[Nat.add_mul,a1,Nat.add_mul,Nat.mul_right_comm]
   omega
  have hY:IntKind.wrap .u64 ((y:Int)*((2 ^ s:Nat):Int))=((y*2 ^ s:Nat):Int):=by rw[←Int.natCast_mul,u_wrap (by omega) (by omega)]
  have hdiv:(h*18446744073709551616+l) / y=((h*2 ^ s+l / 2 ^ L)*18446744073709551616+l % 2 ^ L*2 ^ s) / (y*2 ^ s):=by rw[←hN,Nat.mul_div_mul_right _ _ hP]
  have hmod:((h*18446744073709551616+l) % y)*2 ^ s=((h*2 ^ s+l / 2 ^ L)*18446744073709551616+l % 2 ^ L*2 ^ s) % (y*2 ^ s):=by rw[←hN,Nat.mul_mod_mul_right]
  rw[hlor,hlo,hY]
  have hU:h*2 ^ s+l / 2 ^ L<y*2 ^ s:=by omega
  have hm:(h*18446744073709551616+l) % y=((h*2 ^ s+l / 2 ^ L)*18446744073709551616+l % 2 ^ L*2 ^ s) % (y*2 ^ s) / 2 ^ s:=by rw[←hmod,Nat.mul_div_cancel _ hP]
  rw[hdiv,hm]
  generalize h*2 ^ s+l / 2 ^ L=U at *
  generalize l % 2 ^ L*2 ^ s=W at *
  generalize y*2 ^ s=Y at *
  generalize 2 ^ s=P at *
  clear e2 e3 e1 hlor hlo hN hdiv hmod hm hlQ hPQ hhP hY
  have hdv:=dv_ok (P:=P) hYge hYlt hlolt hU
  rw[←hdv]
  have c1:decide ((0:Int)≤(s:Int))=true:=decide_eq_true (by omega)
  have c2:decide ((0:Int)≤(L:Int))=true:=decide_eq_true (by omega)
  have c3:decide ((0:Int)≤(32:Int))=true:=rfl
  have c4:nzB ((Y:Int) / 4294967296)=true:=nzB_of (by omega)
  have m1:∀n:Nat,n<18446744073709551616→IntKind.wrap .u64 ((Nat.land (Int.toNat ((n:Int) % Int.ofNat 18446744073709551616)) (Int.toNat ((4294967295:Int) % Int.ofNat 18446744073709551616)):Nat):Int)=(n:Int) % 4294967296:=fun n hn=>by
   rw[land32 (by omega) (by omega),u_wrap (by omega) (by omega)]
  simp only[fdiv_of (show (0:Int)≤4294967296 by omega),c1,c2,c3,c4,m1 Y hYlt,m1 W hlolt,or_self_not,Bool.not_not,Bool.and_self,cT]
  rfl
end Go.Proofs.YtfknoaclabfdlaaGreat

namespace Go.Proofs.YtfknoaclabfdlaaGreat
open Tryz Dn Dn.Sh
theorem over_ok {n b:Nat} (hb0:0<b) (hb:b<18446744073709551616) (hn:n<340282366920938463463374607431768211456):ratio_over (hl n) (b:Int)=some (hl (n / b),((n % b:Nat):Int),()):=by
 have hz:nzB (b:Int)=true:=nzB_of (by omega)
 obtain ⟨h,l,hh,hl',hnn⟩:∃h l:Nat,h=n / 18446744073709551616∧l=n % 18446744073709551616∧n=h*18446744073709551616+l:=⟨_,_,rfl,rfl,by omega⟩
 have e:hl n=((h:Int),(l:Int)):=by unfold hl;rw[hh,hl']
 rw[e]
 simp only[ratio_over,ratio_over_b]
 rw[hz,tmod_nat,Div64_ok (Nat.mod_lt h hb0) hb (by omega),obind_some']
 have d1:=Nat.div_add_mod h b
 have d2:=Nat.mod_lt h hb0
 obtain ⟨A,hA⟩:∃A,A=h % b*18446744073709551616+l:=⟨_,rfl⟩
 rw[←hA]
 have d3:=Nat.div_add_mod A b
 have d4:=Nat.mod_lt A hb0
 have d5:A / b<18446744073709551616:=(Nat.div_lt_iff_lt_mul hb0).2 (by
  have:(h % b+1)*18446744073709551616≤b*18446744073709551616:=Nat.mul_le_mul_right _ d2
  rw[Nat.mul_comm 18446744073709551616 b]
  omega)
 have hN:n=(h / b*18446744073709551616+A / b)*b+A % b:=by
  have e1:(h / b*18446744073709551616+A / b)*b=b*(h / b)*18446744073709551616+b*(A / b):=by grind
  rw[e1,hnn]
  generalize b*(h / b)=x at *
  generalize b*(A / b)=y at *
  generalize A % b=r at *
  generalize h % b=r1 at *
  clear e hz hb0 hb hn hh hl' hnn d5 e1
  omega
 obtain ⟨n1,n2⟩:=divMod_of d4 hN
 rw[n1,n2,tdiv_nat]
 have d6:h / b<18446744073709551616:=Nat.lt_of_le_of_lt (Nat.div_le_self h b) (by omega)
 generalize h / b=x at *
 generalize A / b=y at *
 rw[u_wrap (x:=(x:Int)) (by omega) (by omega)]
 unfold hl
 rw[show (x*18446744073709551616+y) / 18446744073709551616=x by omega,show (x*18446744073709551616+y) % 18446744073709551616=y by omega]
 rfl
theorem sum_cop {na nb:Int} {da A B:Nat} (ha:Nat.gcd na.natAbs da=1) (hA:A∣da) (hAB:Nat.gcd A B=1):Nat.gcd (na*B+nb*A).natAbs A=1:=by
 have d1:=Nat.gcd_dvd_left (na*B+nb*A).natAbs A
 have d2:=Nat.gcd_dvd_right (na*B+nb*A).natAbs A
 generalize Nat.gcd (na*B+nb*A).natAbs A=d at *
 have e1:(d:Int)∣na*B+nb*A:=Int.ofNat_dvd_left.2 d1
 have e2:(d:Int)∣nb*A:=Int.dvd_mul_of_dvd_right (Int.ofNat_dvd.2 d2)
 have e3:(d:Int)∣na*B:=(Int.dvd_iff_dvd_of_dvd_add e1).2 e2
 have e4:d∣na.natAbs*B:=by
  have:=Int.ofNat_dvd_left.1 e3
  rwa [Int.natAbs_mul,Int.natAbs_natCast] at this
 have e5:Nat.Coprime d na.natAbs:=(Nat.Coprime.coprime_dvd_right (Nat.dvd_trans d2 hA) ha).symm
 have e6:d∣B:=Nat.Coprime.dvd_of_dvd_mul_left e5 e4
 have e7:=Nat.dvd_gcd d2 e6
 rw[hAB] at e7
 exact Nat.dvd_one.1 e7
theorem sum_plain {na nb:Int} {da db g A B:Nat} (ha:Nat.gcd na.natAbs da=1) (hb:Nat.gcd nb.natAbs db=1) (h1:da=A*g) (h2:db=B*g) (hAB:Nat.gcd A B=1) (hg:0<g) (hA:0<A) (hB:0<B) {c:Nat} (hc:c=Nat.gcd g (na*B+nb*A).natAbs) :
  mkRat na da+mkRat nb db=mkRat (na*B+nb*A) (A*db)∧Nat.gcd ((na*B+nb*A).natAbs / c) (A*(db / c))=1∧0<c∧c∣(na*B+nb*A).natAbs∧c∣db:=by
 have hc0:0<c:=by rw[hc];exact Nat.gcd_pos_of_pos_left _ hg
 have k1:Nat.gcd (na*B+nb*A).natAbs A=1:=sum_cop ha ⟨g,h1⟩ hAB
 have k2:Nat.gcd (na*B+nb*A).natAbs B=1:=by
  rw[Int.add_comm]
  exact sum_cop hb ⟨g,h2⟩ (by rw[Nat.gcd_comm];exact hAB)
 have c1:c∣(na*B+nb*A).natAbs:=by rw[hc];exact Nat.gcd_dvd_right _ _
 have c2:c∣g:=by rw[hc];exact Nat.gcd_dvd_left _ _
 refine ⟨?_,?_,hc0,c1,by rw[h2];exact Nat.dvd_trans c2 (Nat.dvd_mul_left g B)⟩
 ·have p1:0<A*g:=Nat.mul_pos hA hg
  have p2:0<B*g:=Nat.mul_pos hB hg
  have p3:0<A*(B*g):=Nat.mul_pos hA p2
  rw[Rat.mkRat_add_mkRat _ _ (by omega) (by omega),h1,h2,Rat.mkRat_eq_iff (Nat.ne_of_gt (Nat.mul_pos p1 p2)) (by omega)]
  simp only[Int.natCast_mul]
  grind
 ·have c3:Nat.gcd ((na*B+nb*A).natAbs / c) (g / c)=1:=by
   rw[hc,Nat.gcd_comm]
   exact Nat.gcd_div_gcd_div_gcd_of_pos_left hg
  have hdb:db / c=B*(g / c):=by rw[h2,Nat.mul_div_assoc _ c2]
  have dv:(na*B+nb*A).natAbs / c∣(na*B+nb*A).natAbs:=Nat.div_dvd_of_dvd c1
  rw[hdb]
  exact Nat.Coprime.mul_right (Nat.Coprime.coprime_dvd_left dv k1) (Nat.Coprime.mul_right (Nat.Coprime.coprime_dvd_left dv k2) c3)
theorem Add_ok {a b:Fq} (ha:okF a) (hb:okF b):ratio_Add a b=some (fitQ (qv a+qv b)):=by
 obtain ⟨na,da'⟩:=a
 obtain ⟨nb,db'⟩:=b
 have ha':=ha
 have hb':=hb
 unfold okF at ha' hb'
 simp only at ha' hb'
 obtain ⟨⟨a1,a2⟩,⟨a3,a4⟩,a5⟩:=ha'
 obtain ⟨⟨b1,b2⟩,⟨b3,b4⟩,b5⟩:=hb'
 obtain ⟨da,rfl⟩:∃da:Nat,da'=da:=⟨da'.toNat,by omega⟩
 obtain ⟨db,rfl⟩:∃db:Nat,db'=db:=⟨db'.toNat,by omega⟩
 rw[Int.natAbs_natCast] at a5 b5
 simp only[ratio_Add,ratio_Add_b,Valid_ok,decide_eq_true ha,decide_eq_true hb,obind_some',Bool.not_true,Bool.not_false,Bool.or_true,cT,cF,jnT]
 rw[u_wrap (x:=(da:Int)) (by omega) (by omega),u_wrap (x:=(db:Int)) (by omega) (by omega),gcd_ok _ _ (by omega),obind_some',size_ok (by omega) (by omega),obind_some',size_ok (by omega) (by omega)]
 have hg:0<Nat.gcd da db:=Nat.gcd_pos_of_pos_left _ (by omega)
 have hgl:Nat.gcd da db≤da:=Nat.gcd_le_left _ (by omega)
 obtain ⟨A,hA⟩:∃A,A=da / Nat.gcd da db:=⟨_,rfl⟩
 obtain ⟨B,hB⟩:∃B,B=db / Nat.gcd da db:=⟨_,rfl⟩
 have hAg:da=A*Nat.gcd da db:=by rw[hA,Nat.div_mul_cancel (Nat.gcd_dvd_left _ _)]
 have hBg:db=B*Nat.gcd da db:=by rw[hB,Nat.div_mul_cancel (Nat.gcd_dvd_right _ _)]
 have hAB:Nat.gcd A B=1:=by rw[hA,hB];exact Nat.gcd_div_gcd_div_gcd_of_pos_left (by omega)
 have hA0:0<A:=by rw[hA];exact Nat.div_pos (Nat.gcd_le_left _ (by omega)) hg
 have hB0:0<B:=by rw[hB];exact Nat.div_pos (Nat.gcd_le_right _ (by omega)) hg
 have hAl:A≤da:=by rw[hA];exact Nat.div_le_self _ _
 have hBl:B≤db:=by rw[hB];exact Nat.div_le_self _ _
 have hz:nzB ((Nat.gcd da db:Nat):Int)=true:=nzB_of (by omega)
 rw[hz,cT,tdiv_nat,tdiv_nat,←hA,←hB,u_wrap (x:=(A:Int)) (by omega) (by omega),u_wrap (x:=(B:Int)) (by omega) (by omega)]
 have x1:na.natAbs*B≤1152921504606846976*1152921504606846976:=Nat.mul_le_mul (by omega) (by omega)
 have y1:nb.natAbs*A≤1152921504606846976*1152921504606846976:=Nat.mul_le_mul (by omega) (by omega)
 rw[product_ok (by omega) (by omega),obind_some',obind_some',cT,product_ok (by omega) (by omega),obind_some']
 have hsum:=sum_plain (na:=na) (nb:=nb) a5 b5 hAg hBg hAB hg hA0 hB0 rfl
 generalize Nat.gcd da db=g at *
 have hv:qv (na,(da:Int))+qv (nb,(db:Int))=mkRat na da+mkRat nb db:=rfl
 rw[hv,hsum.1]
 simp only[or_self_not,Bool.not_not,cT]
 have tail:∀(s:Bool) (N:Nat),N≤2658455991569831745807614120560689152→sgn s N=na*B+nb*A→(bif decide ((hl N).1=0)&&(decide ((hl N).2=0)&&true) then some (((0:Int),(1:Int)),(0:Int),PUnit.unit) else
   obind (ratio_over (hl N) (g:Int)) fun t_5=>obind (ratio_gcd (g:Int) t_5.2.1) fun t_1=>obind (ratio_over (hl N) t_1) fun t_6=>bif nzB t_1 then obind (ratio_product (A:Int) (IntKind.wrap .u64 (Int.tdiv (db:Int) t_1))) fun t =>
    bif bif decide (t_6.1.1>0) then true else decide (t.1>0) then some (((0:Int),(0:Int)),(5:Int),PUnit.unit) else obind (ratio_signed s t_6.1.2 t.2) fun t=>some (t.1,t.2.1,PUnit.unit) else none)=some (fitQ (mkRat (na*B+nb*A) (A*db))):=by
  intro s N hN hs
  have hNT:(na*B+nb*A).natAbs=N:=by rw[←hs];unfold sgn;split<;>simp
  rw[hNT] at hsum
  rw[zero_hl (by omega)]
  by_cases h0:N=0
  ·rw[decide_eq_true h0,cT,←hs,h0,show sgn s 0=0 by unfold sgn;cases s<;>rfl,Rat.zero_mkRat]
   rfl
  ·obtain ⟨c,hc⟩:∃c,c=Nat.gcd g N:=⟨_,rfl⟩
   rw[←hc] at hsum
   obtain ⟨_,s2,s3,s4,s5⟩:=hsum
   have hcg:c≤g:=by rw[hc];exact Nat.gcd_le_left _ hg
   rw[decide_eq_false h0,cF,over_ok hg (by omega) (by omega),obind_some',gcd_ok _ _ (by have:=Nat.mod_lt N hg;generalize N % g=w at *;omega),obind_some',Nat.gcd_comm,←Nat.gcd_rec,←hc,over_ok s3 (by omega) (by omega),obind_some',nzB_of (by omega),cT,tdiv_nat]
   have hdc:db / c≤db:=Nat.div_le_self _ _
   have hdc0:0<db / c:=Nat.div_pos (Nat.le_of_dvd (by omega) s5) s3
   rw[u_wrap (by omega) (by generalize db / c=w at *;omega),product_ok (by omega) (by generalize db / c=w at *;omega),obind_some']
   have hNc:N / c≤N:=Nat.div_le_self _ _
   have hval:mkRat (na*B+nb*A) (A*db)=mkRat (sgn s (N / c)) (A*(db / c)):=by
    rw[←hs]
    refine mkQ_congr (Nat.mul_pos hA0 (by omega)) (Nat.mul_pos hA0 hdc0) ?_
    obtain ⟨x,rfl⟩:=s4
    obtain ⟨y,rfl⟩:=s5
    rw[Nat.mul_div_cancel_left _ s3,Nat.mul_div_cancel_left _ s3]
    grind
   rw[hval,fit_low (Nat.mul_pos hA0 hdc0) s2]
   have hden:A*(db / c)≤1152921504606846976*1152921504606846976:=Nat.mul_le_mul (by omega) (by omega)
   generalize N / c=n at *
   generalize A*(db / c)=d at *
   by_cases hn:n<18446744073709551616
   ·by_cases hd:d<18446744073709551616
    ·rw[hl_small hn,hl_small hd]
     simp only
     rw[show decide ((0:Int)>0)=false from rfl,cF,cF,signed_ok _ _ _ hn hd,obind_some']
    ·rw[hl_small hn]
     simp only
     rw[show decide ((0:Int)>0)=false from rfl,decide_eq_true (hl_big hd),cF,cT,if_neg (by omega)]
   ·rw[decide_eq_true (hl_big hn),cT,cT,if_neg (by omega)]
 have sx:∀{n:Int} {s:Bool},s=decide (n<0)→n=sgn s n.natAbs:=fun {n s} h=>by rw[h];exact size_sgn n
 by_cases hsg:decide (na<0)=decide (nb<0)
 ·rw[decide_eq_true hsg,cT,rPlus_ok (by omega),obind_some']
  refine tail _ _ (by omega) ?_
  have e1:na=sgn (decide (na<0)) na.natAbs:=size_sgn na
  have e2:nb=sgn (decide (na<0)) nb.natAbs:=by rw[hsg];exact size_sgn nb
  generalize na.natAbs=m at *
  generalize nb.natAbs=n at *
  generalize decide (na<0)=s at *
  rw[e1,e2]
  unfold sgn
  cases s
  ·simp only[Bool.false_eq_true,if_false]
   rw[Int.natCast_add,Int.natCast_mul,Int.natCast_mul]
  ·simp only[if_true]
   rw[Int.natCast_add,Int.natCast_mul,Int.natCast_mul]
   grind
 ·have e1:na=sgn (decide (na<0)) na.natAbs:=size_sgn na
  have e2:nb=sgn (!decide (na<0)) nb.natAbs:=by
   have:(!decide (na<0))=decide (nb<0):=by
    clear tail sx hsum hv ha hb
    revert hsg
    cases decide (na<0)<;>cases decide (nb<0)<;>simp
   rw[this];exact size_sgn nb
  rw[decide_eq_false hsg,cF,rLess_ok,obind_some']
  by_cases hlt:na.natAbs*B<nb.natAbs*A
  ·rw[decide_eq_true hlt,cT,rMinus_ok (by omega) (by omega),obind_some']
   refine tail _ _ (by omega) ?_
   generalize na.natAbs=m at *
   generalize nb.natAbs=n at *
   generalize decide (na<0)=s at *
   rw[e1,e2]
   have e3:(((n*A - m*B:Nat)):Int)=(n:Int)*A - (m:Int)*B:=by rw[Int.ofNat_sub (Nat.le_of_lt hlt),Int.natCast_mul,Int.natCast_mul]
   unfold sgn
   cases s
   ·simp only[Bool.false_eq_true,if_false,Bool.not_false,if_true]
    grind
   ·simp only[if_true,Bool.not_true,Bool.false_eq_true,if_false]
    grind
  ·rw[decide_eq_false hlt,cF,rMinus_ok (by omega) (by omega),obind_some']
   refine tail _ _ (by omega) ?_
   generalize na.natAbs=m at *
   generalize nb.natAbs=n at *
   generalize decide (na<0)=s at *
   rw[e1,e2]
   have e3:(((m*B - n*A:Nat)):Int)=(m:Int)*B - (n:Int)*A:=by rw[Int.ofNat_sub (Nat.not_lt.1 hlt),Int.natCast_mul,Int.natCast_mul]
   unfold sgn
   cases s
   ·simp only[Bool.false_eq_true,if_false,Bool.not_false,if_true]
    grind
   ·simp only[if_true,Bool.not_true,Bool.false_eq_true,if_false]
    grind
end Go.Proofs.YtfknoaclabfdlaaGreat

namespace Go.Proofs.YtfknoaclabfdlaaGreat
namespace Dn
theorem lpK_up {σ α R:Type} {F:(α→Option R)→α→Option R} (n:Nat) (hn:n≤1180591620717411303423) (enc:Nat→σ→α) (b:Nat→σ→(σ→Option R)→Option R) (f:σ→Option R)
  (hb:∀again (i:Nat) s,i<n→F again (enc i s)=b i s (fun s'=>again (enc (i+1) s'))) (hf:∀again s,F again (enc n s)=f s) (s:σ) :
  lpK α R F (enc 0 s)=upF b f n 0 s:=loopF_up n hn enc b f hb hf s
def idxI {α:Type} (p:α→Bool):List α→Int→Int
 | [],_=> -1
 | a ::l,i=>bif p a then i else idxI p l (i+1)
theorem idxI_neg {α:Type} {p:α→Bool}:∀{l:List α} {i:Int},0≤i→(idxI p l i<0↔∀a ∈ l,p a=false)
 | [],i,h=>by simp[idxI]
 | a ::l,i,h=>by
  unfold idxI
  cases hp:p a with
  | true=>simp only[cond_true,List.mem_cons,forall_eq_or_imp,hp];simp;omega
  | false=>simp only[cond_false,List.mem_cons,forall_eq_or_imp,hp,true_and];exact idxI_neg (by omega)
theorem idxI_drop {α:Type} {p:α→Bool} {l:List α} {d:α} {i:Nat} (h:i<l.length):idxI p (l.drop i) i=bif p (l.getD i d) then (i:Int) else idxI p (l.drop (i+1)) ((i:Int)+1):=by
 rw[List.drop_eq_getElem_cons h,getD_nat h]
 rfl
theorem idxI_at {α:Type} {p:α→Bool} {d:α}:∀{l:List α} {i:Int},0≤i→0≤idxI p l i→i≤idxI p l i∧idxI p l i<i+l.length∧p (l.getD (idxI p l i - i).toNat d)=true
 | [],i,_,h=>by simp[idxI] at h
 | a ::l,i,hi,h=>by
  unfold idxI at h ⊢
  cases hp:p a with
  | true=>simp[hp];omega
  | false =>
   rw[hp,cond_false] at h
   obtain ⟨h1,h2,h3⟩:=idxI_at (d:=d) (show 0≤i+1 by omega) h
   rw[cond_false]
   refine ⟨by omega,by simp only[List.length_cons];omega,?_⟩
   have e:(idxI p l (i+1) - i).toNat=(idxI p l (i+1) - (i+1)).toNat+1:=by omega
   rw[e,List.getD_cons_succ]
   exact h3
theorem index_loop {α:Type} {f:(α×Unit)→Option Bool} {d:α} {p:α→Bool} {l:List α} (hl:l.length≤1000000) (h:∀a,a ∈ l→f (a,())=some (p a)) :
  lpK (Int×PUnit) Int (fun (again:Int×PUnit→Option Int) (x:Int×PUnit)=>bif decide (x.1<(↑(List.length l):Int)) then bif inB x.1 (List.length l) then obind (f
   (List.getD l (Int.toNat x.1) d,PUnit.unit)) fun (t:Bool)=>bif t then some x.1 else again
   (IntKind.wrap .i64 (x.1+(1:Int)),PUnit.unit) else none else some (-1:Int)) ((0:Int),PUnit.unit)=some (idxI p l 0):=by
 refine lpK_loop (g:=fun _=>some (idxI p l 0)) (I:=fun (x:Int×PUnit)=>0≤x.1∧x.1≤l.length∧idxI p (l.drop x.1.toNat) x.1=idxI p l 0) (μ:=fun (x:Int×PUnit)=>((l.length:Int) - x.1).toNat) ?_ ⟨by simp,by simp only;omega,rfl⟩ (by simp only;omega)
 rintro ⟨i,_⟩ rec ⟨h0,h1,h2⟩ hrec
 simp only at h0 h1 h2 ⊢
 by_cases hi:i<l.length
 ·obtain ⟨n,rfl⟩:∃n:Nat,i=n:=⟨i.toNat,by omega⟩
  rw[decide_eq_true hi,cond_true,inB_of h0 hi,cond_true,Int.toNat_natCast,h _ (by rw[getD_nat (by omega)];exact List.getElem_mem (by omega)),obind_some',wrap_id (by omega) (by omega)]
  rw[Int.toNat_natCast,idxI_drop (d:=d) (by omega)] at h2
  cases hp:p (l.getD n d) with
  | true=>rw[hp,cond_true] at h2;rw[cond_true,h2]
  | false=>rw[hp,cond_false] at h2;rw[cond_false];exact hrec _ ⟨by simp only;omega,by simp only;omega,h2⟩ (by simp only;omega)
 ·rw[decide_eq_false hi,cond_false]
  have e:i.toNat=l.length:=by omega
  rw[e,List.drop_length] at h2
  rw[←h2]
  rfl
theorem find_loop {α:Type} {p:α→Bool} {d:α} {l:List α} (hl:l.length≤1000000) :
  lpK (Int×PUnit) Int (fun (again:Int×PUnit→Option Int) (x:Int×PUnit)=>bif decide (x.1<(↑(List.length l):Int)) then bif inB x.1 (List.length l) then bif p
   (List.getD l (Int.toNat x.1) d) then some x.1 else again
   (IntKind.wrap .i64 (x.1+(1:Int)),PUnit.unit) else none else some (-1:Int)) ((0:Int),PUnit.unit)=some (idxI p l 0) :=
 index_loop (f:=fun a=>some (p a.1)) hl fun _ _=>rfl
theorem upF_all {R σ:Type} {b:Nat→σ→(σ→Option R)→Option R} {f:σ→Option R} {p:Nat→Bool} {r:Option R} {s:σ} (n:Nat) (hb:∀i (k:σ→Option R),i<n→b i s k=bif p i then k s else r) :
  ∀(k i:Nat),i+k≤n→upF b f k i s=bif (List.range' i k).all p then f s else r
 | 0,i,_=>rfl
 | k+1,i,h=>by
  simp only[upF,hb i _ (by omega),List.range'_succ,List.all_cons]
  cases hp:p i with
  | true=>exact upF_all n hb k (i+1) (by omega)
  | false=>rfl
end Dn
end Go.Proofs.YtfknoaclabfdlaaGreat

namespace Go.Proofs.YtfknoaclabfdlaaGreat
open Tryz Dn Dn.Sh
theorem sgn_same {na nb:Int} {A B:Nat} (h:decide (na<0)=decide (nb<0)):sgn (decide (na<0)) (na.natAbs*B+nb.natAbs*A)=na*B+nb*A:=by
 have e1:na=sgn (decide (na<0)) na.natAbs:=size_sgn na
 have e2:nb=sgn (decide (na<0)) nb.natAbs:=by rw[h];exact size_sgn nb
 generalize na.natAbs=m at *
 generalize nb.natAbs=n at *
 generalize decide (na<0)=s at *
 rw[e1,e2]
 unfold sgn
 cases s
 ·simp only[Bool.false_eq_true,if_false]
  rw[Int.natCast_add,Int.natCast_mul,Int.natCast_mul]
 ·simp only[if_true]
  rw[Int.natCast_add,Int.natCast_mul,Int.natCast_mul]
  grind
theorem not_same {na nb:Int} (h:¬ decide (na<0)=decide (nb<0)):nb=sgn (!decide (na<0)) nb.natAbs:=by
 have:(!decide (na<0))=decide (nb<0):=by
  revert h
  cases decide (na<0)<;>cases decide (nb<0)<;>simp
 rw[this];exact size_sgn nb
theorem sgn_less {na nb:Int} {A B:Nat} (h:¬ decide (na<0)=decide (nb<0)) (hlt:na.natAbs*B<nb.natAbs*A):sgn (!decide (na<0)) (nb.natAbs*A - na.natAbs*B)=na*B+nb*A:=by
 have e1:na=sgn (decide (na<0)) na.natAbs:=size_sgn na
 have e2:=not_same h
 generalize na.natAbs=m at *
 generalize nb.natAbs=n at *
 generalize decide (na<0)=s at *
 rw[e1,e2]
 have e3:(((n*A - m*B:Nat)):Int)=(n:Int)*A - (m:Int)*B:=by rw[Int.ofNat_sub (Nat.le_of_lt hlt),Int.natCast_mul,Int.natCast_mul]
 unfold sgn
 cases s
 ·simp only[Bool.false_eq_true,if_false,Bool.not_false,if_true]
  grind
 ·simp only[if_true,Bool.not_true,Bool.false_eq_true,if_false]
  grind
theorem sgn_more {na nb:Int} {A B:Nat} (h:¬ decide (na<0)=decide (nb<0)) (hlt:¬ na.natAbs*B<nb.natAbs*A):sgn (decide (na<0)) (na.natAbs*B - nb.natAbs*A)=na*B+nb*A:=by
 have e1:na=sgn (decide (na<0)) na.natAbs:=size_sgn na
 have e2:=not_same h
 generalize na.natAbs=m at *
 generalize nb.natAbs=n at *
 generalize decide (na<0)=s at *
 rw[e1,e2]
 have e3:(((m*B - n*A:Nat)):Int)=(m:Int)*B - (n:Int)*A:=by rw[Int.ofNat_sub (Nat.not_lt.1 hlt),Int.natCast_mul,Int.natCast_mul]
 unfold sgn
 cases s
 ·simp only[Bool.false_eq_true,if_false,Bool.not_false,if_true]
  grind
 ·simp only[if_true,Bool.not_true,Bool.false_eq_true,if_false]
  grind
theorem RAdd_ok {a b:Fq} (ha:okF a) (hb:okF b):ref02_Add a b=some (fitQ (qv a+qv b)):=by
 obtain ⟨na,da'⟩:=a
 obtain ⟨nb,db'⟩:=b
 have ha':=ha
 have hb':=hb
 unfold okF at ha' hb'
 simp only at ha' hb'
 obtain ⟨⟨a1,a2⟩,⟨a3,a4⟩,a5⟩:=ha'
 obtain ⟨⟨b1,b2⟩,⟨b3,b4⟩,b5⟩:=hb'
 obtain ⟨da,rfl⟩:∃da:Nat,da'=da:=⟨da'.toNat,by omega⟩
 obtain ⟨db,rfl⟩:∃db:Nat,db'=db:=⟨db'.toNat,by omega⟩
 simp only[ref02_Add,ref02_Add_b]
 rw[RSize_ok (by omega) (by omega),obind_some',RSize_ok (by omega) (by omega),obind_some',Int.natAbs_natCast,RMul_ok (by omega) (by omega),obind_some',RSize_ok (by omega) (by omega),obind_some',RSize_ok (by omega) (by omega),obind_some',Int.natAbs_natCast,RMul_ok (by omega) (by omega),obind_some',obind_some',obind_some',RMul_ok (by omega) (by omega),obind_some']
 have x1:na.natAbs*db≤1152921504606846976*1152921504606846976:=Nat.mul_le_mul (by omega) (by omega)
 have y1:nb.natAbs*da≤1152921504606846976*1152921504606846976:=Nat.mul_le_mul (by omega) (by omega)
 have d1:da*db≤1152921504606846976*1152921504606846976:=Nat.mul_le_mul (by omega) (by omega)
 have d0:0<da*db:=Nat.mul_pos (by omega) (by omega)
 have hv:qv (na,(da:Int))+qv (nb,(db:Int))=mkRat (na*db+nb*da) (da*db):=Rat.mkRat_add_mkRat _ _ (by omega) (by omega)
 rw[hv]
 by_cases hs:decide (na<0)=decide (nb<0)
 ·rw[decide_eq_true hs,cT,Plus_ok (by omega),obind_some',RMade_ok (by omega) d0 (by omega),obind_some',sgn_same hs]
 ·rw[decide_eq_false hs,cF,Less_ok,obind_some']
  by_cases hlt:na.natAbs*db<nb.natAbs*da
  ·have e2:decide (nb<0)=!decide (na<0):=by
    clear ha hb hv
    revert hs
    cases decide (na<0)<;>cases decide (nb<0)<;>simp
   rw[decide_eq_true hlt,cT,Minus_ok (by omega) (by omega),obind_some',RMade_ok (by omega) d0 (by omega),obind_some',e2,sgn_less hs hlt]
  ·rw[decide_eq_false hlt,cF,Minus_ok (by omega) (by omega),obind_some',RMade_ok (by omega) d0 (by omega),obind_some',sgn_more hs hlt]
theorem one_hl {n:Nat} (h:n<18446744073709551616):(decide ((hl n).1=0)&&(decide ((hl n).2=1)&&true))=decide (n=1):=by
 rw[hl_small h]
 simp only[decide_true,Bool.true_and,Bool.and_true]
 rw[Bool.eq_iff_iff,decide_eq_true_eq,decide_eq_true_eq]
 omega
theorem RValid_ok {a:Fq}:ref02_Valid a=some (decide (okF a)):=by
 simp only[ref02_Valid,ref02_Valid_b,not_or_self',or_self_not,cT]
 by_cases h1:a.2<1
 ·rw[decide_eq_true h1]
  simp only[cT]
  rw[decide_eq_false (by unfold okF;omega)]
 ·rw[decide_eq_false h1]
  by_cases h2:a.2>1152921504606846976
  ·rw[decide_eq_true h2]
   simp only[cT,cF]
   rw[decide_eq_false (by unfold okF;omega)]
  ·rw[decide_eq_false h2]
   by_cases h3:a.1< -1152921504606846976
   ·rw[decide_eq_true h3]
    simp only[cT,cF]
    rw[decide_eq_false (by unfold okF;omega)]
   ·rw[decide_eq_false h3]
    by_cases h4:a.1>1152921504606846976
    ·rw[decide_eq_true h4]
     simp only[cT,cF]
     rw[decide_eq_false (by unfold okF;omega)]
    ·rw[decide_eq_false h4]
     simp only[cT,cF]
     have hg:Nat.gcd a.1.natAbs a.2.natAbs≤a.2.natAbs:=Nat.gcd_le_right _ (by omega)
     rw[RSize_ok (by omega) (by omega),obind_some',RSize_ok (by omega) (by omega),obind_some',←hl_small (show a.1.natAbs<18446744073709551616 by omega),←hl_small (show a.2.natAbs<18446744073709551616 by omega),Gcd_ok (by omega) (by omega) (by omega),obind_some',one_hl (by generalize Nat.gcd a.1.natAbs a.2.natAbs=g at *;omega)]
     congr 1
     rw[Bool.eq_iff_iff,decide_eq_true_eq,decide_eq_true_eq]
     unfold okF
     generalize Nat.gcd a.1.natAbs a.2.natAbs=g at *
     omega
theorem RAll_ok {l:List Fq} (h:l.length≤1000000):ref02_All l=some (l.all fun a=>decide (okF a)):=by
 simp only[ref02_All,ref02_All_b]
 refine (lpK_up (α:=Int×PUnit) (σ:=Unit) l.length (by omega) (fun i _=>((i:Int),PUnit.unit)) (fun i _ K=>bif decide (okF (l.getD i (0,0))) then K () else some false) (fun _=>some true) ?_ ?_ ()).trans ?_
 ·intro again i s hi
  simp only
  rw[decide_eq_true (show (i:Int)<l.length by omega),cT,inB_of (by omega) (by omega),cT,Int.toNat_natCast,RValid_ok,obind_some',wrap_id (by omega) (by omega)]
  cases decide (okF (l.getD i (0,0)))<;>rfl
 ·intro again s
  simp only
  rw[decide_eq_false (by omega),cF]
 ·rw[upF_all (p:=fun i=>decide (okF (l.getD i (0,0)))) (r:=some false) l.length (fun i k hi=>rfl) l.length 0 (by omega)]
  have:((List.range' 0 l.length).all fun i=>decide (okF (l.getD i (0,0))))=l.all fun a=>decide (okF a):=by
   rw[Bool.eq_iff_iff,List.all_eq_true,List.all_eq_true]
   constructor
   ·intro hh a ha
    obtain ⟨i,hi,rfl⟩:=List.mem_iff_getElem.1 ha
    have:=hh i (List.mem_range'.2 ⟨i,hi,by omega⟩)
    rwa [getD_nat hi] at this
   ·intro hh i hi
    obtain ⟨k,hk,rfl⟩:=List.mem_range'.1 hi
    refine hh _ ?_
    rw[getD_nat (by omega)]
    exact List.getElem_mem _
  rw[this]
  cases l.all fun a=>decide (okF a)<;>rfl
end Go.Proofs.YtfknoaclabfdlaaGreat

namespace Go.Proofs.YtfknoaclabfdlaaGreat
open Tryz Dn Dn.Sh
def cmpQ (p q:Rat):Int:=if p<q then -1 else if p=q then 0 else 1
theorem hl_beq {m n:Nat}:(decide ((hl m).1=(hl n).1)&&(decide ((hl m).2=(hl n).2)&&true))=decide (m=n):=by
 rw[Bool.eq_iff_iff]
 simp only[Bool.and_eq_true,decide_eq_true_eq,and_true]
 unfold hl
 constructor
 ·rintro ⟨h1,h2⟩
  have h1:m / 18446744073709551616=n / 18446744073709551616:=Int.ofNat.inj h1
  have h2:m % 18446744073709551616=n % 18446744073709551616:=Int.ofNat.inj h2
  omega
 ·intro h
  rw[h]
  exact ⟨rfl,rfl⟩
theorem cmp_signs {a b:Fq} (ha:okF a) (hb:okF b) {M N:Nat} (hM:M=a.1.natAbs*b.2.natAbs) (hN:N=b.1.natAbs*a.2.natAbs) :
  cmpQ (qv a) (qv b)=if a.1<0 then (if b.1<0 then (if N<M then -1 else if M=N then 0 else 1) else -1) else (if b.1<0 then 1 else (if M<N then -1 else if M=N then 0 else 1)):=by
 have e1:=okF_lt ha hb
 have e2:qv a=qv b↔a.1*b.2=b.1*a.2:=by
  have h1:=okF_le ha hb
  have h2:=okF_le hb ha
  constructor
  ·intro h
   have h3:=h1.1 (by rw[h];exact Rat.le_refl)
   have h4:=h2.1 (by rw[h];exact Rat.le_refl)
   omega
  ·intro h
   exact Rat.le_antisymm (h1.2 (by omega)) (h2.2 (by omega))
 obtain ⟨⟨a1,_⟩,_,_⟩:=ha
 obtain ⟨⟨b1,_⟩,_,_⟩:=hb
 have eM:(M:Int)=(a.1.natAbs:Int)*b.2:=by rw[hM,Int.natCast_mul,show ((b.2.natAbs:Nat):Int)=b.2 by omega]
 have eN:(N:Int)=(b.1.natAbs:Int)*a.2:=by rw[hN,Int.natCast_mul,show ((a.2.natAbs:Nat):Int)=a.2 by omega]
 have sa:a.1*b.2=if a.1<0 then -(M:Int) else M:=by
  split
  ·rw[eM,←Int.neg_mul];congr 1;omega
  ·rw[eM];congr 1;omega
 have sb:b.1*a.2=if b.1<0 then -(N:Int) else N:=by
  split
  ·rw[eN,←Int.neg_mul];congr 1;omega
  ·rw[eN];congr 1;omega
 have p1:a.1<0→0<M:=fun h=>by rw[hM];exact Nat.mul_pos (by omega) (by omega)
 have p2:b.1<0→0<N:=fun h=>by rw[hN];exact Nat.mul_pos (by omega) (by omega)
 unfold cmpQ
 simp only[e1,e2,sa,sb]
 clear e1 e2 sa sb eM eN hM hN
 by_cases c1:a.1<0
 ·by_cases c2:b.1<0
  ·simp only[c1,c2,if_true]
   repeat' split
   all_goals first | rfl | omega
  ·have:=p1 c1
   simp only[c1,c2,if_true,if_false]
   repeat' split
   all_goals first | rfl | omega
 ·by_cases c2:b.1<0
  ·have:=p2 c2
   simp only[c1,c2,if_true,if_false]
   repeat' split
   all_goals first | rfl | omega
  ·simp only[c1,c2,if_false]
   repeat' split
   all_goals first | rfl | omega
theorem RCmp_ok {a b:Fq} (ha:okF a) (hb:okF b):ref02_Cmp a b=some (cmpQ (qv a) (qv b)):=by
 have hs:=cmp_signs ha hb rfl rfl
 obtain ⟨⟨a1,a2⟩,⟨a3,a4⟩,_⟩:=ha
 obtain ⟨⟨b1,b2⟩,⟨b3,b4⟩,_⟩:=hb
 simp only[ref02_Cmp,ref02_Cmp_b]
 rw[RSize_ok (by omega) (by omega),obind_some',RSize_ok (by omega) (by omega),obind_some',RMul_ok (by omega) (by omega),obind_some',RSize_ok (by omega) (by omega),obind_some',RSize_ok (by omega) (by omega),obind_some',RMul_ok (by omega) (by omega),obind_some']
 simp only[not_or_self',cT,hl_beq,Less_ok,obind_some']
 rw[hs]
 clear hs
 generalize a.1.natAbs*b.2.natAbs=M
 generalize b.1.natAbs*a.2.natAbs=N
 by_cases c1:a.1<0
 ·by_cases c2:b.1<0
  ·rw[if_pos c1,if_pos c2]
   simp only[decide_eq_true c1,decide_eq_false (show ¬ b.1≥0 by omega),decide_eq_false (show ¬ a.1≥0 by omega),cT,cF]
   by_cases e:M=N
   ·simp only[decide_eq_true e,cT];rw[if_neg (by omega),if_pos e]
   ·simp only[decide_eq_false e,cF]
    by_cases e2:M<N
    ·rw[decide_eq_true e2,if_neg (by omega),if_neg e];rfl
    ·rw[decide_eq_false e2,if_pos (by omega)];rfl
  ·rw[if_pos c1,if_neg c2]
   simp only[decide_eq_true c1,decide_eq_true (show b.1≥0 by omega),cT]
 ·by_cases c2:b.1<0
  ·rw[if_neg c1,if_pos c2]
   simp only[decide_eq_false c1,decide_eq_true c2,decide_eq_true (show a.1≥0 by omega),cT,cF]
  ·rw[if_neg c1,if_neg c2]
   simp only[decide_eq_false c1,decide_eq_false c2,decide_eq_true (show a.1≥0 by omega),cT,cF]
   by_cases e:M=N
   ·simp only[decide_eq_true e,cT];rw[if_neg (by omega),if_pos e]
   ·simp only[decide_eq_false e,cF]
    by_cases e2:M<N
    ·rw[decide_eq_true e2,if_pos e2];rfl
    ·rw[decide_eq_false e2,if_neg e2,if_neg e];rfl
theorem Cmp_ok {a b:Fq} (ha:okF a) (hb:okF b):ratio_Cmp a b=some (cmpQ (qv a) (qv b),0,()):=by
 have hs:=cmp_signs ha hb rfl rfl
 have ha':=ha
 have hb':=hb
 obtain ⟨⟨a1,a2⟩,⟨a3,a4⟩,_⟩:=ha'
 obtain ⟨⟨b1,b2⟩,⟨b3,b4⟩,_⟩:=hb'
 simp only[ratio_Cmp,ratio_Cmp_b,Valid_ok,decide_eq_true ha,decide_eq_true hb,obind_some',Bool.not_true,Bool.not_false,Bool.or_true,cT,cF,jnT]
 rw[size_ok (by omega) (by omega),obind_some',u_wrap (by omega) (by omega),u_wrap (by omega) (by omega),show b.2=((b.2.natAbs:Nat):Int) by omega,product_ok (by omega) (by omega),obind_some',size_ok (by omega) (by omega),obind_some',show a.2=((a.2.natAbs:Nat):Int) by omega,product_ok (by omega) (by omega),obind_some']
 simp only[not_dec_eq]
 rw[hs]
 clear hs
 generalize a.1.natAbs*b.2.natAbs=M
 generalize b.1.natAbs*a.2.natAbs=N
 by_cases c1:a.1<0
 ·by_cases c2:b.1<0
  ·rw[if_pos c1,if_pos c2]
   simp only[decide_eq_true c1,decide_eq_true c2,bne_self_eq_false,cT,cF,rLess_ok,obind_some']
   by_cases e:N<M
   ·simp only[decide_eq_true e,cT];rw[if_pos e]
   ·simp only[decide_eq_false e,cF];rw[if_neg e]
    by_cases e2:M<N
    ·simp only[decide_eq_true e2,cT];rw[if_neg (by omega)]
    ·simp only[decide_eq_false e2,cF];rw[if_pos (by omega)]
  ·rw[if_pos c1,if_neg c2]
   simp only[decide_eq_true c1,decide_eq_false c2,Bool.true_bne,Bool.not_false,cT]
 ·by_cases c2:b.1<0
  ·rw[if_neg c1,if_pos c2]
   simp only[decide_eq_false c1,decide_eq_true c2,Bool.false_bne,cT,cF]
  ·rw[if_neg c1,if_neg c2]
   simp only[decide_eq_false c1,decide_eq_false c2,bne_self_eq_false,cF,rLess_ok,obind_some']
   by_cases e:M<N
   ·simp only[decide_eq_true e,cT];rw[if_pos e]
   ·simp only[decide_eq_false e,cF];rw[if_neg e]
    by_cases e2:N<M
    ·simp only[decide_eq_true e2,cT];rw[if_neg (by omega)]
    ·simp only[decide_eq_false e2,cF];rw[if_pos (by omega)]
end Go.Proofs.YtfknoaclabfdlaaGreat

namespace Go.Proofs.YtfknoaclabfdlaaGreat
namespace Dn
end Dn
end Go.Proofs.YtfknoaclabfdlaaGreat

namespace Go.Proofs.YtfknoaclabfdlaaGreat
open Tryz Dn Dn.Sh
abbrev Rw:=List Int×Int×Int
abbrev Pg:=List Int×List Rw
abbrev rw0:Rw:=([],(0:Int),(0:Int))
def inC (n:Int):Bool:=decide (-1048576≤n∧n≤1048576)
def inR (n:Int):Bool:=decide (-1073741824≤n∧n≤1073741824)
def rowOk (n:Nat) (r:Rw):Bool:=decide (r.1.length=n)&&(decide (1≤r.2.1∧r.2.1≤3)&&(inR r.2.2&&r.1.all inC))
def sizeP (p:Pg):Bool:=decide (1≤p.1.length∧p.1.length≤12∧p.2.length≤6)
def validP (p:Pg):Bool:=sizeP p&&(p.1.all inC&&p.2.all (rowOk p.1.length))
theorem any_idx {α:Type} {p:α→Bool} {l:List α}:decide (idxI p l 0≥0)=l.any p:=by
 have:=idxI_neg (p:=p) (l:=l) (i:=0) (by omega)
 rw[Bool.eq_iff_iff,decide_eq_true_iff,List.any_eq_true]
 constructor
 ·intro h1
  by_cases h2:∃a ∈ l,p a=true
  ·exact h2
  ·have:idxI p l 0<0:=this.2 fun a ha=>by
    cases e:p a with
    | false=>rfl
    | true=>exact (h2 ⟨a,ha,e⟩).elim
   omega
 ·rintro ⟨a,ha,h3⟩
  by_cases h2:idxI p l 0<0
  ·rw[this.1 h2 a ha] at h3;cases h3
  ·omega
theorem any_not {α:Type} {p:α→Bool} {l:List α}:(l.any fun a=>!p a)=!l.all p:=by
 induction l with
 | nil=>rfl
 | cons a l ih=>simp[ih,Bool.not_and]
theorem all_range {α:Type} {p:α→Bool} {l:List α} (d:α):(List.range' 0 l.length).all (fun i=>p (l.getD i d))=l.all p:=by
 rw[Bool.eq_iff_iff,List.all_eq_true,List.all_eq_true]
 constructor
 ·intro h a ha
  obtain ⟨i,hi,rfl⟩:=List.getElem_of_mem ha
  have:=h i (List.mem_range'.2 ⟨i,hi,by omega⟩)
  rwa [getD_nat hi] at this
 ·intro h i hi
  obtain ⟨k,hk,rfl⟩:=List.mem_range'.1 hi
  rw[getD_nat (by omega)]
  exact h _ (List.getElem_mem _)
theorem contains81 {f:(Int×Unit)→Option Bool} {p:Int→Bool} {l:List Int} (hl:l.length≤1000000) (h:∀a,a ∈ l→f (a,())=some (p a)):slices_ContainsFunc_140 l f=some (l.any p):=by
 have h1:slices_IndexFunc_173 l f=some (idxI p l 0):=by
  unfold slices_IndexFunc_173 slices_IndexFunc_173_b
  exact index_loop (f:=f) (d:=(0:Int)) hl h
 simp only[slices_ContainsFunc_140,slices_ContainsFunc_140_b,h1,obind_some',any_idx]
theorem containsF {f:((Int×Int)×Unit)→Option Bool} {p:(Int×Int)→Bool} {l:List (Int×Int)} (hl:l.length≤1000000) (h:∀a,a ∈ l→f (a,())=some (p a)):slices_ContainsFunc_32 l f=some (l.any p):=by
 have h1:slices_IndexFunc_74 l f=some (idxI p l 0):=by
  unfold slices_IndexFunc_74 slices_IndexFunc_74_b
  exact index_loop (f:=f) (d:=((0:Int),(0:Int))) hl h
 simp only[slices_ContainsFunc_32,slices_ContainsFunc_32_b,h1,obind_some',any_idx]
theorem far_ok (n m:Int) (h0:0≤m) (h1:m≤1099511627776):program_Valid_1_1 n m=some (!decide (-m≤n∧n≤m)):=by
 have hw:IntKind.wrap .i64 (0 - m)= -m:=by rw[wrap_id (by omega) (by omega)];omega
 simp only[program_Valid_1_1,program_Valid_1_1_b,hw,not_or_self',or_self_not,Bool.and_self,cT]
 by_cases g1:n< -m
 ·rw[decide_eq_true g1,decide_eq_false (show ¬ (-m≤n∧n≤m) by omega)];rfl
 ·rw[decide_eq_false g1]
  by_cases g2:n>m
  ·rw[decide_eq_true g2,decide_eq_false (show ¬ (-m≤n∧n≤m) by omega)];rfl
  ·rw[decide_eq_false g2,decide_eq_true (show (-m≤n∧n≤m) by omega)];rfl
theorem farC (n:Int):program_Valid_1_1 n 1048576=some (!inC n):=far_ok n _ (by omega) (by omega)
theorem farR (n:Int):program_Valid_1_1 n 1073741824=some (!inR n):=far_ok n _ (by omega) (by omega)
theorem pValid_ok (p:Pg):program_Valid p=some (validP p):=by
 obtain ⟨c,rs⟩:=p
 simp only[program_Valid,program_Valid_b,program_Valid_1,program_Valid_1_b,not_or_self',or_self_not,Bool.and_self,cT,validP,sizeP]
 by_cases g1:(c.length:Int)<1
 ·rw[decide_eq_true g1,decide_eq_false (show ¬ (1≤c.length∧c.length≤12∧rs.length≤6) by omega)]
  rfl
 ·rw[decide_eq_false g1]
  by_cases g2:(c.length:Int)>12
  ·rw[decide_eq_true g2,decide_eq_false (show ¬ (1≤c.length∧c.length≤12∧rs.length≤6) by omega)]
   rfl
  ·rw[decide_eq_false g2]
   by_cases g3:(rs.length:Int)>6
   ·rw[decide_eq_true g3,decide_eq_false (show ¬ (1≤c.length∧c.length≤12∧rs.length≤6) by omega)]
    rfl
   ·rw[decide_eq_false g3,decide_eq_true (show (1≤c.length∧c.length≤12∧rs.length≤6) by omega)]
    have hc:∀l:List Int,l.length≤1000000→slices_ContainsFunc_140 l (fun x=>program_Valid_1_1 x.1 1048576)=some (!l.all inC):=fun l hl=>by
     rw[←any_not]
     exact contains81 hl fun a _=>farC a
    simp only[cF,cT,Bool.not_false,obind_some',hc c (by omega),Bool.true_and]
    cases hcc:c.all inC with
    | false=>rfl
    | true =>
     simp only[Bool.not_true,cF,Bool.true_and]
     refine (lpK_up (α:=Int×PUnit) rs.length (by omega) (fun i (_:Unit)=>((i:Int),PUnit.unit)) (fun i s k=>bif rowOk c.length (rs.getD i rw0) then k s else some false) (fun _=>some true) ?_ ?_ ()).trans ?_
     ·intro again i _ hi
      have hw:IntKind.wrap .i64 ((i:Int)+1)=((i+1:Nat):Int):=by rw[wrap_id (by omega) (by omega)];rfl
      simp only[inB_nat,decide_eq_true hi,decide_eq_true (show (i:Int)<rs.length by omega),cT,Int.toNat_natCast,hw]
      obtain ⟨a,k,b,e⟩:∃a k b,List.getD rs i rw0=(a,k,b):=⟨_,_,_,rfl⟩
      simp only[e,rowOk,farR,decide_eq_true (show (i:Int)≥0 by omega)]
      by_cases q1:a.length=c.length
      ·have hca:=hc a (by omega)
       simp only[decide_eq_true (show (a.length:Int)=c.length by omega),decide_eq_true q1,Bool.not_true,Bool.not_false,cT,cF,obind_some',hca,Bool.true_and]
       by_cases q2:k<1
       ·simp only[decide_eq_true q2,decide_eq_false (show ¬ (1≤k∧k≤3) by omega)]
        cases a.all inC<;>simp[obind_some']
       ·by_cases q3:k>3
        ·simp only[decide_eq_false q2,decide_eq_true q3,decide_eq_false (show ¬ (1≤k∧k≤3) by omega)]
         cases a.all inC<;>simp[obind_some']
        ·simp only[decide_eq_false q2,decide_eq_false q3,decide_eq_true (show (1≤k∧k≤3) by omega)]
         cases h1:a.all inC<;>cases h2:inR b<;>simp[obind_some',h2]
      ·simp only[decide_eq_false (show ¬ (a.length:Int)=c.length by omega),decide_eq_false q1]
       simp[obind_some']
     ·intro again _
      simp
     ·refine (upF_all (p:=fun i=>rowOk c.length (rs.getD i rw0)) (r:=some false) rs.length (fun _ _ _=>rfl) rs.length 0 (by omega)).trans ?_
      rw[all_range (p:=rowOk c.length) (l:=rs) rw0]
      cases rs.all (rowOk c.length)<;>rfl
end Go.Proofs.YtfknoaclabfdlaaGreat

namespace Go.Proofs.YtfknoaclabfdlaaGreat
open Tryz Dn Dn.Sh
abbrev Bk:=ByteArray×Int
abbrev Hd:=ByteArray×Int×Int×Int
abbrev Rp:=ByteArray×List Hd×Bool
abbrev Sy:=List Bk×List Rp
abbrev bk0:Bk:=({ data:={ toList:=[] } },(0:Int))
abbrev hd0:Hd:=({ data:={ toList:=[] } },(0:Int),(0:Int),(0:Int))
abbrev rp0:Rp:=({ data:={ toList:=[] } },[],false)
theorem ychk_up {σ R:Type} {b:Nat→σ→(σ→Option R)→Option R} {f:σ→Option R} {q:Nat→Bool} {g:Nat→σ→σ} {r:Option R} (n:Nat) (hb:∀i s (k:σ→Option R),i<n→b i s k=bif q i then k (g i s) else r) :
  ∀(k i:Nat) (s:σ),i+k≤n→upF b f k i s=bif (List.range' i k).all q then f ((List.range' i k).foldl (fun s i=>g i s) s) else r
 | 0,i,s,_=>rfl
 | k+1,i,s,h=>by
  simp only[upF,hb i s _ (by omega),List.range'_succ,List.all_cons,List.foldl_cons]
  cases hp:q i with
  | true=>exact ychk_up n hb k (i+1) _ (by omega)
  | false=>rfl
theorem ychk_loop {α R:Type} {p:α→Bool} {d:α} {l:List α} {yes no:Option R} {F:(Int×PUnit→Option R)→Int×PUnit→Option R} (hl:l.length≤1000000)
  (hb:∀again (i:Nat),i<l.length→F again ((i:Int),PUnit.unit)=bif p (l.getD i d) then again (((i+1:Nat):Int),PUnit.unit) else no) (hf:∀again,F again ((l.length:Int),PUnit.unit)=yes) :
  lpK (Int×PUnit) R F ((0:Int),PUnit.unit)=bif l.all p then yes else no:=by
 refine (lpK_up (α:=Int×PUnit) l.length (by omega) (fun i (_:Unit)=>((i:Int),PUnit.unit)) (fun i s k=>bif p (l.getD i d) then k s else no) (fun _=>yes) ?_ ?_ ()).trans ?_
 ·intro again i _ hi
  exact hb again i hi
 ·intro again _
  exact hf again
 ·rw[upF_all l.length (fun i k _=>rfl) l.length 0 (by omega),all_range]
theorem ygetM_put (x y:ByteArray):∀m:List (ByteArray×Bool),getM str Sh.bool x false (putM str Sh.bool y true m)=(decide (x=y)||getM str Sh.bool x false m)
 | []=>by
  simp only[putM,getM,keyEq]
  cases decide (x=y)<;>rfl
 | z ::m=>by
  cases h1:decide (y=z.1) with
  | true =>
   have e:=of_decide_eq_true h1
   simp only[putM,keyEq,h1,cT,getM]
   rw[e]
   cases decide (x=z.1)<;>rfl
  | false =>
   simp only[putM,keyEq,h1,cF,getM,ygetM_put x y m]
   cases h2:decide (x=z.1) with
   | false=>rfl
   | true =>
    have h3:decide (x=y)=false:=decide_eq_false fun e=>of_decide_eq_false h1 (by rw[←e];exact of_decide_eq_true h2)
    rw[h3]
    rfl
def memY (x:ByteArray) (l:List ByteArray):Bool:=l.any fun y=>decide (x=y)
theorem memY_iff {x:ByteArray} {l:List ByteArray}:memY x l=true↔x ∈ l:=by
 unfold memY
 rw[List.any_eq_true]
 constructor
 ·rintro ⟨y,h1,h2⟩;rw[of_decide_eq_true h2];exact h1
 ·intro h;exact ⟨x,h,decide_eq_true rfl⟩
theorem memY_not {x:ByteArray} {l:List ByteArray}:memY x l=false↔x ∉ l:=by rw[←memY_iff,Bool.not_eq_true]
def seenM (l:List ByteArray):List (ByteArray×Bool):=l.foldl (fun m x=>putM str Sh.bool x true m) []
theorem ygetM_fold (x:ByteArray):∀(l:List ByteArray) (m:List (ByteArray×Bool)),getM str Sh.bool x false (l.foldl (fun m x=>putM str Sh.bool x true m) m)=(memY x l||getM str Sh.bool x false m)
 | [],m=>rfl
 | y ::l,m=>by
  rw[List.foldl_cons,ygetM_fold x l,ygetM_put,←Bool.or_assoc]
  congr 1
  unfold memY
  rw[List.any_cons,Bool.or_comm]
theorem seenM_get (x:ByteArray) (l:List ByteArray):getM str Sh.bool x false (seenM l)=memY x l:=by
 unfold seenM
 rw[ygetM_fold]
 exact Bool.or_false _
theorem seenM_snoc (x:ByteArray) (l:List ByteArray):putM str Sh.bool x true (seenM l)=seenM (l++[x]):=by
 unfold seenM
 rw[List.foldl_append]
 rfl
theorem take_snoc {α:Type} {l:List α} {i:Nat} (d:α) (h:i<l.length):l.take i++[l.getD i d]=l.take (i+1):=by
 rw[getD_nat h,List.take_succ_eq_append_getElem h]
theorem getD_mapY {α β:Type} {f:α→β} {l:List α} {d:α} {i:Nat} (h:i<l.length) (e:β):(l.map f).getD i e=f (l.getD i d):=by
 rw[getD_nat (by rw[List.length_map];exact h),getD_nat h,List.getElem_map]
theorem idxI_first {α:Type} {p:α→Bool} (d:α):∀{l:List α} {i:Nat} {k:Int},i<l.length→p (l.getD i d)=true→(idxI p l k=k+i↔∀a ∈ l.take i,p a=false)
 | a ::l,0,k,_,hp=>by
  rw[List.getD_cons_zero] at hp
  unfold idxI
  rw[hp,cT]
  simp
 | a ::l,i+1,k,h,hp=>by
  rw[List.getD_cons_succ] at hp
  unfold idxI
  rw[List.take_succ_cons]
  cases ha:p a with
  | true =>
   rw[cT]
   constructor
   ·intro e;omega
   ·intro e;have:=e a (by simp);rw[ha] at this;cases this
  | false =>
   rw[cF]
   have:=idxI_first d (l:=l) (i:=i) (k:=k+1) (by simpa using h) hp
   rw[show k+((i+1:Nat):Int)=k+1+i by omega,this]
   simp[ha]
def fbI (s:Sy) (n:ByteArray):Int:=idxI (fun b:Bk=>decide (b.1=n)) s.1 0
def frI (s:Sy) (n:ByteArray):Int:=idxI (fun r:Rp=>decide (r.1=n)) s.2 0
theorem yfind_ok (s:Sy) (n:ByteArray) (hl:s.1.length≤1000000):reeving_find s n=some (fbI s n):=by
 simp only[reeving_find,reeving_find_b,reeving_find_1,reeving_find_1_b,str_beq]
 unfold slices_IndexFunc_167 slices_IndexFunc_167_b
 exact congrArg (fun m:Option Int=>obind m fun t=>some t) (index_loop (f:=fun x:Bk×Unit=>some (decide (x.1.1=n))) (p:=fun b:Bk=>decide (b.1=n)) (d:=bk0) hl (fun a _=>rfl))
theorem yfindB_ok (s:Sy) (n:ByteArray) (hl:s.1.length≤1000000):ref10_FindBlock s n=some (fbI s n):=by
 simp only[ref10_FindBlock,ref10_FindBlock_b,str_beq]
 exact find_loop (p:=fun b:Bk=>decide (b.1=n)) (d:=bk0) hl
theorem yfindR_ok (s:Sy) (n:ByteArray) (hl:s.2.length≤1000000):ref10_FindRope s n=some (frI s n):=by
 simp only[ref10_FindRope,ref10_FindRope_b,str_beq]
 exact find_loop (p:=fun r:Rp=>decide (r.1=n)) (d:=rp0) hl
def btwS (n a b:Int):Bool:=decide (n≥a)&&decide (n≤b)
theorem ywithin_ok (n a b:Int):reeving_within n a b=some (btwS n a b):=by
 simp only[reeving_within,reeving_within_b,not_or_self',Bool.and_self,cT,bif_false',btwS]
noncomputable def lossyB (f:Int×Int):Bool:=decide (okF f)&&(decide (f.1≥f.2)&&decide (f.1≤100))
theorem lossy_ok (f:Int×Int):reeving_lossy f=some (lossyB f):=by
 simp only[reeving_lossy,reeving_lossy_b,Valid_ok,obind_some',not_or_self',Bool.and_self,cT,bif_false',lossyB,Bool.and_assoc]
theorem rlossy_ok (f:Int×Int):ref10_RightLoss f=some (lossyB f):=by
 simp only[ref10_RightLoss,ref10_RightLoss_b,RValid_ok,obind_some',not_or_self',Bool.and_self,cT,bif_false',lossyB,Bool.and_assoc]
def emptyB (s:ByteArray):Bool:=decide (s={ data:=#[] })
noncomputable def holdB (s:Sy) (h:Hd) (e:Bool):Bool:=(bif e then decide (h.2.2.1=1)&&decide (h.2.2.2=1) else lossyB h.2.2) &&
 (bif emptyB h.1 then decide (h.2.1=0) else !decide (fbI s h.1<0)&&(bif e then decide (h.2.1=1)||decide (h.2.1= -1) else decide (h.2.1=2)||(decide (h.2.1=0)||decide (h.2.1= -2))))
theorem yhold_ok (s:Sy) (h:Hd) (e:Bool) (hl:s.1.length≤1000000):reeving_hold s h e=some (holdB s h e):=by
 obtain ⟨b,p,n,d⟩:=h
 simp only[reeving_hold,reeving_hold_b,lossy_ok,yfind_ok s _ hl,str_beq,holdB,emptyB,obind_some']
 generalize decide (fbI s b<0)=g1
 generalize decide (b={ data:=#[] })=g2
 generalize lossyB (n,d)=g3
 generalize decide (p=0)=p0
 generalize decide (p=1)=p1
 generalize decide (p= -1)=p2
 generalize decide (p=2)=p3
 generalize decide (p= -2)=p4
 generalize decide (n=1)=g4
 generalize decide (d=1)=g5
 cases e with
 | false =>
  cases g3;· rfl
  cases g2;case true=>rfl
  cases g1;case true=>rfl
  cases p3<;>cases p0<;>cases p4<;>rfl
 | true =>
  cases g4;· rfl
  cases g5;· rfl
  cases g2;case true=>rfl
  cases g1;case true=>rfl
  cases p1<;>cases p2<;>rfl
theorem rOfS_ok (n:Int):ref02_Of n=some (n,1):=id rfl
theorem yrhold_ok (s:Sy) (h:Hd) (e:Bool) (hl:s.1.length≤1000000):ref10_hold s h e=some (holdB s h e):=by
 obtain ⟨b,p,n,d⟩:=h
 have hL:decide (n=1)=true→decide (d=1)=true→lossyB (n,d)=true:=fun h1 h2=>by
  have e1:=of_decide_eq_true h1
  have e2:=of_decide_eq_true h2
  subst e1;subst e2
  unfold lossyB
  rw[decide_eq_true (okF_int (by omega) (by omega))]
  rfl
 simp only[ref10_hold,ref10_hold_b,rlossy_ok,yfindB_ok s _ hl,str_beq,holdB,emptyB,obind_some',rOfS_ok]
 generalize decide (fbI s b<0)=g1
 generalize decide (b={ data:=#[] })=g2
 generalize lossyB (n,d)=g3 at hL
 generalize decide (p=0)=p0
 generalize decide (p=1)=p1
 generalize decide (p= -1)=p2
 generalize decide (p=2)=p3
 generalize decide (p= -2)=p4
 cases e with
 | false =>
  cases g3;· rfl
  cases g2;case true=>rfl
  cases g1;case true=>rfl
  cases p3<;>cases p0<;>cases p4<;>rfl
 | true =>
  simp only[cT,obind_some']
  generalize decide (n=1)=g4 at hL
  generalize decide (d=1)=g5 at hL
  cases g4;· rfl
  cases g5;· rfl
  rw[hL rfl rfl]
  cases g2;case true=>rfl
  cases g1;case true=>rfl
  cases p1<;>cases p2<;>rfl
noncomputable def ropeB (s:Sy) (r:Rp):Bool:=decide (2≤r.2.1.length∧r.2.1.length≤10)&&((List.range' 0 r.2.1.length).all (fun i=>holdB s (r.2.1.getD i hd0) (decide (i=0)||decide (i=r.2.1.length - 1))) &&
 (!r.2.2||emptyB (r.2.1.getD (r.2.1.length - 1) hd0).1))
theorem yrope_ok (s:Sy) (r:Rp) (hl:s.1.length≤1000000):reeving_rope s r=some (ropeB s r):=by
 obtain ⟨nm,hs,ha⟩:=r
 have hh:=fun h e=>yhold_ok s h e hl
 simp only[reeving_rope,reeving_rope_b,ywithin_ok,hh,obind_some',ropeB,str_beq]
 by_cases h2:2≤hs.length∧hs.length≤10
 ·have e:btwS (hs.length:Int) 2 10=true:=by
   unfold btwS
   rw[decide_eq_true (show (hs.length:Int)≥2 by omega),decide_eq_true (show (hs.length:Int)≤10 by omega)];rfl
  have hw0:IntKind.wrap .i64 ((hs.length:Int) - 1)=((hs.length - 1:Nat):Int):=by rw[wrap_id (by omega) (by omega)];omega
  rw[e,decide_eq_true h2]
  simp only[Bool.not_true,cF,Bool.true_and,hw0]
  refine (lpK_up (α:=Int×PUnit) hs.length (by omega) (fun i (_:Unit)=>((i:Int),PUnit.unit)) (fun i t k=>bif holdB s (hs.getD i hd0) (decide (i=0)||decide (i=hs.length - 1)) then k t else some false) (fun _=>some (!ha||emptyB (hs.getD (hs.length - 1) hd0).1)) ?_ ?_ ()).trans ?_
  ·intro again i _ hi
   have hw:IntKind.wrap .i64 ((i:Int)+1)=((i+1:Nat):Int):=by rw[wrap_id (by omega) (by omega)];rfl
   have e0:decide ((i:Int)=0)=decide (i=0):=decide_eq_decide.2 (by omega)
   have e1:decide ((i:Int)=((hs.length - 1:Nat):Int))=decide (i=hs.length - 1):=decide_eq_decide.2 (by omega)
   simp only[inB_nat,decide_eq_true hi,decide_eq_true (show (i:Int)<hs.length by omega),cT,Int.toNat_natCast,hw,e0,e1,not_or_self',or_self_not,Bool.and_self]
   have e3:(bif decide (i=0) then true else decide (i=hs.length - 1))=(decide (i=0)||decide (i=hs.length - 1)):=by cases decide (i=0)<;>rfl
   rw[e3]
   cases holdB s (hs.getD i hd0) (decide (i=0)||decide (i=hs.length - 1))<;>rfl
  ·intro again _
   simp only[decide_eq_false (show ¬ (hs.length:Int)<hs.length by omega),cF,inB_nat,decide_eq_true (show hs.length - 1<hs.length by omega),Int.toNat_natCast,emptyB]
   generalize decide ((List.getD hs (hs.length - 1) hd0).1={ data:=#[] })=g
   cases ha<;>rfl
  ·rw[upF_all hs.length (fun i k _=>rfl) hs.length 0 (by omega)]
   cases (List.range' 0 hs.length).all fun i=>holdB s (hs.getD i hd0) (decide (i=0)||decide (i=hs.length - 1))<;>rfl
 ·have e:btwS (hs.length:Int) 2 10=false:=by
   unfold btwS
   by_cases g:(hs.length:Int)≥2
   ·rw[decide_eq_true g,decide_eq_false (show ¬ (hs.length:Int)≤10 by omega)];rfl
   ·rw[decide_eq_false g];rfl
  rw[e,decide_eq_false h2]
  rfl
theorem yrrope_ok (s:Sy) (r:Rp) (hl:s.1.length≤1000000):ref10_rope s r=some (ropeB s r):=by
 obtain ⟨nm,hs,ha⟩:=r
 have hh:=fun h e=>yrhold_ok s h e hl
 simp only[ref10_rope,ref10_rope_b,hh,obind_some',ropeB,str_beq]
 by_cases h2:2≤hs.length∧hs.length≤10
 ·have hw0:IntKind.wrap .i64 ((hs.length:Int) - 1)=((hs.length - 1:Nat):Int):=by rw[wrap_id (by omega) (by omega)];omega
  rw[decide_eq_true h2,decide_eq_false (show ¬ (hs.length:Int)<2 by omega),decide_eq_false (show ¬ (hs.length:Int)>10 by omega)]
  simp only[Bool.not_true,Bool.not_false,Bool.or_true,cT,cF,Bool.true_and,hw0]
  refine (lpK_up (α:=Int×PUnit) hs.length (by omega) (fun i (_:Unit)=>((i:Int),PUnit.unit)) (fun i t k=>bif holdB s (hs.getD i hd0) (decide (i=0)||decide (i=hs.length - 1)) then k t else some false) (fun _=>some (!ha||emptyB (hs.getD (hs.length - 1) hd0).1)) ?_ ?_ ()).trans ?_
  ·intro again i _ hi
   have hw:IntKind.wrap .i64 ((i:Int)+1)=((i+1:Nat):Int):=by rw[wrap_id (by omega) (by omega)];rfl
   have e0:decide ((i:Int)=0)=decide (i=0):=decide_eq_decide.2 (by omega)
   have e1:decide ((i:Int)=((hs.length - 1:Nat):Int))=decide (i=hs.length - 1):=decide_eq_decide.2 (by omega)
   simp only[inB_nat,decide_eq_true hi,decide_eq_true (show (i:Int)<hs.length by omega),cT,Int.toNat_natCast,hw,e0,e1,not_or_self',or_self_not,Bool.and_self]
   have e3:(bif decide (i=0) then true else decide (i=hs.length - 1))=(decide (i=0)||decide (i=hs.length - 1)):=by cases decide (i=0)<;>rfl
   rw[e3]
   cases holdB s (hs.getD i hd0) (decide (i=0)||decide (i=hs.length - 1))<;>rfl
  ·intro again _
   simp only[decide_eq_false (show ¬ (hs.length:Int)<hs.length by omega),cF,inB_nat,decide_eq_true (show hs.length - 1<hs.length by omega),Int.toNat_natCast,emptyB]
   generalize decide ((List.getD hs (hs.length - 1) hd0).1={ data:=#[] })=g
   cases ha<;>rfl
  ·rw[upF_all hs.length (fun i k _=>rfl) hs.length 0 (by omega)]
   cases (List.range' 0 hs.length).all fun i=>holdB s (hs.getD i hd0) (decide (i=0)||decide (i=hs.length - 1))<;>rfl
 ·rw[decide_eq_false h2]
  by_cases g:(hs.length:Int)<2
  ·rw[decide_eq_true g];rfl
  ·rw[decide_eq_false g,decide_eq_true (show (hs.length:Int)>10 by omega)];rfl
noncomputable def blockB (s:Sy) (i:Nat):Bool:=nameB (s.1.getD i bk0).1&&(!memY (s.1.getD i bk0).1 ((s.1.map (·.fst)).take i)&&btwS (s.1.getD i bk0).2 0 16777216)
noncomputable def ropeAtB (s:Sy) (i:Nat):Bool:=nameB (s.2.getD i rp0).1&&(!memY (s.2.getD i rp0).1 (s.1.map (·.fst)++(s.2.map (·.fst)).take i)&&ropeB s (s.2.getD i rp0))
def hauledS (rs:List Rp):Int:=(List.range' 0 rs.length).foldl (fun h i=>bif (rs.getD i rp0).2.2 then IntKind.wrap .i64 (h+1) else h) 0
noncomputable def validS (s:Sy):Bool:=decide (1≤s.1.length∧s.1.length≤6∧1≤s.2.length∧s.2.length≤6)&&((List.range' 0 s.1.length).all (blockB s)&&((List.range' 0 s.2.length).all (ropeAtB s)&&decide (hauledS s.2≤1)))
theorem sysV_ok (s:Sy):reeving_Valid s=some (validS s):=by
 obtain ⟨bs,rs⟩:=s
 simp only[reeving_Valid,reeving_Valid_b,ywithin_ok,isName_ok,obind_some',validS]
 by_cases h1:1≤bs.length∧bs.length≤6
 ·have e1:btwS (bs.length:Int) 1 6=true:=by
   unfold btwS
   rw[decide_eq_true (show (bs.length:Int)≥1 by omega),decide_eq_true (show (bs.length:Int)≤6 by omega)];rfl
  by_cases h2:1≤rs.length∧rs.length≤6
  ·have e2:btwS (rs.length:Int) 1 6=true:=by
    unfold btwS
    rw[decide_eq_true (show (rs.length:Int)≥1 by omega),decide_eq_true (show (rs.length:Int)≤6 by omega)];rfl
   have hr:=fun r=>yrope_ok (bs,rs) r (show bs.length≤1000000 by omega)
   simp only[e1,e2,hr,obind_some',Bool.not_true,Bool.not_false,Bool.or_true,cT,cF,decide_eq_true (show 1≤bs.length∧bs.length≤6∧1≤rs.length∧rs.length≤6 by omega),Bool.true_and]
   refine (lpK_up (α:=Int×List (ByteArray×Bool)×PUnit) bs.length (by omega) (fun i (_:Unit)=>((i:Int),seenM ((bs.map (·.fst)).take i),PUnit.unit)) (fun i t k=>bif blockB (bs,rs) i then k t else some false)
    (fun _=>some ((List.range' 0 rs.length).all (ropeAtB (bs,rs))&&decide (hauledS rs≤1))) ?_ ?_ ()).trans ?_
   ·intro again i _ hi
    have hw:IntKind.wrap .i64 ((i:Int)+1)=((i+1:Nat):Int):=by rw[wrap_id (by omega) (by omega)];rfl
    have hn:(bs.map (·.fst)).take (i+1)=(bs.map (·.fst)).take i++[(bs.getD i bk0).1]:=by
     rw[←take_snoc (d:=bk0.1) (by rw[List.length_map];exact hi),getD_mapY (d:=bk0) hi]
    simp only[inB_nat,decide_eq_true hi,decide_eq_true (show (i:Int)<bs.length by omega),cT,Int.toNat_natCast,hw,seenM_get,seenM_snoc,←hn,blockB,not_or_self',Bool.and_self]
    generalize memY (List.getD bs i bk0).1 ((bs.map (·.fst)).take i)=g1
    generalize btwS (List.getD bs i bk0).2 0 16777216=g2
    cases nameB (List.getD bs i bk0).1<;>cases g1<;>cases g2<;>rfl
   ·intro again _
    simp only[decide_eq_false (show ¬ (bs.length:Int)<bs.length by omega),cF]
    refine (lpK_up (α:=Int×Int×List (ByteArray×Bool)×PUnit) rs.length (by omega) (fun i (h:Int)=>(h,(i:Int),seenM (bs.map (·.fst)++(rs.map (·.fst)).take i),PUnit.unit)) (fun i t k=>bif ropeAtB (bs,rs) i then k (bif (rs.getD i rp0).2.2 then IntKind.wrap .i64 (t+1) else t) else some false)
     (fun h=>some (decide (h≤1))) ?_ ?_ 0 |>Eq.trans (by rw[List.take_zero,List.append_nil,List.take_of_length_le (by rw[List.length_map];omega)];rfl)).trans ?_
    ·intro again i t hi
     have hw:IntKind.wrap .i64 ((i:Int)+1)=((i+1:Nat):Int):=by rw[wrap_id (by omega) (by omega)];rfl
     have hn:bs.map (·.fst)++(rs.map (·.fst)).take (i+1)=bs.map (·.fst)++(rs.map (·.fst)).take i++[(rs.getD i rp0).1]:=by
      rw[←take_snoc (d:=rp0.1) (by rw[List.length_map];exact hi),getD_mapY (d:=rp0) hi,List.append_assoc]
     simp only[inB_nat,decide_eq_true hi,decide_eq_true (show (i:Int)<rs.length by omega),cT,Int.toNat_natCast,hw,seenM_get,seenM_snoc,←hn,ropeAtB,not_or_self',Bool.and_self]
     generalize memY (List.getD rs i rp0).1 (bs.map (·.fst)++(rs.map (·.fst)).take i)=g1
     generalize ropeB (bs,rs) (List.getD rs i rp0)=g2
     cases nameB (List.getD rs i rp0).1<;>cases g1<;>cases g2<;>cases (List.getD rs i rp0).2.2<;>rfl
    ·intro again t
     simp only[decide_eq_false (show ¬ (rs.length:Int)<rs.length by omega),cF]
    ·rw[ychk_up (q:=ropeAtB (bs,rs)) (g:=fun i t=>bif (rs.getD i rp0).2.2 then IntKind.wrap .i64 (t+1) else t) rs.length (fun i s k _=>rfl) rs.length 0 _ (by omega)]
     unfold hauledS
     cases (List.range' 0 rs.length).all (ropeAtB (bs,rs))<;>rfl
   ·rw[upF_all bs.length (fun i k _=>rfl) bs.length 0 (by omega)]
    cases (List.range' 0 bs.length).all (blockB (bs,rs))<;>rfl
  ·have e2:btwS (rs.length:Int) 1 6=false:=by
    unfold btwS
    by_cases g:(rs.length:Int)≥1
    ·rw[decide_eq_true g,decide_eq_false (show ¬ (rs.length:Int)≤6 by omega)];rfl
    ·rw[decide_eq_false g];rfl
   rw[e1,e2,decide_eq_false (show ¬ (1≤bs.length∧bs.length≤6∧1≤rs.length∧rs.length≤6) by omega)]
   rfl
 ·have e1:btwS (bs.length:Int) 1 6=false:=by
   unfold btwS
   by_cases g:(bs.length:Int)≥1
   ·rw[decide_eq_true g,decide_eq_false (show ¬ (bs.length:Int)≤6 by omega)];rfl
   ·rw[decide_eq_false g];rfl
  rw[e1,decide_eq_false (show ¬ (1≤bs.length∧bs.length≤6∧1≤rs.length∧rs.length≤6) by omega)]
  rfl
theorem rsysV_ok (s:Sy):ref10_Valid s=some (validS s):=by
 obtain ⟨bs,rs⟩:=s
 simp only[ref10_Valid,ref10_Valid_b,refIsName_ok,obind_some',validS]
 by_cases h0:1≤bs.length∧bs.length≤6∧1≤rs.length∧rs.length≤6
 ·have hr:=fun r=>yrrope_ok (bs,rs) r (show bs.length≤1000000 by omega)
  have hfb:=fun n=>yfindB_ok (bs,rs) n (show bs.length≤1000000 by omega)
  have hfr:=fun n=>yfindR_ok (bs,rs) n (show rs.length≤1000000 by omega)
  rw[decide_eq_true h0,decide_eq_false (show ¬ (bs.length:Int)<1 by omega),decide_eq_false (show ¬ (bs.length:Int)>6 by omega),decide_eq_false (show ¬ (rs.length:Int)<1 by omega),decide_eq_false (show ¬ (rs.length:Int)>6 by omega)]
  simp only[hr,hfb,hfr,Bool.not_true,Bool.not_false,Bool.or_true,cT,cF,Bool.true_and]
  refine (lpK_up (α:=Int×PUnit) bs.length (by omega) (fun i (_:Unit)=>((i:Int),PUnit.unit)) (fun i t k=>bif blockB (bs,rs) i then k t else some false)
   (fun _=>some ((List.range' 0 rs.length).all (ropeAtB (bs,rs))&&decide (hauledS rs≤1))) ?_ ?_ ()).trans ?_
  ·intro again i _ hi
   have hw:IntKind.wrap .i64 ((i:Int)+1)=((i+1:Nat):Int):=by rw[wrap_id (by omega) (by omega)];rfl
   have hi1:decide (fbI (bs,rs) (bs.getD i bk0).1=(i:Int))=!memY (bs.getD i bk0).1 ((bs.map (·.fst)).take i):=by
    have:=idxI_first (p:=fun b:Bk=>decide (b.1=(bs.getD i bk0).1)) bk0 (l:=bs) (i:=i) (k:=0) hi (decide_eq_true rfl)
    rw[Bool.eq_iff_iff,Bool.not_eq_true',decide_eq_true_iff,memY_not,←List.map_take]
    unfold fbI
    rw[Int.zero_add] at this
    rw[this,List.mem_map]
    constructor
    ·rintro h ⟨a,ha,he⟩
     exact of_decide_eq_false (h a ha) he
    ·intro h a ha
     exact decide_eq_false fun he=>h ⟨a,ha,he⟩
   simp only[inB_nat,decide_eq_true hi,decide_eq_true (show (i:Int)<bs.length by omega),cT,Int.toNat_natCast,hw,blockB,btwS]
   generalize hg:memY (List.getD bs i bk0).1 ((bs.map (·.fst)).take i)=g1 at hi1
   have hlt:decide ((List.getD bs i bk0).2<0)=!decide ((List.getD bs i bk0).2≥0):=by
    rw[Bool.eq_iff_iff,Bool.not_eq_true',decide_eq_true_iff,decide_eq_false_iff_not];omega
   have hgt:decide ((List.getD bs i bk0).2>16777216)=!decide ((List.getD bs i bk0).2≤16777216):=by
    rw[Bool.eq_iff_iff,Bool.not_eq_true',decide_eq_true_iff,decide_eq_false_iff_not];omega
   rw[hlt,hgt]
   generalize decide ((List.getD bs i bk0).2≥0)=g2
   generalize decide ((List.getD bs i bk0).2≤16777216)=g3
   cases nameB (List.getD bs i bk0).1 with
   | false=>rfl
   | true =>
    simp only[Bool.not_true,Bool.not_false,Bool.or_true,Bool.and_self,cT,obind_some',hi1]
    cases g1<;>cases g2<;>cases g3<;>rfl
  ·intro again _
   simp only[decide_eq_false (show ¬ (bs.length:Int)<bs.length by omega),cF]
   refine (lpK_up (α:=Int×Int×PUnit) rs.length (by omega) (fun i (h:Int)=>(h,(i:Int),PUnit.unit)) (fun i t k=>bif ropeAtB (bs,rs) i then k (bif (rs.getD i rp0).2.2 then IntKind.wrap .i64 (t+1) else t) else some false)
    (fun h=>some (decide (h≤1))) ?_ ?_ 0).trans ?_
   ·intro again i t hi
    have hw:IntKind.wrap .i64 ((i:Int)+1)=((i+1:Nat):Int):=by rw[wrap_id (by omega) (by omega)];rfl
    have hi1:decide (frI (bs,rs) (rs.getD i rp0).1=(i:Int))=!memY (rs.getD i rp0).1 ((rs.map (·.fst)).take i):=by
     have:=idxI_first (p:=fun b:Rp=>decide (b.1=(rs.getD i rp0).1)) rp0 (l:=rs) (i:=i) (k:=0) hi (decide_eq_true rfl)
     rw[Bool.eq_iff_iff,Bool.not_eq_true',decide_eq_true_iff,memY_not,←List.map_take]
     unfold frI
     rw[Int.zero_add] at this
     rw[this,List.mem_map]
     constructor
     ·rintro h ⟨a,ha,he⟩
      exact of_decide_eq_false (h a ha) he
     ·intro h a ha
      exact decide_eq_false fun he=>h ⟨a,ha,he⟩
    have hi2:decide (fbI (bs,rs) (rs.getD i rp0).1≥0)=memY (rs.getD i rp0).1 (bs.map (·.fst)):=by
     unfold fbI
     rw[any_idx,Bool.eq_iff_iff,List.any_eq_true,memY_iff,List.mem_map]
     constructor
     ·rintro ⟨a,ha,he⟩;exact ⟨a,ha,of_decide_eq_true he⟩
     ·rintro ⟨a,ha,he⟩;exact ⟨a,ha,decide_eq_true he⟩
    have hm:memY (rs.getD i rp0).1 (bs.map (·.fst)++(rs.map (·.fst)).take i)=(memY (rs.getD i rp0).1 (bs.map (·.fst))||memY (rs.getD i rp0).1 ((rs.map (·.fst)).take i)):=by
     unfold memY
     rw[List.any_append]
    simp only[inB_nat,decide_eq_true hi,decide_eq_true (show (i:Int)<rs.length by omega),cT,Int.toNat_natCast,hw,ropeAtB,hm]
    generalize memY (List.getD rs i rp0).1 (bs.map (·.fst))=g1 at hi2
    generalize memY (List.getD rs i rp0).1 ((rs.map (·.fst)).take i)=g2 at hi1
    generalize ropeB (bs,rs) (List.getD rs i rp0)=g3
    generalize nameB (List.getD rs i rp0).1=g4
    generalize (List.getD rs i rp0).2.2=g5
    cases g4 with
    | false=>rfl
    | true =>
     simp only[Bool.not_true,Bool.not_false,Bool.or_true,Bool.and_self,cT,cF,obind_some',hi1]
     cases g2 with
     | true=>cases g1<;>rfl
     | false =>
      simp only[Bool.not_true,Bool.not_false,Bool.or_true,Bool.or_false,cT,cF,obind_some',hi2]
      cases g1<;>cases g3<;>cases g5<;>rfl
   ·intro again t
    simp only[decide_eq_false (show ¬ (rs.length:Int)<rs.length by omega),cF]
   ·rw[ychk_up (q:=ropeAtB (bs,rs)) (g:=fun i t=>bif (rs.getD i rp0).2.2 then IntKind.wrap .i64 (t+1) else t) rs.length (fun i s k _=>rfl) rs.length 0 _ (by omega)]
    unfold hauledS
    cases (List.range' 0 rs.length).all (ropeAtB (bs,rs))<;>rfl
  ·rw[upF_all bs.length (fun i k _=>rfl) bs.length 0 (by omega)]
   cases (List.range' 0 bs.length).all (blockB (bs,rs))<;>rfl
 ·rw[decide_eq_false h0]
  by_cases g1:(bs.length:Int)<1
  ·rw[decide_eq_true g1];rfl
  ·rw[decide_eq_false g1]
   by_cases g2:(bs.length:Int)>6
   ·rw[decide_eq_true g2];rfl
   ·rw[decide_eq_false g2]
    by_cases g3:(rs.length:Int)<1
    ·rw[decide_eq_true g3];rfl
    ·rw[decide_eq_false g3,decide_eq_true (show (rs.length:Int)>6 by omega)];rfl
end Go.Proofs.YtfknoaclabfdlaaGreat
