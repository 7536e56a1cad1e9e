/- r05: what its functions answer (printed by a program), and that they do; part 2. r05: what its functions answer (printed by a program), and that they do; part 3. Plain lemmas for what functions answer: loops, machine numbers, lists. Fractions: rational numbers, and the pairs of numbers that stand for them. Fractions: what 'Make', 'Valid', 'Mul', 'Floor', 'Ceil' of package ratio answer. Fractions: products of two words, 'Mul', 'Floor', 'Ceil' of package ratio. Fractions of the reference: numbers of two words, their greatest common divisors and quotients. Fractions of the reference: 'Div', 'Made', 'Make', 'Times', 'Floor', 'Ceil'. Numbers of 128 bits: sums, differences, comparisons; the length of a number. The quotient of a number of 128 bits by one of 64. Fractions: 'Add' of package ratio. Loops over lists: searches and tests of all elements. Fractions: 'Add', 'Valid', 'All' of the reference. Fractions: 'Sub' and 'Cmp' of both. Loops over the elements of a list, as recursions over it. Programs: both programs know the same valid ones. Programs: sums of numbers times fractions. -/
import Derived.Test.YtnbbackjofgcfaaMgK

namespace Go.Proofs.Ytnbbackjofgcfaa
open Try Dn Dn.Sh
set_option maxRecDepth 100000
noncomputable def law05_example_b (_:Lp) (_:Jn):Option ((List Int)×List ((List Int)×Int×Int)) :=
 some ([(-1:Int),(-1:Int)],[([(1:Int),(2:Int)],(1:Int),(4:Int)),([(3:Int),(1:Int)],(1:Int),(6:Int))])
noncomputable def law05_example:Option ((List Int)×List ((List Int)×Int×Int)):=law05_example_b lpK jnK
noncomputable def c40:Ctr:=⟨[],[],[],.one T25,fun _ _ _=>law05_example⟩
theorem e40 (lp:Lp) (jn:Jn):∀(x:TsS c40.as) (F:TsF c40.fs) (y:TsS c40.cs),law05_example_b lp jn=runC lp jn (ctxT tabs lits (ctxOf prog shs inls its [] [(24,r24),(22,r22)])) hints 4 40 f40 c40 x F y:=fun x F y=>by kernel_rfl
theorem l40:(ctxT tabs lits (ctxOf prog shs inls its [] [(24,r24),(22,r22)])).ok:=ctxT_ok (q24)
theorem ok40:c40.ok prog 40:=Ctr.of_den l40 hmix (hl:=hints) (d:=4) func40 rfl (by decide) (e40 lpK jnK)
noncomputable def law05_awake_b (_:Lp) (_:Jn) (program_Check:((List Int)×List ((List Int)×Int×Int))→((Int×Int)×(List (Int×Int))×List (Int×Int))→Option (Bool×Int×Unit)) (program_Refutes:((List Int)×List ((List Int)×Int×Int))→(List (Int×Int))→Option (Bool×Int×Unit)) (program_Solve:((List Int)×List ((List Int)×Int×Int))→Option (((Int×Int)×(List (Int×Int))×List (Int×Int))×Int×Unit)) (law05_example:Option ((List Int)×List ((List Int)×Int×Int))):Option Bool :=
 obind law05_example fun (t:List Int×List (List Int×Int×Int))=>obind (program_Solve t) fun (t:((Int×Int)×List (Int×Int)×List (Int×Int))×Int×PUnit) =>
 let v4:Bool:=decide (t.2.1=(0:Int));
 let v5:Bool:=!v4||v4;
 let v6:Bool:=bif v4 then decide (t.1.1.1=(-14:Int))&&(decide (t.1.1.2=(5:Int))&&true) else false;
 let v7:Bool:=!v6||v6;obind law05_example fun (t:List Int×List (List Int×Int×Int))=>obind (program_Check t (((-14:Int),(5:Int)),[((8:Int),(5:Int)),((6:Int),
  (5:Int))],[((-2:Int),(5:Int)),((-1:Int),(5:Int))])) fun (t:Bool×Int×PUnit) =>
 let v10:Bool:=bif v6 then decide (t.2.1=(0:Int)) else false;
 let v11:Bool:=bif v10 then t.1 else false;
 let v12:Bool:=!v11||v11;obind (program_Refutes ([(0:Int)],[([(1:Int)],(2:Int),(3:Int)),([(1:Int)],(1:Int),(2:Int))]) [((1:Int),(1:Int)),((-1:Int),(1 :
  Int))]) fun (t:Bool×Int×PUnit) =>
 let v14:Bool:=bif v11 then decide (t.2.1=(0:Int)) else false;bif v5 then bif v5&&v5 then bif v5 then bif v7 then bif v7 then bif !v10||v10 then bif v12 then bif v12 then
  bif !v14||v14 then some (bif v14 then t.1 else false) else none else none else none else none else none else none else none else none else none
noncomputable def law05_awake:Option Bool:=law05_awake_b lpK jnK program_Check program_Refutes program_Solve law05_example
noncomputable def c11:Ctr:=⟨[],[],[],.one .bool,fun _ _ _=>law05_awake⟩
theorem e11 (lp:Lp) (jn:Jn) (program_Check:((List Int)×List ((List Int)×Int×Int))→((Int×Int)×(List (Int×Int))×List (Int×Int))→Option (Bool×Int×Unit)) (program_Refutes:((List Int)×List ((List Int)×Int×Int))→(List (Int×Int))→Option (Bool×Int×Unit)) (program_Solve:((List Int)×List ((List Int)×Int×Int))→Option (((Int×Int)×(List (Int×Int))×List (Int×Int))×Int×Unit)) (law05_example:Option ((List Int)×List ((List Int)×Int×Int))):∀(x:TsS c11.as) (F:TsF c11.fs) (y:TsS c11.cs),law05_awake_b lp jn program_Check program_Refutes program_Solve law05_example=runC lp jn (ctxT tabs lits (ctxOf prog shs inls its [(40,⟨[],[],[],.one T25,fun _ _ _=>law05_example⟩),(21,⟨[T25],[],[],.tup [T30,i64],fun x _ _=>program_Solve x.1⟩),(15,⟨[T25,(.sl T27)],[],[],.tup [.bool,i64],fun x _ _=>program_Refutes x.1 x.2.1⟩),(14,⟨[T25,T30],[],[],.tup [.bool,i64],fun x _ _=>program_Check x.1 x.2.1⟩)] [(24,r24),(22,r22)])) hints 4 11 f11 c11 x F y:=fun x F y=>by kernel_rfl
theorem l11:(ctxT tabs lits (ctxOf prog shs inls its [(40,c40),(21,c21),(15,c15),(14,c14)] [(24,r24),(22,r22)])).ok:=ctxT_ok (ctxOf_cons (ctxOf_cons (ctxOf_cons (ctxOf_cons (q24) (by kernel_rfl) ok14) (by kernel_rfl) ok15) (by kernel_rfl) ok21) (by kernel_rfl) ok40)
theorem ok11:c11.ok prog 11:=Ctr.of_den l11 hmix (hl:=hints) (d:=4) func11 rfl (by decide) (e11 lpK jnK program_Check program_Refutes program_Solve law05_example)
noncomputable def law05_few_1_b (_:Lp) (_:Jn) (x0:(List Int)×Int×Int):Option Bool :=
 some (decide ((↑(List.length x0.1):Int)>(14:Int)))
noncomputable def law05_few_1 (x0:(List Int)×Int×Int):Option Bool:=law05_few_1_b lpK jnK x0
noncomputable def c42:Ctr:=⟨[T45],[],[],.one .bool,fun x _ _=>law05_few_1 x.1⟩
theorem e42 (lp:Lp) (jn:Jn):∀(x:TsS c42.as) (F:TsF c42.fs) (y:TsS c42.cs),law05_few_1_b lp jn x.1=runC lp jn (ctxT tabs lits (ctxOf prog shs inls its [] [(24,r24),(22,r22)])) hints 4 42 f42 c42 x F y:=fun x F y=>by kernel_rfl
theorem l42:(ctxT tabs lits (ctxOf prog shs inls its [] [(24,r24),(22,r22)])).ok:=ctxT_ok (q24)
theorem ok42:c42.ok prog 42:=Ctr.of_den l42 hmix (hl:=hints) (d:=4) func42 rfl (by decide) (e42 lpK jnK)
noncomputable def law05_few_b (_:Lp) (_:Jn) (slices_ContainsFunc_41:(List ((List Int)×Int×Int))→(((((List Int)×Int×Int)×Unit)→Option Bool))→Option (Bool)) (law05_few_1:((List Int)×Int×Int)→Option (Bool)) (x0:(List Int)×List ((List Int)×Int×Int)):Option Bool :=
 
 let v3:Bool:=decide ((↑(List.length x0.1):Int)≤(14:Int));
 let v4:Bool:=!v3||v3;
 let v5:Bool:=bif v3 then decide ((↑(List.length x0.2):Int)≤(8:Int)) else false;
 let v6:Bool:=!v5||v5;bif v4 then bif v4 then bif v4 then bif v4 then bif v6 then bif v6 then obind (bif v5 then slices_ContainsFunc_41 x0.2 fun (x:(List Int×Int×Int) ×
  PUnit)=>law05_few_1 x.1 else some false) fun (t:Bool)=>bif v6 then bif v6 then some (bif v5 then !t else false) else none else none else none else none else none else none else
  none else none
noncomputable def law05_few (x0:(List Int)×List ((List Int)×Int×Int)):Option Bool:=law05_few_b lpK jnK slices_ContainsFunc_41 law05_few_1 x0
noncomputable def c12:Ctr:=⟨[T25],[],[],.one .bool,fun x _ _=>law05_few x.1⟩
theorem e12 (lp:Lp) (jn:Jn) (slices_ContainsFunc_41:(List ((List Int)×Int×Int))→(((((List Int)×Int×Int)×Unit)→Option Bool))→Option (Bool)) (law05_few_1:((List Int)×Int×Int)→Option (Bool)):∀(x:TsS c12.as) (F:TsF c12.fs) (y:TsS c12.cs),law05_few_b lp jn slices_ContainsFunc_41 law05_few_1 x.1=runC lp jn (ctxT tabs lits (ctxOf prog shs inls its [(42,⟨[T45],[],[],.one .bool,fun x _ _=>law05_few_1 x.1⟩),(41,⟨[(.sl T45)],[([T45],.bool)],[],.one .bool,fun x F _=>slices_ContainsFunc_41 x.1 F.1⟩)] [(24,r24),(22,r22)])) hints 4 12 f12 c12 x F y:=fun x F y=>by kernel_rfl
theorem l12:(ctxT tabs lits (ctxOf prog shs inls its [(42,c42),(41,c41)] [(24,r24),(22,r22)])).ok:=ctxT_ok (ctxOf_cons (ctxOf_cons (q24) (by kernel_rfl) ok41) (by kernel_rfl) ok42)
theorem ok12:c12.ok prog 12:=Ctr.of_den l12 hmix (hl:=hints) (d:=4) func12 rfl (by decide) (e12 lpK jnK slices_ContainsFunc_41 law05_few_1)
noncomputable def slices_IndexFunc_94_b (lp:Lp) (_:Jn) (x0:List (List (Int×Int))) (f0:(((List (Int×Int))×Unit)→Option Bool)):Option Int :=
 lp (Int×PUnit) Int (fun (again:Int×PUnit→Option Int) (x:Int×PUnit)=>bif decide (x.1<(↑(List.length x0):Int)) then bif inB x.1 (List.length x0) then obind (f0
  (List.getD x0 (Int.toNat x.1) [],PUnit.unit)) fun (t:Bool)=>bif t then some x.1 else again (IntKind.wrap .i64 (x.1+(1:Int)),PUnit.unit) else none else some (-1 :
  Int)) ((0:Int),PUnit.unit)
noncomputable def slices_IndexFunc_94 (x0:List (List (Int×Int))) (f0:(((List (Int×Int))×Unit)→Option Bool)):Option Int:=slices_IndexFunc_94_b lpK jnK x0 f0
noncomputable def c94:Ctr:=⟨[(.sl (.sl T27))],[([(.sl T27)],.bool)],[],.one i64,fun x F _=>slices_IndexFunc_94 x.1 F.1⟩
theorem e94 (lp:Lp) (jn:Jn):∀(x:TsS c94.as) (F:TsF c94.fs) (y:TsS c94.cs),slices_IndexFunc_94_b lp jn x.1 F.1=runC lp jn (ctxT tabs lits (ctxOf prog shs inls its [] [(24,r24),(22,r22)])) hints 4 94 f94 c94 x F y:=fun x F y=>by kernel_rfl
theorem l94:(ctxT tabs lits (ctxOf prog shs inls its [] [(24,r24),(22,r22)])).ok:=ctxT_ok (q24)
theorem ok94:c94.ok prog 94:=Ctr.of_den l94 hmix (hl:=hints) (d:=4) func94 rfl (by decide) (e94 lpK jnK)
noncomputable def slices_ContainsFunc_43_b (_:Lp) (_:Jn) (slices_IndexFunc_94:(List (List (Int×Int)))→((((List (Int×Int))×Unit)→Option Bool))→Option (Int)) (x0:List (List (Int×Int))) (f0:(((List (Int×Int))×Unit)→Option Bool)):Option Bool :=
 obind (slices_IndexFunc_94 x0 f0) fun (t:Int)=>some (decide (t≥(0:Int)))
noncomputable def slices_ContainsFunc_43 (x0:List (List (Int×Int))) (f0:(((List (Int×Int))×Unit)→Option Bool)):Option Bool:=slices_ContainsFunc_43_b lpK jnK slices_IndexFunc_94 x0 f0
noncomputable def c43:Ctr:=⟨[(.sl (.sl T27))],[([(.sl T27)],.bool)],[],.one .bool,fun x F _=>slices_ContainsFunc_43 x.1 F.1⟩
theorem e43 (lp:Lp) (jn:Jn) (slices_IndexFunc_94:(List (List (Int×Int)))→((((List (Int×Int))×Unit)→Option Bool))→Option (Int)):∀(x:TsS c43.as) (F:TsF c43.fs) (y:TsS c43.cs),slices_ContainsFunc_43_b lp jn slices_IndexFunc_94 x.1 F.1=runC lp jn (ctxT tabs lits (ctxOf prog shs inls its [(94,⟨[(.sl (.sl T27))],[([(.sl T27)],.bool)],[],.one i64,fun x F _=>slices_IndexFunc_94 x.1 F.1⟩)] [(24,r24),(22,r22)])) hints 4 43 f43 c43 x F y:=fun x F y=>by kernel_rfl
theorem l43:(ctxT tabs lits (ctxOf prog shs inls its [(94,c94)] [(24,r24),(22,r22)])).ok:=ctxT_ok (ctxOf_cons (q24) (by kernel_rfl) ok94)
theorem ok43:c43.ok prog 43:=Ctr.of_den l43 hmix (hl:=hints) (d:=4) func43 rfl (by decide) (e43 lpK jnK slices_IndexFunc_94)
noncomputable def law05_short_1_b (_:Lp) (_:Jn) (x0:List (Int×Int)):Option Bool :=
 some (decide ((↑(List.length x0):Int)>(20:Int)))
noncomputable def law05_short_1 (x0:List (Int×Int)):Option Bool:=law05_short_1_b lpK jnK x0
noncomputable def c44:Ctr:=⟨[(.sl T27)],[],[],.one .bool,fun x _ _=>law05_short_1 x.1⟩
theorem e44 (lp:Lp) (jn:Jn):∀(x:TsS c44.as) (F:TsF c44.fs) (y:TsS c44.cs),law05_short_1_b lp jn x.1=runC lp jn (ctxT tabs lits (ctxOf prog shs inls its [] [(24,r24),(22,r22)])) hints 4 44 f44 c44 x F y:=fun x F y=>by kernel_rfl
theorem l44:(ctxT tabs lits (ctxOf prog shs inls its [] [(24,r24),(22,r22)])).ok:=ctxT_ok (q24)
theorem ok44:c44.ok prog 44:=Ctr.of_den l44 hmix (hl:=hints) (d:=4) func44 rfl (by decide) (e44 lpK jnK)
noncomputable def law05_short_b (_:Lp) (_:Jn) (slices_ContainsFunc_43:(List (List (Int×Int)))→((((List (Int×Int))×Unit)→Option Bool))→Option (Bool)) (law05_short_1:(List (Int×Int))→Option (Bool)) (x0:List (List (Int×Int))):Option Bool :=
 obind (slices_ContainsFunc_43 x0 fun (x:List (Int×Int)×PUnit)=>law05_short_1 x.1) fun (t:Bool)=>some !t
noncomputable def law05_short (x0:List (List (Int×Int))):Option Bool:=law05_short_b lpK jnK slices_ContainsFunc_43 law05_short_1 x0
noncomputable def c13:Ctr:=⟨[(.sl (.sl T27))],[],[],.one .bool,fun x _ _=>law05_short x.1⟩
theorem e13 (lp:Lp) (jn:Jn) (slices_ContainsFunc_43:(List (List (Int×Int)))→((((List (Int×Int))×Unit)→Option Bool))→Option (Bool)) (law05_short_1:(List (Int×Int))→Option (Bool)):∀(x:TsS c13.as) (F:TsF c13.fs) (y:TsS c13.cs),law05_short_b lp jn slices_ContainsFunc_43 law05_short_1 x.1=runC lp jn (ctxT tabs lits (ctxOf prog shs inls its [(44,⟨[(.sl T27)],[],[],.one .bool,fun x _ _=>law05_short_1 x.1⟩),(43,⟨[(.sl (.sl T27))],[([(.sl T27)],.bool)],[],.one .bool,fun x F _=>slices_ContainsFunc_43 x.1 F.1⟩)] [(24,r24),(22,r22)])) hints 4 13 f13 c13 x F y:=fun x F y=>by kernel_rfl
theorem l13:(ctxT tabs lits (ctxOf prog shs inls its [(44,c44),(43,c43)] [(24,r24),(22,r22)])).ok:=ctxT_ok (ctxOf_cons (ctxOf_cons (q24) (by kernel_rfl) ok43) (by kernel_rfl) ok44)
theorem ok13:c13.ok prog 13:=Ctr.of_den l13 hmix (hl:=hints) (d:=4) func13 rfl (by decide) (e13 lpK jnK slices_ContainsFunc_43 law05_short_1)
noncomputable def ref05_within_b (_:Lp) (_:Jn) (x0:Int) (x1:Int):Option Bool :=
 
 let v4:Bool:=decide (x0≥IntKind.wrap .i64 ((0:Int) - x1));
 let v5:Bool:=!v4||v4;bif v5&&v5 then bif v5 then some (bif v4 then decide (x0≤x1) else false) else none else none
noncomputable def ref05_within (x0:Int) (x1:Int):Option Bool:=ref05_within_b lpK jnK x0 x1
noncomputable def c54:Ctr:=⟨[i64,i64],[],[],.one .bool,fun x _ _=>ref05_within x.1 x.2.1⟩
theorem e54 (lp:Lp) (jn:Jn):∀(x:TsS c54.as) (F:TsF c54.fs) (y:TsS c54.cs),ref05_within_b lp jn x.1 x.2.1=runC lp jn (ctxT tabs lits (ctxOf prog shs inls its [] [(24,r24),(22,r22)])) hints 4 54 f54 c54 x F y:=fun x F y=>by kernel_rfl
theorem l54:(ctxT tabs lits (ctxOf prog shs inls its [] [(24,r24),(22,r22)])).ok:=ctxT_ok (q24)
theorem ok54:c54.ok prog 54:=Ctr.of_den l54 hmix (hl:=hints) (d:=4) func54 rfl (by decide) (e54 lpK jnK)
noncomputable def ref05_Valid_b (lp:Lp) (_:Jn) (ref05_within:(Int)→(Int)→Option (Bool)) (x0:(List Int)×List ((List Int)×Int×Int)):Option Bool :=
 
 let v3:Bool:=decide ((↑(List.length x0.1):Int)<(1:Int));
 let v4:Bool:=!v3;
 let v5:Bool:=bif v3 then true else decide ((↑(List.length x0.1):Int)>(12:Int));
 let v6:Bool:=!v4||v4;
 let v7:Bool:=!v5;
 let v8:Bool:=!v7||v7;bif v6 then bif v6 then bif v6 then bif v3||v4 then bif v8 then bif v8 then bif v8 then bif v5||v7 then bif bif v5 then true else decide ((↑(List.length
  x0.2):Int)>(6:Int)) then some false else lp (Int×PUnit) Bool (fun (again:Int×PUnit→Option Bool) (x:Int×PUnit)=>bif decide (x.1<(↑(List.length x0.1):Int))
  then bif inB x.1 (List.length x0.1) then obind (ref05_within (List.getD x0.1 (Int.toNat x.1) (0:Int)) (1048576:Int)) fun (t:Bool)=>bif !t then some false else again
  (IntKind.wrap .i64 (x.1+(1:Int)),PUnit.unit) else none else lp (Int×PUnit) Bool (fun (again:Int×PUnit→Option Bool) (x:Int×PUnit) =>
 let v13:List Int×Int×Int:=List.getD x0.2 (Int.toNat x.1) ([],(0:Int),(0:Int));
 let v14:Bool:=!decide ((↑(List.length v13.1):Int)=(↑(List.length x0.1):Int));
 let v15:Bool:=!v14;
 let v16:Bool:=bif v14 then true else decide (v13.2.1<(1:Int));
 let v17:Bool:=!v16;
 let v18:Bool:=!v15||v15;
 let v19:Bool:=bif v16 then true else decide (v13.2.1>(3:Int));
 let v20:Bool:=!v19;
 let v21:Bool:=!v17||v17;
 let v22:Bool:=!v20||v20;bif decide (x.1<(↑(List.length x0.2):Int)) then bif inB x.1 (List.length x0.2) then bif v18 then bif v18 then bif v14||v15 then bif v21 then
  bif v21 then bif v16||v17 then bif v22 then bif v22 then obind (bif v20 then ref05_within v13.2.2 (1073741824:Int) else some false) fun (t:Bool)=>bif v22 then bif v19||v20
  then bif bif v19 then true else !t then some false else lp (Int×PUnit) Bool (fun (again_1:Int×PUnit→Option Bool) (x_1:Int×PUnit)=>bif decide (x_1.1<(↑(List.length
  v13.1):Int)) then bif inB x_1.1 (List.length v13.1) then obind (ref05_within (List.getD v13.1 (Int.toNat x_1.1) (0:Int)) (1048576:Int)) fun (t:Bool)=>bif !t then
  some false else again_1 (IntKind.wrap .i64 (x_1.1+(1:Int)),PUnit.unit) else none else again (IntKind.wrap .i64 (x.1+(1:Int)),PUnit.unit)) ((0:Int),
  PUnit.unit) else none else none else none else none else none else none else none else none else none else none else none else some true) ((0:Int),PUnit.unit)) ((0:Int),
  PUnit.unit) else none else none else none else none else none else none else none else none
noncomputable def ref05_Valid (x0:(List Int)×List ((List Int)×Int×Int)):Option Bool:=ref05_Valid_b lpK jnK ref05_within x0
noncomputable def c16:Ctr:=⟨[T25],[],[],.one .bool,fun x _ _=>ref05_Valid x.1⟩
theorem e16 (lp:Lp) (jn:Jn) (ref05_within:(Int)→(Int)→Option (Bool)):∀(x:TsS c16.as) (F:TsF c16.fs) (y:TsS c16.cs),ref05_Valid_b lp jn ref05_within x.1=runC lp jn (ctxT tabs lits (ctxOf prog shs inls its [(54,⟨[i64,i64],[],[],.one .bool,fun x _ _=>ref05_within x.1 x.2.1⟩)] [(24,r24),(22,r22)])) hints 4 16 f16 c16 x F y:=fun x F y=>by kernel_rfl
theorem l16:(ctxT tabs lits (ctxOf prog shs inls its [(54,c54)] [(24,r24),(22,r22)])).ok:=ctxT_ok (ctxOf_cons (q24) (by kernel_rfl) ok54)
theorem ok16:c16.ok prog 16:=Ctr.of_den l16 hmix (hl:=hints) (d:=4) func16 rfl (by decide) (e16 lpK jnK ref05_within)
noncomputable def ref02_Half_b (_:Lp) (_:Jn) (x0:Int×Int):Option (Int×Int) :=
 
 let v3:Int:=(2:Int) ^ (1:Nat);
 let v4:Bool:=decide ((0:Int)≤(1:Int));bif v4 then bif v4 then bif decide ((0:Int)≤(63:Int)) then some (Int.fdiv x0.1 v3,IntKind.wrap .u64 (Int.fdiv x0.2 v3 +
  IntKind.wrap .u64 (x0.1*(2:Int) ^ (63:Nat)))) else none else none else none
noncomputable def ref02_Half (x0:Int×Int):Option (Int×Int):=ref02_Half_b lpK jnK x0
noncomputable def c101:Ctr:=⟨[T83],[],[],.one T83,fun x _ _=>ref02_Half x.1⟩
theorem e101 (lp:Lp) (jn:Jn):∀(x:TsS c101.as) (F:TsF c101.fs) (y:TsS c101.cs),ref02_Half_b lp jn x.1=runC lp jn (ctxT tabs lits (ctxOf prog shs inls its [] [(24,r24),(22,r22)])) hints 4 101 f101 c101 x F y:=fun x F y=>by kernel_rfl
theorem l101:(ctxT tabs lits (ctxOf prog shs inls its [] [(24,r24),(22,r22)])).ok:=ctxT_ok (q24)
theorem ok101:c101.ok prog 101:=Ctr.of_den l101 hmix (hl:=hints) (d:=4) func101 rfl (by decide) (e101 lpK jnK)
noncomputable def ref02_Less_b (_:Lp) (_:Jn) (x0:Int×Int) (x1:Int×Int):Option Bool :=
 
 let v4:Bool:=decide (x0.1=x1.1);
 let v5:Bool:=decide (x0.1<x1.1);
 let v6:Bool:=!v5;
 let v7:Bool:=!v6;
 let v8:Bool:=v6&&v4;
 let v9:Bool:=v7||v6;
 let v10:Bool:=!v8||v8;bif v9 then bif v9 then bif v9&&v9 then bif v9 then bif v10 then bif v10 then bif v10&&v10 then bif (v7||v9)&&(v7||(!v4||(v7||v8))) then bif v5
  || v6 then some (bif v5 then true else bif v4 then decide (x0.2<x1.2) else false) else none else none else none else none else none else none else none else none else none
noncomputable def ref02_Less (x0:Int×Int) (x1:Int×Int):Option Bool:=ref02_Less_b lpK jnK x0 x1
noncomputable def c102:Ctr:=⟨[T83,T83],[],[],.one .bool,fun x _ _=>ref02_Less x.1 x.2.1⟩
theorem e102 (lp:Lp) (jn:Jn):∀(x:TsS c102.as) (F:TsF c102.fs) (y:TsS c102.cs),ref02_Less_b lp jn x.1 x.2.1=runC lp jn (ctxT tabs lits (ctxOf prog shs inls its [] [(24,r24),(22,r22)])) hints 4 102 f102 c102 x F y:=fun x F y=>by kernel_rfl
theorem l102:(ctxT tabs lits (ctxOf prog shs inls its [] [(24,r24),(22,r22)])).ok:=ctxT_ok (q24)
theorem ok102:c102.ok prog 102:=Ctr.of_den l102 hmix (hl:=hints) (d:=4) func102 rfl (by decide) (e102 lpK jnK)
noncomputable def ref02_Minus_b (_:Lp) (_:Jn) (x0:Int×Int) (x1:Int×Int):Option (Int×Int) :=
 
 let v4:Int:=IntKind.wrap .u64 (x0.1 - x1.1);
 let v5:Int:=IntKind.wrap .u64 (x0.2 - x1.2);bif decide (x0.2<x1.2) then some (IntKind.wrap .u64 (v4 - (1:Int)),v5) else some (v4,v5)
noncomputable def ref02_Minus (x0:Int×Int) (x1:Int×Int):Option (Int×Int):=ref02_Minus_b lpK jnK x0 x1
noncomputable def c103:Ctr:=⟨[T83,T83],[],[],.one T83,fun x _ _=>ref02_Minus x.1 x.2.1⟩
theorem e103 (lp:Lp) (jn:Jn):∀(x:TsS c103.as) (F:TsF c103.fs) (y:TsS c103.cs),ref02_Minus_b lp jn x.1 x.2.1=runC lp jn (ctxT tabs lits (ctxOf prog shs inls its [] [(24,r24),(22,r22)])) hints 4 103 f103 c103 x F y:=fun x F y=>by kernel_rfl
theorem l103:(ctxT tabs lits (ctxOf prog shs inls its [] [(24,r24),(22,r22)])).ok:=ctxT_ok (q24)
theorem ok103:c103.ok prog 103:=Ctr.of_den l103 hmix (hl:=hints) (d:=4) func103 rfl (by decide) (e103 lpK jnK)
noncomputable def ref02_Plus_b (_:Lp) (_:Jn) (x0:Int×Int) (x1:Int×Int):Option (Int×Int) :=
 
 let v4:Int:=IntKind.wrap .u64 (x0.1+x1.1);
 let v5:Int:=IntKind.wrap .u64 (x0.2+x1.2);bif decide (v5<x0.2) then some (IntKind.wrap .u64 (v4+(1:Int)),v5) else some (v4,v5)
noncomputable def ref02_Plus (x0:Int×Int) (x1:Int×Int):Option (Int×Int):=ref02_Plus_b lpK jnK x0 x1
noncomputable def c104:Ctr:=⟨[T83,T83],[],[],.one T83,fun x _ _=>ref02_Plus x.1 x.2.1⟩
theorem e104 (lp:Lp) (jn:Jn):∀(x:TsS c104.as) (F:TsF c104.fs) (y:TsS c104.cs),ref02_Plus_b lp jn x.1 x.2.1=runC lp jn (ctxT tabs lits (ctxOf prog shs inls its [] [(24,r24),(22,r22)])) hints 4 104 f104 c104 x F y:=fun x F y=>by kernel_rfl
theorem l104:(ctxT tabs lits (ctxOf prog shs inls its [] [(24,r24),(22,r22)])).ok:=ctxT_ok (q24)
theorem ok104:c104.ok prog 104:=Ctr.of_den l104 hmix (hl:=hints) (d:=4) func104 rfl (by decide) (e104 lpK jnK)
noncomputable def ref02_Gcd_b (lp:Lp) (_:Jn) (ref02_Half:(Int×Int)→Option (Int×Int)) (ref02_Less:(Int×Int)→(Int×Int)→Option (Bool)) (ref02_Minus:(Int×Int)→(Int×Int)→Option (Int×Int)) (ref02_Plus:(Int×Int)→(Int×Int)→Option (Int×Int)) (x0:Int×Int) (x1:Int×Int):Option (Int×Int) :=
 bif decide (x0.1=(0:Int))&&(decide (x0.2=(0:Int))&&true) then some x1 else lp (Int×(Int×Int)×(Int×Int)×PUnit) (Int×Int) (fun (again:Int×(Int×Int)×(Int ×
  Int)×PUnit→Option (Int×Int)) (x:Int×(Int×Int)×(Int×Int)×PUnit) =>
 let v6:Bool:=decide (IntKind.wrap .u64 (↑(Nat.land (Int.toNat (x.2.1.2 % Int.ofNat (18446744073709551616:Nat))) (Int.toNat ((1:Int) % Int.ofNat (18446744073709551616
  : Nat)))):Int)=(0:Int));
 let v7:Bool:=!v6||v6;bif v7 then bif v7 then bif v7 then bif v7 then bif bif v6 then decide (IntKind.wrap .u64 (↑(Nat.land (Int.toNat (x.2.2.1.2 % Int.ofNat
  (18446744073709551616:Nat))) (Int.toNat ((1:Int) % Int.ofNat (18446744073709551616:Nat)))):Int)=(0:Int)) else false then obind (ref02_Half x.2.1) fun (t:Int×Int) =>
  obind (ref02_Half x.2.2.1) fun (t_1:Int×Int)=>again (IntKind.wrap .i64 (x.1+(1:Int)),t,t_1,PUnit.unit) else lp ((Int×Int)×(Int×Int)×PUnit) (Int ×
  Int) (fun (again:(Int×Int)×(Int×Int)×PUnit→Option (Int×Int)) (x_1:(Int×Int)×(Int×Int)×PUnit) =>
 let v10:(Int×Int)×PUnit:=(x_1.2.1,PUnit.unit);bif !(decide (x_1.1.1=(0:Int))&&(decide (x_1.1.2=(0:Int))&&true)) then lp ((Int×Int)×PUnit) (Int×Int)
  (fun (again_1:(Int×Int)×PUnit→Option (Int×Int)) (x:(Int×Int)×PUnit)=>bif decide (IntKind.wrap .u64 (↑(Nat.land (Int.toNat (x.1.2 % Int.ofNat
  (18446744073709551616:Nat))) (Int.toNat ((1:Int) % Int.ofNat (18446744073709551616:Nat)))):Int)=(0:Int)) then obind (ref02_Half x.1) fun (t:Int×Int)=>again_1 (t,
  PUnit.unit) else lp ((Int×Int)×PUnit) (Int×Int) (fun (again_2:(Int×Int)×PUnit→Option (Int×Int)) (x_2:(Int×Int)×PUnit)=>bif decide (IntKind.wrap .u64
  (↑(Nat.land (Int.toNat (x_2.1.2 % Int.ofNat (18446744073709551616:Nat))) (Int.toNat ((1:Int) % Int.ofNat (18446744073709551616:Nat)))):Int)=(0:Int)) then obind
  (ref02_Half x_2.1) fun (t:Int×Int)=>again_2 (t,PUnit.unit) else obind (ref02_Less x.1 x_2.1) fun (t:Bool)=>bif t then obind (ref02_Minus x_2.1 x.1) fun (t:Int ×
  Int)=>again (t,x.1,PUnit.unit) else obind (ref02_Minus x.1 x_2.1) fun (t:Int×Int)=>again (t,x_2.1,PUnit.unit)) v10) (x_1.1,PUnit.unit) else lp (Int×(Int×Int)
  × PUnit) (Int×Int) (fun (again:Int×(Int×Int)×PUnit→Option (Int×Int)) (x:Int×(Int×Int)×PUnit)=>bif decide (x.1>(0:Int)) then obind (ref02_Plus x.2.1
  x.2.1) fun (t:Int×Int)=>again (IntKind.wrap .i64 (x.1 - (1:Int)),t,PUnit.unit) else some x.2.1) (x.1,v10)) (x.2.1,x.2.2.1,PUnit.unit) else none
  else none else none else none) ((0:Int),x0,x1,PUnit.unit)
noncomputable def ref02_Gcd (x0:Int×Int) (x1:Int×Int):Option (Int×Int):=ref02_Gcd_b lpK jnK ref02_Half ref02_Less ref02_Minus ref02_Plus x0 x1
noncomputable def c55:Ctr:=⟨[T83,T83],[],[],.one T83,fun x _ _=>ref02_Gcd x.1 x.2.1⟩
theorem e55 (lp:Lp) (jn:Jn) (ref02_Half:(Int×Int)→Option (Int×Int)) (ref02_Less:(Int×Int)→(Int×Int)→Option (Bool)) (ref02_Minus:(Int×Int)→(Int×Int)→Option (Int×Int)) (ref02_Plus:(Int×Int)→(Int×Int)→Option (Int×Int)):∀(x:TsS c55.as) (F:TsF c55.fs) (y:TsS c55.cs),ref02_Gcd_b lp jn ref02_Half ref02_Less ref02_Minus ref02_Plus x.1 x.2.1=runC lp jn (ctxT tabs lits (ctxOf prog shs inls its [(104,⟨[T83,T83],[],[],.one T83,fun x _ _=>ref02_Plus x.1 x.2.1⟩),(103,⟨[T83,T83],[],[],.one T83,fun x _ _=>ref02_Minus x.1 x.2.1⟩),(102,⟨[T83,T83],[],[],.one .bool,fun x _ _=>ref02_Less x.1 x.2.1⟩),(101,⟨[T83],[],[],.one T83,fun x _ _=>ref02_Half x.1⟩)] [(24,r24),(22,r22)])) hints 4 55 f55 c55 x F y:=fun x F y=>by kernel_rfl
theorem l55:(ctxT tabs lits (ctxOf prog shs inls its [(104,c104),(103,c103),(102,c102),(101,c101)] [(24,r24),(22,r22)])).ok:=ctxT_ok (ctxOf_cons (ctxOf_cons (ctxOf_cons (ctxOf_cons (q24) (by kernel_rfl) ok101) (by kernel_rfl) ok102) (by kernel_rfl) ok103) (by kernel_rfl) ok104)
theorem ok55:c55.ok prog 55:=Ctr.of_den l55 hmix (hl:=hints) (d:=4) func55 rfl (by decide) (e55 lpK jnK ref02_Half ref02_Less ref02_Minus ref02_Plus)
noncomputable def ref02_Size_b (_:Lp) (_:Jn) (x0:Int):Option Int :=
 
 let v3:Int:=IntKind.wrap .u64 x0;bif decide (x0<(0:Int)) then some (IntKind.wrap .u64 ((0:Int) - v3)) else some v3
noncomputable def ref02_Size (x0:Int):Option Int:=ref02_Size_b lpK jnK x0
noncomputable def c56:Ctr:=⟨[i64],[],[],.one (.int .u64),fun x _ _=>ref02_Size x.1⟩
theorem e56 (lp:Lp) (jn:Jn):∀(x:TsS c56.as) (F:TsF c56.fs) (y:TsS c56.cs),ref02_Size_b lp jn x.1=runC lp jn (ctxT tabs lits (ctxOf prog shs inls its [] [(24,r24),(22,r22)])) hints 4 56 f56 c56 x F y:=fun x F y=>by kernel_rfl
theorem l56:(ctxT tabs lits (ctxOf prog shs inls its [] [(24,r24),(22,r22)])).ok:=ctxT_ok (q24)
theorem ok56:c56.ok prog 56:=Ctr.of_den l56 hmix (hl:=hints) (d:=4) func56 rfl (by decide) (e56 lpK jnK)
noncomputable def ref02_Valid_b (_:Lp) (_:Jn) (ref02_Gcd:(Int×Int)→(Int×Int)→Option (Int×Int)) (ref02_Size:(Int)→Option (Int)) (x0:Int×Int):Option Bool :=
 
 let v3:Bool:=decide (x0.2<(1:Int));
 let v4:Bool:=!v3;
 let v5:Bool:=bif v3 then true else decide (x0.2>(1152921504606846976:Int));
 let v6:Bool:=!v4||v4;
 let v7:Bool:=!v5;
 let v8:Bool:=bif v5 then true else decide (x0.1<(-1152921504606846976:Int));
 let v9:Bool:=!v8;
 let v10:Bool:=!v7||v7;
 let v11:Bool:=!v9||v9;bif v6 then bif v6 then bif v3||v4 then bif v10 then bif v10 then bif v5||v7 then bif v11 then bif v11 then bif v8||v9 then bif bif v8 then true else
  decide (x0.1>(1152921504606846976:Int)) then some false else obind (ref02_Size x0.1) fun (t:Int)=>obind (ref02_Size x0.2) fun (t_1:Int)=>obind (ref02_Gcd ((0:Int),
  t) ((0:Int),t_1)) fun (t:Int×Int)=>some (decide (t.1=(0:Int))&&(decide (t.2=(1:Int))&&true)) else none else none else none else none else none else none else
  none else none else none
noncomputable def ref02_Valid (x0:Int×Int):Option Bool:=ref02_Valid_b lpK jnK ref02_Gcd ref02_Size x0
noncomputable def c17:Ctr:=⟨[T27],[],[],.one .bool,fun x _ _=>ref02_Valid x.1⟩
theorem e17 (lp:Lp) (jn:Jn) (ref02_Gcd:(Int×Int)→(Int×Int)→Option (Int×Int)) (ref02_Size:(Int)→Option (Int)):∀(x:TsS c17.as) (F:TsF c17.fs) (y:TsS c17.cs),ref02_Valid_b lp jn ref02_Gcd ref02_Size x.1=runC lp jn (ctxT tabs lits (ctxOf prog shs inls its [(56,⟨[i64],[],[],.one (.int .u64),fun x _ _=>ref02_Size x.1⟩),(55,⟨[T83,T83],[],[],.one T83,fun x _ _=>ref02_Gcd x.1 x.2.1⟩)] [(24,r24),(22,r22)])) hints 4 17 f17 c17 x F y:=fun x F y=>by kernel_rfl
theorem l17:(ctxT tabs lits (ctxOf prog shs inls its [(56,c56),(55,c55)] [(24,r24),(22,r22)])).ok:=ctxT_ok (ctxOf_cons (ctxOf_cons (q24) (by kernel_rfl) ok55) (by kernel_rfl) ok56)
theorem ok17:c17.ok prog 17:=Ctr.of_den l17 hmix (hl:=hints) (d:=4) func17 rfl (by decide) (e17 lpK jnK ref02_Gcd ref02_Size)
noncomputable def ref02_All_b (lp:Lp) (_:Jn) (ref02_Valid:(Int×Int)→Option (Bool)) (x0:List (Int×Int)):Option Bool :=
 lp (Int×PUnit) Bool (fun (again:Int×PUnit→Option Bool) (x:Int×PUnit)=>bif decide (x.1<(↑(List.length x0):Int)) then bif inB x.1 (List.length x0) then obind
  (ref02_Valid (List.getD x0 (Int.toNat x.1) ((0:Int),(0:Int)))) fun (t:Bool)=>bif !t then some false else again (IntKind.wrap .i64 (x.1+(1:Int)),PUnit.unit) else
  none else some true) ((0:Int),PUnit.unit)
noncomputable def ref02_All (x0:List (Int×Int)):Option Bool:=ref02_All_b lpK jnK ref02_Valid x0
noncomputable def c18:Ctr:=⟨[(.sl T27)],[],[],.one .bool,fun x _ _=>ref02_All x.1⟩
theorem e18 (lp:Lp) (jn:Jn) (ref02_Valid:(Int×Int)→Option (Bool)):∀(x:TsS c18.as) (F:TsF c18.fs) (y:TsS c18.cs),ref02_All_b lp jn ref02_Valid x.1=runC lp jn (ctxT tabs lits (ctxOf prog shs inls its [(17,⟨[T27],[],[],.one .bool,fun x _ _=>ref02_Valid x.1⟩)] [(24,r24),(22,r22)])) hints 4 18 f18 c18 x F y:=fun x F y=>by kernel_rfl
theorem l18:(ctxT tabs lits (ctxOf prog shs inls its [(17,c17)] [(24,r24),(22,r22)])).ok:=ctxT_ok (ctxOf_cons (q24) (by kernel_rfl) ok17)
theorem ok18:c18.ok prog 18:=Ctr.of_den l18 hmix (hl:=hints) (d:=4) func18 rfl (by decide) (e18 lpK jnK ref02_Valid)
noncomputable def ref02_Of_b (_:Lp) (_:Jn) (x0:Int):Option (Int×Int) :=
 some (x0,(1:Int))
noncomputable def ref02_Of (x0:Int):Option (Int×Int):=ref02_Of_b lpK jnK x0
noncomputable def c84:Ctr:=⟨[i64],[],[],.one T27,fun x _ _=>ref02_Of x.1⟩
theorem e84 (lp:Lp) (jn:Jn):∀(x:TsS c84.as) (F:TsF c84.fs) (y:TsS c84.cs),ref02_Of_b lp jn x.1=runC lp jn (ctxT tabs lits (ctxOf prog shs inls its [] [(24,r24),(22,r22)])) hints 4 84 f84 c84 x F y:=fun x F y=>by kernel_rfl
theorem l84:(ctxT tabs lits (ctxOf prog shs inls its [] [(24,r24),(22,r22)])).ok:=ctxT_ok (q24)
theorem ok84:c84.ok prog 84:=Ctr.of_den l84 hmix (hl:=hints) (d:=4) func84 rfl (by decide) (e84 lpK jnK)
noncomputable def ref02_Div_b (lp:Lp) (_:Jn) (ref02_Less:(Int×Int)→(Int×Int)→Option (Bool)) (ref02_Minus:(Int×Int)→(Int×Int)→Option (Int×Int)) (x0:Int×Int) (x1:Int×Int):Option ((Int×Int)×(Int×Int)×Unit) :=
 
 let v4:Bool:=nzB x1.2;
 let v5:Int:=(2:Int) ^ (63:Nat);
 let v6:Int:=(2:Int) ^ (1:Nat);
 let v7:Bool:=decide (x0.1=(0:Int));
 let v8:Bool:=decide ((0:Int)≤(63:Int));
 let v9:Bool:=decide ((0:Int)≤(1:Int));
 let v10:Bool:=!v7||v7;bif v10 then bif v10 then bif v10 then bif bif v7 then decide (x1.1=(0:Int)) else false then bif v4 then bif v4 then some (((0:Int),IntKind.wrap
  IntKind.u64 (Int.tdiv x0.2 x1.2)),((0:Int),Int.tmod x0.2 x1.2),PUnit.unit) else none else none else lp (Int×(Int×Int)×(Int×Int)×(Int×Int)×PUnit) ((Int×Int)
  × (Int×Int)×PUnit) (fun (again:Int×(Int×Int)×(Int×Int)×(Int×Int)×PUnit→Option ((Int×Int)×(Int×Int)×PUnit)) (x:Int×(Int×Int)×(Int×Int)×(Int ×
  Int)×PUnit) =>
 let v13:Int:=IntKind.wrap .i64 (x.1+(1:Int));
 let v14:Int:=IntKind.wrap .u64 (x.2.2.1.2*v6);
 let v15:Int:=IntKind.wrap .u64 (IntKind.wrap .u64 (x.2.2.1.1*v6)+Int.fdiv x.2.2.1.2 v5);
 let v16:Bool:=decide (Int.fdiv x.2.2.2.1.1 v5>(0:Int));
 let v17:Bool:=!v16;
 let v18:Int×Int:=(IntKind.wrap .u64 (IntKind.wrap .u64 (x.2.1.1*v6)+Int.fdiv x.2.1.2 v5),IntKind.wrap .u64 (x.2.1.2*v6));
 let v19:Int×Int:=(IntKind.wrap .u64 (IntKind.wrap .u64 (x.2.2.2.1.1*v6)+Int.fdiv x.2.2.2.1.2 v5),IntKind.wrap .u64 (IntKind.wrap
  IntKind.u64 (x.2.2.2.1.2*v6)+Int.fdiv x.2.1.1 v5));
 let v20:Bool:=!v17||v17;bif decide (x.1<(128:Int)) then bif v8 then bif v9 then bif v8 then bif v9 then bif v8 then bif v9 then bif v8 then bif v9 then bif v9 then bif v8
  then bif v9 then bif v20&&v20 then obind (bif v17 then ref02_Less v19 x1 else some false) fun (t:Bool)=>bif v20 then bif v16||v17 then bif bif v16 then true else !t then obind
  (ref02_Minus v19 x1) fun (t:Int×Int)=>again (v13,v18,(v15,IntKind.wrap .u64 (v14+(1:Int))),t,PUnit.unit) else again (v13,v18,(v15,v14),v19,PUnit.unit) else
  none else none else none else none else none else none else none else none else none else none else none else none else none else none else some (x.2.2.1,x.2.2.2.1,
  PUnit.unit)) ((0:Int),x0,((0:Int),(0:Int)),((0:Int),(0:Int)),PUnit.unit) else none else none else none
noncomputable def ref02_Div (x0:Int×Int) (x1:Int×Int):Option ((Int×Int)×(Int×Int)×Unit):=ref02_Div_b lpK jnK ref02_Less ref02_Minus x0 x1
noncomputable def c127:Ctr:=⟨[T83,T83],[],[],.tup [T83,T83],fun x _ _=>ref02_Div x.1 x.2.1⟩
theorem e127 (lp:Lp) (jn:Jn) (ref02_Less:(Int×Int)→(Int×Int)→Option (Bool)) (ref02_Minus:(Int×Int)→(Int×Int)→Option (Int×Int)):∀(x:TsS c127.as) (F:TsF c127.fs) (y:TsS c127.cs),ref02_Div_b lp jn ref02_Less ref02_Minus x.1 x.2.1=runC lp jn (ctxT tabs lits (ctxOf prog shs inls its [(103,⟨[T83,T83],[],[],.one T83,fun x _ _=>ref02_Minus x.1 x.2.1⟩),(102,⟨[T83,T83],[],[],.one .bool,fun x _ _=>ref02_Less x.1 x.2.1⟩)] [(24,r24),(22,r22)])) hints 4 127 f127 c127 x F y:=fun x F y=>by kernel_rfl
theorem l127:(ctxT tabs lits (ctxOf prog shs inls its [(103,c103),(102,c102)] [(24,r24),(22,r22)])).ok:=ctxT_ok (ctxOf_cons (ctxOf_cons (q24) (by kernel_rfl) ok102) (by kernel_rfl) ok103)
theorem ok127:c127.ok prog 127:=Ctr.of_den l127 hmix (hl:=hints) (d:=4) func127 rfl (by decide) (e127 lpK jnK ref02_Less ref02_Minus)
noncomputable def ref02_Made_b (_:Lp) (_:Jn) (ref02_Gcd:(Int×Int)→(Int×Int)→Option (Int×Int)) (ref02_Div:(Int×Int)→(Int×Int)→Option ((Int×Int)×(Int×Int)×Unit)) (x0:Int×Int) (x1:Bool) (x2:Int×Int):Option ((Int×Int)×Int×Unit) :=
 bif decide (x2.1=(0:Int))&&(decide (x2.2=(0:Int))&&true) then some (((0:Int),(0:Int)),(16:Int),PUnit.unit) else obind (ref02_Gcd x0 x2) fun (t:Int×Int)=>obind
  (ref02_Div x0 t) fun (t_1:(Int×Int)×(Int×Int)×PUnit) =>
 let v7:Int:=IntKind.wrap .i64 t_1.1.2;
 let v8:Bool:=decide (t_1.1.1>(0:Int));
 let v9:Bool:=!v8;
 let v10:Bool:=bif v8 then true else decide (t_1.1.2>(1152921504606846976:Int));
 let v11:Bool:=!v9||v9;
 let v12:Bool:=!v10;
 let v13:Bool:=!v12||v12;obind (ref02_Div x2 t) fun (t:(Int×Int)×(Int×Int)×PUnit) =>
 let v15:Int:=IntKind.wrap .i64 t.1.2;
 let v16:Bool:=bif v10 then true else decide (t.1.1>(0:Int));
 let v17:Bool:=!v16;
 let v18:Bool:=!v17||v17;bif v11 then bif v11 then bif v8||v9 then bif v13 then bif v13 then bif v10||v12 then bif v18 then bif v18 then bif v16||v17 then bif bif v16 then
  true else decide (t.1.2>(1152921504606846976:Int)) then some (((0:Int),(0:Int)),(5:Int),PUnit.unit) else bif x1 then some ((IntKind.wrap .i64 ((0:Int) - v7),
  v15),(0:Int),PUnit.unit) else some ((v7,v15),(0:Int),PUnit.unit) else none else none else none else none else none else none else none else none else none
noncomputable def ref02_Made (x0:Int×Int) (x1:Bool) (x2:Int×Int):Option ((Int×Int)×Int×Unit):=ref02_Made_b lpK jnK ref02_Gcd ref02_Div x0 x1 x2
noncomputable def c116:Ctr:=⟨[T83,.bool,T83],[],[],.tup [T27,i64],fun x _ _=>ref02_Made x.1 x.2.1 x.2.2.1⟩
theorem e116 (lp:Lp) (jn:Jn) (ref02_Gcd:(Int×Int)→(Int×Int)→Option (Int×Int)) (ref02_Div:(Int×Int)→(Int×Int)→Option ((Int×Int)×(Int×Int)×Unit)):∀(x:TsS c116.as) (F:TsF c116.fs) (y:TsS c116.cs),ref02_Made_b lp jn ref02_Gcd ref02_Div x.1 x.2.1 x.2.2.1=runC lp jn (ctxT tabs lits (ctxOf prog shs inls its [(127,⟨[T83,T83],[],[],.tup [T83,T83],fun x _ _=>ref02_Div x.1 x.2.1⟩),(55,⟨[T83,T83],[],[],.one T83,fun x _ _=>ref02_Gcd x.1 x.2.1⟩)] [(24,r24),(22,r22)])) hints 4 116 f116 c116 x F y:=fun x F y=>by kernel_rfl
theorem l116:(ctxT tabs lits (ctxOf prog shs inls its [(127,c127),(55,c55)] [(24,r24),(22,r22)])).ok:=ctxT_ok (ctxOf_cons (ctxOf_cons (q24) (by kernel_rfl) ok55) (by kernel_rfl) ok127)
theorem ok116:c116.ok prog 116:=Ctr.of_den l116 hmix (hl:=hints) (d:=4) func116 rfl (by decide) (e116 lpK jnK ref02_Gcd ref02_Div)
noncomputable def ref02_Mul_b (_:Lp) (_:Jn) (x0:Int) (x1:Int):Option (Int×Int) :=
 
 let v4:Int:=(2:Int) ^ (32:Nat);
 let v5:Int:=Int.fdiv x0 v4;
 let v6:Int:=Int.fdiv x1 v4;
 let v7:Bool:=decide ((0:Int)≤(32:Int));
 let v8:Int:=IntKind.wrap .u64 (↑(Nat.land (Int.toNat (x1 % Int.ofNat (18446744073709551616:Nat))) (Int.toNat ((4294967295:Int) % Int.ofNat (18446744073709551616:Nat)))) :
  Int);
 let v9:Int:=IntKind.wrap .u64 (↑(Nat.land (Int.toNat (x0 % Int.ofNat (18446744073709551616:Nat))) (Int.toNat ((4294967295:Int) % Int.ofNat (18446744073709551616:Nat)))) :
  Int);
 let v10:Int:=IntKind.wrap .u64 (v9*v8);
 let v11:Int:=IntKind.wrap .u64 (IntKind.wrap .u64 (v5*v8)+Int.fdiv v10 v4);
 let v12:Int:=IntKind.wrap .u64 (IntKind.wrap .u64 (v9*v6)+IntKind.wrap .u64 (↑(Nat.land (Int.toNat (v11 % Int.ofNat (18446744073709551616:Nat))) (Int.toNat
  ((4294967295:Int) % Int.ofNat (18446744073709551616:Nat)))):Int));bif v7 then bif v7 then bif v7 then bif v7 then bif v7 then bif v7 then some (IntKind.wrap .u64
  (IntKind.wrap .u64 (IntKind.wrap .u64 (v5*v6)+Int.fdiv v11 v4)+Int.fdiv v12 v4),IntKind.wrap .u64 (IntKind.wrap .u64 (v12*v4)+IntKind.wrap
  IntKind.u64 (↑(Nat.land (Int.toNat (v10 % Int.ofNat (18446744073709551616:Nat))) (Int.toNat ((4294967295:Int) % Int.ofNat (18446744073709551616:Nat)))):Int))) else none else
  none else none else none else none else none
noncomputable def ref02_Mul (x0:Int) (x1:Int):Option (Int×Int):=ref02_Mul_b lpK jnK x0 x1
noncomputable def c118:Ctr:=⟨[(.int .u64),(.int .u64)],[],[],.one T83,fun x _ _=>ref02_Mul x.1 x.2.1⟩
theorem e118 (lp:Lp) (jn:Jn):∀(x:TsS c118.as) (F:TsF c118.fs) (y:TsS c118.cs),ref02_Mul_b lp jn x.1 x.2.1=runC lp jn (ctxT tabs lits (ctxOf prog shs inls its [] [(24,r24),(22,r22)])) hints 4 118 f118 c118 x F y:=fun x F y=>by kernel_rfl
theorem l118:(ctxT tabs lits (ctxOf prog shs inls its [] [(24,r24),(22,r22)])).ok:=ctxT_ok (q24)
theorem ok118:c118.ok prog 118:=Ctr.of_den l118 hmix (hl:=hints) (d:=4) func118 rfl (by decide) (e118 lpK jnK)
noncomputable def ref02_Times_b (_:Lp) (_:Jn) (ref02_Size:(Int)→Option (Int)) (ref02_Made:(Int×Int)→(Bool)→(Int×Int)→Option ((Int×Int)×Int×Unit)) (ref02_Mul:(Int)→(Int)→Option (Int×Int)) (x0:Int×Int) (x1:Int×Int):Option ((Int×Int)×Int×Unit) :=
 obind (ref02_Size x0.1) fun (t:Int)=>obind (ref02_Size x1.1) fun (t_1:Int)=>obind (ref02_Mul t t_1) fun (t:Int×Int)=>obind (ref02_Size x0.2) fun (t_2:Int)=>obind
  (ref02_Size x1.2) fun (t_3:Int)=>obind (ref02_Mul t_2 t_3) fun (t_4:Int×Int)=>obind (ref02_Made t (!decide (decide (x0.1<(0:Int))=decide (x1.1<(0:Int)))) t_4)
  fun (t:(Int×Int)×Int×PUnit)=>some (t.1,t.2.1,PUnit.unit)
noncomputable def ref02_Times (x0:Int×Int) (x1:Int×Int):Option ((Int×Int)×Int×Unit):=ref02_Times_b lpK jnK ref02_Size ref02_Made ref02_Mul x0 x1
noncomputable def c85:Ctr:=⟨[T27,T27],[],[],.tup [T27,i64],fun x _ _=>ref02_Times x.1 x.2.1⟩
theorem e85 (lp:Lp) (jn:Jn) (ref02_Size:(Int)→Option (Int)) (ref02_Made:(Int×Int)→(Bool)→(Int×Int)→Option ((Int×Int)×Int×Unit)) (ref02_Mul:(Int)→(Int)→Option (Int×Int)):∀(x:TsS c85.as) (F:TsF c85.fs) (y:TsS c85.cs),ref02_Times_b lp jn ref02_Size ref02_Made ref02_Mul x.1 x.2.1=runC lp jn (ctxT tabs lits (ctxOf prog shs inls its [(118,⟨[(.int .u64),(.int .u64)],[],[],.one T83,fun x _ _=>ref02_Mul x.1 x.2.1⟩),(116,⟨[T83,.bool,T83],[],[],.tup [T27,i64],fun x _ _=>ref02_Made x.1 x.2.1 x.2.2.1⟩),(56,⟨[i64],[],[],.one (.int .u64),fun x _ _=>ref02_Size x.1⟩)] [(24,r24),(22,r22)])) hints 4 85 f85 c85 x F y:=fun x F y=>by kernel_rfl
theorem l85:(ctxT tabs lits (ctxOf prog shs inls its [(118,c118),(116,c116),(56,c56)] [(24,r24),(22,r22)])).ok:=ctxT_ok (ctxOf_cons (ctxOf_cons (ctxOf_cons (q24) (by kernel_rfl) ok56) (by kernel_rfl) ok116) (by kernel_rfl) ok118)
theorem ok85:c85.ok prog 85:=Ctr.of_den l85 hmix (hl:=hints) (d:=4) func85 rfl (by decide) (e85 lpK jnK ref02_Size ref02_Made ref02_Mul)
noncomputable def ref02_Add_b (_:Lp) (_:Jn) (ref02_Less:(Int×Int)→(Int×Int)→Option (Bool)) (ref02_Minus:(Int×Int)→(Int×Int)→Option (Int×Int)) (ref02_Plus:(Int×Int)→(Int×Int)→Option (Int×Int)) (ref02_Size:(Int)→Option (Int)) (ref02_Made:(Int×Int)→(Bool)→(Int×Int)→Option ((Int×Int)×Int×Unit)) (ref02_Mul:(Int)→(Int)→Option (Int×Int)) (x0:Int×Int) (x1:Int×Int):Option ((Int×Int)×Int×Unit) :=
 
 let v4:Bool:=decide (x0.1<(0:Int));obind (ref02_Size x0.1) fun (t:Int)=>obind (ref02_Size x1.2) fun (t_1:Int)=>obind (ref02_Mul t t_1) fun (t:Int×Int)=>obind
  (ref02_Size x1.1) fun (t_2:Int)=>obind (ref02_Size x0.2) fun (t_3:Int)=>obind (ref02_Mul t_2 t_3) fun (t_4:Int×Int)=>obind (ref02_Size x0.2) fun (t_5:Int)=>obind
  (ref02_Size x1.2) fun (t_6:Int)=>obind (ref02_Mul t_5 t_6) fun (t_7:Int×Int)=>bif decide (v4=decide (x1.1<(0:Int))) then obind (ref02_Plus t t_4) fun (t:Int×Int)
  =>obind (ref02_Made t v4 t_7) fun (t:(Int×Int)×Int×PUnit)=>some (t.1,t.2.1,PUnit.unit) else obind (ref02_Less t t_4) fun (t_8:Bool)=>bif t_8 then obind
  (ref02_Minus t_4 t) fun (t:Int×Int)=>obind (ref02_Made t (decide (x1.1<(0:Int))) t_7) fun (t:(Int×Int)×Int×PUnit)=>some (t.1,t.2.1,PUnit.unit) else obind
  (ref02_Minus t t_4) fun (t:Int×Int)=>obind (ref02_Made t v4 t_7) fun (t:(Int×Int)×Int×PUnit)=>some (t.1,t.2.1,PUnit.unit)
noncomputable def ref02_Add (x0:Int×Int) (x1:Int×Int):Option ((Int×Int)×Int×Unit):=ref02_Add_b lpK jnK ref02_Less ref02_Minus ref02_Plus ref02_Size ref02_Made ref02_Mul x0 x1
noncomputable def c86:Ctr:=⟨[T27,T27],[],[],.tup [T27,i64],fun x _ _=>ref02_Add x.1 x.2.1⟩
theorem e86 (lp:Lp) (jn:Jn) (ref02_Less:(Int×Int)→(Int×Int)→Option (Bool)) (ref02_Minus:(Int×Int)→(Int×Int)→Option (Int×Int)) (ref02_Plus:(Int×Int)→(Int×Int)→Option (Int×Int)) (ref02_Size:(Int)→Option (Int)) (ref02_Made:(Int×Int)→(Bool)→(Int×Int)→Option ((Int×Int)×Int×Unit)) (ref02_Mul:(Int)→(Int)→Option (Int×Int)):∀(x:TsS c86.as) (F:TsF c86.fs) (y:TsS c86.cs),ref02_Add_b lp jn ref02_Less ref02_Minus ref02_Plus ref02_Size ref02_Made ref02_Mul x.1 x.2.1=runC lp jn (ctxT tabs lits (ctxOf prog shs inls its [(118,⟨[(.int .u64),(.int .u64)],[],[],.one T83,fun x _ _=>ref02_Mul x.1 x.2.1⟩),(116,⟨[T83,.bool,T83],[],[],.tup [T27,i64],fun x _ _=>ref02_Made x.1 x.2.1 x.2.2.1⟩),(56,⟨[i64],[],[],.one (.int .u64),fun x _ _=>ref02_Size x.1⟩),(104,⟨[T83,T83],[],[],.one T83,fun x _ _=>ref02_Plus x.1 x.2.1⟩),(103,⟨[T83,T83],[],[],.one T83,fun x _ _=>ref02_Minus x.1 x.2.1⟩),(102,⟨[T83,T83],[],[],.one .bool,fun x _ _=>ref02_Less x.1 x.2.1⟩)] [(24,r24),(22,r22)])) hints 4 86 f86 c86 x F y:=fun x F y=>by kernel_rfl
theorem l86:(ctxT tabs lits (ctxOf prog shs inls its [(118,c118),(116,c116),(56,c56),(104,c104),(103,c103),(102,c102)] [(24,r24),(22,r22)])).ok:=ctxT_ok (ctxOf_cons (ctxOf_cons (ctxOf_cons (ctxOf_cons (ctxOf_cons (ctxOf_cons (q24) (by kernel_rfl) ok102) (by kernel_rfl) ok103) (by kernel_rfl) ok104) (by kernel_rfl) ok56) (by kernel_rfl) ok116) (by kernel_rfl) ok118)
theorem ok86:c86.ok prog 86:=Ctr.of_den l86 hmix (hl:=hints) (d:=4) func86 rfl (by decide) (e86 lpK jnK ref02_Less ref02_Minus ref02_Plus ref02_Size ref02_Made ref02_Mul)
noncomputable def ref05_Sum_b (lp:Lp) (_:Jn) (ref02_Of:(Int)→Option (Int×Int)) (ref02_Times:(Int×Int)→(Int×Int)→Option ((Int×Int)×Int×Unit)) (ref02_Add:(Int×Int)→(Int×Int)→Option ((Int×Int)×Int×Unit)) (x0:List Int) (x1:List (Int×Int)):Option ((Int×Int)×Int×Unit) :=
 obind (ref02_Of (0:Int)) fun (t:Int×Int)=>lp (Int×(Int×Int)×(Int×Int)×PUnit) ((Int×Int)×Int×PUnit) (fun (again:Int×(Int×Int)×(Int×Int)×PUnit→Option
  ((Int×Int)×Int×PUnit)) (x:Int×(Int×Int)×(Int×Int)×PUnit)=>bif decide (x.1<(↑(List.length x0):Int)) then bif inB x.1 (List.length x0) then obind (ref02_Of
  (List.getD x0 (Int.toNat x.1) (0:Int))) fun (t:Int×Int)=>bif inB x.1 (List.length x1) then obind (ref02_Times t (List.getD x1 (Int.toNat x.1) ((0:Int),(0:Int)))) fun
  (t:(Int×Int)×Int×PUnit)=>bif !decide (t.2.1=(0:Int)) then some (((0:Int),(0:Int)),t.2.1,PUnit.unit) else obind (ref02_Add x.2.2.1 t.1) fun (t:(Int
  × Int)×Int×PUnit)=>bif !decide (t.2.1=(0:Int)) then some (((0:Int),(0:Int)),t.2.1,PUnit.unit) else again (IntKind.wrap .i64 (x.1+(1:Int)),
  x.2.1,t.1,PUnit.unit) else none else none else some (x.2.2.1,(0:Int),PUnit.unit)) ((0:Int),((0:Int),(0:Int)),t,PUnit.unit)
noncomputable def ref05_Sum (x0:List Int) (x1:List (Int×Int)):Option ((Int×Int)×Int×Unit):=ref05_Sum_b lpK jnK ref02_Of ref02_Times ref02_Add x0 x1
noncomputable def c35:Ctr:=⟨[(.sl i64),(.sl T27)],[],[],.tup [T27,i64],fun x _ _=>ref05_Sum x.1 x.2.1⟩
theorem e35 (lp:Lp) (jn:Jn) (ref02_Of:(Int)→Option (Int×Int)) (ref02_Times:(Int×Int)→(Int×Int)→Option ((Int×Int)×Int×Unit)) (ref02_Add:(Int×Int)→(Int×Int)→Option ((Int×Int)×Int×Unit)):∀(x:TsS c35.as) (F:TsF c35.fs) (y:TsS c35.cs),ref05_Sum_b lp jn ref02_Of ref02_Times ref02_Add x.1 x.2.1=runC lp jn (ctxT tabs lits (ctxOf prog shs inls its [(86,⟨[T27,T27],[],[],.tup [T27,i64],fun x _ _=>ref02_Add x.1 x.2.1⟩),(85,⟨[T27,T27],[],[],.tup [T27,i64],fun x _ _=>ref02_Times x.1 x.2.1⟩),(84,⟨[i64],[],[],.one T27,fun x _ _=>ref02_Of x.1⟩)] [(24,r24),(22,r22)])) hints 4 35 f35 c35 x F y:=fun x F y=>by kernel_rfl
theorem l35:(ctxT tabs lits (ctxOf prog shs inls its [(86,c86),(85,c85),(84,c84)] [(24,r24),(22,r22)])).ok:=ctxT_ok (ctxOf_cons (ctxOf_cons (ctxOf_cons (q24) (by kernel_rfl) ok84) (by kernel_rfl) ok85) (by kernel_rfl) ok86)
theorem ok35:c35.ok prog 35:=Ctr.of_den l35 hmix (hl:=hints) (d:=4) func35 rfl (by decide) (e35 lpK jnK ref02_Of ref02_Times ref02_Add)
noncomputable def ref02_Cmp_b (_:Lp) (_:Jn) (ref02_Less:(Int×Int)→(Int×Int)→Option (Bool)) (ref02_Size:(Int)→Option (Int)) (ref02_Mul:(Int)→(Int)→Option (Int×Int)) (x0:Int×Int) (x1:Int×Int):Option Int :=
 
 let v4:Bool:=decide (x0.1<(0:Int));
 let v5:Bool:=decide (x0.1≥(0:Int));
 let v6:Bool:=!v4||v4;
 let v7:Bool:=!v5||v5;obind (ref02_Size x0.1) fun (t:Int)=>obind (ref02_Size x1.2) fun (t_1:Int)=>obind (ref02_Mul t t_1) fun (t:Int×Int)=>obind (ref02_Size
  x1.1) fun (t_2:Int)=>obind (ref02_Size x0.2) fun (t_3:Int)=>obind (ref02_Mul t_2 t_3) fun (t_4:Int×Int)=>bif v6 then bif v6 then bif v6 then bif bif v4 then decide
  (x1.1≥(0:Int)) else false then some (-1:Int) else bif v7 then bif v7 then bif v7 then bif bif v5 then decide (x1.1<(0:Int)) else false then some (1:Int) else bif decide
  (t.1=t_4.1)&&(decide (t.2=t_4.2)&&true) then some (0:Int) else obind (ref02_Less t t_4) fun (t:Bool)=>bif decide (t=v5) then some (-1:Int) else some (1:Int)
  else none else none else none else none else none else none
noncomputable def ref02_Cmp (x0:Int×Int) (x1:Int×Int):Option Int:=ref02_Cmp_b lpK jnK ref02_Less ref02_Size ref02_Mul x0 x1
noncomputable def c83:Ctr:=⟨[T27,T27],[],[],.one i64,fun x _ _=>ref02_Cmp x.1 x.2.1⟩
theorem e83 (lp:Lp) (jn:Jn) (ref02_Less:(Int×Int)→(Int×Int)→Option (Bool)) (ref02_Size:(Int)→Option (Int)) (ref02_Mul:(Int)→(Int)→Option (Int×Int)):∀(x:TsS c83.as) (F:TsF c83.fs) (y:TsS c83.cs),ref02_Cmp_b lp jn ref02_Less ref02_Size ref02_Mul x.1 x.2.1=runC lp jn (ctxT tabs lits (ctxOf prog shs inls its [(118,⟨[(.int .u64),(.int .u64)],[],[],.one T83,fun x _ _=>ref02_Mul x.1 x.2.1⟩),(56,⟨[i64],[],[],.one (.int .u64),fun x _ _=>ref02_Size x.1⟩),(102,⟨[T83,T83],[],[],.one .bool,fun x _ _=>ref02_Less x.1 x.2.1⟩)] [(24,r24),(22,r22)])) hints 4 83 f83 c83 x F y:=fun x F y=>by kernel_rfl
theorem l83:(ctxT tabs lits (ctxOf prog shs inls its [(118,c118),(56,c56),(102,c102)] [(24,r24),(22,r22)])).ok:=ctxT_ok (ctxOf_cons (ctxOf_cons (ctxOf_cons (q24) (by kernel_rfl) ok102) (by kernel_rfl) ok56) (by kernel_rfl) ok118)
theorem ok83:c83.ok prog 83:=Ctr.of_den l83 hmix (hl:=hints) (d:=4) func83 rfl (by decide) (e83 lpK jnK ref02_Less ref02_Size ref02_Mul)
noncomputable def ref05_sign_b (_:Lp) (_:Jn) (ref02_Of:(Int)→Option (Int×Int)) (ref02_Cmp:(Int×Int)→(Int×Int)→Option (Int)) (x0:Int×Int):Option Int :=
 obind (ref02_Of (0:Int)) fun (t:Int×Int)=>obind (ref02_Cmp x0 t) fun (t:Int)=>some t
noncomputable def ref05_sign (x0:Int×Int):Option Int:=ref05_sign_b lpK jnK ref02_Of ref02_Cmp x0
noncomputable def c60:Ctr:=⟨[T27],[],[],.one i64,fun x _ _=>ref05_sign x.1⟩
theorem e60 (lp:Lp) (jn:Jn) (ref02_Of:(Int)→Option (Int×Int)) (ref02_Cmp:(Int×Int)→(Int×Int)→Option (Int)):∀(x:TsS c60.as) (F:TsF c60.fs) (y:TsS c60.cs),ref05_sign_b lp jn ref02_Of ref02_Cmp x.1=runC lp jn (ctxT tabs lits (ctxOf prog shs inls its [(83,⟨[T27,T27],[],[],.one i64,fun x _ _=>ref02_Cmp x.1 x.2.1⟩),(84,⟨[i64],[],[],.one T27,fun x _ _=>ref02_Of x.1⟩)] [(24,r24),(22,r22)])) hints 4 60 f60 c60 x F y:=fun x F y=>by kernel_rfl
theorem l60:(ctxT tabs lits (ctxOf prog shs inls its [(83,c83),(84,c84)] [(24,r24),(22,r22)])).ok:=ctxT_ok (ctxOf_cons (ctxOf_cons (q24) (by kernel_rfl) ok84) (by kernel_rfl) ok83)
theorem ok60:c60.ok prog 60:=Ctr.of_den l60 hmix (hl:=hints) (d:=4) func60 rfl (by decide) (e60 lpK jnK ref02_Of ref02_Cmp)
noncomputable def ref05_Feasible_b (lp:Lp) (_:Jn) (ref02_Of:(Int)→Option (Int×Int)) (ref05_Sum:(List Int)→(List (Int×Int))→Option ((Int×Int)×Int×Unit)) (ref02_Cmp:(Int×Int)→(Int×Int)→Option (Int)) (ref05_sign:(Int×Int)→Option (Int)) (x0:(List Int)×List ((List Int)×Int×Int)) (x1:List (Int×Int)):Option (Bool×Int×Unit) :=
 lp (Bool×Int×PUnit) (Bool×Int×PUnit) (fun (again:Bool×Int×PUnit→Option (Bool×Int×PUnit)) (x:Bool×Int×PUnit) =>
 let v6:Bool:=!x.1;
 let v7:Bool:=v6||x.1;bif decide (x.2.1<(↑(List.length x1):Int)) then bif v7&&(v7&&(v6||inB x.2.1 (List.length x1))) then bif v7 then bif v7 then obind (bif
  x.1 then ref05_sign (List.getD x1 (Int.toNat x.2.1) ((0:Int),(0:Int))) else some (0:Int)) fun (t:Int)=>bif v7 then bif v7 then again (bif x.1 then decide (t≥(0 :
  Int)) else false,IntKind.wrap .i64 (x.2.1+(1:Int)),PUnit.unit) else none else none else none else none else none else lp (Bool×Int×PUnit) (Bool×Int×PUnit) (fun
  (again:Bool×Int×PUnit→Option (Bool×Int×PUnit)) (x:Bool×Int×PUnit) =>
 let v10:Int×PUnit:=(IntKind.wrap .i64 (x.2.1+(1:Int)),PUnit.unit);
 let v11:Bool:=inB x.2.1 (List.length x0.2);
 let v12:List Int×Int×Int:=List.getD x0.2 (Int.toNat x.2.1) ([],(0:Int),(0:Int));
 let v13:Bool:=!decide (v12.2.1=(2:Int));
 let v14:Bool:=!decide (v12.2.1=(1:Int));
 let v15:Bool:=!v13||v13;bif decide (x.2.1<(↑(List.length x0.2):Int)) then bif v11 then obind (ref05_Sum v12.1 x1) fun (t:(Int×Int)×Int×PUnit)=>bif !decide
  (t.2.1=(0:Int)) then some (false,t.2.1,PUnit.unit) else bif v11 then obind (ref02_Of v12.2.2) fun (t_1:Int×Int)=>obind (ref02_Cmp t.1 t_1) fun (t:Int) =>
 let v19:Bool:=bif v13 then decide (t>(0:Int)) else false;
 let v20:Bool:=!v19;
 let v21:Bool:=!v20;
 let v22:Bool:=v20&&v14;
 let v23:Bool:=v21||v20;bif v11 then bif v15 then bif v15 then bif v23 then bif v23 then bif !v22||v22 then bif (v21||v23)&&(v21||(!v14||(v21||v22))) then bif v19||v20
  then bif bif v19 then true else bif v14 then decide (t<(0:Int)) else false then again (false,v10) else again (x.1,v10) else none else none else none else none else none else
  none else none else none else none else none else some (x.1,(0:Int),PUnit.unit)) (x.1,(0:Int),PUnit.unit)) (true,(0:Int),PUnit.unit)
noncomputable def ref05_Feasible (x0:(List Int)×List ((List Int)×Int×Int)) (x1:List (Int×Int)):Option (Bool×Int×Unit):=ref05_Feasible_b lpK jnK ref02_Of ref05_Sum ref02_Cmp ref05_sign x0 x1
noncomputable def c34:Ctr:=⟨[T25,(.sl T27)],[],[],.tup [.bool,i64],fun x _ _=>ref05_Feasible x.1 x.2.1⟩
theorem e34 (lp:Lp) (jn:Jn) (ref02_Of:(Int)→Option (Int×Int)) (ref05_Sum:(List Int)→(List (Int×Int))→Option ((Int×Int)×Int×Unit)) (ref02_Cmp:(Int×Int)→(Int×Int)→Option (Int)) (ref05_sign:(Int×Int)→Option (Int)):∀(x:TsS c34.as) (F:TsF c34.fs) (y:TsS c34.cs),ref05_Feasible_b lp jn ref02_Of ref05_Sum ref02_Cmp ref05_sign x.1 x.2.1=runC lp jn (ctxT tabs lits (ctxOf prog shs inls its [(60,⟨[T27],[],[],.one i64,fun x _ _=>ref05_sign x.1⟩),(83,⟨[T27,T27],[],[],.one i64,fun x _ _=>ref02_Cmp x.1 x.2.1⟩),(35,⟨[(.sl i64),(.sl T27)],[],[],.tup [T27,i64],fun x _ _=>ref05_Sum x.1 x.2.1⟩),(84,⟨[i64],[],[],.one T27,fun x _ _=>ref02_Of x.1⟩)] [(24,r24),(22,r22)])) hints 4 34 f34 c34 x F y:=fun x F y=>by kernel_rfl
theorem l34:(ctxT tabs lits (ctxOf prog shs inls its [(60,c60),(83,c83),(35,c35),(84,c84)] [(24,r24),(22,r22)])).ok:=ctxT_ok (ctxOf_cons (ctxOf_cons (ctxOf_cons (ctxOf_cons (q24) (by kernel_rfl) ok84) (by kernel_rfl) ok35) (by kernel_rfl) ok83) (by kernel_rfl) ok60)
theorem ok34:c34.ok prog 34:=Ctr.of_den l34 hmix (hl:=hints) (d:=4) func34 rfl (by decide) (e34 lpK jnK ref02_Of ref05_Sum ref02_Cmp ref05_sign)
noncomputable def ref05_Column_b (lp:Lp) (_:Jn) (x0:(List Int)×List ((List Int)×Int×Int)) (x1:Int):Option (List Int) :=
 lp (List Int×Int×PUnit) (List Int) (fun (again:List Int×Int×PUnit→Option (List Int)) (x:List Int×Int×PUnit)=>bif decide (x.2.1<(↑(List.length x0.2):Int)) then
  bif inB x.2.1 (List.length x0.2) then bif inB x1 (List.length (List.getD x0.2 (Int.toNat x.2.1) ([],(0:Int),(0:Int))).1) then bif fitB (List.length x.1+(1 :
  Nat)) (8:Nat) then again (x.1++[List.getD (List.getD x0.2 (Int.toNat x.2.1) ([],(0:Int),(0:Int))).1 (Int.toNat x1) (0:Int)],IntKind.wrap .i64 (x.2.1 +
  (1:Int)),PUnit.unit) else none else none else none else some x.1) ([],(0:Int),PUnit.unit)
noncomputable def ref05_Column (x0:(List Int)×List ((List Int)×Int×Int)) (x1:Int):Option (List Int):=ref05_Column_b lpK jnK x0 x1
noncomputable def c105:Ctr:=⟨[T25,i64],[],[],.one (.sl i64),fun x _ _=>ref05_Column x.1 x.2.1⟩
theorem e105 (lp:Lp) (jn:Jn):∀(x:TsS c105.as) (F:TsF c105.fs) (y:TsS c105.cs),ref05_Column_b lp jn x.1 x.2.1=runC lp jn (ctxT tabs lits (ctxOf prog shs inls its [] [(24,r24),(22,r22)])) hints 4 105 f105 c105 x F y:=fun x F y=>by kernel_rfl
theorem l105:(ctxT tabs lits (ctxOf prog shs inls its [] [(24,r24),(22,r22)])).ok:=ctxT_ok (q24)
theorem ok105:c105.ok prog 105:=Ctr.of_den l105 hmix (hl:=hints) (d:=4) func105 rfl (by decide) (e105 lpK jnK)
noncomputable def ref05_below_b (lp:Lp) (_:Jn) (ref02_Of:(Int)→Option (Int×Int)) (ref05_Sum:(List Int)→(List (Int×Int))→Option ((Int×Int)×Int×Unit)) (ref02_Cmp:(Int×Int)→(Int×Int)→Option (Int)) (ref05_Column:((List Int)×List ((List Int)×Int×Int))→(Int)→Option (List Int)) (x0:(List Int)×List ((List Int)×Int×Int)) (x1:List (Int×Int)) (x2:List Int):Option (Bool×Int×Unit) :=
 lp (Bool×Int×PUnit) (Bool×Int×PUnit) (fun (again:Bool×Int×PUnit→Option (Bool×Int×PUnit)) (x:Bool×Int×PUnit) =>
 let v7:Bool:=!x.1;
 let v8:Bool:=v7||x.1;bif decide (x.2.1<(↑(List.length x2):Int)) then obind (ref05_Column x0 x.2.1) fun (t:List Int)=>obind (ref05_Sum t x1) fun (t:(Int×Int) ×
  Int×PUnit)=>bif !decide (t.2.1=(0:Int)) then some (false,t.2.1,PUnit.unit) else bif v8&&(v8&&(v7||inB x.2.1 (List.length x2))) then bif v8 then bif v8 then
  obind (bif x.1 then ref02_Of (List.getD x2 (Int.toNat x.2.1) (0:Int)) else some ((0:Int),(0:Int))) fun (t_1:Int×Int)=>bif v8&&v8 then obind (bif x.1 then
  ref02_Cmp t.1 t_1 else some (0:Int)) fun (t:Int)=>bif v8 then bif v8 then again (bif x.1 then decide (t≤(0:Int)) else false,IntKind.wrap .i64 (x.2.1+(1 :
  Int)),PUnit.unit) else none else none else none else none else none else none else some (x.1,(0:Int),PUnit.unit)) (true,(0:Int),PUnit.unit)
noncomputable def ref05_below (x0:(List Int)×List ((List Int)×Int×Int)) (x1:List (Int×Int)) (x2:List Int):Option (Bool×Int×Unit):=ref05_below_b lpK jnK ref02_Of ref05_Sum ref02_Cmp ref05_Column x0 x1 x2
noncomputable def c58:Ctr:=⟨[T25,(.sl T27),(.sl i64)],[],[],.tup [.bool,i64],fun x _ _=>ref05_below x.1 x.2.1 x.2.2.1⟩
theorem e58 (lp:Lp) (jn:Jn) (ref02_Of:(Int)→Option (Int×Int)) (ref05_Sum:(List Int)→(List (Int×Int))→Option ((Int×Int)×Int×Unit)) (ref02_Cmp:(Int×Int)→(Int×Int)→Option (Int)) (ref05_Column:((List Int)×List ((List Int)×Int×Int))→(Int)→Option (List Int)):∀(x:TsS c58.as) (F:TsF c58.fs) (y:TsS c58.cs),ref05_below_b lp jn ref02_Of ref05_Sum ref02_Cmp ref05_Column x.1 x.2.1 x.2.2.1=runC lp jn (ctxT tabs lits (ctxOf prog shs inls its [(105,⟨[T25,i64],[],[],.one (.sl i64),fun x _ _=>ref05_Column x.1 x.2.1⟩),(83,⟨[T27,T27],[],[],.one i64,fun x _ _=>ref02_Cmp x.1 x.2.1⟩),(35,⟨[(.sl i64),(.sl T27)],[],[],.tup [T27,i64],fun x _ _=>ref05_Sum x.1 x.2.1⟩),(84,⟨[i64],[],[],.one T27,fun x _ _=>ref02_Of x.1⟩)] [(24,r24),(22,r22)])) hints 4 58 f58 c58 x F y:=fun x F y=>by kernel_rfl
theorem l58:(ctxT tabs lits (ctxOf prog shs inls its [(105,c105),(83,c83),(35,c35),(84,c84)] [(24,r24),(22,r22)])).ok:=ctxT_ok (ctxOf_cons (ctxOf_cons (ctxOf_cons (ctxOf_cons (q24) (by kernel_rfl) ok84) (by kernel_rfl) ok35) (by kernel_rfl) ok83) (by kernel_rfl) ok105)
theorem ok58:c58.ok prog 58:=Ctr.of_den l58 hmix (hl:=hints) (d:=4) func58 rfl (by decide) (e58 lpK jnK ref02_Of ref05_Sum ref02_Cmp ref05_Column)
noncomputable def ref05_Rights_b (lp:Lp) (_:Jn) (x0:(List Int)×List ((List Int)×Int×Int)):Option (List Int) :=
 lp (List Int×Int×PUnit) (List Int) (fun (again:List Int×Int×PUnit→Option (List Int)) (x:List Int×Int×PUnit)=>bif decide (x.2.1<(↑(List.length x0.2):Int)) then
  bif inB x.2.1 (List.length x0.2) then bif fitB (List.length x.1+(1:Nat)) (8:Nat) then again (x.1++[(List.getD x0.2 (Int.toNat x.2.1) ([],(0:Int),(0 :
  Int))).2.2],IntKind.wrap .i64 (x.2.1+(1:Int)),PUnit.unit) else none else none else some x.1) ([],(0:Int),PUnit.unit)
noncomputable def ref05_Rights (x0:(List Int)×List ((List Int)×Int×Int)):Option (List Int):=ref05_Rights_b lpK jnK x0
noncomputable def c59:Ctr:=⟨[T25],[],[],.one (.sl i64),fun x _ _=>ref05_Rights x.1⟩
theorem e59 (lp:Lp) (jn:Jn):∀(x:TsS c59.as) (F:TsF c59.fs) (y:TsS c59.cs),ref05_Rights_b lp jn x.1=runC lp jn (ctxT tabs lits (ctxOf prog shs inls its [] [(24,r24),(22,r22)])) hints 4 59 f59 c59 x F y:=fun x F y=>by kernel_rfl
theorem l59:(ctxT tabs lits (ctxOf prog shs inls its [] [(24,r24),(22,r22)])).ok:=ctxT_ok (q24)
theorem ok59:c59.ok prog 59:=Ctr.of_den l59 hmix (hl:=hints) (d:=4) func59 rfl (by decide) (e59 lpK jnK)
noncomputable def ref05_Signed_b (lp:Lp) (_:Jn) (ref05_sign:(Int×Int)→Option (Int)) (x0:(List Int)×List ((List Int)×Int×Int)) (x1:List (Int×Int)):Option Bool :=
 lp (Int×PUnit) Bool (fun (again:Int×PUnit→Option Bool) (x:Int×PUnit) =>
 let v6:Bool:=inB x.1 (List.length x1);
 let v7:Bool:=inB x.1 (List.length x0.2);
 let v8:Bool:=decide ((List.getD x0.2 (Int.toNat x.1) ([],(0:Int),(0:Int))).2.1=(1:Int));
 let v9:Bool:=decide ((List.getD x0.2 (Int.toNat x.1) ([],(0:Int),(0:Int))).2.1=(2:Int));
 let v10:Bool:=!v8;
 let v11:Bool:=v10||v8;bif decide (x.1<(↑(List.length x1):Int)) then bif v7 then bif v11&&(v11&&(v10||v6)) then bif v11 then bif v11 then obind (bif v8 then ref05_sign
  (List.getD x1 (Int.toNat x.1) ((0:Int),(0:Int))) else some (0:Int)) fun (t:Int) =>
 let v13:Bool:=bif v8 then decide (t>(0:Int)) else false;
 let v14:Bool:=!v13;
 let v15:Bool:=!v14;
 let v16:Bool:=v14&&v9;
 let v17:Bool:=!v16;
 let v18:Bool:=v15||v14;
 let v19:Bool:=v17||v16;bif v11 then bif v11 then bif v18 then bif v18&&(v18&&(v15||v7)) then bif v18 then bif v18 then bif v18 then bif v18 then bif v19&&(v19&&(v17 ||
  v6)) then bif v19 then bif v19 then obind (bif v16 then ref05_sign (List.getD x1 (Int.toNat x.1) ((0:Int),(0:Int))) else some (0:Int)) fun (t:Int)=>bif v19 then bif (v15 ||
  v18)&&(v15||(!v9||(v15||v16))) then bif v13||v14 then bif bif v13 then true else bif v9 then decide (t<(0:Int)) else false then some false else again (IntKind.wrap
  IntKind.i64 (x.1+(1:Int)),PUnit.unit) else none else none else none else none else none else none else none else none else none else none else none else none else none else none
  else none else none else none else none else some true) ((0:Int),PUnit.unit)
noncomputable def ref05_Signed (x0:(List Int)×List ((List Int)×Int×Int)) (x1:List (Int×Int)):Option Bool:=ref05_Signed_b lpK jnK ref05_sign x0 x1
noncomputable def c61:Ctr:=⟨[T25,(.sl T27)],[],[],.one .bool,fun x _ _=>ref05_Signed x.1 x.2.1⟩
theorem e61 (lp:Lp) (jn:Jn) (ref05_sign:(Int×Int)→Option (Int)):∀(x:TsS c61.as) (F:TsF c61.fs) (y:TsS c61.cs),ref05_Signed_b lp jn ref05_sign x.1 x.2.1=runC lp jn (ctxT tabs lits (ctxOf prog shs inls its [(60,⟨[T27],[],[],.one i64,fun x _ _=>ref05_sign x.1⟩)] [(24,r24),(22,r22)])) hints 4 61 f61 c61 x F y:=fun x F y=>by kernel_rfl
theorem l61:(ctxT tabs lits (ctxOf prog shs inls its [(60,c60)] [(24,r24),(22,r22)])).ok:=ctxT_ok (ctxOf_cons (q24) (by kernel_rfl) ok60)
theorem ok61:c61.ok prog 61:=Ctr.of_den l61 hmix (hl:=hints) (d:=4) func61 rfl (by decide) (e61 lpK jnK ref05_sign)
noncomputable def ref05_Proves_b (_:Lp) (_:Jn) (ref05_Sum:(List Int)→(List (Int×Int))→Option ((Int×Int)×Int×Unit)) (ref05_below:((List Int)×List ((List Int)×Int×Int))→(List (Int×Int))→(List Int)→Option (Bool×Int×Unit)) (ref05_Rights:((List Int)×List ((List Int)×Int×Int))→Option (List Int)) (ref05_Signed:((List Int)×List ((List Int)×Int×Int))→(List (Int×Int))→Option (Bool)) (x0:(List Int)×List ((List Int)×Int×Int)) (x1:List (Int×Int)) (x2:Int×Int):Option (Bool×Int×Unit) :=
 obind (ref05_below x0 x1 x0.1) fun (t:Bool×Int×PUnit) =>
 let v6:Bool:=!t.1||t.1;bif !decide (t.2.1=(0:Int)) then some (false,t.2.1,PUnit.unit) else obind (ref05_Rights x0) fun (t_1:List Int)=>obind (ref05_Sum t_1
  x1) fun (t_2:(Int×Int)×Int×PUnit) =>
 let v9:Bool:=bif t.1 then decide (t_2.1.1=x2.1)&&(decide (t_2.1.2=x2.2)&&true) else false;
 let v10:Bool:=!v9||v9;bif v6&&v6 then bif v6 then bif v10&&v10 then obind (bif v9 then ref05_Signed x0 x1 else some false) fun (t:Bool)=>bif v10 then some (bif v9 then t
  else false,t_2.2.1,PUnit.unit) else none else none else none else none
noncomputable def ref05_Proves (x0:(List Int)×List ((List Int)×Int×Int)) (x1:List (Int×Int)) (x2:Int×Int):Option (Bool×Int×Unit):=ref05_Proves_b lpK jnK ref05_Sum ref05_below ref05_Rights ref05_Signed x0 x1 x2
noncomputable def c57:Ctr:=⟨[T25,(.sl T27),T27],[],[],.tup [.bool,i64],fun x _ _=>ref05_Proves x.1 x.2.1 x.2.2.1⟩
theorem e57 (lp:Lp) (jn:Jn) (ref05_Sum:(List Int)→(List (Int×Int))→Option ((Int×Int)×Int×Unit)) (ref05_below:((List Int)×List ((List Int)×Int×Int))→(List (Int×Int))→(List Int)→Option (Bool×Int×Unit)) (ref05_Rights:((List Int)×List ((List Int)×Int×Int))→Option (List Int)) (ref05_Signed:((List Int)×List ((List Int)×Int×Int))→(List (Int×Int))→Option (Bool)):∀(x:TsS c57.as) (F:TsF c57.fs) (y:TsS c57.cs),ref05_Proves_b lp jn ref05_Sum ref05_below ref05_Rights ref05_Signed x.1 x.2.1 x.2.2.1=runC lp jn (ctxT tabs lits (ctxOf prog shs inls its [(61,⟨[T25,(.sl T27)],[],[],.one .bool,fun x _ _=>ref05_Signed x.1 x.2.1⟩),(59,⟨[T25],[],[],.one (.sl i64),fun x _ _=>ref05_Rights x.1⟩),(58,⟨[T25,(.sl T27),(.sl i64)],[],[],.tup [.bool,i64],fun x _ _=>ref05_below x.1 x.2.1 x.2.2.1⟩),(35,⟨[(.sl i64),(.sl T27)],[],[],.tup [T27,i64],fun x _ _=>ref05_Sum x.1 x.2.1⟩)] [(24,r24),(22,r22)])) hints 4 57 f57 c57 x F y:=fun x F y=>by kernel_rfl
theorem l57:(ctxT tabs lits (ctxOf prog shs inls its [(61,c61),(59,c59),(58,c58),(35,c35)] [(24,r24),(22,r22)])).ok:=ctxT_ok (ctxOf_cons (ctxOf_cons (ctxOf_cons (ctxOf_cons (q24) (by kernel_rfl) ok35) (by kernel_rfl) ok58) (by kernel_rfl) ok59) (by kernel_rfl) ok61)
theorem ok57:c57.ok prog 57:=Ctr.of_den l57 hmix (hl:=hints) (d:=4) func57 rfl (by decide) (e57 lpK jnK ref05_Sum ref05_below ref05_Rights ref05_Signed)
noncomputable def ref05_Check_b (_:Lp) (_:Jn) (ref05_Sum:(List Int)→(List (Int×Int))→Option ((Int×Int)×Int×Unit)) (ref05_Feasible:((List Int)×List ((List Int)×Int×Int))→(List (Int×Int))→Option (Bool×Int×Unit)) (ref05_Proves:((List Int)×List ((List Int)×Int×Int))→(List (Int×Int))→(Int×Int)→Option (Bool×Int×Unit)) (x0:(List Int)×List ((List Int)×Int×Int)) (x1:(Int×Int)×(List (Int×Int))×List (Int×Int)):Option (Bool×Int×Unit) :=
 obind (ref05_Feasible x0 x1.2.1) fun (t:Bool×Int×PUnit) =>
 let v5:Bool:=!t.1||t.1;
 let v6:Bool:=!decide (t.2.1=(0:Int));
 let v7:Bool:=!v6;obind (ref05_Sum x0.1 x1.2.1) fun (t_1:(Int×Int)×Int×PUnit) =>
 let v9:Bool:=bif v6 then true else !decide (t_1.2.1=(0:Int));
 let v10:Bool:=!v9;
 let v11:Bool:=bif t.1 then decide (t_1.1.1=x1.1.1)&&(decide (t_1.1.2=x1.1.2)&&true) else false;obind (ref05_Proves x0 x1.2.2 x1.1) fun (t:Bool×Int
  × PUnit)=>bif !v7||v7 then bif v6||v7 then bif !v10||v10 then bif v9||v10 then bif bif v9 then true else !decide (t.2.1=(0:Int)) then some (false,(5:Int),
  PUnit.unit) else bif v5 then bif v5&&v5 then bif v5 then bif !v11||v11 then some (bif v11 then t.1 else false,(0:Int),PUnit.unit) else none else none else none else none else
  none else none else none else none
noncomputable def ref05_Check (x0:(List Int)×List ((List Int)×Int×Int)) (x1:(Int×Int)×(List (Int×Int))×List (Int×Int)):Option (Bool×Int×Unit):=ref05_Check_b lpK jnK ref05_Sum ref05_Feasible ref05_Proves x0 x1
noncomputable def c19:Ctr:=⟨[T25,T30],[],[],.tup [.bool,i64],fun x _ _=>ref05_Check x.1 x.2.1⟩
theorem e19 (lp:Lp) (jn:Jn) (ref05_Sum:(List Int)→(List (Int×Int))→Option ((Int×Int)×Int×Unit)) (ref05_Feasible:((List Int)×List ((List Int)×Int×Int))→(List (Int×Int))→Option (Bool×Int×Unit)) (ref05_Proves:((List Int)×List ((List Int)×Int×Int))→(List (Int×Int))→(Int×Int)→Option (Bool×Int×Unit)):∀(x:TsS c19.as) (F:TsF c19.fs) (y:TsS c19.cs),ref05_Check_b lp jn ref05_Sum ref05_Feasible ref05_Proves x.1 x.2.1=runC lp jn (ctxT tabs lits (ctxOf prog shs inls its [(57,⟨[T25,(.sl T27),T27],[],[],.tup [.bool,i64],fun x _ _=>ref05_Proves x.1 x.2.1 x.2.2.1⟩),(34,⟨[T25,(.sl T27)],[],[],.tup [.bool,i64],fun x _ _=>ref05_Feasible x.1 x.2.1⟩),(35,⟨[(.sl i64),(.sl T27)],[],[],.tup [T27,i64],fun x _ _=>ref05_Sum x.1 x.2.1⟩)] [(24,r24),(22,r22)])) hints 4 19 f19 c19 x F y:=fun x F y=>by kernel_rfl
theorem l19:(ctxT tabs lits (ctxOf prog shs inls its [(57,c57),(34,c34),(35,c35)] [(24,r24),(22,r22)])).ok:=ctxT_ok (ctxOf_cons (ctxOf_cons (ctxOf_cons (q24) (by kernel_rfl) ok35) (by kernel_rfl) ok34) (by kernel_rfl) ok57)
theorem ok19:c19.ok prog 19:=Ctr.of_den l19 hmix (hl:=hints) (d:=4) func19 rfl (by decide) (e19 lpK jnK ref05_Sum ref05_Feasible ref05_Proves)
noncomputable def ref05_Refutes_b (_:Lp) (_:Jn) (ref05_Sum:(List Int)→(List (Int×Int))→Option ((Int×Int)×Int×Unit)) (ref05_sign:(Int×Int)→Option (Int)) (ref05_below:((List Int)×List ((List Int)×Int×Int))→(List (Int×Int))→(List Int)→Option (Bool×Int×Unit)) (ref05_Rights:((List Int)×List ((List Int)×Int×Int))→Option (List Int)) (ref05_Signed:((List Int)×List ((List Int)×Int×Int))→(List (Int×Int))→Option (Bool)) (x0:(List Int)×List ((List Int)×Int×Int)) (x1:List (Int×Int)):Option (Bool×Int×Unit) :=
 bif decide ((0:Int)≤(↑(List.length x0.1):Int))&&fitB (Int.toNat (↑(List.length x0.1):Int)) (8:Nat) then obind (ref05_below x0 x1 (List.replicate (Int.toNat (↑(List.length
  x0.1):Int)) (0:Int))) fun (t:Bool×Int×PUnit) =>
 let v5:Bool:=!t.1||t.1;bif !decide (t.2.1=(0:Int)) then some (false,t.2.1,PUnit.unit) else obind (ref05_Rights x0) fun (t_1:List Int)=>obind (ref05_Sum t_1
  x1) fun (t_2:(Int×Int)×Int×PUnit)=>bif !decide (t_2.2.1=(0:Int)) then some (false,t_2.2.1,PUnit.unit) else bif v5 then obind (bif t.1 then ref05_sign t_2.1
  else some (0:Int)) fun (t_3:Int) =>
 let v9:Bool:=bif t.1 then decide (t_3>(0:Int)) else false;
 let v10:Bool:=!v9||v9;bif v5 then bif v5 then bif v10&&v10 then obind (bif v9 then ref05_Signed x0 x1 else some false) fun (t:Bool)=>bif v10 then some (bif v9 then t else
  false,(0:Int),PUnit.unit) else none else none else none else none else none else none
noncomputable def ref05_Refutes (x0:(List Int)×List ((List Int)×Int×Int)) (x1:List (Int×Int)):Option (Bool×Int×Unit):=ref05_Refutes_b lpK jnK ref05_Sum ref05_sign ref05_below ref05_Rights ref05_Signed x0 x1
noncomputable def c20:Ctr:=⟨[T25,(.sl T27)],[],[],.tup [.bool,i64],fun x _ _=>ref05_Refutes x.1 x.2.1⟩
theorem e20 (lp:Lp) (jn:Jn) (ref05_Sum:(List Int)→(List (Int×Int))→Option ((Int×Int)×Int×Unit)) (ref05_sign:(Int×Int)→Option (Int)) (ref05_below:((List Int)×List ((List Int)×Int×Int))→(List (Int×Int))→(List Int)→Option (Bool×Int×Unit)) (ref05_Rights:((List Int)×List ((List Int)×Int×Int))→Option (List Int)) (ref05_Signed:((List Int)×List ((List Int)×Int×Int))→(List (Int×Int))→Option (Bool)):∀(x:TsS c20.as) (F:TsF c20.fs) (y:TsS c20.cs),ref05_Refutes_b lp jn ref05_Sum ref05_sign ref05_below ref05_Rights ref05_Signed x.1 x.2.1=runC lp jn (ctxT tabs lits (ctxOf prog shs inls its [(61,⟨[T25,(.sl T27)],[],[],.one .bool,fun x _ _=>ref05_Signed x.1 x.2.1⟩),(59,⟨[T25],[],[],.one (.sl i64),fun x _ _=>ref05_Rights x.1⟩),(58,⟨[T25,(.sl T27),(.sl i64)],[],[],.tup [.bool,i64],fun x _ _=>ref05_below x.1 x.2.1 x.2.2.1⟩),(60,⟨[T27],[],[],.one i64,fun x _ _=>ref05_sign x.1⟩),(35,⟨[(.sl i64),(.sl T27)],[],[],.tup [T27,i64],fun x _ _=>ref05_Sum x.1 x.2.1⟩)] [(24,r24),(22,r22)])) hints 4 20 f20 c20 x F y:=fun x F y=>by kernel_rfl
theorem l20:(ctxT tabs lits (ctxOf prog shs inls its [(61,c61),(59,c59),(58,c58),(60,c60),(35,c35)] [(24,r24),(22,r22)])).ok:=ctxT_ok (ctxOf_cons (ctxOf_cons (ctxOf_cons (ctxOf_cons (ctxOf_cons (q24) (by kernel_rfl) ok35) (by kernel_rfl) ok60) (by kernel_rfl) ok58) (by kernel_rfl) ok59) (by kernel_rfl) ok61)
theorem ok20:c20.ok prog 20:=Ctr.of_den l20 hmix (hl:=hints) (d:=4) func20 rfl (by decide) (e20 lpK jnK ref05_Sum ref05_sign ref05_below ref05_Rights ref05_Signed)
noncomputable def law05_ProgramChecks_b (_:Lp) (jn:Jn) (program_Check:((List Int)×List ((List Int)×Int×Int))→((Int×Int)×(List (Int×Int))×List (Int×Int))→Option (Bool×Int×Unit)) (program_Refutes:((List Int)×List ((List Int)×Int×Int))→(List (Int×Int))→Option (Bool×Int×Unit)) (law05_awake:Option (Bool)) (law05_few:((List Int)×List ((List Int)×Int×Int))→Option (Bool)) (law05_short:(List (List (Int×Int)))→Option (Bool)) (ref05_Valid:((List Int)×List ((List Int)×Int×Int))→Option (Bool)) (ref02_Valid:(Int×Int)→Option (Bool)) (ref02_All:(List (Int×Int))→Option (Bool)) (ref05_Check:((List Int)×List ((List Int)×Int×Int))→((Int×Int)×(List (Int×Int))×List (Int×Int))→Option (Bool×Int×Unit)) (ref05_Refutes:((List Int)×List ((List Int)×Int×Int))→(List (Int×Int))→Option (Bool×Int×Unit)) (x0:(List Int)×List ((List Int)×Int×Int)) (x1:(Int×Int)×(List (Int×Int))×List (Int×Int)) (x2:List (Int×Int)):Option Bool :=
 
 let v5:Bool:=!decide ((↑(List.length x1.2.1):Int)=(↑(List.length x0.1):Int));
 let v6:Bool:=!v5;
 let v7:Bool:=!v6||v6;obind law05_awake fun (t:Bool)=>bif !t then some false else obind (law05_few x0) fun (t:Bool) =>
 let v10:Bool:=!t;
 let v11:Bool:=!v10;
 let v12:Bool:=!v11||v11;bif v12 then bif v12 then bif v12&&(v12&&v12) then bif v12 then obind (bif v11 then law05_short [x1.2.1,x1.2.2,x2] else some false) fun (t :
  Bool)=>bif v12 then bif v10||v11 then bif bif v10 then true else !t then some true else obind (program_Check x0 x1) fun (t:Bool×Int×PUnit) =>
 let v15:Bool:=!t.1;
 let v16:Bool:=t.1||v15;
 let v17:Bool:=!v15||v15;obind (program_Refutes x0 x2) fun (t_1:Bool×Int×PUnit) =>
 let v19:Bool:=!t_1.1;
 let v20:Bool:=!v19||v19;obind (ref05_Valid x0) fun (t_2:Bool) =>
 let v22:Bool:=!t_2;
 let v23:Bool:=!v22;
 let v24:Bool:=v22||v23;
 let v25:Bool:=!v23||v23;bif v25 then bif v25 then obind (bif v23 then ref02_Valid x1.1 else some false) fun (t_3:Bool) =>
 let v27:Bool:=bif v22 then true else !t_3;
 let v28:Bool:=!v27;
 let v29:Bool:=!v28||v28;bif v25 then bif v24 then bif v29 then bif v29 then obind (bif v28 then ref02_All x1.2.1 else some false) fun (t_4:Bool) =>
 let v31:Bool:=bif v27 then true else !t_4;
 let v32:Bool:=!v31;
 let v33:Bool:=!v32||v32;bif v29 then bif v27||v28 then bif v33 then bif v33 then obind (bif v32 then ref02_All x1.2.2 else some false) fun (t_5:Bool)=>bif v33 then bif
  v31||v32 then jn PUnit Bool (fun (_:PUnit)=>bif v25 then obind (bif v23 then ref02_All x2 else some false) fun (t:Bool)=>bif v25 then bif v24 then bif bif v22 then true else
  !t then bif v20 then bif v20 then some (bif v19 then decide (t_1.2.1=(1:Int)) else false) else none else none else bif !decide ((↑(List.length x2):Int)=(↑(List.length
  x0.2):Int)) then bif v20 then bif v20 then some (bif v19 then decide (t_1.2.1=(3:Int)) else false) else none else none else obind (ref05_Refutes x0 x2) fun (t:Bool×Int ×
  PUnit) =>
 let v38:Bool:=decide (t_1.1=t.1);
 let v39:Bool:=!v38||v38;bif v39&&v39 then bif v39 then some (bif v38 then decide (t_1.2.1=t.2.1) else false) else none else none else none else none else none) fun (j :
  PUnit→Option Bool)=>bif bif v31 then true else !t_5 then bif v17 then bif v16 then bif bif t.1 then true else !decide (t.2.1=(1:Int)) then some false else j PUnit.unit
  else none else none else bif v7 then bif v7 then bif v7 then bif v7 then bif v7&&v7 then bif v5||v6 then jn PUnit Bool (fun (_:PUnit)=>j PUnit.unit) fun (j:PUnit→Option
  Bool)=>bif bif v5 then true else !decide ((↑(List.length x1.2.2):Int)=(↑(List.length x0.2):Int)) then bif v17 then bif v16 then bif bif t.1 then true else !decide
  (t.2.1=(3:Int)) then some false else j PUnit.unit else none else none else obind (ref05_Check x0 x1) fun (t_6:Bool×Int×PUnit) =>
 let v38:Bool:=!decide (t.1=t_6.1);
 let v39:Bool:=!v38;
 let v40:Bool:=!v39||v39;bif v40&&v40 then bif v38||v39 then bif bif v38 then true else !decide (t.2.1=t_6.2.1) then some false else j PUnit.unit else none else none
  else none else none else none else none else none else none else none else none else none else none else none else none else none else none else none else none else none else none else
  none else none else none else none else none else none
noncomputable def law05_ProgramChecks (x0:(List Int)×List ((List Int)×Int×Int)) (x1:(Int×Int)×(List (Int×Int))×List (Int×Int)) (x2:List (Int×Int)):Option Bool:=law05_ProgramChecks_b lpK jnK program_Check program_Refutes law05_awake law05_few law05_short ref05_Valid ref02_Valid ref02_All ref05_Check ref05_Refutes x0 x1 x2
noncomputable def c3:Ctr:=⟨[T25,T30,(.sl T27)],[],[],.one .bool,fun x _ _=>law05_ProgramChecks x.1 x.2.1 x.2.2.1⟩
theorem e3 (lp:Lp) (jn:Jn) (program_Check:((List Int)×List ((List Int)×Int×Int))→((Int×Int)×(List (Int×Int))×List (Int×Int))→Option (Bool×Int×Unit)) (program_Refutes:((List Int)×List ((List Int)×Int×Int))→(List (Int×Int))→Option (Bool×Int×Unit)) (law05_awake:Option (Bool)) (law05_few:((List Int)×List ((List Int)×Int×Int))→Option (Bool)) (law05_short:(List (List (Int×Int)))→Option (Bool)) (ref05_Valid:((List Int)×List ((List Int)×Int×Int))→Option (Bool)) (ref02_Valid:(Int×Int)→Option (Bool)) (ref02_All:(List (Int×Int))→Option (Bool)) (ref05_Check:((List Int)×List ((List Int)×Int×Int))→((Int×Int)×(List (Int×Int))×List (Int×Int))→Option (Bool×Int×Unit)) (ref05_Refutes:((List Int)×List ((List Int)×Int×Int))→(List (Int×Int))→Option (Bool×Int×Unit)):∀(x:TsS c3.as) (F:TsF c3.fs) (y:TsS c3.cs),law05_ProgramChecks_b lp jn program_Check program_Refutes law05_awake law05_few law05_short ref05_Valid ref02_Valid ref02_All ref05_Check ref05_Refutes x.1 x.2.1 x.2.2.1=runC lp jn (ctxT tabs lits (ctxOf prog shs inls its [(20,⟨[T25,(.sl T27)],[],[],.tup [.bool,i64],fun x _ _=>ref05_Refutes x.1 x.2.1⟩),(19,⟨[T25,T30],[],[],.tup [.bool,i64],fun x _ _=>ref05_Check x.1 x.2.1⟩),(18,⟨[(.sl T27)],[],[],.one .bool,fun x _ _=>ref02_All x.1⟩),(17,⟨[T27],[],[],.one .bool,fun x _ _=>ref02_Valid x.1⟩),(16,⟨[T25],[],[],.one .bool,fun x _ _=>ref05_Valid x.1⟩),(13,⟨[(.sl (.sl T27))],[],[],.one .bool,fun x _ _=>law05_short x.1⟩),(12,⟨[T25],[],[],.one .bool,fun x _ _=>law05_few x.1⟩),(11,⟨[],[],[],.one .bool,fun _ _ _=>law05_awake⟩),(15,⟨[T25,(.sl T27)],[],[],.tup [.bool,i64],fun x _ _=>program_Refutes x.1 x.2.1⟩),(14,⟨[T25,T30],[],[],.tup [.bool,i64],fun x _ _=>program_Check x.1 x.2.1⟩)] [(24,r24),(22,r22)])) hints 4 3 f3 c3 x F y:=fun x F y=>by kernel_rfl
theorem l3:(ctxT tabs lits (ctxOf prog shs inls its [(20,c20),(19,c19),(18,c18),(17,c17),(16,c16),(13,c13),(12,c12),(11,c11),(15,c15),(14,c14)] [(24,r24),(22,r22)])).ok:=ctxT_ok (ctxOf_cons (ctxOf_cons (ctxOf_cons (ctxOf_cons (ctxOf_cons (ctxOf_cons (ctxOf_cons (ctxOf_cons (ctxOf_cons (ctxOf_cons (q24) (by kernel_rfl) ok14) (by kernel_rfl) ok15) (by kernel_rfl) ok11) (by kernel_rfl) ok12) (by kernel_rfl) ok13) (by kernel_rfl) ok16) (by kernel_rfl) ok17) (by kernel_rfl) ok18) (by kernel_rfl) ok19) (by kernel_rfl) ok20)
noncomputable def law05_empty_b (_:Lp) (_:Jn) (x0:(Int×Int)×(List (Int×Int))×List (Int×Int)):Option Bool :=
 
 let v3:Bool:=decide (x0.1.1=(0:Int))&&(decide (x0.1.2=(0:Int))&&true);
 let v4:Bool:=bif v3 then decide ((↑(List.length x0.2.1):Int)=(0:Int)) else false;
 let v5:Bool:=!v3||v3;
 let v6:Bool:=!v4||v4;bif v5 then bif v5 then bif v5 then bif v5 then bif v6 then bif v6 then bif v6 then bif v6 then some (bif v4 then decide ((↑(List.length x0.2.2):Int) =
  (0:Int)) else false) else none else none else none else none else none else none else none else none
noncomputable def law05_empty (x0:(Int×Int)×(List (Int×Int))×List (Int×Int)):Option Bool:=law05_empty_b lpK jnK x0
noncomputable def law05_ProgramMore_b (lp:Lp) (_:Jn) (_:(Int×Int)→(Int×Int)→Option (Int×Int×Unit)) (program_Solve:((List Int)×List ((List Int)×Int×Int))→Option (((Int×Int)×(List (Int×Int))×List (Int×Int))×Int×Unit)) (law05_awake:Option (Bool)) (law05_few:((List Int)×List ((List Int)×Int×Int))→Option (Bool)) (_:((Int×Int)×(List (Int×Int))×List (Int×Int))→Option (Bool)) (slices_Clone_22:(List Int)→Option (List Int)) (_:(List ((List Int)×Int×Int))→Option (List ((List Int)×Int×Int))) (x0:(List Int)×List ((List Int)×Int×Int)) (x1:(List Int)×Int×Int):Option Bool :=
 obind law05_awake fun (t:Bool)=>bif !t then some false else obind (law05_few x0) fun (t:Bool) =>
 let v6:Bool:=!t;
 let v7:Bool:=!v6;
 let v8:Bool:=!v7||v7;bif v8 then bif v8 then bif v8 then bif v6||v7 then bif bif v6 then true else decide ((↑(List.length x1.1):Int)>(14:Int)) then some true else obind
  (program_Solve x0) fun (_:((Int×Int)×List (Int×Int)×List (Int×Int))×Int×PUnit)=>obind (slices_Clone_22 x0.1) fun (t:List Int)=>lp (Int×Int×List Int×PUnit)
  Bool (fun (again:Int×Int×List Int×PUnit→Option Bool) (x:Int×Int×List Int×PUnit) =>
 let v13:Bool:=inB x.1 (List.length x.2.2.1);
 let v14:Bool:=Nat.ble (Nat.succ (Int.toNat x.1)) (List.length x.2.2.1);
 let v15:Bool:=inB x.2.1 (List.length x.2.2.1);
 let v16:Bool:=Nat.ble (Nat.succ (Int.toNat x.2.1)) (List.length x.2.2.1);bif decide (x.1<x.2.1) then bif v15 then bif v16 then bif v13 then bif v14 then bif v13
  then bif v14 then bif v15 then bif v16 then again (IntKind.wrap .i64 (x.1+(1:Int)),IntKind.wrap .i64 (x.2.1 - (1:Int)),List.set (List.set x.2.2.1
  (Int.toNat x.1) (List.getD x.2.2.1 (Int.toNat x.2.1) (0:Int))) (Int.toNat x.2.1) (List.getD x.2.2.1 (Int.toNat x.1) (0:Int)),PUnit.unit) else none else none
  else none else none else none else none else none else none else none) ((0:Int),IntKind.wrap .i64 ((↑(List.length t):Int) - (1:Int)),t,PUnit.unit) else none else none
  else none else none
noncomputable def law05_ProgramMore (x0:(List Int)×List ((List Int)×Int×Int)) (x1:(List Int)×Int×Int):Option Bool:=law05_ProgramMore_b lpK jnK ratio_Cmp program_Solve law05_awake law05_few law05_empty slices_Clone_22 slices_Clone_24 x0 x1
noncomputable def c4:Ctr:=⟨[T25,T45],[],[],.one .bool,fun x _ _=>law05_ProgramMore x.1 x.2.1⟩
theorem e4 (lp:Lp) (jn:Jn) (ratio_Cmp:(Int×Int)→(Int×Int)→Option (Int×Int×Unit)) (program_Solve:((List Int)×List ((List Int)×Int×Int))→Option (((Int×Int)×(List (Int×Int))×List (Int×Int))×Int×Unit)) (law05_awake:Option (Bool)) (law05_few:((List Int)×List ((List Int)×Int×Int))→Option (Bool)) (law05_empty:((Int×Int)×(List (Int×Int))×List (Int×Int))→Option (Bool)) (slices_Clone_22:(List Int)→Option (List Int)) (slices_Clone_24:(List ((List Int)×Int×Int))→Option (List ((List Int)×Int×Int))):∀(x:TsS c4.as) (F:TsF c4.fs) (y:TsS c4.cs),law05_ProgramMore_b lp jn ratio_Cmp program_Solve law05_awake law05_few law05_empty slices_Clone_22 slices_Clone_24 x.1 x.2.1=runC lp jn (ctxT tabs lits (ctxOf prog shs inls its [(25,⟨[T30],[],[],.one .bool,fun x _ _=>law05_empty x.1⟩),(12,⟨[T25],[],[],.one .bool,fun x _ _=>law05_few x.1⟩),(11,⟨[],[],[],.one .bool,fun _ _ _=>law05_awake⟩),(21,⟨[T25],[],[],.tup [T30,i64],fun x _ _=>program_Solve x.1⟩),(26,⟨[T27,T27],[],[],.tup [i64,i64],fun x _ _=>ratio_Cmp x.1 x.2.1⟩)] [(24,⟨[(.sl T45)],45,T45,fun x=>slices_Clone_24 x.1⟩),(22,⟨[(.sl i64)],3,i64,fun x=>slices_Clone_22 x.1⟩)])) hints 4 4 f4 c4 x F y:=fun x F y=>by kernel_rfl
noncomputable def ref05_size_b (_:Lp) (_:Jn) (x0:Int):Option Int :=
 some (if IntKind.wrap .i64 ((0:Int) - x0)>x0 then IntKind.wrap .i64 ((0:Int) - x0) else x0)
noncomputable def ref05_size (x0:Int):Option Int:=ref05_size_b lpK jnK x0
noncomputable def ref05_Factors_b (lp:Lp) (_:Jn) (ref05_size:(Int)→Option (Int)) (x0:(List Int)×List ((List Int)×Int×Int)):Option (List Int) :=
 lp (Int×Int×PUnit) (List Int) (fun (again:Int×Int×PUnit→Option (List Int)) (x:Int×Int×PUnit)=>bif decide (x.2.1<(↑(List.length x0.1):Int)) then bif inB
  x.2.1 (List.length x0.1) then obind (ref05_size (List.getD x0.1 (Int.toNat x.2.1) (0:Int))) fun (t:Int)=>again (IntKind.wrap .i64 (x.1+t),IntKind.wrap
  IntKind.i64 (x.2.1+(1:Int)),PUnit.unit) else none else lp (List Int×Int×PUnit) (List Int) (fun (again:List Int×Int×PUnit→Option (List Int)) (x:List Int×Int ×
  PUnit) =>
 let v7:Bool:=inB x.2.1 (List.length x0.2);
 let v8:List Int×Int×Int:=List.getD x0.2 (Int.toNat x.2.1) ([],(0:Int),(0:Int));bif decide (x.2.1<(↑(List.length x0.2):Int)) then bif v7 then obind
  (ref05_size v8.2.2) fun (t:Int)=>lp (Int×Int×PUnit) (List Int) (fun (again_1:Int×Int×PUnit→Option (List Int)) (x_1:Int×Int×PUnit)=>bif decide (x_1.2.1 <
  (↑(List.length x0.1):Int)) then bif v7 then bif inB x_1.2.1 (List.length v8.1) then obind (ref05_size (List.getD v8.1 (Int.toNat x_1.2.1) (0:Int))) fun (t:Int) =>
  again_1 (IntKind.wrap .i64 (x_1.1+t),IntKind.wrap .i64 (x_1.2.1+(1:Int)),PUnit.unit) else none else none else bif fitB (List.length x.1+(1:Nat)) (8 :
  Nat) then again (x.1++[x_1.1],IntKind.wrap .i64 (x.2.1+(1:Int)),PUnit.unit) else none) (IntKind.wrap .i64 ((1:Int)+t),(0:Int),PUnit.unit) else none
  else some x.1) ([x.1],(0:Int),PUnit.unit)) ((1:Int),(0:Int),PUnit.unit)
noncomputable def ref05_Factors (x0:(List Int)×List ((List Int)×Int×Int)):Option (List Int):=ref05_Factors_b lpK jnK ref05_size x0
noncomputable def ref05_product_b (lp:Lp) (_:Jn) (x0:List Int) (x1:Int):Option (Int×Bool×Unit) :=
 lp (Int×Int×PUnit) (Int×Bool×PUnit) (fun (again:Int×Int×PUnit→Option (Int×Bool×PUnit)) (x:Int×Int×PUnit) =>
 let v6:Bool:=inB x.2.1 (List.length x0);bif decide (x.2.1<(↑(List.length x0):Int)) then bif v6 then bif nzB x.1 then bif decide (List.getD x0 (Int.toNat x.2.1) (0 :
  Int)>IntKind.wrap .i64 (Int.tdiv x1 x.1)) then some ((0:Int),false,PUnit.unit) else bif v6 then again (IntKind.wrap .i64 (x.1*List.getD x0 (Int.toNat
  x.2.1) (0:Int)),IntKind.wrap .i64 (x.2.1+(1:Int)),PUnit.unit) else none else none else none else some (x.1,true,PUnit.unit)) ((1:Int),(0:Int),PUnit.unit)
noncomputable def ref05_product (x0:List Int) (x1:Int):Option (Int×Bool×Unit):=ref05_product_b lpK jnK x0 x1
noncomputable def ref05_Fits_b (lp:Lp) (_:Jn) (ref05_Factors:((List Int)×List ((List Int)×Int×Int))→Option (List Int)) (ref05_product:(List Int)→(Int)→Option (Int×Bool×Unit)) (x0:(List Int)×List ((List Int)×Int×Int)):Option Bool :=
 obind (ref05_Factors x0) fun (t:List Int)=>obind (ref05_product t (17592186044416:Int)) fun (t_1:Int×Bool×PUnit) =>
 let v5:Bool:=!t_1.2.1;
 let v6:Int:=IntKind.wrap .i64 (Int.tdiv (144115188075855872:Int) t_1.1);
 let v7:Bool:=v5||t_1.2.1;lp (Int×Int×PUnit) Bool (fun (again:Int×Int×PUnit→Option Bool) (x:Int×Int×PUnit)=>bif decide (x.2.1<(↑(List.length t):Int))
  then bif inB x.2.1 (List.length t) then again (if List.getD t (Int.toNat x.2.1) (0:Int)>x.1 then List.getD t (Int.toNat x.2.1) (0:Int) else x.1,IntKind.wrap
  IntKind.i64 (x.2.1+(1:Int)),PUnit.unit) else none else bif v7&&(v5||nzB t_1.1) then bif v7&&v7 then bif v7 then some (bif t_1.2.1 then decide (x.1≤v6) else
  false) else none else none else none) ((0:Int),(0:Int),PUnit.unit)
noncomputable def ref05_Fits (x0:(List Int)×List ((List Int)×Int×Int)):Option Bool:=ref05_Fits_b lpK jnK ref05_Factors ref05_product x0
noncomputable def ref05_Small_b (_:Lp) (_:Jn) (ref05_Factors:((List Int)×List ((List Int)×Int×Int))→Option (List Int)) (ref05_product:(List Int)→(Int)→Option (Int×Bool×Unit)) (x0:(List Int)×List ((List Int)×Int×Int)):Option Bool :=
 obind (ref05_Factors x0) fun (t:List Int)=>obind (ref05_product t (536870912:Int)) fun (t:Int×Bool×PUnit)=>some t.2.1
noncomputable def ref05_Small (x0:(List Int)×List ((List Int)×Int×Int)):Option Bool:=ref05_Small_b lpK jnK ref05_Factors ref05_product x0
noncomputable def program_Farkas_b (lp:Lp) (jn:Jn) (program_Valid:((List Int)×List ((List Int)×Int×Int))→Option (Bool)) (program_fits:((List Int)×List ((List Int)×Int×Int))→Option (Bool)) (slices_Clone_22:(List Int)→Option (List Int)) (program_table_start:(List Nat×List (Option (List Int)))→(Int)→(List Int)→(List Int)→(List Int)→(Int)→(Int)→Option ((List Nat×List (Option (List Int)))×Int×(List Int)×(List Int)×(List Int)×Int×Int×Bool×Unit)) (program_table_artificial:((List (List Int))×Int×(List Int)×(List Int)×(List Int)×Int×Int)→(Int)→Option (Int)) (program_table_part:((List (List Int))×Int×(List Int)×(List Int)×(List Int)×Int×Int)→(Int)→Option (Int×Int)) (x0:(List Int)×List ((List Int)×Int×Int)):Option ((List (Int×Int))×Int×Unit) :=
 obind (program_Valid x0) fun (t:Bool)=>bif !t then some ([],(1:Int),PUnit.unit) else obind (program_fits x0) fun (t:Bool)=>bif !t then some ([],(5:Int),PUnit.unit) else lp
  (Int×Int×PUnit) (List (Int×Int)×Int×PUnit) (fun (again:Int×Int×PUnit→Option (List (Int×Int)×Int×PUnit)) (x:Int×Int×PUnit) =>
 let v7:Int×PUnit:=(IntKind.wrap .i64 (x.2.1+(1:Int)),PUnit.unit);
 let v8:Int:=IntKind.wrap .i64 ((↑(List.length x0.1):Int)+x.1);bif decide (x.2.1<(↑(List.length x0.2):Int)) then bif inB x.2.1 (List.length x0.2) then
  bif !decide ((List.getD x0.2 (Int.toNat x.2.1) ([],(0:Int),(0:Int))).2.1=(3:Int)) then again (IntKind.wrap .i64 (x.1+(1:Int)),v7) else again (x.1,
  v7) else none else obind (slices_Clone_22 x0.1) fun (t:List Int)=>lp (Int×Int×(List Nat×List (Option (List Int)))×Int×List Int×List Int×List Int×Int×Int×PUnit)
  (List (Int×Int)×Int×PUnit) (fun (again:Int×Int×(List Nat×List (Option (List Int)))×Int×List Int×List Int×List Int×Int×Int×PUnit→Option (List (Int×Int) ×
  Int×PUnit)) (x:Int×Int×(List Nat×List (Option (List Int)))×Int×List Int×List Int×List Int×Int×Int×PUnit) =>
 let v12:Int:=IntKind.wrap .i64 (x.1+(1:Int));
 let v13:List Int×Int×Int:=List.getD x0.2 (Int.toNat x.2.1) ([],(0:Int),(0:Int));
 let v14:List Int:=List.replicate (Int.toNat (IntKind.wrap .i64 (x.2.2.2.2.2.2.2.2.1+(1:Int)))) (0:Int);
 let v15:Bool:=inB x.1 (Int.toNat (IntKind.wrap .i64 (x.2.2.2.2.2.2.2.2.1+(1:Int))));
 let v16:Bool:=Nat.ble (Nat.succ (Int.toNat x.1)) (Int.toNat (IntKind.wrap .i64 (x.2.2.2.2.2.2.2.2.1+(1:Int))));
 let v17:Int:=IntKind.wrap .i64 (x.2.2.2.2.2.2.2.1+x.2.1);
 let v18:List Int:=List.take (Int.toNat (IntKind.wrap .i64 (x.2.2.2.2.2.2.2.2.1+(1:Int)))) v13.1;
 let v19:List Int:=List.set (List.take (0:Nat) v14++v18++List.drop ((0:Nat)+List.length v18) v14) (Int.toNat x.2.2.2.2.2.2.2.2.1) v13.2.2;bif decide
  (x.2.1<(↑(List.length x0.2):Int)) then bif inB x.2.1 (List.length x0.2) then bif decide ((0:Int)≤IntKind.wrap .i64 (x.2.2.2.2.2.2.2.2.1+(1
  : Int)))&&fitB (Int.toNat (IntKind.wrap .i64 (x.2.2.2.2.2.2.2.2.1+(1:Int)))) (8:Nat) then bif inB x.2.2.2.2.2.2.2.2.1 (Int.toNat
  (IntKind.wrap .i64 (x.2.2.2.2.2.2.2.2.1+(1:Int)))) then bif Nat.ble (Nat.succ (Int.toNat x.2.2.2.2.2.2.2.2.1)) (Int.toNat (IntKind.wrap
  IntKind.i64 (x.2.2.2.2.2.2.2.2.1+(1:Int)))) then jn (Int×List Int×PUnit) (List (Int×Int)×Int×PUnit) (fun (x_1:Int×List Int×PUnit) =>
 let v21:List Int×PUnit:=(x_1.2.1,PUnit.unit);jn (Int×List Int×PUnit) (List (Int×Int)×Int×PUnit) (fun (x_2:Int×List Int×PUnit)=>bif inB v17 (List.length
  x_2.2.1) then bif Nat.ble (Nat.succ (Int.toNat v17)) (List.length x_2.2.1) then bif fitB (List.length x.2.2.1.1+(1:Nat)) (24:Nat) then bif fitB (List.length
  x.2.2.2.2.2.1+(1:Nat)) (8:Nat) then bif fitB (List.length x.2.2.2.2.1+(1:Nat)) (8:Nat) then again (x_1.1,IntKind.wrap .i64 (x.2.1+(1 :
  Int)),(x.2.2.1.1++[List.length x.2.2.1.2+(0:Nat)],x.2.2.1.2++[some (List.set x_2.2.1 (Int.toNat v17) (1:Int))]),x.2.2.2.1,
  x.2.2.2.2.1++[v17],x.2.2.2.2.2.1++[x_2.1],x.2.2.2.2.2.2.1,x.2.2.2.2.2.2.2.1,x.2.2.2.2.2.2.2.2.1,
  PUnit.unit) else none else none else none else none else none) fun (j:Int×List Int×PUnit→Option (List (Int×Int)×Int×PUnit))=>bif decide (v13.2.2<(0:Int)) then lp
  (Int×List Int×PUnit) (List (Int×Int)×Int×PUnit) (fun (again:Int×List Int×PUnit→Option (List (Int×Int)×Int×PUnit)) (x:Int×List Int×PUnit) =>
 let v25:Bool:=inB x.1 (List.length x.2.1);
 let v26:Bool:=Nat.ble (Nat.succ (Int.toNat x.1)) (List.length x.2.1);bif decide (x.1<(↑(List.length x_1.2.1):Int)) then bif v25 then bif v26 then bif v25 then bif v26
  then again (IntKind.wrap .i64 (x.1+(1:Int)),List.set x.2.1 (Int.toNat x.1) (IntKind.wrap .i64 ((0:Int) - List.getD x.2.1 (Int.toNat x.1) (0:Int))),
  PUnit.unit) else none else none else none else none else j ((-1:Int),x.2.1,PUnit.unit)) ((0:Int),v21) else j ((1:Int),v21)) fun (j:Int×List Int×PUnit→Option (List
  (Int×Int)×Int×PUnit))=>bif decide (v13.2.1=(1:Int)) then bif v15 then bif v16 then j (v12,List.set v19 (Int.toNat x.1) (1:Int),PUnit.unit) else none else none else
  jn (Int×List Int×PUnit) (List (Int×Int)×Int×PUnit) (fun (x:Int×List Int×PUnit)=>j (x.1,x.2.1,PUnit.unit)) fun (j:Int×List Int×PUnit→Option (List (Int ×
  Int)×Int×PUnit))=>bif decide (v13.2.1=(2:Int)) then bif v15 then bif v16 then j (v12,List.set v19 (Int.toNat x.1) (-1:Int),PUnit.unit) else none else none else j
  (x.1,v19,PUnit.unit) else none else none else none else none else obind (program_table_start x.2.2.1 x.2.2.2.1 x.2.2.2.2.1 x.2.2.2.2.2.1
  x.2.2.2.2.2.2.1 x.2.2.2.2.2.2.2.1 x.2.2.2.2.2.2.2.2.1) fun (y:(List Nat×List (Option (List Int)))×Int×List Int×List Int×List
  Int×Int×Int×Bool×PUnit)=>bif y.2.2.2.2.2.2.2.1 then some ([],(12:Int),PUnit.unit) else lp (List (Int×Int)×Int×PUnit) (List (Int×Int)×Int×PUnit)
  (fun (again:List (Int×Int)×Int×PUnit→Option (List (Int×Int)×Int×PUnit)) (x:List (Int×Int)×Int×PUnit)=>bif decide (x.2.1<(↑(List.length x0.2):Int))
  then bif inB x.2.1 (List.length y.2.2.2.1) then bif Nat.ble (Nat.succ (Int.toNat x.2.1)) (List.length y.2.2.2.1) then obind (bif List.all y.1.1 fun (x:Nat)
  =>liveB y.1.2 x then program_table_artificial (List.map (fun (x:Nat)=>rowD y.1.2 x) y.1.1,y.2.1,y.2.2.1,y.2.2.2.1,y.2.2.2.2.1,
  y.2.2.2.2.2.1,y.2.2.2.2.2.2.1) (IntKind.wrap .i64 (y.2.2.2.2.2.1+x.2.1)) else none) fun (t:Int)=>obind (bif List.all y.1.1
  fun (x:Nat)=>liveB y.1.2 x then program_table_part (List.map (fun (x:Nat)=>rowD y.1.2 x) y.1.1,y.2.1,y.2.2.1,y.2.2.2.1,y.2.2.2.2.1,
  y.2.2.2.2.2.1,y.2.2.2.2.2.2.1) (IntKind.wrap .i64 (List.getD y.2.2.2.1 (Int.toNat x.2.1) (0:Int)*t)) else none) fun (t:Int×Int) =>
  bif fitB (List.length x.1+(1:Nat)) (16:Nat) then again (x.1++[t],IntKind.wrap .i64 (x.2.1+(1:Int)),PUnit.unit) else none else none else none else some
  (x.1,(0:Int),PUnit.unit)) ([],(0:Int),PUnit.unit)) ((↑(List.length x0.1):Int),(0:Int),([],[]),(1:Int),[],[],t,v8,IntKind.wrap .i64 (v8+(↑(List.length
  x0.2):Int)),PUnit.unit)) ((0:Int),(0:Int),PUnit.unit)
noncomputable def program_Farkas (x0:(List Int)×List ((List Int)×Int×Int)):Option ((List (Int×Int))×Int×Unit):=program_Farkas_b lpK jnK program_Valid program_fits slices_Clone_22 program_table_start program_table_artificial program_table_part x0
noncomputable def ref05_pivot_b (lp:Lp) (_:Jn) (x0:List Nat×List (Option (List Int))) (x1:List Int) (x2:Int) (x3:Int) (x4:Int) (x5:Int):Option ((List Nat×List (Option (List Int)))×(List Int)×Int×Int×Unit) :=
 bif inB x4 (List.length x0.1) then bif Nat.ble (Nat.succ (Int.toNat x4)) (List.length x0.1) then bif inB x5 (List.length (rowD x0.2 (List.getD x0.1 (Int.toNat x4) (0:Nat)))) then
  bif Nat.ble (Nat.succ (Int.toNat x5)) (List.length (rowD x0.2 (List.getD x0.1 (Int.toNat x4) (0:Nat)))) then lp (Int×(List Nat×List (Option (List Int)))×PUnit) ((List Nat ×
  List (Option (List Int)))×List Int×Int×Int×PUnit) (fun (again:Int×(List Nat×List (Option (List Int)))×PUnit→Option ((List Nat×List (Option (List Int)))×List Int ×
  Int×Int×PUnit)) (x:Int×(List Nat×List (Option (List Int)))×PUnit) =>
 let v10:Int:=IntKind.wrap .i64 (x.1+(1:Int));
 let v11:(List Nat×List (Option (List Int)))×PUnit:=(x.2.1,PUnit.unit);bif decide (x.1<(↑(List.length x.2.1.1):Int)) then bif inB x.1 (List.length
  x.2.1.1) then bif Nat.ble (Nat.succ (Int.toNat x.1)) (List.length x.2.1.1) then bif inB x5 (List.length (rowD x.2.1.2 (List.getD x.2.1.1 (Int.toNat x.1) (0 :
  Nat)))) then bif Nat.ble (Nat.succ (Int.toNat x5)) (List.length (rowD x.2.1.2 (List.getD x.2.1.1 (Int.toNat x.1) (0:Nat)))) then bif decide (x.1=x4) then again (v10,
  v11) else lp (Int×(List Nat×List (Option (List Int)))×PUnit) ((List Nat×List (Option (List Int)))×List Int×Int×Int×PUnit) (fun (again_1:Int×(List Nat×List (Option
  (List Int)))×PUnit→Option ((List Nat×List (Option (List Int)))×List Int×Int×Int×PUnit)) (x_1:Int×(List Nat×List (Option (List Int)))×PUnit) =>
 let v14:Bool:=inB x.1 (List.length x_1.2.1.1);
 let v15:Bool:=Nat.ble (Nat.succ (Int.toNat x.1)) (List.length x_1.2.1.1);bif v14 then bif v15 then bif liveB x_1.2.1.2 (List.getD x_1.2.1.1 (Int.toNat x.1) (0 :
  Nat)) then bif decide (x_1.1<(↑(List.length (rowD x_1.2.1.2 (List.getD x_1.2.1.1 (Int.toNat x.1) (0:Nat)))):Int)) then bif v14 then bif v15 then bif v14 then bif
  v15 then bif inB x_1.1 (List.length (rowD x_1.2.1.2 (List.getD x_1.2.1.1 (Int.toNat x.1) (0:Nat)))) then bif Nat.ble (Nat.succ (Int.toNat x_1.1)) (List.length (rowD
  x_1.2.1.2 (List.getD x_1.2.1.1 (Int.toNat x.1) (0:Nat)))) then bif inB x4 (List.length x_1.2.1.1) then bif Nat.ble (Nat.succ (Int.toNat x4)) (List.length
  x_1.2.1.1) then bif inB x_1.1 (List.length (rowD x_1.2.1.2 (List.getD x_1.2.1.1 (Int.toNat x4) (0:Nat)))) then bif Nat.ble (Nat.succ (Int.toNat x_1.1))
  (List.length (rowD x_1.2.1.2 (List.getD x_1.2.1.1 (Int.toNat x4) (0:Nat)))) then bif nzB x2 then bif inB x_1.1 (List.length (rowD x_1.2.1.2 (List.getD
  x_1.2.1.1 (Int.toNat x.1) (0:Nat)))) then bif Nat.ble (Nat.succ (Int.toNat x_1.1)) (List.length (rowD x_1.2.1.2 (List.getD x_1.2.1.1 (Int.toNat x.1) (0 :
  Nat)))) then again_1 (IntKind.wrap .i64 (x_1.1+(1:Int)),(x_1.2.1.1,List.set x_1.2.1.2 (List.getD x_1.2.1.1 (Int.toNat x.1) (0:Nat)) (some (List.set
  (rowD x_1.2.1.2 (List.getD x_1.2.1.1 (Int.toNat x.1) (0:Nat))) (Int.toNat x_1.1) (IntKind.wrap .i64 (Int.tdiv (IntKind.wrap .i64 (IntKind.wrap
  IntKind.i64 (List.getD (rowD x_1.2.1.2 (List.getD x_1.2.1.1 (Int.toNat x.1) (0:Nat))) (Int.toNat x_1.1) (0:Int)*List.getD (rowD x0.2 (List.getD x0.1 (Int.toNat
  x4) (0:Nat))) (Int.toNat x5) (0:Int)) - IntKind.wrap .i64 (List.getD (rowD x.2.1.2 (List.getD x.2.1.1 (Int.toNat x.1) (0:Nat))) (Int.toNat x5) (0:Int) *
  List.getD (rowD x_1.2.1.2 (List.getD x_1.2.1.1 (Int.toNat x4) (0:Nat))) (Int.toNat x_1.1) (0:Int)))) x2))))),PUnit.unit) else none else none else none else none else
  none else none else none else none else none else none else none else none else none else again (v10,x_1.2.1,PUnit.unit) else none else none else none) ((0:Int),v11) else none
  else none else none else none else bif inB x4 (List.length x1) then bif Nat.ble (Nat.succ (Int.toNat x4)) (List.length x1) then some (x.2.1,List.set x1 (Int.toNat x4) x5,List.getD
  (rowD x0.2 (List.getD x0.1 (Int.toNat x4) (0:Nat))) (Int.toNat x5) (0:Int),x3,PUnit.unit) else none else none) ((0:Int),x0,PUnit.unit) else none else none else none else
  none
noncomputable def ref05_pivot (x0:List Nat×List (Option (List Int))) (x1:List Int) (x2:Int) (x3:Int) (x4:Int) (x5:Int):Option ((List Nat×List (Option (List Int)))×(List Int)×Int×Int×Unit):=ref05_pivot_b lpK jnK x0 x1 x2 x3 x4 x5
noncomputable def ref05_run_b (lp:Lp) (_:Jn) (ref05_pivot:(List Nat×List (Option (List Int)))→(List Int)→(Int)→(Int)→(Int)→(Int)→Option ((List Nat×List (Option (List Int)))×(List Int)×Int×Int×Unit)) (x0:List Nat×List (Option (List Int))) (x1:List Int) (x2:Int) (x3:Int):Option ((List Nat×List (Option (List Int)))×(List Int)×Int×Int×Bool×Unit) :=
 
 let v6:Int:=IntKind.wrap .i64 ((↑(List.length x0.1):Int) - (1:Int));lp ((List Nat×List (Option (List Int)))×List Int×Int×Int×(List Nat×List (Option (List
  Int)))×List Int×Int×Int×PUnit) ((List Nat×List (Option (List Int)))×List Int×Int×Int×Bool×PUnit) (fun (again:(List Nat×List (Option (List Int)))×List Int×Int
  × Int×(List Nat×List (Option (List Int)))×List Int×Int×Int×PUnit→Option ((List Nat×List (Option (List Int)))×List Int×Int×Int×Bool×PUnit)) (x:(List Nat ×
  List (Option (List Int)))×List Int×Int×Int×(List Nat×List (Option (List Int)))×List Int×Int×Int×PUnit)=>lp (Int×PUnit) ((List Nat×List (Option (List Int))) ×
  List Int×Int×Int×Bool×PUnit) (fun (again_1:Int×PUnit→Option ((List Nat×List (Option (List Int)))×List Int×Int×Int×Bool×PUnit)) (x_1:Int×PUnit) =>
 let v11:Bool:=decide (x_1.1<x.2.2.2.1);
 let v12:Bool:=!v11;
 let v13:Bool:=v12||v11;bif v13 then bif v13&&(v13&&(v12||inB v6 (List.length x.1.1))) then bif v13&&(v12||Nat.ble (Nat.succ (Int.toNat v6)) (List.length x.1.1))
  then bif v13&&(v13&&(v12||inB x_1.1 (List.length (rowD x.1.2 (List.getD x.1.1 (Int.toNat v6) (0:Nat)))))) then bif v13&&(v12||Nat.ble (Nat.succ (Int.toNat
  x_1.1)) (List.length (rowD x.1.2 (List.getD x.1.1 (Int.toNat v6) (0:Nat))))) then bif v13 then bif v13 then bif bif v11 then decide (List.getD (rowD x.1.2 (List.getD
  x.1.1 (Int.toNat v6) (0:Nat))) (Int.toNat x_1.1) (0:Int)≥(0:Int)) else false then again_1 (IntKind.wrap .i64 (x_1.1+(1:Int)),PUnit.unit) else bif decide
  (x_1.1=x.2.2.2.1) then some (x.1,x.2.1,x.2.2.1,x.2.2.2.1,true,PUnit.unit) else bif inB (0:Int) (List.length x.1.1) then bif Nat.ble (1:Nat)
  (List.length x.1.1) then bif liveB x.1.2 (List.getD x.1.1 (0:Nat) (0:Nat)) then lp (Int×Int×PUnit) ((List Nat×List (Option (List Int)))×List Int×Int×Int ×
  Bool×PUnit) (fun (again_2:Int×Int×PUnit→Option ((List Nat×List (Option (List Int)))×List Int×Int×Int×Bool×PUnit)) (x_2:Int×Int×PUnit) =>
 let v16:Int×PUnit:=(IntKind.wrap .i64 (x_2.2.1+(1:Int)),PUnit.unit);
 let v17:Bool:=decide (x_2.1<(0:Int));
 let v18:Bool:=inB x_2.1 (List.length x.1.1);
 let v19:Bool:=Nat.ble (Nat.succ (Int.toNat x_2.1)) (List.length x.1.1);
 let v20:Bool:=inB x_2.2.1 (List.length x.1.1);
 let v21:Bool:=Nat.ble (Nat.succ (Int.toNat x_2.2.1)) (List.length x.1.1);bif decide (x_2.2.1<v6) then bif v20 then bif v21 then bif inB x_1.1 (List.length (rowD
  x.1.2 (List.getD x.1.1 (Int.toNat x_2.2.1) (0:Nat)))) then bif Nat.ble (Nat.succ (Int.toNat x_1.1)) (List.length (rowD x.1.2 (List.getD x.1.1 (Int.toNat
  x_2.2.1) (0:Nat)))) then bif decide (List.getD (rowD x.1.2 (List.getD x.1.1 (Int.toNat x_2.2.1) (0:Nat))) (Int.toNat x_1.1) (0:Int)≤(0:Int)) then again_2
  (x_2.1,v16) else bif v17 then again_2 (x_2.2.1,v16) else bif v20 then bif v21 then bif inB (IntKind.wrap .i64 ((↑(List.length (rowD x.1.2 (List.getD x.1.1 (0 :
  Nat) (0:Nat)))):Int) - (1:Int))) (List.length (rowD x.1.2 (List.getD x.1.1 (Int.toNat x_2.2.1) (0:Nat)))) then bif Nat.ble (Nat.succ (Int.toNat (IntKind.wrap
  IntKind.i64 ((↑(List.length (rowD x.1.2 (List.getD x.1.1 (0:Nat) (0:Nat)))):Int) - (1:Int))))) (List.length (rowD x.1.2 (List.getD x.1.1 (Int.toNat x_2.2.1)
  (0:Nat)))) then bif v18 then bif v19 then bif inB x_1.1 (List.length (rowD x.1.2 (List.getD x.1.1 (Int.toNat x_2.1) (0:Nat)))) then bif Nat.ble (Nat.succ (Int.toNat
  x_1.1)) (List.length (rowD x.1.2 (List.getD x.1.1 (Int.toNat x_2.1) (0:Nat)))) then bif v18 then bif v19 then bif inB (IntKind.wrap .i64 ((↑(List.length (rowD
  x.1.2 (List.getD x.1.1 (0:Nat) (0:Nat)))):Int) - (1:Int))) (List.length (rowD x.1.2 (List.getD x.1.1 (Int.toNat x_2.1) (0:Nat)))) then bif Nat.ble (Nat.succ
  (Int.toNat (IntKind.wrap .i64 ((↑(List.length (rowD x.1.2 (List.getD x.1.1 (0:Nat) (0:Nat)))):Int) - (1:Int))))) (List.length (rowD x.1.2 (List.getD x.1.1
  (Int.toNat x_2.1) (0:Nat)))) then bif v20 then bif v21 then bif inB x_1.1 (List.length (rowD x.1.2 (List.getD x.1.1 (Int.toNat x_2.2.1) (0:Nat)))) then bif Nat.ble
  (Nat.succ (Int.toNat x_1.1)) (List.length (rowD x.1.2 (List.getD x.1.1 (Int.toNat x_2.2.1) (0:Nat)))) then bif (!!decide (IntKind.wrap .i64 (List.getD (rowD
  x.1.2 (List.getD x.1.1 (Int.toNat x_2.2.1) (0:Nat))) (Int.toNat (IntKind.wrap .i64 ((↑(List.length (rowD x.1.2 (List.getD x.1.1 (0:Nat) (0:Nat)))) :
  Int) - (1:Int)))) (0:Int)*List.getD (rowD x.1.2 (List.getD x.1.1 (Int.toNat x_2.1) (0:Nat))) (Int.toNat x_1.1) (0:Int))<IntKind.wrap .i64 (List.getD (rowD
  x.1.2 (List.getD x.1.1 (Int.toNat x_2.1) (0:Nat))) (Int.toNat (IntKind.wrap .i64 ((↑(List.length (rowD x.1.2 (List.getD x.1.1 (0:Nat) (0:Nat)))):Int) -
  (1:Int)))) (0:Int)*List.getD (rowD x.1.2 (List.getD x.1.1 (Int.toNat x_2.2.1) (0:Nat))) (Int.toNat x_1.1) (0:Int)))||!decide (IntKind.wrap .i64
  (List.getD (rowD x.1.2 (List.getD x.1.1 (Int.toNat x_2.2.1) (0:Nat))) (Int.toNat (IntKind.wrap .i64 ((↑(List.length (rowD x.1.2 (List.getD x.1.1 (0:Nat)
  (0:Nat)))):Int) - (1:Int)))) (0:Int)*List.getD (rowD x.1.2 (List.getD x.1.1 (Int.toNat x_2.1) (0:Nat))) (Int.toNat x_1.1) (0:Int))<IntKind.wrap .i64
  (List.getD (rowD x.1.2 (List.getD x.1.1 (Int.toNat x_2.1) (0:Nat))) (Int.toNat (IntKind.wrap .i64 ((↑(List.length (rowD x.1.2 (List.getD x.1.1 (0:Nat) (0 :
  Nat)))):Int) - (1:Int)))) (0:Int)*List.getD (rowD x.1.2 (List.getD x.1.1 (Int.toNat x_2.2.1) (0:Nat))) (Int.toNat x_1.1) (0:Int))))&&(!!decide (IntKind.wrap
  IntKind.i64 (List.getD (rowD x.1.2 (List.getD x.1.1 (Int.toNat x_2.2.1) (0:Nat))) (Int.toNat (IntKind.wrap .i64 ((↑(List.length (rowD x.1.2 (List.getD x.1.1
  (0:Nat) (0:Nat)))):Int) - (1:Int)))) (0:Int)*List.getD (rowD x.1.2 (List.getD x.1.1 (Int.toNat x_2.1) (0:Nat))) (Int.toNat x_1.1) (0:Int))<IntKind.wrap
  IntKind.i64 (List.getD (rowD x.1.2 (List.getD x.1.1 (Int.toNat x_2.1) (0:Nat))) (Int.toNat (IntKind.wrap .i64 ((↑(List.length (rowD x.1.2 (List.getD x.1.1 (0
  : Nat) (0:Nat)))):Int) - (1:Int)))) (0:Int)*List.getD (rowD x.1.2 (List.getD x.1.1 (Int.toNat x_2.2.1) (0:Nat))) (Int.toNat x_1.1) (0:Int)))||!decide
  (IntKind.wrap .i64 (List.getD (rowD x.1.2 (List.getD x.1.1 (Int.toNat x_2.2.1) (0:Nat))) (Int.toNat (IntKind.wrap .i64 ((↑(List.length (rowD x.1.2
  (List.getD x.1.1 (0:Nat) (0:Nat)))):Int) - (1:Int)))) (0:Int)*List.getD (rowD x.1.2 (List.getD x.1.1 (Int.toNat x_2.1) (0:Nat))) (Int.toNat x_1.1) (0 :
  Int))<IntKind.wrap .i64 (List.getD (rowD x.1.2 (List.getD x.1.1 (Int.toNat x_2.1) (0:Nat))) (Int.toNat (IntKind.wrap .i64 ((↑(List.length (rowD x.1.2
  (List.getD x.1.1 (0:Nat) (0:Nat)))):Int) - (1:Int)))) (0:Int)*List.getD (rowD x.1.2 (List.getD x.1.1 (Int.toNat x_2.2.1) (0:Nat))) (Int.toNat x_1.1) (0 :
  Int)))) then bif !!decide (IntKind.wrap .i64 (List.getD (rowD x.1.2 (List.getD x.1.1 (Int.toNat x_2.2.1) (0:Nat))) (Int.toNat (IntKind.wrap .i64
  ((↑(List.length (rowD x.1.2 (List.getD x.1.1 (0:Nat) (0:Nat)))):Int) - (1:Int)))) (0:Int)*List.getD (rowD x.1.2 (List.getD x.1.1 (Int.toNat x_2.1) (0 :
  Nat))) (Int.toNat x_1.1) (0:Int))<IntKind.wrap .i64 (List.getD (rowD x.1.2 (List.getD x.1.1 (Int.toNat x_2.1) (0:Nat))) (Int.toNat (IntKind.wrap .i64
  ((↑(List.length (rowD x.1.2 (List.getD x.1.1 (0:Nat) (0:Nat)))):Int) - (1:Int)))) (0:Int)*List.getD (rowD x.1.2 (List.getD x.1.1 (Int.toNat x_2.2.1) (0 :
  Nat))) (Int.toNat x_1.1) (0:Int)))||!decide (IntKind.wrap .i64 (List.getD (rowD x.1.2 (List.getD x.1.1 (Int.toNat x_2.2.1) (0:Nat))) (Int.toNat (IntKind.wrap
  IntKind.i64 ((↑(List.length (rowD x.1.2 (List.getD x.1.1 (0:Nat) (0:Nat)))):Int) - (1:Int)))) (0:Int)*List.getD (rowD x.1.2 (List.getD x.1.1 (Int.toNat
  x_2.1) (0:Nat))) (Int.toNat x_1.1) (0:Int))<IntKind.wrap .i64 (List.getD (rowD x.1.2 (List.getD x.1.1 (Int.toNat x_2.1) (0:Nat))) (Int.toNat (IntKind.wrap
  IntKind.i64 ((↑(List.length (rowD x.1.2 (List.getD x.1.1 (0:Nat) (0:Nat)))):Int) - (1:Int)))) (0:Int)*List.getD (rowD x.1.2 (List.getD x.1.1 (Int.toNat
  x_2.2.1) (0:Nat))) (Int.toNat x_1.1) (0:Int))) then bif !(!decide (IntKind.wrap .i64 (List.getD (rowD x.1.2 (List.getD x.1.1 (Int.toNat x_2.2.1) (0:Nat)))
  (Int.toNat (IntKind.wrap .i64 ((↑(List.length (rowD x.1.2 (List.getD x.1.1 (0:Nat) (0:Nat)))):Int) - (1:Int)))) (0:Int)*List.getD (rowD x.1.2 (List.getD
  x.1.1 (Int.toNat x_2.1) (0:Nat))) (Int.toNat x_1.1) (0:Int))<IntKind.wrap .i64 (List.getD (rowD x.1.2 (List.getD x.1.1 (Int.toNat x_2.1) (0:Nat)))
  (Int.toNat (IntKind.wrap .i64 ((↑(List.length (rowD x.1.2 (List.getD x.1.1 (0:Nat) (0:Nat)))):Int) - (1:Int)))) (0:Int)*List.getD (rowD x.1.2 (List.getD
  x.1.1 (Int.toNat x_2.2.1) (0:Nat))) (Int.toNat x_1.1) (0:Int)))&&decide (IntKind.wrap .i64 (List.getD (rowD x.1.2 (List.getD x.1.1 (Int.toNat x_2.2.1)
  (0:Nat))) (Int.toNat (IntKind.wrap .i64 ((↑(List.length (rowD x.1.2 (List.getD x.1.1 (0:Nat) (0:Nat)))):Int) - (1:Int)))) (0:Int)*List.getD (rowD x.1.2
  (List.getD x.1.1 (Int.toNat x_2.1) (0:Nat))) (Int.toNat x_1.1) (0:Int))=IntKind.wrap .i64 (List.getD (rowD x.1.2 (List.getD x.1.1 (Int.toNat x_2.1) (0 :
  Nat))) (Int.toNat (IntKind.wrap .i64 ((↑(List.length (rowD x.1.2 (List.getD x.1.1 (0:Nat) (0:Nat)))):Int) - (1:Int)))) (0:Int)*List.getD (rowD x.1.2
  (List.getD x.1.1 (Int.toNat x_2.2.1) (0:Nat))) (Int.toNat x_1.1) (0:Int))))||!decide (IntKind.wrap .i64 (List.getD (rowD x.1.2 (List.getD x.1.1 (Int.toNat
  x_2.2.1) (0:Nat))) (Int.toNat (IntKind.wrap .i64 ((↑(List.length (rowD x.1.2 (List.getD x.1.1 (0:Nat) (0:Nat)))):Int) - (1:Int)))) (0:Int)*List.getD
  (rowD x.1.2 (List.getD x.1.1 (Int.toNat x_2.1) (0:Nat))) (Int.toNat x_1.1) (0:Int))<IntKind.wrap .i64 (List.getD (rowD x.1.2 (List.getD x.1.1 (Int.toNat
  x_2.1) (0:Nat))) (Int.toNat (IntKind.wrap .i64 ((↑(List.length (rowD x.1.2 (List.getD x.1.1 (0:Nat) (0:Nat)))):Int) - (1:Int)))) (0:Int)*List.getD (rowD
  x.1.2 (List.getD x.1.1 (Int.toNat x_2.2.1) (0:Nat))) (Int.toNat x_1.1) (0:Int)))&&decide (IntKind.wrap .i64 (List.getD (rowD x.1.2 (List.getD x.1.1
  (Int.toNat x_2.2.1) (0:Nat))) (Int.toNat (IntKind.wrap .i64 ((↑(List.length (rowD x.1.2 (List.getD x.1.1 (0:Nat) (0:Nat)))):Int) - (1:Int)))) (0:Int) *
  List.getD (rowD x.1.2 (List.getD x.1.1 (Int.toNat x_2.1) (0:Nat))) (Int.toNat x_1.1) (0:Int))=IntKind.wrap .i64 (List.getD (rowD x.1.2 (List.getD x.1.1
  (Int.toNat x_2.1) (0:Nat))) (Int.toNat (IntKind.wrap .i64 ((↑(List.length (rowD x.1.2 (List.getD x.1.1 (0:Nat) (0:Nat)))):Int) - (1:Int)))) (0:Int) *
  List.getD (rowD x.1.2 (List.getD x.1.1 (Int.toNat x_2.2.1) (0:Nat))) (Int.toNat x_1.1) (0:Int))) then bif (!(!decide (IntKind.wrap .i64 (List.getD (rowD
  x.1.2 (List.getD x.1.1 (Int.toNat x_2.2.1) (0:Nat))) (Int.toNat (IntKind.wrap .i64 ((↑(List.length (rowD x.1.2 (List.getD x.1.1 (0:Nat) (0:Nat)))) :
  Int) - (1:Int)))) (0:Int)*List.getD (rowD x.1.2 (List.getD x.1.1 (Int.toNat x_2.1) (0:Nat))) (Int.toNat x_1.1) (0:Int))<IntKind.wrap .i64 (List.getD (rowD
  x.1.2 (List.getD x.1.1 (Int.toNat x_2.1) (0:Nat))) (Int.toNat (IntKind.wrap .i64 ((↑(List.length (rowD x.1.2 (List.getD x.1.1 (0:Nat) (0:Nat)))):Int) -
  (1:Int)))) (0:Int)*List.getD (rowD x.1.2 (List.getD x.1.1 (Int.toNat x_2.2.1) (0:Nat))) (Int.toNat x_1.1) (0:Int)))&&decide (IntKind.wrap .i64
  (List.getD (rowD x.1.2 (List.getD x.1.1 (Int.toNat x_2.2.1) (0:Nat))) (Int.toNat (IntKind.wrap .i64 ((↑(List.length (rowD x.1.2 (List.getD x.1.1 (0:Nat)
  (0:Nat)))):Int) - (1:Int)))) (0:Int)*List.getD (rowD x.1.2 (List.getD x.1.1 (Int.toNat x_2.1) (0:Nat))) (Int.toNat x_1.1) (0:Int))=IntKind.wrap .i64
  (List.getD (rowD x.1.2 (List.getD x.1.1 (Int.toNat x_2.1) (0:Nat))) (Int.toNat (IntKind.wrap .i64 ((↑(List.length (rowD x.1.2 (List.getD x.1.1 (0:Nat) (0 :
  Nat)))):Int) - (1:Int)))) (0:Int)*List.getD (rowD x.1.2 (List.getD x.1.1 (Int.toNat x_2.2.1) (0:Nat))) (Int.toNat x_1.1) (0:Int))))||!decide (IntKind.wrap
  IntKind.i64 (List.getD (rowD x.1.2 (List.getD x.1.1 (Int.toNat x_2.2.1) (0:Nat))) (Int.toNat (IntKind.wrap .i64 ((↑(List.length (rowD x.1.2 (List.getD x.1.1
  (0:Nat) (0:Nat)))):Int) - (1:Int)))) (0:Int)*List.getD (rowD x.1.2 (List.getD x.1.1 (Int.toNat x_2.1) (0:Nat))) (Int.toNat x_1.1) (0:Int))<IntKind.wrap
  IntKind.i64 (List.getD (rowD x.1.2 (List.getD x.1.1 (Int.toNat x_2.1) (0:Nat))) (Int.toNat (IntKind.wrap .i64 ((↑(List.length (rowD x.1.2 (List.getD x.1.1 (0
  : Nat) (0:Nat)))):Int) - (1:Int)))) (0:Int)*List.getD (rowD x.1.2 (List.getD x.1.1 (Int.toNat x_2.2.1) (0:Nat))) (Int.toNat x_1.1) (0:Int)))&&decide
  (IntKind.wrap .i64 (List.getD (rowD x.1.2 (List.getD x.1.1 (Int.toNat x_2.2.1) (0:Nat))) (Int.toNat (IntKind.wrap .i64 ((↑(List.length (rowD x.1.2
  (List.getD x.1.1 (0:Nat) (0:Nat)))):Int) - (1:Int)))) (0:Int)*List.getD (rowD x.1.2 (List.getD x.1.1 (Int.toNat x_2.1) (0:Nat))) (Int.toNat x_1.1) (0 :
  Int))=IntKind.wrap .i64 (List.getD (rowD x.1.2 (List.getD x.1.1 (Int.toNat x_2.1) (0:Nat))) (Int.toNat (IntKind.wrap .i64 ((↑(List.length (rowD x.1.2
  (List.getD x.1.1 (0:Nat) (0:Nat)))):Int) - (1:Int)))) (0:Int)*List.getD (rowD x.1.2 (List.getD x.1.1 (Int.toNat x_2.2.1) (0:Nat))) (Int.toNat x_1.1) (0 :
  Int))))&&((!(!decide (IntKind.wrap .i64 (List.getD (rowD x.1.2 (List.getD x.1.1 (Int.toNat x_2.2.1) (0:Nat))) (Int.toNat (IntKind.wrap .i64 ((↑(List.length
  (rowD x.1.2 (List.getD x.1.1 (0:Nat) (0:Nat)))):Int) - (1:Int)))) (0:Int)*List.getD (rowD x.1.2 (List.getD x.1.1 (Int.toNat x_2.1) (0:Nat))) (Int.toNat
  x_1.1) (0:Int))<IntKind.wrap .i64 (List.getD (rowD x.1.2 (List.getD x.1.1 (Int.toNat x_2.1) (0:Nat))) (Int.toNat (IntKind.wrap .i64 ((↑(List.length (rowD
  x.1.2 (List.getD x.1.1 (0:Nat) (0:Nat)))):Int) - (1:Int)))) (0:Int)*List.getD (rowD x.1.2 (List.getD x.1.1 (Int.toNat x_2.2.1) (0:Nat))) (Int.toNat
  x_1.1) (0:Int)))&&decide (IntKind.wrap .i64 (List.getD (rowD x.1.2 (List.getD x.1.1 (Int.toNat x_2.2.1) (0:Nat))) (Int.toNat (IntKind.wrap .i64
  ((↑(List.length (rowD x.1.2 (List.getD x.1.1 (0:Nat) (0:Nat)))):Int) - (1:Int)))) (0:Int)*List.getD (rowD x.1.2 (List.getD x.1.1 (Int.toNat x_2.1) (0 :
  Nat))) (Int.toNat x_1.1) (0:Int))=IntKind.wrap .i64 (List.getD (rowD x.1.2 (List.getD x.1.1 (Int.toNat x_2.1) (0:Nat))) (Int.toNat (IntKind.wrap .i64
  ((↑(List.length (rowD x.1.2 (List.getD x.1.1 (0:Nat) (0:Nat)))):Int) - (1:Int)))) (0:Int)*List.getD (rowD x.1.2 (List.getD x.1.1 (Int.toNat x_2.2.1) (0 :
  Nat))) (Int.toNat x_1.1) (0:Int))))||!decide (IntKind.wrap .i64 (List.getD (rowD x.1.2 (List.getD x.1.1 (Int.toNat x_2.2.1) (0:Nat))) (Int.toNat (IntKind.wrap
  IntKind.i64 ((↑(List.length (rowD x.1.2 (List.getD x.1.1 (0:Nat) (0:Nat)))):Int) - (1:Int)))) (0:Int)*List.getD (rowD x.1.2 (List.getD x.1.1 (Int.toNat
  x_2.1) (0:Nat))) (Int.toNat x_1.1) (0:Int))<IntKind.wrap .i64 (List.getD (rowD x.1.2 (List.getD x.1.1 (Int.toNat x_2.1) (0:Nat))) (Int.toNat (IntKind.wrap
  IntKind.i64 ((↑(List.length (rowD x.1.2 (List.getD x.1.1 (0:Nat) (0:Nat)))):Int) - (1:Int)))) (0:Int)*List.getD (rowD x.1.2 (List.getD x.1.1 (Int.toNat
  x_2.2.1) (0:Nat))) (Int.toNat x_1.1) (0:Int)))&&decide (IntKind.wrap .i64 (List.getD (rowD x.1.2 (List.getD x.1.1 (Int.toNat x_2.2.1) (0:Nat)))
  (Int.toNat (IntKind.wrap .i64 ((↑(List.length (rowD x.1.2 (List.getD x.1.1 (0:Nat) (0:Nat)))):Int) - (1:Int)))) (0:Int)*List.getD (rowD x.1.2 (List.getD
  x.1.1 (Int.toNat x_2.1) (0:Nat))) (Int.toNat x_1.1) (0:Int))=IntKind.wrap .i64 (List.getD (rowD x.1.2 (List.getD x.1.1 (Int.toNat x_2.1) (0:Nat)))
  (Int.toNat (IntKind.wrap .i64 ((↑(List.length (rowD x.1.2 (List.getD x.1.1 (0:Nat) (0:Nat)))):Int) - (1:Int)))) (0:Int)*List.getD (rowD x.1.2 (List.getD
  x.1.1 (Int.toNat x_2.2.1) (0:Nat))) (Int.toNat x_1.1) (0:Int))))&&(!(!decide (IntKind.wrap .i64 (List.getD (rowD x.1.2 (List.getD x.1.1 (Int.toNat
  x_2.2.1) (0:Nat))) (Int.toNat (IntKind.wrap .i64 ((↑(List.length (rowD x.1.2 (List.getD x.1.1 (0:Nat) (0:Nat)))):Int) - (1:Int)))) (0:Int)*List.getD
  (rowD x.1.2 (List.getD x.1.1 (Int.toNat x_2.1) (0:Nat))) (Int.toNat x_1.1) (0:Int))<IntKind.wrap .i64 (List.getD (rowD x.1.2 (List.getD x.1.1 (Int.toNat
  x_2.1) (0:Nat))) (Int.toNat (IntKind.wrap .i64 ((↑(List.length (rowD x.1.2 (List.getD x.1.1 (0:Nat) (0:Nat)))):Int) - (1:Int)))) (0:Int)*List.getD (rowD
  x.1.2 (List.getD x.1.1 (Int.toNat x_2.2.1) (0:Nat))) (Int.toNat x_1.1) (0:Int)))&&decide (IntKind.wrap .i64 (List.getD (rowD x.1.2 (List.getD x.1.1
  (Int.toNat x_2.2.1) (0:Nat))) (Int.toNat (IntKind.wrap .i64 ((↑(List.length (rowD x.1.2 (List.getD x.1.1 (0:Nat) (0:Nat)))):Int) - (1:Int)))) (0:Int) *
  List.getD (rowD x.1.2 (List.getD x.1.1 (Int.toNat x_2.1) (0:Nat))) (Int.toNat x_1.1) (0:Int))=IntKind.wrap .i64 (List.getD (rowD x.1.2 (List.getD x.1.1
  (Int.toNat x_2.1) (0:Nat))) (Int.toNat (IntKind.wrap .i64 ((↑(List.length (rowD x.1.2 (List.getD x.1.1 (0:Nat) (0:Nat)))):Int) - (1:Int)))) (0:Int) *
  List.getD (rowD x.1.2 (List.getD x.1.1 (Int.toNat x_2.2.1) (0:Nat))) (Int.toNat x_1.1) (0:Int))))||inB x_2.2.1 (List.length x.2.1))) then bif (!(!decide
  (IntKind.wrap .i64 (List.getD (rowD x.1.2 (List.getD x.1.1 (Int.toNat x_2.2.1) (0:Nat))) (Int.toNat (IntKind.wrap .i64 ((↑(List.length (rowD x.1.2
  (List.getD x.1.1 (0:Nat) (0:Nat)))):Int) - (1:Int)))) (0:Int)*List.getD (rowD x.1.2 (List.getD x.1.1 (Int.toNat x_2.1) (0:Nat))) (Int.toNat x_1.1) (0 :
  Int))<IntKind.wrap .i64 (List.getD (rowD x.1.2 (List.getD x.1.1 (Int.toNat x_2.1) (0:Nat))) (Int.toNat (IntKind.wrap .i64 ((↑(List.length (rowD x.1.2
  (List.getD x.1.1 (0:Nat) (0:Nat)))):Int) - (1:Int)))) (0:Int)*List.getD (rowD x.1.2 (List.getD x.1.1 (Int.toNat x_2.2.1) (0:Nat))) (Int.toNat x_1.1) (0 :
  Int)))&&decide (IntKind.wrap .i64 (List.getD (rowD x.1.2 (List.getD x.1.1 (Int.toNat x_2.2.1) (0:Nat))) (Int.toNat (IntKind.wrap .i64 ((↑(List.length (rowD
  x.1.2 (List.getD x.1.1 (0:Nat) (0:Nat)))):Int) - (1:Int)))) (0:Int)*List.getD (rowD x.1.2 (List.getD x.1.1 (Int.toNat x_2.1) (0:Nat))) (Int.toNat
  x_1.1) (0:Int))=IntKind.wrap .i64 (List.getD (rowD x.1.2 (List.getD x.1.1 (Int.toNat x_2.1) (0:Nat))) (Int.toNat (IntKind.wrap .i64 ((↑(List.length (rowD
  x.1.2 (List.getD x.1.1 (0:Nat) (0:Nat)))):Int) - (1:Int)))) (0:Int)*List.getD (rowD x.1.2 (List.getD x.1.1 (Int.toNat x_2.2.1) (0:Nat))) (Int.toNat
  x_1.1) (0:Int))))||!decide (IntKind.wrap .i64 (List.getD (rowD x.1.2 (List.getD x.1.1 (Int.toNat x_2.2.1) (0:Nat))) (Int.toNat (IntKind.wrap .i64
  ((↑(List.length (rowD x.1.2 (List.getD x.1.1 (0:Nat) (0:Nat)))):Int) - (1:Int)))) (0:Int)*List.getD (rowD x.1.2 (List.getD x.1.1 (Int.toNat x_2.1) (0 :
  Nat))) (Int.toNat x_1.1) (0:Int))<IntKind.wrap .i64 (List.getD (rowD x.1.2 (List.getD x.1.1 (Int.toNat x_2.1) (0:Nat))) (Int.toNat (IntKind.wrap .i64
  ((↑(List.length (rowD x.1.2 (List.getD x.1.1 (0:Nat) (0:Nat)))):Int) - (1:Int)))) (0:Int)*List.getD (rowD x.1.2 (List.getD x.1.1 (Int.toNat x_2.2.1) (0 :
  Nat))) (Int.toNat x_1.1) (0:Int)))&&decide (IntKind.wrap .i64 (List.getD (rowD x.1.2 (List.getD x.1.1 (Int.toNat x_2.2.1) (0:Nat))) (Int.toNat (IntKind.wrap
  IntKind.i64 ((↑(List.length (rowD x.1.2 (List.getD x.1.1 (0:Nat) (0:Nat)))):Int) - (1:Int)))) (0:Int)*List.getD (rowD x.1.2 (List.getD x.1.1 (Int.toNat
  x_2.1) (0:Nat))) (Int.toNat x_1.1) (0:Int))=IntKind.wrap .i64 (List.getD (rowD x.1.2 (List.getD x.1.1 (Int.toNat x_2.1) (0:Nat))) (Int.toNat (IntKind.wrap
  IntKind.i64 ((↑(List.length (rowD x.1.2 (List.getD x.1.1 (0:Nat) (0:Nat)))):Int) - (1:Int)))) (0:Int)*List.getD (rowD x.1.2 (List.getD x.1.1 (Int.toNat
  x_2.2.1) (0:Nat))) (Int.toNat x_1.1) (0:Int))))&&(!(!decide (IntKind.wrap .i64 (List.getD (rowD x.1.2 (List.getD x.1.1 (Int.toNat x_2.2.1) (0:Nat)))
  (Int.toNat (IntKind.wrap .i64 ((↑(List.length (rowD x.1.2 (List.getD x.1.1 (0:Nat) (0:Nat)))):Int) - (1:Int)))) (0:Int)*List.getD (rowD x.1.2 (List.getD
  x.1.1 (Int.toNat x_2.1) (0:Nat))) (Int.toNat x_1.1) (0:Int))<IntKind.wrap .i64 (List.getD (rowD x.1.2 (List.getD x.1.1 (Int.toNat x_2.1) (0:Nat)))
  (Int.toNat (IntKind.wrap .i64 ((↑(List.length (rowD x.1.2 (List.getD x.1.1 (0:Nat) (0:Nat)))):Int) - (1:Int)))) (0:Int)*List.getD (rowD x.1.2 (List.getD
  x.1.1 (Int.toNat x_2.2.1) (0:Nat))) (Int.toNat x_1.1) (0:Int)))&&decide (IntKind.wrap .i64 (List.getD (rowD x.1.2 (List.getD x.1.1 (Int.toNat x_2.2.1)
  (0:Nat))) (Int.toNat (IntKind.wrap .i64 ((↑(List.length (rowD x.1.2 (List.getD x.1.1 (0:Nat) (0:Nat)))):Int) - (1:Int)))) (0:Int)*List.getD (rowD x.1.2
  (List.getD x.1.1 (Int.toNat x_2.1) (0:Nat))) (Int.toNat x_1.1) (0:Int))=IntKind.wrap .i64 (List.getD (rowD x.1.2 (List.getD x.1.1 (Int.toNat x_2.1) (0 :
  Nat))) (Int.toNat (IntKind.wrap .i64 ((↑(List.length (rowD x.1.2 (List.getD x.1.1 (0:Nat) (0:Nat)))):Int) - (1:Int)))) (0:Int)*List.getD (rowD x.1.2
  (List.getD x.1.1 (Int.toNat x_2.2.1) (0:Nat))) (Int.toNat x_1.1) (0:Int))))||Nat.ble (Nat.succ (Int.toNat x_2.2.1)) (List.length x.2.1)) then bif !(!decide
  (IntKind.wrap .i64 (List.getD (rowD x.1.2 (List.getD x.1.1 (Int.toNat x_2.2.1) (0:Nat))) (Int.toNat (IntKind.wrap .i64 ((↑(List.length (rowD x.1.2
  (List.getD x.1.1 (0:Nat) (0:Nat)))):Int) - (1:Int)))) (0:Int)*List.getD (rowD x.1.2 (List.getD x.1.1 (Int.toNat x_2.1) (0:Nat))) (Int.toNat x_1.1) (0 :
  Int))<IntKind.wrap .i64 (List.getD (rowD x.1.2 (List.getD x.1.1 (Int.toNat x_2.1) (0:Nat))) (Int.toNat (IntKind.wrap .i64 ((↑(List.length (rowD x.1.2
  (List.getD x.1.1 (0:Nat) (0:Nat)))):Int) - (1:Int)))) (0:Int)*List.getD (rowD x.1.2 (List.getD x.1.1 (Int.toNat x_2.2.1) (0:Nat))) (Int.toNat x_1.1) (0 :
  Int)))&&decide (IntKind.wrap .i64 (List.getD (rowD x.1.2 (List.getD x.1.1 (Int.toNat x_2.2.1) (0:Nat))) (Int.toNat (IntKind.wrap .i64 ((↑(List.length (rowD
  x.1.2 (List.getD x.1.1 (0:Nat) (0:Nat)))):Int) - (1:Int)))) (0:Int)*List.getD (rowD x.1.2 (List.getD x.1.1 (Int.toNat x_2.1) (0:Nat))) (Int.toNat
  x_1.1) (0:Int))=IntKind.wrap .i64 (List.getD (rowD x.1.2 (List.getD x.1.1 (Int.toNat x_2.1) (0:Nat))) (Int.toNat (IntKind.wrap .i64 ((↑(List.length (rowD
  x.1.2 (List.getD x.1.1 (0:Nat) (0:Nat)))):Int) - (1:Int)))) (0:Int)*List.getD (rowD x.1.2 (List.getD x.1.1 (Int.toNat x_2.2.1) (0:Nat))) (Int.toNat
  x_1.1) (0:Int))))||!decide (IntKind.wrap .i64 (List.getD (rowD x.1.2 (List.getD x.1.1 (Int.toNat x_2.2.1) (0:Nat))) (Int.toNat (IntKind.wrap .i64
  ((↑(List.length (rowD x.1.2 (List.getD x.1.1 (0:Nat) (0:Nat)))):Int) - (1:Int)))) (0:Int)*List.getD (rowD x.1.2 (List.getD x.1.1 (Int.toNat x_2.1) (0 :
  Nat))) (Int.toNat x_1.1) (0:Int))<IntKind.wrap .i64 (List.getD (rowD x.1.2 (List.getD x.1.1 (Int.toNat x_2.1) (0:Nat))) (Int.toNat (IntKind.wrap .i64
  ((↑(List.length (rowD x.1.2 (List.getD x.1.1 (0:Nat) (0:Nat)))):Int) - (1:Int)))) (0:Int)*List.getD (rowD x.1.2 (List.getD x.1.1 (Int.toNat x_2.2.1) (0 :
  Nat))) (Int.toNat x_1.1) (0:Int)))&&decide (IntKind.wrap .i64 (List.getD (rowD x.1.2 (List.getD x.1.1 (Int.toNat x_2.2.1) (0:Nat))) (Int.toNat (IntKind.wrap
  IntKind.i64 ((↑(List.length (rowD x.1.2 (List.getD x.1.1 (0:Nat) (0:Nat)))):Int) - (1:Int)))) (0:Int)*List.getD (rowD x.1.2 (List.getD x.1.1 (Int.toNat
  x_2.1) (0:Nat))) (Int.toNat x_1.1) (0:Int))=IntKind.wrap .i64 (List.getD (rowD x.1.2 (List.getD x.1.1 (Int.toNat x_2.1) (0:Nat))) (Int.toNat (IntKind.wrap
  IntKind.i64 ((↑(List.length (rowD x.1.2 (List.getD x.1.1 (0:Nat) (0:Nat)))):Int) - (1:Int)))) (0:Int)*List.getD (rowD x.1.2 (List.getD x.1.1 (Int.toNat
  x_2.2.1) (0:Nat))) (Int.toNat x_1.1) (0:Int))) then bif (!(!decide (IntKind.wrap .i64 (List.getD (rowD x.1.2 (List.getD x.1.1 (Int.toNat x_2.2.1) (0 :
  Nat))) (Int.toNat (IntKind.wrap .i64 ((↑(List.length (rowD x.1.2 (List.getD x.1.1 (0:Nat) (0:Nat)))):Int) - (1:Int)))) (0:Int)*List.getD (rowD x.1.2
  (List.getD x.1.1 (Int.toNat x_2.1) (0:Nat))) (Int.toNat x_1.1) (0:Int))<IntKind.wrap .i64 (List.getD (rowD x.1.2 (List.getD x.1.1 (Int.toNat x_2.1) (0 :
  Nat))) (Int.toNat (IntKind.wrap .i64 ((↑(List.length (rowD x.1.2 (List.getD x.1.1 (0:Nat) (0:Nat)))):Int) - (1:Int)))) (0:Int)*List.getD (rowD x.1.2
  (List.getD x.1.1 (Int.toNat x_2.2.1) (0:Nat))) (Int.toNat x_1.1) (0:Int)))&&decide (IntKind.wrap .i64 (List.getD (rowD x.1.2 (List.getD x.1.1 (Int.toNat
  x_2.2.1) (0:Nat))) (Int.toNat (IntKind.wrap .i64 ((↑(List.length (rowD x.1.2 (List.getD x.1.1 (0:Nat) (0:Nat)))):Int) - (1:Int)))) (0:Int)*List.getD
  (rowD x.1.2 (List.getD x.1.1 (Int.toNat x_2.1) (0:Nat))) (Int.toNat x_1.1) (0:Int))=IntKind.wrap .i64 (List.getD (rowD x.1.2 (List.getD x.1.1 (Int.toNat
  x_2.1) (0:Nat))) (Int.toNat (IntKind.wrap .i64 ((↑(List.length (rowD x.1.2 (List.getD x.1.1 (0:Nat) (0:Nat)))):Int) - (1:Int)))) (0:Int)*List.getD (rowD
  x.1.2 (List.getD x.1.1 (Int.toNat x_2.2.1) (0:Nat))) (Int.toNat x_1.1) (0:Int))))||!decide (IntKind.wrap .i64 (List.getD (rowD x.1.2 (List.getD x.1.1
  (Int.toNat x_2.2.1) (0:Nat))) (Int.toNat (IntKind.wrap .i64 ((↑(List.length (rowD x.1.2 (List.getD x.1.1 (0:Nat) (0:Nat)))):Int) - (1:Int)))) (0:Int) *
  List.getD (rowD x.1.2 (List.getD x.1.1 (Int.toNat x_2.1) (0:Nat))) (Int.toNat x_1.1) (0:Int))<IntKind.wrap .i64 (List.getD (rowD x.1.2 (List.getD x.1.1
  (Int.toNat x_2.1) (0:Nat))) (Int.toNat (IntKind.wrap .i64 ((↑(List.length (rowD x.1.2 (List.getD x.1.1 (0:Nat) (0:Nat)))):Int) - (1:Int)))) (0:Int) *
  List.getD (rowD x.1.2 (List.getD x.1.1 (Int.toNat x_2.2.1) (0:Nat))) (Int.toNat x_1.1) (0:Int)))&&decide (IntKind.wrap .i64 (List.getD (rowD x.1.2
  (List.getD x.1.1 (Int.toNat x_2.2.1) (0:Nat))) (Int.toNat (IntKind.wrap .i64 ((↑(List.length (rowD x.1.2 (List.getD x.1.1 (0:Nat) (0:Nat)))):Int) - (1 :
  Int)))) (0:Int)*List.getD (rowD x.1.2 (List.getD x.1.1 (Int.toNat x_2.1) (0:Nat))) (Int.toNat x_1.1) (0:Int))=IntKind.wrap .i64 (List.getD (rowD x.1.2
  (List.getD x.1.1 (Int.toNat x_2.1) (0:Nat))) (Int.toNat (IntKind.wrap .i64 ((↑(List.length (rowD x.1.2 (List.getD x.1.1 (0:Nat) (0:Nat)))):Int) - (1 :
  Int)))) (0:Int)*List.getD (rowD x.1.2 (List.getD x.1.1 (Int.toNat x_2.2.1) (0:Nat))) (Int.toNat x_1.1) (0:Int))))&&((!(!decide (IntKind.wrap .i64
  (List.getD (rowD x.1.2 (List.getD x.1.1 (Int.toNat x_2.2.1) (0:Nat))) (Int.toNat (IntKind.wrap .i64 ((↑(List.length (rowD x.1.2 (List.getD x.1.1 (0:Nat)
  (0:Nat)))):Int) - (1:Int)))) (0:Int)*List.getD (rowD x.1.2 (List.getD x.1.1 (Int.toNat x_2.1) (0:Nat))) (Int.toNat x_1.1) (0:Int))<IntKind.wrap .i64
  (List.getD (rowD x.1.2 (List.getD x.1.1 (Int.toNat x_2.1) (0:Nat))) (Int.toNat (IntKind.wrap .i64 ((↑(List.length (rowD x.1.2 (List.getD x.1.1 (0:Nat) (0 :
  Nat)))):Int) - (1:Int)))) (0:Int)*List.getD (rowD x.1.2 (List.getD x.1.1 (Int.toNat x_2.2.1) (0:Nat))) (Int.toNat x_1.1) (0:Int)))&&decide (IntKind.wrap
  IntKind.i64 (List.getD (rowD x.1.2 (List.getD x.1.1 (Int.toNat x_2.2.1) (0:Nat))) (Int.toNat (IntKind.wrap .i64 ((↑(List.length (rowD x.1.2 (List.getD x.1.1
  (0:Nat) (0:Nat)))):Int) - (1:Int)))) (0:Int)*List.getD (rowD x.1.2 (List.getD x.1.1 (Int.toNat x_2.1) (0:Nat))) (Int.toNat x_1.1) (0:Int))=IntKind.wrap
  IntKind.i64 (List.getD (rowD x.1.2 (List.getD x.1.1 (Int.toNat x_2.1) (0:Nat))) (Int.toNat (IntKind.wrap .i64 ((↑(List.length (rowD x.1.2 (List.getD x.1.1 (0
  : Nat) (0:Nat)))):Int) - (1:Int)))) (0:Int)*List.getD (rowD x.1.2 (List.getD x.1.1 (Int.toNat x_2.2.1) (0:Nat))) (Int.toNat x_1.1) (0:Int))))||!decide
  (IntKind.wrap .i64 (List.getD (rowD x.1.2 (List.getD x.1.1 (Int.toNat x_2.2.1) (0:Nat))) (Int.toNat (IntKind.wrap .i64 ((↑(List.length (rowD x.1.2
  (List.getD x.1.1 (0:Nat) (0:Nat)))):Int) - (1:Int)))) (0:Int)*List.getD (rowD x.1.2 (List.getD x.1.1 (Int.toNat x_2.1) (0:Nat))) (Int.toNat x_1.1) (0 :
  Int))<IntKind.wrap .i64 (List.getD (rowD x.1.2 (List.getD x.1.1 (Int.toNat x_2.1) (0:Nat))) (Int.toNat (IntKind.wrap .i64 ((↑(List.length (rowD x.1.2
  (List.getD x.1.1 (0:Nat) (0:Nat)))):Int) - (1:Int)))) (0:Int)*List.getD (rowD x.1.2 (List.getD x.1.1 (Int.toNat x_2.2.1) (0:Nat))) (Int.toNat x_1.1) (0 :
  Int)))&&decide (IntKind.wrap .i64 (List.getD (rowD x.1.2 (List.getD x.1.1 (Int.toNat x_2.2.1) (0:Nat))) (Int.toNat (IntKind.wrap .i64 ((↑(List.length (rowD
  x.1.2 (List.getD x.1.1 (0:Nat) (0:Nat)))):Int) - (1:Int)))) (0:Int)*List.getD (rowD x.1.2 (List.getD x.1.1 (Int.toNat x_2.1) (0:Nat))) (Int.toNat
  x_1.1) (0:Int))=IntKind.wrap .i64 (List.getD (rowD x.1.2 (List.getD x.1.1 (Int.toNat x_2.1) (0:Nat))) (Int.toNat (IntKind.wrap .i64 ((↑(List.length (rowD
  x.1.2 (List.getD x.1.1 (0:Nat) (0:Nat)))):Int) - (1:Int)))) (0:Int)*List.getD (rowD x.1.2 (List.getD x.1.1 (Int.toNat x_2.2.1) (0:Nat))) (Int.toNat
  x_1.1) (0:Int))))&&(!(!decide (IntKind.wrap .i64 (List.getD (rowD x.1.2 (List.getD x.1.1 (Int.toNat x_2.2.1) (0:Nat))) (Int.toNat (IntKind.wrap .i64
  ((↑(List.length (rowD x.1.2 (List.getD x.1.1 (0:Nat) (0:Nat)))):Int) - (1:Int)))) (0:Int)*List.getD (rowD x.1.2 (List.getD x.1.1 (Int.toNat x_2.1) (0 :
  Nat))) (Int.toNat x_1.1) (0:Int))<IntKind.wrap .i64 (List.getD (rowD x.1.2 (List.getD x.1.1 (Int.toNat x_2.1) (0:Nat))) (Int.toNat (IntKind.wrap .i64
  ((↑(List.length (rowD x.1.2 (List.getD x.1.1 (0:Nat) (0:Nat)))):Int) - (1:Int)))) (0:Int)*List.getD (rowD x.1.2 (List.getD x.1.1 (Int.toNat x_2.2.1) (0 :
  Nat))) (Int.toNat x_1.1) (0:Int)))&&decide (IntKind.wrap .i64 (List.getD (rowD x.1.2 (List.getD x.1.1 (Int.toNat x_2.2.1) (0:Nat))) (Int.toNat (IntKind.wrap
  IntKind.i64 ((↑(List.length (rowD x.1.2 (List.getD x.1.1 (0:Nat) (0:Nat)))):Int) - (1:Int)))) (0:Int)*List.getD (rowD x.1.2 (List.getD x.1.1 (Int.toNat
  x_2.1) (0:Nat))) (Int.toNat x_1.1) (0:Int))=IntKind.wrap .i64 (List.getD (rowD x.1.2 (List.getD x.1.1 (Int.toNat x_2.1) (0:Nat))) (Int.toNat (IntKind.wrap
  IntKind.i64 ((↑(List.length (rowD x.1.2 (List.getD x.1.1 (0:Nat) (0:Nat)))):Int) - (1:Int)))) (0:Int)*List.getD (rowD x.1.2 (List.getD x.1.1 (Int.toNat
  x_2.2.1) (0:Nat))) (Int.toNat x_1.1) (0:Int))))||inB x_2.1 (List.length x.2.1))) then bif (!(!decide (IntKind.wrap .i64 (List.getD (rowD x.1.2 (List.getD
  x.1.1 (Int.toNat x_2.2.1) (0:Nat))) (Int.toNat (IntKind.wrap .i64 ((↑(List.length (rowD x.1.2 (List.getD x.1.1 (0:Nat) (0:Nat)))):Int) - (1:Int)))) (0 :
  Int)*List.getD (rowD x.1.2 (List.getD x.1.1 (Int.toNat x_2.1) (0:Nat))) (Int.toNat x_1.1) (0:Int))<IntKind.wrap .i64 (List.getD (rowD x.1.2 (List.getD
  x.1.1 (Int.toNat x_2.1) (0:Nat))) (Int.toNat (IntKind.wrap .i64 ((↑(List.length (rowD x.1.2 (List.getD x.1.1 (0:Nat) (0:Nat)))):Int) - (1:Int)))) (0 :
  Int)*List.getD (rowD x.1.2 (List.getD x.1.1 (Int.toNat x_2.2.1) (0:Nat))) (Int.toNat x_1.1) (0:Int)))&&decide (IntKind.wrap .i64 (List.getD (rowD x.1.2
  (List.getD x.1.1 (Int.toNat x_2.2.1) (0:Nat))) (Int.toNat (IntKind.wrap .i64 ((↑(List.length (rowD x.1.2 (List.getD x.1.1 (0:Nat) (0:Nat)))):Int) - (1 :
  Int)))) (0:Int)*List.getD (rowD x.1.2 (List.getD x.1.1 (Int.toNat x_2.1) (0:Nat))) (Int.toNat x_1.1) (0:Int))=IntKind.wrap .i64 (List.getD (rowD x.1.2
  (List.getD x.1.1 (Int.toNat x_2.1) (0:Nat))) (Int.toNat (IntKind.wrap .i64 ((↑(List.length (rowD x.1.2 (List.getD x.1.1 (0:Nat) (0:Nat)))):Int) - (1 :
  Int)))) (0:Int)*List.getD (rowD x.1.2 (List.getD x.1.1 (Int.toNat x_2.2.1) (0:Nat))) (Int.toNat x_1.1) (0:Int))))||!decide (IntKind.wrap .i64 (List.getD
  (rowD x.1.2 (List.getD x.1.1 (Int.toNat x_2.2.1) (0:Nat))) (Int.toNat (IntKind.wrap .i64 ((↑(List.length (rowD x.1.2 (List.getD x.1.1 (0:Nat) (0:Nat))))
  : Int) - (1:Int)))) (0:Int)*List.getD (rowD x.1.2 (List.getD x.1.1 (Int.toNat x_2.1) (0:Nat))) (Int.toNat x_1.1) (0:Int))<IntKind.wrap .i64 (List.getD
  (rowD x.1.2 (List.getD x.1.1 (Int.toNat x_2.1) (0:Nat))) (Int.toNat (IntKind.wrap .i64 ((↑(List.length (rowD x.1.2 (List.getD x.1.1 (0:Nat) (0:Nat)))) :
  Int) - (1:Int)))) (0:Int)*List.getD (rowD x.1.2 (List.getD x.1.1 (Int.toNat x_2.2.1) (0:Nat))) (Int.toNat x_1.1) (0:Int)))&&decide (IntKind.wrap .i64
  (List.getD (rowD x.1.2 (List.getD x.1.1 (Int.toNat x_2.2.1) (0:Nat))) (Int.toNat (IntKind.wrap .i64 ((↑(List.length (rowD x.1.2 (List.getD x.1.1 (0:Nat)
  (0:Nat)))):Int) - (1:Int)))) (0:Int)*List.getD (rowD x.1.2 (List.getD x.1.1 (Int.toNat x_2.1) (0:Nat))) (Int.toNat x_1.1) (0:Int))=IntKind.wrap .i64
  (List.getD (rowD x.1.2 (List.getD x.1.1 (Int.toNat x_2.1) (0:Nat))) (Int.toNat (IntKind.wrap .i64 ((↑(List.length (rowD x.1.2 (List.getD x.1.1 (0:Nat) (0 :
  Nat)))):Int) - (1:Int)))) (0:Int)*List.getD (rowD x.1.2 (List.getD x.1.1 (Int.toNat x_2.2.1) (0:Nat))) (Int.toNat x_1.1) (0:Int))))&&(!(!decide (IntKind.wrap
  IntKind.i64 (List.getD (rowD x.1.2 (List.getD x.1.1 (Int.toNat x_2.2.1) (0:Nat))) (Int.toNat (IntKind.wrap .i64 ((↑(List.length (rowD x.1.2 (List.getD x.1.1
  (0:Nat) (0:Nat)))):Int) - (1:Int)))) (0:Int)*List.getD (rowD x.1.2 (List.getD x.1.1 (Int.toNat x_2.1) (0:Nat))) (Int.toNat x_1.1) (0:Int))<IntKind.wrap
  IntKind.i64 (List.getD (rowD x.1.2 (List.getD x.1.1 (Int.toNat x_2.1) (0:Nat))) (Int.toNat (IntKind.wrap .i64 ((↑(List.length (rowD x.1.2 (List.getD x.1.1 (0
  : Nat) (0:Nat)))):Int) - (1:Int)))) (0:Int)*List.getD (rowD x.1.2 (List.getD x.1.1 (Int.toNat x_2.2.1) (0:Nat))) (Int.toNat x_1.1) (0:Int)))&&decide
  (IntKind.wrap .i64 (List.getD (rowD x.1.2 (List.getD x.1.1 (Int.toNat x_2.2.1) (0:Nat))) (Int.toNat (IntKind.wrap .i64 ((↑(List.length (rowD x.1.2
  (List.getD x.1.1 (0:Nat) (0:Nat)))):Int) - (1:Int)))) (0:Int)*List.getD (rowD x.1.2 (List.getD x.1.1 (Int.toNat x_2.1) (0:Nat))) (Int.toNat x_1.1) (0 :
  Int))=IntKind.wrap .i64 (List.getD (rowD x.1.2 (List.getD x.1.1 (Int.toNat x_2.1) (0:Nat))) (Int.toNat (IntKind.wrap .i64 ((↑(List.length (rowD x.1.2
  (List.getD x.1.1 (0:Nat) (0:Nat)))):Int) - (1:Int)))) (0:Int)*List.getD (rowD x.1.2 (List.getD x.1.1 (Int.toNat x_2.2.1) (0:Nat))) (Int.toNat x_1.1) (0 :
  Int))))||Nat.ble (Nat.succ (Int.toNat x_2.1)) (List.length x.2.1)) then bif (!(!decide (IntKind.wrap .i64 (List.getD (rowD x.1.2 (List.getD x.1.1 (Int.toNat
  x_2.2.1) (0:Nat))) (Int.toNat (IntKind.wrap .i64 ((↑(List.length (rowD x.1.2 (List.getD x.1.1 (0:Nat) (0:Nat)))):Int) - (1:Int)))) (0:Int)*List.getD
  (rowD x.1.2 (List.getD x.1.1 (Int.toNat x_2.1) (0:Nat))) (Int.toNat x_1.1) (0:Int))<IntKind.wrap .i64 (List.getD (rowD x.1.2 (List.getD x.1.1 (Int.toNat
  x_2.1) (0:Nat))) (Int.toNat (IntKind.wrap .i64 ((↑(List.length (rowD x.1.2 (List.getD x.1.1 (0:Nat) (0:Nat)))):Int) - (1:Int)))) (0:Int)*List.getD (rowD
  x.1.2 (List.getD x.1.1 (Int.toNat x_2.2.1) (0:Nat))) (Int.toNat x_1.1) (0:Int)))&&decide (IntKind.wrap .i64 (List.getD (rowD x.1.2 (List.getD x.1.1
  (Int.toNat x_2.2.1) (0:Nat))) (Int.toNat (IntKind.wrap .i64 ((↑(List.length (rowD x.1.2 (List.getD x.1.1 (0:Nat) (0:Nat)))):Int) - (1:Int)))) (0:Int) *
  List.getD (rowD x.1.2 (List.getD x.1.1 (Int.toNat x_2.1) (0:Nat))) (Int.toNat x_1.1) (0:Int))=IntKind.wrap .i64 (List.getD (rowD x.1.2 (List.getD x.1.1
  (Int.toNat x_2.1) (0:Nat))) (Int.toNat (IntKind.wrap .i64 ((↑(List.length (rowD x.1.2 (List.getD x.1.1 (0:Nat) (0:Nat)))):Int) - (1:Int)))) (0:Int) *
  List.getD (rowD x.1.2 (List.getD x.1.1 (Int.toNat x_2.2.1) (0:Nat))) (Int.toNat x_1.1) (0:Int))))||!decide (IntKind.wrap .i64 (List.getD (rowD x.1.2
  (List.getD x.1.1 (Int.toNat x_2.2.1) (0:Nat))) (Int.toNat (IntKind.wrap .i64 ((↑(List.length (rowD x.1.2 (List.getD x.1.1 (0:Nat) (0:Nat)))):Int) - (1 :
  Int)))) (0:Int)*List.getD (rowD x.1.2 (List.getD x.1.1 (Int.toNat x_2.1) (0:Nat))) (Int.toNat x_1.1) (0:Int))<IntKind.wrap .i64 (List.getD (rowD x.1.2
  (List.getD x.1.1 (Int.toNat x_2.1) (0:Nat))) (Int.toNat (IntKind.wrap .i64 ((↑(List.length (rowD x.1.2 (List.getD x.1.1 (0:Nat) (0:Nat)))):Int) - (1 :
  Int)))) (0:Int)*List.getD (rowD x.1.2 (List.getD x.1.1 (Int.toNat x_2.2.1) (0:Nat))) (Int.toNat x_1.1) (0:Int)))&&decide (IntKind.wrap .i64 (List.getD
  (rowD x.1.2 (List.getD x.1.1 (Int.toNat x_2.2.1) (0:Nat))) (Int.toNat (IntKind.wrap .i64 ((↑(List.length (rowD x.1.2 (List.getD x.1.1 (0:Nat) (0:Nat))))
  : Int) - (1:Int)))) (0:Int)*List.getD (rowD x.1.2 (List.getD x.1.1 (Int.toNat x_2.1) (0:Nat))) (Int.toNat x_1.1) (0:Int))=IntKind.wrap .i64 (List.getD
  (rowD x.1.2 (List.getD x.1.1 (Int.toNat x_2.1) (0:Nat))) (Int.toNat (IntKind.wrap .i64 ((↑(List.length (rowD x.1.2 (List.getD x.1.1 (0:Nat) (0:Nat)))) :
  Int) - (1:Int)))) (0:Int)*List.getD (rowD x.1.2 (List.getD x.1.1 (Int.toNat x_2.2.1) (0:Nat))) (Int.toNat x_1.1) (0:Int))))&&(!(!decide (IntKind.wrap
  IntKind.i64 (List.getD (rowD x.1.2 (List.getD x.1.1 (Int.toNat x_2.2.1) (0:Nat))) (Int.toNat (IntKind.wrap .i64 ((↑(List.length (rowD x.1.2 (List.getD x.1.1
  (0:Nat) (0:Nat)))):Int) - (1:Int)))) (0:Int)*List.getD (rowD x.1.2 (List.getD x.1.1 (Int.toNat x_2.1) (0:Nat))) (Int.toNat x_1.1) (0:Int))<IntKind.wrap
  IntKind.i64 (List.getD (rowD x.1.2 (List.getD x.1.1 (Int.toNat x_2.1) (0:Nat))) (Int.toNat (IntKind.wrap .i64 ((↑(List.length (rowD x.1.2 (List.getD x.1.1 (0
  : Nat) (0:Nat)))):Int) - (1:Int)))) (0:Int)*List.getD (rowD x.1.2 (List.getD x.1.1 (Int.toNat x_2.2.1) (0:Nat))) (Int.toNat x_1.1) (0:Int)))&&decide
  (IntKind.wrap .i64 (List.getD (rowD x.1.2 (List.getD x.1.1 (Int.toNat x_2.2.1) (0:Nat))) (Int.toNat (IntKind.wrap .i64 ((↑(List.length (rowD x.1.2
  (List.getD x.1.1 (0:Nat) (0:Nat)))):Int) - (1:Int)))) (0:Int)*List.getD (rowD x.1.2 (List.getD x.1.1 (Int.toNat x_2.1) (0:Nat))) (Int.toNat x_1.1) (0 :
  Int))=IntKind.wrap .i64 (List.getD (rowD x.1.2 (List.getD x.1.1 (Int.toNat x_2.1) (0:Nat))) (Int.toNat (IntKind.wrap .i64 ((↑(List.length (rowD x.1.2
  (List.getD x.1.1 (0:Nat) (0:Nat)))):Int) - (1:Int)))) (0:Int)*List.getD (rowD x.1.2 (List.getD x.1.1 (Int.toNat x_2.2.1) (0:Nat))) (Int.toNat x_1.1) (0 :
  Int))))||!decide (IntKind.wrap .i64 (List.getD (rowD x.1.2 (List.getD x.1.1 (Int.toNat x_2.2.1) (0:Nat))) (Int.toNat (IntKind.wrap .i64 ((↑(List.length
  (rowD x.1.2 (List.getD x.1.1 (0:Nat) (0:Nat)))):Int) - (1:Int)))) (0:Int)*List.getD (rowD x.1.2 (List.getD x.1.1 (Int.toNat x_2.1) (0:Nat))) (Int.toNat
  x_1.1) (0:Int))<IntKind.wrap .i64 (List.getD (rowD x.1.2 (List.getD x.1.1 (Int.toNat x_2.1) (0:Nat))) (Int.toNat (IntKind.wrap .i64 ((↑(List.length (rowD
  x.1.2 (List.getD x.1.1 (0:Nat) (0:Nat)))):Int) - (1:Int)))) (0:Int)*List.getD (rowD x.1.2 (List.getD x.1.1 (Int.toNat x_2.2.1) (0:Nat))) (Int.toNat
  x_1.1) (0:Int)))&&decide (IntKind.wrap .i64 (List.getD (rowD x.1.2 (List.getD x.1.1 (Int.toNat x_2.2.1) (0:Nat))) (Int.toNat (IntKind.wrap .i64
  ((↑(List.length (rowD x.1.2 (List.getD x.1.1 (0:Nat) (0:Nat)))):Int) - (1:Int)))) (0:Int)*List.getD (rowD x.1.2 (List.getD x.1.1 (Int.toNat x_2.1) (0 :
  Nat))) (Int.toNat x_1.1) (0:Int))=IntKind.wrap .i64 (List.getD (rowD x.1.2 (List.getD x.1.1 (Int.toNat x_2.1) (0:Nat))) (Int.toNat (IntKind.wrap .i64
  ((↑(List.length (rowD x.1.2 (List.getD x.1.1 (0:Nat) (0:Nat)))):Int) - (1:Int)))) (0:Int)*List.getD (rowD x.1.2 (List.getD x.1.1 (Int.toNat x_2.2.1) (0 :
  Nat))) (Int.toNat x_1.1) (0:Int)))) then bif (!!decide (IntKind.wrap .i64 (List.getD (rowD x.1.2 (List.getD x.1.1 (Int.toNat x_2.2.1) (0:Nat))) (Int.toNat
  (IntKind.wrap .i64 ((↑(List.length (rowD x.1.2 (List.getD x.1.1 (0:Nat) (0:Nat)))):Int) - (1:Int)))) (0:Int)*List.getD (rowD x.1.2 (List.getD x.1.1
  (Int.toNat x_2.1) (0:Nat))) (Int.toNat x_1.1) (0:Int))<IntKind.wrap .i64 (List.getD (rowD x.1.2 (List.getD x.1.1 (Int.toNat x_2.1) (0:Nat))) (Int.toNat
  (IntKind.wrap .i64 ((↑(List.length (rowD x.1.2 (List.getD x.1.1 (0:Nat) (0:Nat)))):Int) - (1:Int)))) (0:Int)*List.getD (rowD x.1.2 (List.getD x.1.1
  (Int.toNat x_2.2.1) (0:Nat))) (Int.toNat x_1.1) (0:Int)))||(!!decide (IntKind.wrap .i64 (List.getD (rowD x.1.2 (List.getD x.1.1 (Int.toNat x_2.2.1) (0 :
  Nat))) (Int.toNat (IntKind.wrap .i64 ((↑(List.length (rowD x.1.2 (List.getD x.1.1 (0:Nat) (0:Nat)))):Int) - (1:Int)))) (0:Int)*List.getD (rowD x.1.2
  (List.getD x.1.1 (Int.toNat x_2.1) (0:Nat))) (Int.toNat x_1.1) (0:Int))<IntKind.wrap .i64 (List.getD (rowD x.1.2 (List.getD x.1.1 (Int.toNat x_2.1) (0 :
  Nat))) (Int.toNat (IntKind.wrap .i64 ((↑(List.length (rowD x.1.2 (List.getD x.1.1 (0:Nat) (0:Nat)))):Int) - (1:Int)))) (0:Int)*List.getD (rowD x.1.2
  (List.getD x.1.1 (Int.toNat x_2.2.1) (0:Nat))) (Int.toNat x_1.1) (0:Int)))||!decide (IntKind.wrap .i64 (List.getD (rowD x.1.2 (List.getD x.1.1 (Int.toNat
  x_2.2.1) (0:Nat))) (Int.toNat (IntKind.wrap .i64 ((↑(List.length (rowD x.1.2 (List.getD x.1.1 (0:Nat) (0:Nat)))):Int) - (1:Int)))) (0:Int)*List.getD
  (rowD x.1.2 (List.getD x.1.1 (Int.toNat x_2.1) (0:Nat))) (Int.toNat x_1.1) (0:Int))<IntKind.wrap .i64 (List.getD (rowD x.1.2 (List.getD x.1.1 (Int.toNat
  x_2.1) (0:Nat))) (Int.toNat (IntKind.wrap .i64 ((↑(List.length (rowD x.1.2 (List.getD x.1.1 (0:Nat) (0:Nat)))):Int) - (1:Int)))) (0:Int)*List.getD (rowD
  x.1.2 (List.getD x.1.1 (Int.toNat x_2.2.1) (0:Nat))) (Int.toNat x_1.1) (0:Int)))))&&(!!decide (IntKind.wrap .i64 (List.getD (rowD x.1.2 (List.getD
  x.1.1 (Int.toNat x_2.2.1) (0:Nat))) (Int.toNat (IntKind.wrap .i64 ((↑(List.length (rowD x.1.2 (List.getD x.1.1 (0:Nat) (0:Nat)))):Int) - (1:Int)))) (0 :
  Int)*List.getD (rowD x.1.2 (List.getD x.1.1 (Int.toNat x_2.1) (0:Nat))) (Int.toNat x_1.1) (0:Int))<IntKind.wrap .i64 (List.getD (rowD x.1.2 (List.getD
  x.1.1 (Int.toNat x_2.1) (0:Nat))) (Int.toNat (IntKind.wrap .i64 ((↑(List.length (rowD x.1.2 (List.getD x.1.1 (0:Nat) (0:Nat)))):Int) - (1:Int)))) (0 :
  Int)*List.getD (rowD x.1.2 (List.getD x.1.1 (Int.toNat x_2.2.1) (0:Nat))) (Int.toNat x_1.1) (0:Int)))||(!decide (IntKind.wrap .i64 (List.getD (rowD
  x.1.2 (List.getD x.1.1 (Int.toNat x_2.2.1) (0:Nat))) (Int.toNat (IntKind.wrap .i64 ((↑(List.length (rowD x.1.2 (List.getD x.1.1 (0:Nat) (0:Nat)))) :
  Int) - (1:Int)))) (0:Int)*List.getD (rowD x.1.2 (List.getD x.1.1 (Int.toNat x_2.1) (0:Nat))) (Int.toNat x_1.1) (0:Int))=IntKind.wrap .i64 (List.getD (rowD
  x.1.2 (List.getD x.1.1 (Int.toNat x_2.1) (0:Nat))) (Int.toNat (IntKind.wrap .i64 ((↑(List.length (rowD x.1.2 (List.getD x.1.1 (0:Nat) (0:Nat)))):Int) -
  (1:Int)))) (0:Int)*List.getD (rowD x.1.2 (List.getD x.1.1 (Int.toNat x_2.2.1) (0:Nat))) (Int.toNat x_1.1) (0:Int)))||(!!decide (IntKind.wrap .i64
  (List.getD (rowD x.1.2 (List.getD x.1.1 (Int.toNat x_2.2.1) (0:Nat))) (Int.toNat (IntKind.wrap .i64 ((↑(List.length (rowD x.1.2 (List.getD x.1.1 (0:Nat)
  (0:Nat)))):Int) - (1:Int)))) (0:Int)*List.getD (rowD x.1.2 (List.getD x.1.1 (Int.toNat x_2.1) (0:Nat))) (Int.toNat x_1.1) (0:Int))<IntKind.wrap .i64
  (List.getD (rowD x.1.2 (List.getD x.1.1 (Int.toNat x_2.1) (0:Nat))) (Int.toNat (IntKind.wrap .i64 ((↑(List.length (rowD x.1.2 (List.getD x.1.1 (0:Nat) (0 :
  Nat)))):Int) - (1:Int)))) (0:Int)*List.getD (rowD x.1.2 (List.getD x.1.1 (Int.toNat x_2.2.1) (0:Nat))) (Int.toNat x_1.1) (0:Int)))||!decide (IntKind.wrap
  IntKind.i64 (List.getD (rowD x.1.2 (List.getD x.1.1 (Int.toNat x_2.2.1) (0:Nat))) (Int.toNat (IntKind.wrap .i64 ((↑(List.length (rowD x.1.2 (List.getD x.1.1
  (0:Nat) (0:Nat)))):Int) - (1:Int)))) (0:Int)*List.getD (rowD x.1.2 (List.getD x.1.1 (Int.toNat x_2.1) (0:Nat))) (Int.toNat x_1.1) (0:Int))<IntKind.wrap
  IntKind.i64 (List.getD (rowD x.1.2 (List.getD x.1.1 (Int.toNat x_2.1) (0:Nat))) (Int.toNat (IntKind.wrap .i64 ((↑(List.length (rowD x.1.2 (List.getD x.1.1 (0
  : Nat) (0:Nat)))):Int) - (1:Int)))) (0:Int)*List.getD (rowD x.1.2 (List.getD x.1.1 (Int.toNat x_2.2.1) (0:Nat))) (Int.toNat x_1.1) (0:Int)))&&decide
  (IntKind.wrap .i64 (List.getD (rowD x.1.2 (List.getD x.1.1 (Int.toNat x_2.2.1) (0:Nat))) (Int.toNat (IntKind.wrap .i64 ((↑(List.length (rowD x.1.2
  (List.getD x.1.1 (0:Nat) (0:Nat)))):Int) - (1:Int)))) (0:Int)*List.getD (rowD x.1.2 (List.getD x.1.1 (Int.toNat x_2.1) (0:Nat))) (Int.toNat x_1.1) (0 :
  Int))=IntKind.wrap .i64 (List.getD (rowD x.1.2 (List.getD x.1.1 (Int.toNat x_2.1) (0:Nat))) (Int.toNat (IntKind.wrap .i64 ((↑(List.length (rowD x.1.2
  (List.getD x.1.1 (0:Nat) (0:Nat)))):Int) - (1:Int)))) (0:Int)*List.getD (rowD x.1.2 (List.getD x.1.1 (Int.toNat x_2.2.1) (0:Nat))) (Int.toNat x_1.1) (0 :
  Int)))))) then bif decide (IntKind.wrap .i64 (List.getD (rowD x.1.2 (List.getD x.1.1 (Int.toNat x_2.2.1) (0:Nat))) (Int.toNat (IntKind.wrap .i64
  ((↑(List.length (rowD x.1.2 (List.getD x.1.1 (0:Nat) (0:Nat)))):Int) - (1:Int)))) (0:Int)*List.getD (rowD x.1.2 (List.getD x.1.1 (Int.toNat x_2.1) (0 :
  Nat))) (Int.toNat x_1.1) (0:Int))<IntKind.wrap .i64 (List.getD (rowD x.1.2 (List.getD x.1.1 (Int.toNat x_2.1) (0:Nat))) (Int.toNat (IntKind.wrap .i64
  ((↑(List.length (rowD x.1.2 (List.getD x.1.1 (0:Nat) (0:Nat)))):Int) - (1:Int)))) (0:Int)*List.getD (rowD x.1.2 (List.getD x.1.1 (Int.toNat x_2.2.1) (0 :
  Nat))) (Int.toNat x_1.1) (0:Int)))||!decide (IntKind.wrap .i64 (List.getD (rowD x.1.2 (List.getD x.1.1 (Int.toNat x_2.2.1) (0:Nat))) (Int.toNat (IntKind.wrap
  IntKind.i64 ((↑(List.length (rowD x.1.2 (List.getD x.1.1 (0:Nat) (0:Nat)))):Int) - (1:Int)))) (0:Int)*List.getD (rowD x.1.2 (List.getD x.1.1 (Int.toNat
  x_2.1) (0:Nat))) (Int.toNat x_1.1) (0:Int))<IntKind.wrap .i64 (List.getD (rowD x.1.2 (List.getD x.1.1 (Int.toNat x_2.1) (0:Nat))) (Int.toNat (IntKind.wrap
  IntKind.i64 ((↑(List.length (rowD x.1.2 (List.getD x.1.1 (0:Nat) (0:Nat)))):Int) - (1:Int)))) (0:Int)*List.getD (rowD x.1.2 (List.getD x.1.1 (Int.toNat
  x_2.2.1) (0:Nat))) (Int.toNat x_1.1) (0:Int))) then bif bif decide (IntKind.wrap .i64 (List.getD (rowD x.1.2 (List.getD x.1.1 (Int.toNat x_2.2.1) (0 :
  Nat))) (Int.toNat (IntKind.wrap .i64 ((↑(List.length (rowD x.1.2 (List.getD x.1.1 (0:Nat) (0:Nat)))):Int) - (1:Int)))) (0:Int)*List.getD (rowD x.1.2
  (List.getD x.1.1 (Int.toNat x_2.1) (0:Nat))) (Int.toNat x_1.1) (0:Int))<IntKind.wrap .i64 (List.getD (rowD x.1.2 (List.getD x.1.1 (Int.toNat x_2.1) (0 :
  Nat))) (Int.toNat (IntKind.wrap .i64 ((↑(List.length (rowD x.1.2 (List.getD x.1.1 (0:Nat) (0:Nat)))):Int) - (1:Int)))) (0:Int)*List.getD (rowD x.1.2
  (List.getD x.1.1 (Int.toNat x_2.2.1) (0:Nat))) (Int.toNat x_1.1) (0:Int))) then true else bif decide (IntKind.wrap .i64 (List.getD (rowD x.1.2 (List.getD
  x.1.1 (Int.toNat x_2.2.1) (0:Nat))) (Int.toNat (IntKind.wrap .i64 ((↑(List.length (rowD x.1.2 (List.getD x.1.1 (0:Nat) (0:Nat)))):Int) - (1:Int)))) (0 :
  Int)*List.getD (rowD x.1.2 (List.getD x.1.1 (Int.toNat x_2.1) (0:Nat))) (Int.toNat x_1.1) (0:Int))=IntKind.wrap .i64 (List.getD (rowD x.1.2 (List.getD
  x.1.1 (Int.toNat x_2.1) (0:Nat))) (Int.toNat (IntKind.wrap .i64 ((↑(List.length (rowD x.1.2 (List.getD x.1.1 (0:Nat) (0:Nat)))):Int) - (1:Int)))) (0 :
  Int)*List.getD (rowD x.1.2 (List.getD x.1.1 (Int.toNat x_2.2.1) (0:Nat))) (Int.toNat x_1.1) (0:Int))) then decide (List.getD x.2.1 (Int.toNat x_2.2.1) (0 :
  Int)<List.getD x.2.1 (Int.toNat x_2.1) (0:Int)) else false then again_2 (x_2.2.1,v16) else again_2 (x_2.1,v16) else none else none else none else none else none else
  none else none else none else none else none else none else none else none else none else none else none else none else none else none else none else none else none else none else none
  else none else none else none else none else none else none else none else bif v17 then some (x.1,x.2.1,x.2.2.1,x.2.2.2.1,false,PUnit.unit) else obind
  (ref05_pivot x.1 x.2.1 x.2.2.1 x.2.2.2.1 x_2.1 x_1.1) fun (y:(List Nat×List (Option (List Int)))×List Int×Int×Int×PUnit)=>again (y.1,y.2.1,
  y.2.2.1,y.2.2.2.1,x.2.2.2.2.1,x.2.2.2.2.2.1,x.2.2.2.2.2.2.1,x.2.2.2.2.2.2.2.1,PUnit.unit)) ((-1:Int),(0 :
  Int),PUnit.unit) else none else none else none else none else none else none else none else none else none else none) ((0:Int),PUnit.unit)) (x0,x1,x2,x3,([],[]),[],(0:Int),
  (0:Int),PUnit.unit)
noncomputable def ref05_run (x0:List Nat×List (Option (List Int))) (x1:List Int) (x2:Int) (x3:Int):Option ((List Nat×List (Option (List Int)))×(List Int)×Int×Int×Bool×Unit):=ref05_run_b lpK jnK ref05_pivot x0 x1 x2 x3
end Go.Proofs.Ytnbbackjofgcfaa

namespace Go.Proofs.Ytnbbackjofgcfaa
open Try Dn Dn.Sh
set_option maxRecDepth 100000
noncomputable def ref05_begin_b (lp:Lp) (jn:Jn) (x0:(List Int)×List ((List Int)×Int×Int)):Option ((List Nat×List (Option (List Int)))×(List Int)×Int×Int×Unit) :=
 
 let v3:Int:=IntKind.wrap .i64 ((↑(List.length x0.1):Int)+(↑(List.length x0.2):Int));
 let v4:Int:=IntKind.wrap .i64 ((↑(List.length x0.1):Int)+IntKind.wrap .i64 ((2:Int)*(↑(List.length x0.2):Int)));
 let v5:List Int×PUnit:=(List.replicate (Int.toNat (IntKind.wrap .i64 (v4+(1:Int)))) (0:Int),PUnit.unit);
 let v6:Bool:=decide ((0:Int)≤IntKind.wrap .i64 (v4+(1:Int)))&&fitB (Int.toNat (IntKind.wrap .i64 (v4+(1:Int)))) (8:Nat);bif v6 then lp (Int×(List Nat
  × List (Option (List Int)))×List Int×Int×Int×List Int×PUnit) ((List Nat×List (Option (List Int)))×List Int×Int×Int×PUnit) (fun (again:Int×(List Nat×List
  (Option (List Int)))×List Int×Int×Int×List Int×PUnit→Option ((List Nat×List (Option (List Int)))×List Int×Int×Int×PUnit)) (x:Int×(List Nat×List (Option (List
  Int)))×List Int×Int×Int×List Int×PUnit) =>
 let v9:Int:=IntKind.wrap .i64 (v3+x.1);
 let v10:Bool:=inB x.1 (List.length x0.2);
 let v11:Int:=IntKind.wrap .i64 ((↑(List.length x0.1):Int)+x.1);
 let v12:List Int×Int×Int:=List.getD x0.2 (Int.toNat x.1) ([],(0:Int),(0:Int));
 let v13:Bool:=fitB (List.length x.2.1.1+(1:Nat)) (24:Nat);
 let v14:List Nat:=x.2.1.1++[List.length x.2.1.2+(0:Nat)];bif decide (x.1<(↑(List.length x0.2):Int)) then bif v6 then bif v10 then lp (Int×List Int ×
  PUnit) ((List Nat×List (Option (List Int)))×List Int×Int×Int×PUnit) (fun (again_1:Int×List Int×PUnit→Option ((List Nat×List (Option (List Int)))×List Int×Int ×
  Int×PUnit)) (x_1:Int×List Int×PUnit)=>bif decide (x_1.1<(↑(List.length v12.1):Int)) then bif inB x_1.1 (List.length v12.1) then bif inB x_1.1 (List.length
  x_1.2.1) then bif Nat.ble (Nat.succ (Int.toNat x_1.1)) (List.length x_1.2.1) then again_1 (IntKind.wrap .i64 (x_1.1+(1:Int)),List.set x_1.2.1 (Int.toNat
  x_1.1) (List.getD v12.1 (Int.toNat x_1.1) (0:Int)),PUnit.unit) else none else none else none else bif v10 then jn (List Int×PUnit) ((List Nat×List (Option (List Int))) ×
  List Int×Int×Int×PUnit) (fun (x_2:List Int×PUnit)=>bif v10 then jn (List Int×PUnit) ((List Nat×List (Option (List Int)))×List Int×Int×Int×PUnit) (fun (x_3:List
  Int×PUnit) =>
 let v19:List Int×PUnit:=(List.set x_3.1 (Int.toNat v4) v12.2.2,PUnit.unit);bif v10 then bif inB v4 (List.length x_3.1) then bif Nat.ble (Nat.succ (Int.toNat v4))
  (List.length x_3.1) then bif v10 then jn (List Int×PUnit) ((List Nat×List (Option (List Int)))×List Int×Int×Int×PUnit) (fun (x_4:List Int×PUnit)=>lp (Int×List Int
  × PUnit) ((List Nat×List (Option (List Int)))×List Int×Int×Int×PUnit) (fun (again_2:Int×List Int×PUnit→Option ((List Nat×List (Option (List Int)))×List Int×Int ×
  Int×PUnit)) (x_5:Int×List Int×PUnit) =>
 let v23:Bool:=inB x_5.1 (List.length x_5.2.1);
 let v24:Bool:=Nat.ble (Nat.succ (Int.toNat x_5.1)) (List.length x_5.2.1);bif decide (x_5.1<(↑(List.length x_4.1):Int)) then bif v23 then bif v24 then bif inB x_5.1
  (List.length x_4.1) then bif Nat.ble (Nat.succ (Int.toNat x_5.1)) (List.length x_4.1) then bif v23 then bif v24 then again_2 (IntKind.wrap .i64 (x_5.1+(1:Int)),
  List.set x_5.2.1 (Int.toNat x_5.1) (IntKind.wrap .i64 (List.getD x_5.2.1 (Int.toNat x_5.1) (0:Int) - List.getD x_4.1 (Int.toNat x_5.1) (0:Int))),PUnit.unit)
  else none else none else none else none else none else none else bif inB v9 (List.length x_4.1) then bif Nat.ble (Nat.succ (Int.toNat v9)) (List.length x_4.1) then bif v13 then bif
  fitB (List.length x.2.2.1+(1:Nat)) (8:Nat) then again (IntKind.wrap .i64 (x.1+(1:Int)),(v14,x.2.1.2++[some (List.set x_4.1 (Int.toNat v9) (1 :
  Int))]),x.2.2.1++[v9],x.2.2.2.1,x.2.2.2.2.1,x_5.2.1,PUnit.unit) else none else none else none else none) ((0:Int),x.2.2.2.2.2.1,
  PUnit.unit)) fun (j:List Int×PUnit→Option ((List Nat×List (Option (List Int)))×List Int×Int×Int×PUnit))=>bif decide (v12.2.2<(0:Int)) then lp (Int×List Int ×
  PUnit) ((List Nat×List (Option (List Int)))×List Int×Int×Int×PUnit) (fun (again:Int×List Int×PUnit→Option ((List Nat×List (Option (List Int)))×List Int×Int×Int
  × PUnit)) (x:Int×List Int×PUnit) =>
 let v23:Bool:=inB x.1 (List.length x.2.1);
 let v24:Bool:=Nat.ble (Nat.succ (Int.toNat x.1)) (List.length x.2.1);bif decide (x.1<(↑(List.length x.2.1):Int)) then bif v23 then bif v24 then bif v23 then bif v24
  then again (IntKind.wrap .i64 (x.1+(1:Int)),List.set x.2.1 (Int.toNat x.1) (IntKind.wrap .i64 ((0:Int) - List.getD x.2.1 (Int.toNat x.1) (0:Int))),
  PUnit.unit) else none else none else none else none else j (x.2.1,PUnit.unit)) ((0:Int),v19) else j v19 else none else none else none else none) fun (j:List Int×PUnit →
  Option ((List Nat×List (Option (List Int)))×List Int×Int×Int×PUnit))=>bif decide (v12.2.1=(2:Int)) then bif inB v11 (List.length x_2.1) then bif Nat.ble (Nat.succ
  (Int.toNat v11)) (List.length x_2.1) then j (List.set x_2.1 (Int.toNat v11) (-1:Int),PUnit.unit) else none else none else j (x_2.1,PUnit.unit) else none) fun (j:List Int ×
  PUnit→Option ((List Nat×List (Option (List Int)))×List Int×Int×Int×PUnit))=>bif decide (v12.2.1=(1:Int)) then bif inB v11 (List.length x_1.2.1) then bif
  Nat.ble (Nat.succ (Int.toNat v11)) (List.length x_1.2.1) then j (List.set x_1.2.1 (Int.toNat v11) (1:Int),PUnit.unit) else none else none else j (x_1.2.1,PUnit.unit)
  else none) ((0:Int),v5) else none else none else bif v13 then some ((v14,x.2.1.2++[some x.2.2.2.2.2.1]),x.2.2.1,x.2.2.2.1,x.2.2.2.2.1,
  PUnit.unit) else none) ((0:Int),([],[]),[],(1:Int),v3,v5) else none
noncomputable def ref05_begin (x0:(List Int)×List ((List Int)×Int×Int)):Option ((List Nat×List (Option (List Int)))×(List Int)×Int×Int×Unit):=ref05_begin_b lpK jnK x0
noncomputable def ref05_out_b (lp:Lp) (_:Jn) (ref05_pivot:(List Nat×List (Option (List Int)))→(List Int)→(Int)→(Int)→(Int)→(Int)→Option ((List Nat×List (Option (List Int)))×(List Int)×Int×Int×Unit)) (x0:List Nat×List (Option (List Int))) (x1:List Int) (x2:Int) (x3:Int):Option ((List Nat×List (Option (List Int)))×(List Int)×Int×Int×Unit) :=
 lp (Int×(List Nat×List (Option (List Int)))×List Int×Int×Int×PUnit) ((List Nat×List (Option (List Int)))×List Int×Int×Int×PUnit) (fun (again:Int×(List Nat×List
  (Option (List Int)))×List Int×Int×Int×PUnit→Option ((List Nat×List (Option (List Int)))×List Int×Int×Int×PUnit)) (x:Int×(List Nat×List (Option (List Int))) ×
  List Int×Int×Int×PUnit) =>
 let v8:Int:=IntKind.wrap .i64 (x.1+(1:Int));
 let v9:Bool:=inB x.1 (List.length x.2.1.1);
 let v10:Bool:=Nat.ble (Nat.succ (Int.toNat x.1)) (List.length x.2.1.1);
 let v11:(List Nat×List (Option (List Int)))×List Int×Int×Int×PUnit:=(x.2.1,x.2.2.1,x.2.2.2.1,x.2.2.2.2.1,PUnit.unit);bif decide (x.1 <
  (↑(List.length x.2.2.1):Int)) then bif inB x.1 (List.length x.2.2.1) then bif Nat.ble (Nat.succ (Int.toNat x.1)) (List.length x.2.2.1) then bif decide (List.getD
  x.2.2.1 (Int.toNat x.1) (0:Int)<x.2.2.2.2.1) then again (v8,v11) else lp (Int×PUnit) ((List Nat×List (Option (List Int)))×List Int×Int×Int×PUnit) (fun
  (again_1:Int×PUnit→Option ((List Nat×List (Option (List Int)))×List Int×Int×Int×PUnit)) (x_1:Int×PUnit) =>
 let v14:Bool:=decide (x_1.1<x.2.2.2.2.1);
 let v15:Bool:=!v14;
 let v16:Bool:=v15||v14;bif v16 then bif v16&&(v16&&(v15||v9)) then bif v16&&(v15||v10) then bif v16&&(v16&&(v15||inB x_1.1 (List.length (rowD x.2.1.2
  (List.getD x.2.1.1 (Int.toNat x.1) (0:Nat)))))) then bif v16&&(v15||Nat.ble (Nat.succ (Int.toNat x_1.1)) (List.length (rowD x.2.1.2 (List.getD x.2.1.1
  (Int.toNat x.1) (0:Nat))))) then bif v16 then bif v16 then bif bif v14 then decide (List.getD (rowD x.2.1.2 (List.getD x.2.1.1 (Int.toNat x.1) (0:Nat))) (Int.toNat
  x_1.1) (0:Int)=(0:Int)) else false then again_1 (IntKind.wrap .i64 (x_1.1+(1:Int)),PUnit.unit) else bif decide (x_1.1=x.2.2.2.2.1) then again (v8,
  v11) else bif v9 then bif v10 then bif inB x_1.1 (List.length (rowD x.2.1.2 (List.getD x.2.1.1 (Int.toNat x.1) (0:Nat)))) then bif Nat.ble (Nat.succ (Int.toNat
  x_1.1)) (List.length (rowD x.2.1.2 (List.getD x.2.1.1 (Int.toNat x.1) (0:Nat)))) then bif decide (List.getD (rowD x.2.1.2 (List.getD x.2.1.1 (Int.toNat
  x.1) (0:Nat))) (Int.toNat x_1.1) (0:Int)<(0:Int)) then lp (Int×(List Nat×List (Option (List Int)))×PUnit) ((List Nat×List (Option (List Int)))×List Int×Int×Int
  × PUnit) (fun (again_2:Int×(List Nat×List (Option (List Int)))×PUnit→Option ((List Nat×List (Option (List Int)))×List Int×Int×Int×PUnit)) (x_2:Int×(List Nat ×
  List (Option (List Int)))×PUnit) =>
 let v19:Bool:=inB x.1 (List.length x_2.2.1.1);
 let v20:Bool:=Nat.ble (Nat.succ (Int.toNat x.1)) (List.length x_2.2.1.1);bif v19 then bif v20 then bif liveB x_2.2.1.2 (List.getD x_2.2.1.1 (Int.toNat x.1) (0 :
  Nat)) then bif decide (x_2.1<(↑(List.length (rowD x_2.2.1.2 (List.getD x_2.2.1.1 (Int.toNat x.1) (0:Nat)))):Int)) then bif v19 then bif v20 then bif v19 then bif
  v20 then bif inB x_2.1 (List.length (rowD x_2.2.1.2 (List.getD x_2.2.1.1 (Int.toNat x.1) (0:Nat)))) then bif Nat.ble (Nat.succ (Int.toNat x_2.1)) (List.length (rowD
  x_2.2.1.2 (List.getD x_2.2.1.1 (Int.toNat x.1) (0:Nat)))) then bif inB x_2.1 (List.length (rowD x_2.2.1.2 (List.getD x_2.2.1.1 (Int.toNat x.1) (0 :
  Nat)))) then bif Nat.ble (Nat.succ (Int.toNat x_2.1)) (List.length (rowD x_2.2.1.2 (List.getD x_2.2.1.1 (Int.toNat x.1) (0:Nat)))) then again_2 (IntKind.wrap
  IntKind.i64 (x_2.1+(1:Int)),(x_2.2.1.1,List.set x_2.2.1.2 (List.getD x_2.2.1.1 (Int.toNat x.1) (0:Nat)) (some (List.set (rowD x_2.2.1.2 (List.getD
  x_2.2.1.1 (Int.toNat x.1) (0:Nat))) (Int.toNat x_2.1) (IntKind.wrap .i64 ((0:Int) - List.getD (rowD x_2.2.1.2 (List.getD x_2.2.1.1 (Int.toNat x.1) (0
  : Nat))) (Int.toNat x_2.1) (0:Int)))))),PUnit.unit) else none else none else none else none else none else none else none else none else obind (ref05_pivot x_2.2.1
  x.2.2.1 x.2.2.2.1 x.2.2.2.2.1 x.1 x_1.1) fun (y:(List Nat×List (Option (List Int)))×List Int×Int×Int×PUnit)=>again (v8,y.1,y.2.1,
  y.2.2.1,y.2.2.2.1,PUnit.unit) else none else none else none) ((0:Int),x.2.1,PUnit.unit) else obind (ref05_pivot x.2.1 x.2.2.1 x.2.2.2.1
  x.2.2.2.2.1 x.1 x_1.1) fun (y:(List Nat×List (Option (List Int)))×List Int×Int×Int×PUnit)=>again (v8,y.1,y.2.1,y.2.2.1,y.2.2.2.1,
  PUnit.unit) else none else none else none else none else none else none else none else none else none else none else none) ((0:Int),PUnit.unit) else none else none else some v11) ((0
  : Int),x0,x1,x2,x3,PUnit.unit)
noncomputable def ref05_out (x0:List Nat×List (Option (List Int))) (x1:List Int) (x2:Int) (x3:Int):Option ((List Nat×List (Option (List Int)))×(List Int)×Int×Int×Unit):=ref05_out_b lpK jnK ref05_pivot x0 x1 x2 x3
noncomputable def ref02_Make_b (_:Lp) (_:Jn) (ref02_Size:(Int)→Option (Int)) (ref02_Made:(Int×Int)→(Bool)→(Int×Int)→Option ((Int×Int)×Int×Unit)) (x0:Int) (x1:Int):Option ((Int×Int)×Int×Unit) :=
 obind (ref02_Size x0) fun (t:Int)=>obind (ref02_Size x1) fun (t_1:Int)=>obind (ref02_Made ((0:Int),t) (!decide (decide (x0<(0:Int))=decide (x1<(0:Int)))) ((0:Int),
  t_1)) fun (t:(Int×Int)×Int×PUnit)=>some (t.1,t.2.1,PUnit.unit)
noncomputable def ref02_Make (x0:Int) (x1:Int):Option ((Int×Int)×Int×Unit):=ref02_Make_b lpK jnK ref02_Size ref02_Made x0 x1
noncomputable def ref05_Least_b (lp:Lp) (_:Jn) (ref02_Make:(Int)→(Int)→Option ((Int×Int)×Int×Unit)) (ref05_run:(List Nat×List (Option (List Int)))→(List Int)→(Int)→(Int)→Option ((List Nat×List (Option (List Int)))×(List Int)×Int×Int×Bool×Unit)) (ref05_begin:((List Int)×List ((List Int)×Int×Int))→Option ((List Nat×List (Option (List Int)))×(List Int)×Int×Int×Unit)) (ref05_out:(List Nat×List (Option (List Int)))→(List Int)→(Int)→(Int)→Option ((List Nat×List (Option (List Int)))×(List Int)×Int×Int×Unit)) (x0:(List Int)×List ((List Int)×Int×Int)):Option ((Int×Int)×Int×Unit) :=
 obind (ref05_begin x0) fun (y:(List Nat×List (Option (List Int)))×List Int×Int×Int×PUnit)=>obind (ref05_run y.1 y.2.1 y.2.2.1 y.2.2.2.1) fun (y:(List Nat
  × List (Option (List Int)))×List Int×Int×Int×Bool×PUnit) =>
 let v5:Int:=IntKind.wrap .i64 ((↑(List.length y.1.1):Int) - (1:Int));bif inB (0:Int) (List.length y.1.1) then bif Nat.ble (1:Nat) (List.length y.1.1) then
  bif liveB y.1.2 (List.getD y.1.1 (0:Nat) (0:Nat)) then bif inB v5 (List.length y.1.1) then bif Nat.ble (Nat.succ (Int.toNat v5)) (List.length y.1.1) then bif inB
  (IntKind.wrap .i64 ((↑(List.length (rowD y.1.2 (List.getD y.1.1 (0:Nat) (0:Nat)))):Int) - (1:Int))) (List.length (rowD y.1.2 (List.getD y.1.1 (Int.toNat
  v5) (0:Nat)))) then bif Nat.ble (Nat.succ (Int.toNat (IntKind.wrap .i64 ((↑(List.length (rowD y.1.2 (List.getD y.1.1 (0:Nat) (0:Nat)))):Int) - (1:Int)))))
  (List.length (rowD y.1.2 (List.getD y.1.1 (Int.toNat v5) (0:Nat)))) then bif decide (List.getD (rowD y.1.2 (List.getD y.1.1 (Int.toNat v5) (0:Nat))) (Int.toNat
  (IntKind.wrap .i64 ((↑(List.length (rowD y.1.2 (List.getD y.1.1 (0:Nat) (0:Nat)))):Int) - (1:Int)))) (0:Int)<(0:Int)) then some (((0:Int),(0:Int)),(22
  : Int),PUnit.unit) else obind (ref05_out y.1 y.2.1 y.2.2.1 y.2.2.2.1) fun (y_1:(List Nat×List (Option (List Int)))×List Int×Int×Int×PUnit)=>bif decide
  ((0:Int)≤IntKind.wrap .i64 (IntKind.wrap .i64 ((↑(List.length (rowD y.1.2 (List.getD y.1.1 (0:Nat) (0:Nat)))):Int) - (1:Int))+(1:Int)))&&fitB
  (Int.toNat (IntKind.wrap .i64 (IntKind.wrap .i64 ((↑(List.length (rowD y.1.2 (List.getD y.1.1 (0:Nat) (0:Nat)))):Int) - (1:Int))+(1:Int)))) (8:Nat)
  then lp (Int×List Int×PUnit) ((Int×Int)×Int×PUnit) (fun (again:Int×List Int×PUnit→Option ((Int×Int)×Int×PUnit)) (x:Int×List Int×PUnit)=>bif decide (x.1
  < (↑(List.length x0.1):Int)) then bif inB x.1 (List.length x0.1) then bif inB x.1 (List.length x.2.1) then bif Nat.ble (Nat.succ (Int.toNat x.1)) (List.length x.2.1)
  then again (IntKind.wrap .i64 (x.1+(1:Int)),List.set x.2.1 (Int.toNat x.1) (List.getD x0.1 (Int.toNat x.1) (0:Int)),PUnit.unit) else none else none else none
  else lp (Int×(List Nat×List (Option (List Int)))×PUnit) ((Int×Int)×Int×PUnit) (fun (again:Int×(List Nat×List (Option (List Int)))×PUnit→Option ((Int×Int)×Int ×
  PUnit)) (x_1:Int×(List Nat×List (Option (List Int)))×PUnit)=>bif decide (x_1.1≤IntKind.wrap .i64 ((↑(List.length (rowD y.1.2 (List.getD y.1.1 (0:Nat) (0 :
  Nat)))):Int) - (1:Int))) then bif inB x_1.1 (List.length x.2.1) then bif Nat.ble (Nat.succ (Int.toNat x_1.1)) (List.length x.2.1) then lp (Int×Int×PUnit) ((Int ×
  Int)×Int×PUnit) (fun (again_1:Int×Int×PUnit→Option ((Int×Int)×Int×PUnit)) (x_2:Int×Int×PUnit) =>
 let v13:Int:=List.getD y_1.2.1 (Int.toNat x_2.2.1) (0:Int);bif decide (x_2.2.1<v5) then bif inB x_2.2.1 (List.length y_1.2.1) then bif Nat.ble (Nat.succ
  (Int.toNat x_2.2.1)) (List.length y_1.2.1) then bif inB v13 (List.length x.2.1) then bif Nat.ble (Nat.succ (Int.toNat v13)) (List.length x.2.1) then bif inB x_2.2.1
  (List.length x_1.2.1.1) then bif Nat.ble (Nat.succ (Int.toNat x_2.2.1)) (List.length x_1.2.1.1) then bif inB x_1.1 (List.length (rowD x_1.2.1.2 (List.getD
  x_1.2.1.1 (Int.toNat x_2.2.1) (0:Nat)))) then bif Nat.ble (Nat.succ (Int.toNat x_1.1)) (List.length (rowD x_1.2.1.2 (List.getD x_1.2.1.1 (Int.toNat
  x_2.2.1) (0:Nat)))) then again_1 (IntKind.wrap .i64 (x_2.1 - IntKind.wrap .i64 (List.getD x.2.1 (Int.toNat v13) (0:Int)*List.getD (rowD x_1.2.1.2
  (List.getD x_1.2.1.1 (Int.toNat x_2.2.1) (0:Nat))) (Int.toNat x_1.1) (0:Int))),IntKind.wrap .i64 (x_2.2.1+(1:Int)),PUnit.unit) else none else none else
  none else none else none else none else none else none else bif inB v5 (List.length x_1.2.1.1) then bif Nat.ble (Nat.succ (Int.toNat v5)) (List.length x_1.2.1.1) then bif
  inB x_1.1 (List.length (rowD x_1.2.1.2 (List.getD x_1.2.1.1 (Int.toNat v5) (0:Nat)))) then bif Nat.ble (Nat.succ (Int.toNat x_1.1)) (List.length (rowD x_1.2.1.2
  (List.getD x_1.2.1.1 (Int.toNat v5) (0:Nat)))) then again (IntKind.wrap .i64 (x_1.1+(1:Int)),(x_1.2.1.1,List.set x_1.2.1.2 (List.getD x_1.2.1.1
  (Int.toNat v5) (0:Nat)) (some (List.set (rowD x_1.2.1.2 (List.getD x_1.2.1.1 (Int.toNat v5) (0:Nat))) (Int.toNat x_1.1) x_2.1))),PUnit.unit) else none else none
  else none else none) (IntKind.wrap .i64 (List.getD x.2.1 (Int.toNat x_1.1) (0:Int)*y_1.2.2.1),(0:Int),PUnit.unit) else none else none else obind (ref05_run
  x_1.2.1 y_1.2.1 y_1.2.2.1 y_1.2.2.2.1) fun (y_2:(List Nat×List (Option (List Int)))×List Int×Int×Int×Bool×PUnit)=>bif !y_2.2.2.2.2.1 then
  some (((0:Int),(0:Int)),(21:Int),PUnit.unit) else bif inB v5 (List.length y_2.1.1) then bif Nat.ble (Nat.succ (Int.toNat v5)) (List.length y_2.1.1) then bif inB
  (IntKind.wrap .i64 ((↑(List.length (rowD y.1.2 (List.getD y.1.1 (0:Nat) (0:Nat)))):Int) - (1:Int))) (List.length (rowD y_2.1.2 (List.getD y_2.1.1
  (Int.toNat v5) (0:Nat)))) then bif Nat.ble (Nat.succ (Int.toNat (IntKind.wrap .i64 ((↑(List.length (rowD y.1.2 (List.getD y.1.1 (0:Nat) (0:Nat)))):Int) - (1 :
  Int))))) (List.length (rowD y_2.1.2 (List.getD y_2.1.1 (Int.toNat v5) (0:Nat)))) then obind (ref02_Make (IntKind.wrap .i64 ((0:Int) - List.getD (rowD y_2.1.2
  (List.getD y_2.1.1 (Int.toNat v5) (0:Nat))) (Int.toNat (IntKind.wrap .i64 ((↑(List.length (rowD y.1.2 (List.getD y.1.1 (0:Nat) (0:Nat)))):Int) - (1:Int))))
  (0:Int))) y_2.2.2.1) fun (t:(Int×Int)×Int×PUnit)=>some (t.1,t.2.1,PUnit.unit) else none else none else none else none) ((0:Int),y_1.1,PUnit.unit)) ((0 :
  Int),List.replicate (Int.toNat (IntKind.wrap .i64 (IntKind.wrap .i64 ((↑(List.length (rowD y.1.2 (List.getD y.1.1 (0:Nat) (0:Nat)))):Int) - (1:Int))+(1
  : Int)))) (0:Int),PUnit.unit) else none else none else none else none else none else none else none else none
noncomputable def ref05_Least (x0:(List Int)×List ((List Int)×Int×Int)):Option ((Int×Int)×Int×Unit):=ref05_Least_b lpK jnK ref02_Make ref05_run ref05_begin ref05_out x0
noncomputable def law05_ProgramSolves_b (_:Lp) (_:Jn) (program_Solve:((List Int)×List ((List Int)×Int×Int))→Option (((Int×Int)×(List (Int×Int))×List (Int×Int))×Int×Unit)) (law05_awake:Option (Bool)) (law05_few:((List Int)×List ((List Int)×Int×Int))→Option (Bool)) (ref05_Valid:((List Int)×List ((List Int)×Int×Int))→Option (Bool)) (law05_empty:((Int×Int)×(List (Int×Int))×List (Int×Int))→Option (Bool)) (ref05_Fits:((List Int)×List ((List Int)×Int×Int))→Option (Bool)) (ref05_Small:((List Int)×List ((List Int)×Int×Int))→Option (Bool)) (program_Farkas:((List Int)×List ((List Int)×Int×Int))→Option ((List (Int×Int))×Int×Unit)) (ref05_Least:((List Int)×List ((List Int)×Int×Int))→Option ((Int×Int)×Int×Unit)) (x0:(List Int)×List ((List Int)×Int×Int)):Option Bool :=
 obind law05_awake fun (t:Bool)=>bif !t then some false else obind (law05_few x0) fun (t:Bool)=>bif !t then some true else obind (ref05_Valid x0) fun (t:Bool) =>
 let v6:Bool:=!t||t;bif v6 then obind (bif t then ref05_Fits x0 else some false) fun (t_1:Bool) =>
 let v8:Bool:=bif t then t_1 else false;
 let v9:Bool:=!v8||v8;bif v6 then bif v9 then obind (bif v8 then ref05_Small x0 else some false) fun (t:Bool)=>bif v9 then bif v9 then bif bif v8 then !t else false then some
  true else obind (program_Solve x0) fun (t:((Int×Int)×List (Int×Int)×List (Int×Int))×Int×PUnit) =>
 let v12:Bool:=!decide (t.2.1=(0:Int));obind (program_Farkas x0) fun (t_2:List (Int×Int)×Int×PUnit) =>
 let v14:Bool:=decide (t_2.2.1=(0:Int));
 let v15:Bool:=decide (t_2.2.1=(12:Int));
 let v16:Bool:=decide ((↑(List.length t_2.1):Int)=(0:Int));
 let v17:Bool:=!v14||v14;
 let v18:Bool:=!v15||v15;obind (ref05_Valid x0) fun (t_3:Bool)=>bif !t_3 then obind (law05_empty t.1) fun (t_4:Bool) =>
 let v21:Bool:=!t_4||t_4;
 let v22:Bool:=bif t_4 then decide (t.2.1=(1:Int)) else false;
 let v23:Bool:=bif v22 then v16 else false;
 let v24:Bool:=!v22||v22;
 let v25:Bool:=!v23||v23;bif v21 then bif v21 then bif v24 then bif v24 then bif v24 then bif v25 then bif v25 then some (bif v23 then decide (t_2.2.1=(1:Int)) else false)
  else none else none else none else none else none else none else none else obind (ref05_Fits x0) fun (t_4:Bool)=>bif !t_4 then obind (law05_empty t.1) fun (t_5:Bool) =>
 let v22:Bool:=!t_5||t_5;
 let v23:Bool:=bif t_5 then decide (t.2.1=(5:Int)) else false;
 let v24:Bool:=bif v23 then v16 else false;
 let v25:Bool:=!v23||v23;
 let v26:Bool:=!v24||v24;bif v22 then bif v22 then bif v25 then bif v25 then bif v25 then bif v26 then bif v26 then some (bif v24 then decide (t_2.2.1=(5:Int)) else false)
  else none else none else none else none else none else none else none else obind (ref05_Least x0) fun (t_5:(Int×Int)×Int×PUnit) =>
 let v22:Bool:=!decide (t.2.1=t_5.2.1);
 let v23:Bool:=!v22;
 let v24:Bool:=!v23||v23;
 let v25:Bool:=bif v22 then true else !(decide (t.1.1.1=t_5.1.1)&&(decide (t.1.1.2=t_5.1.2)&&true));
 let v26:Bool:=!v25;
 let v27:Bool:=!v26;
 let v28:Bool:=v26&&v12;
 let v29:Bool:=v27||v26;
 let v30:Bool:=!v28||v28;bif v24 then bif v24&&v24 then bif v22||v23 then bif v29 then bif v29 then bif v30 then obind (bif v28 then law05_empty t.1 else some false) fun (t_6
  : Bool)=>bif v30 then bif (v27||v29)&&(v27||(!v12||(v27||v28))) then bif v25||v26 then bif bif v25 then true else bif v12 then !t_6 else false then some false else bif
  decide (t.2.1=(22:Int)) then bif v17 then bif v17 then bif v17 then bif v17&&v17 then bif v17 then some (bif v14 then decide ((↑(List.length t_2.1):Int)=(↑(List.length
  x0.2):Int)) else false) else none else none else none else none else none else bif v18 then bif v18 then bif v18 then some (bif v15 then v16 else false) else none else none else
  none else none else none else none else none else none else none else none else none else none else none else none else none else none else none
noncomputable def law05_ProgramSolves (x0:(List Int)×List ((List Int)×Int×Int)):Option Bool:=law05_ProgramSolves_b lpK jnK program_Solve law05_awake law05_few ref05_Valid law05_empty ref05_Fits ref05_Small program_Farkas ref05_Least x0
noncomputable def c5:Ctr:=⟨[T25],[],[],.one .bool,fun x _ _=>law05_ProgramSolves x.1⟩
theorem e5 (lp:Lp) (jn:Jn) (program_Solve:((List Int)×List ((List Int)×Int×Int))→Option (((Int×Int)×(List (Int×Int))×List (Int×Int))×Int×Unit)) (law05_awake:Option (Bool)) (law05_few:((List Int)×List ((List Int)×Int×Int))→Option (Bool)) (ref05_Valid:((List Int)×List ((List Int)×Int×Int))→Option (Bool)) (law05_empty:((Int×Int)×(List (Int×Int))×List (Int×Int))→Option (Bool)) (ref05_Fits:((List Int)×List ((List Int)×Int×Int))→Option (Bool)) (ref05_Small:((List Int)×List ((List Int)×Int×Int))→Option (Bool)) (program_Farkas:((List Int)×List ((List Int)×Int×Int))→Option ((List (Int×Int))×Int×Unit)) (ref05_Least:((List Int)×List ((List Int)×Int×Int))→Option ((Int×Int)×Int×Unit)):∀(x:TsS c5.as) (F:TsF c5.fs) (y:TsS c5.cs),law05_ProgramSolves_b lp jn program_Solve law05_awake law05_few ref05_Valid law05_empty ref05_Fits ref05_Small program_Farkas ref05_Least x.1=runC lp jn (ctxT tabs lits (ctxOf prog shs inls its [(30,⟨[T25],[],[],.tup [T27,i64],fun x _ _=>ref05_Least x.1⟩),(29,⟨[T25],[],[],.tup [(.sl T27),i64],fun x _ _=>program_Farkas x.1⟩),(28,⟨[T25],[],[],.one .bool,fun x _ _=>ref05_Small x.1⟩),(27,⟨[T25],[],[],.one .bool,fun x _ _=>ref05_Fits x.1⟩),(25,⟨[T30],[],[],.one .bool,fun x _ _=>law05_empty x.1⟩),(16,⟨[T25],[],[],.one .bool,fun x _ _=>ref05_Valid x.1⟩),(12,⟨[T25],[],[],.one .bool,fun x _ _=>law05_few x.1⟩),(11,⟨[],[],[],.one .bool,fun _ _ _=>law05_awake⟩),(21,⟨[T25],[],[],.tup [T30,i64],fun x _ _=>program_Solve x.1⟩)] [(24,r24),(22,r22)])) hints 4 5 f5 c5 x F y:=fun x F y=>by kernel_rfl
noncomputable def program_Feasible_b (_:Lp) (_:Jn) (program_Valid:((List Int)×List ((List Int)×Int×Int))→Option (Bool)) (program_right:(List (Int×Int))→Option (Bool)) (program_sums_feasible:(Int)→((List Int)×List ((List Int)×Int×Int))→(List (Int×Int))→Option (Int×Bool)) (x0:(List Int)×List ((List Int)×Int×Int)) (x1:List (Int×Int)):Option (Bool×Int×Unit) :=
 obind (program_Valid x0) fun (t:Bool) =>
 let v5:Bool:=!t;
 let v6:Bool:=!v5;
 let v7:Bool:=!v6||v6;bif v7 then obind (bif v6 then program_right x1 else some false) fun (t:Bool)=>bif v7 then bif v5||v6 then bif bif v5 then true else !t then some (false,
  (1:Int),PUnit.unit) else bif !decide ((↑(List.length x1):Int)=(↑(List.length x0.1):Int)) then some (false,(3:Int),PUnit.unit) else obind (program_sums_feasible (0:Int)
  x0 x1) fun (t:Int×Bool) =>
 let v10:Bool:=!t.2||t.2;bif v10 then bif v10 then bif v10 then some (bif t.2 then decide (t.1=(0:Int)) else false,t.1,PUnit.unit) else none else none else none else
  none else none else none
noncomputable def program_Feasible (x0:(List Int)×List ((List Int)×Int×Int)) (x1:List (Int×Int)):Option (Bool×Int×Unit):=program_Feasible_b lpK jnK program_Valid program_right program_sums_feasible x0 x1
noncomputable def c31:Ctr:=⟨[T25,(.sl T27)],[],[],.tup [.bool,i64],fun x _ _=>program_Feasible x.1 x.2.1⟩
theorem e31 (lp:Lp) (jn:Jn) (program_Valid:((List Int)×List ((List Int)×Int×Int))→Option (Bool)) (program_right:(List (Int×Int))→Option (Bool)) (program_sums_feasible:(Int)→((List Int)×List ((List Int)×Int×Int))→(List (Int×Int))→Option (Int×Bool)):∀(x:TsS c31.as) (F:TsF c31.fs) (y:TsS c31.cs),program_Feasible_b lp jn program_Valid program_right program_sums_feasible x.1 x.2.1=runC lp jn (ctxT tabs lits (ctxP [] [(47,⟨T75,[T25,(.sl T27)],.one .bool,fun x y=>program_sums_feasible x y.1 y.2.1⟩)] (ctxOf prog shs inls its [(46,⟨[(.sl T27)],[],[],.one .bool,fun x _ _=>program_right x.1⟩),(33,⟨[T25],[],[],.one .bool,fun x _ _=>program_Valid x.1⟩)] [(24,r24),(22,r22)]))) hints 4 31 f31 c31 x F y:=fun x F y=>by kernel_rfl
theorem l31:(ctxT tabs lits (ctxP [] [(47,m47)] (ctxOf prog shs inls its [(46,c46),(33,c33)] [(24,r24),(22,r22)]))).ok:=ctxT_ok (ctxP_ok (ctxOf_cons (ctxOf_cons (q24) (by kernel_rfl) ok33) (by kernel_rfl) ok46) (pcOk_nil) (mcOk_cons (by kernel_rfl) ok47 (mcOk_nil)))
theorem ok31:c31.ok prog 31:=Ctr.of_den l31 hmix (hl:=hints) (d:=4) func31 rfl (by decide) (e31 lpK jnK program_Valid program_right program_sums_feasible)
noncomputable def program_Value_b (_:Lp) (_:Jn) (program_Valid:((List Int)×List ((List Int)×Int×Int))→Option (Bool)) (program_right:(List (Int×Int))→Option (Bool)) (program_sums_of:(Int)→(List Int)→(List (Int×Int))→Option (Int×(Int×Int))) (x0:(List Int)×List ((List Int)×Int×Int)) (x1:List (Int×Int)):Option ((Int×Int)×Int×Unit) :=
 obind (program_Valid x0) fun (t:Bool) =>
 let v5:Bool:=!t;
 let v6:Bool:=!v5;
 let v7:Bool:=!v6||v6;bif v7 then obind (bif v6 then program_right x1 else some false) fun (t:Bool)=>bif v7 then bif v5||v6 then bif bif v5 then true else !t then some (((0 :
  Int),(0:Int)),(1:Int),PUnit.unit) else bif !decide ((↑(List.length x1):Int)=(↑(List.length x0.1):Int)) then some (((0:Int),(0:Int)),(3:Int),PUnit.unit) else
  obind (program_sums_of (0:Int) x0.1 x1) fun (t:Int×Int×Int)=>bif !decide (t.1=(0:Int)) then some (((0:Int),(0:Int)),t.1,PUnit.unit) else some (t.2,(0 :
  Int),PUnit.unit) else none else none else none
noncomputable def program_Value (x0:(List Int)×List ((List Int)×Int×Int)) (x1:List (Int×Int)):Option ((Int×Int)×Int×Unit):=program_Value_b lpK jnK program_Valid program_right program_sums_of x0 x1
noncomputable def c32:Ctr:=⟨[T25,(.sl T27)],[],[],.tup [T27,i64],fun x _ _=>program_Value x.1 x.2.1⟩
theorem e32 (lp:Lp) (jn:Jn) (program_Valid:((List Int)×List ((List Int)×Int×Int))→Option (Bool)) (program_right:(List (Int×Int))→Option (Bool)) (program_sums_of:(Int)→(List Int)→(List (Int×Int))→Option (Int×(Int×Int))):∀(x:TsS c32.as) (F:TsF c32.fs) (y:TsS c32.cs),program_Value_b lp jn program_Valid program_right program_sums_of x.1 x.2.1=runC lp jn (ctxT tabs lits (ctxP [] [(48,⟨T75,[(.sl i64),(.sl T27)],.one T27,fun x y=>program_sums_of x y.1 y.2.1⟩)] (ctxOf prog shs inls its [(46,⟨[(.sl T27)],[],[],.one .bool,fun x _ _=>program_right x.1⟩),(33,⟨[T25],[],[],.one .bool,fun x _ _=>program_Valid x.1⟩)] [(24,r24),(22,r22)]))) hints 4 32 f32 c32 x F y:=fun x F y=>by kernel_rfl
theorem l32:(ctxT tabs lits (ctxP [] [(48,m48)] (ctxOf prog shs inls its [(46,c46),(33,c33)] [(24,r24),(22,r22)]))).ok:=ctxT_ok (ctxP_ok (ctxOf_cons (ctxOf_cons (q24) (by kernel_rfl) ok33) (by kernel_rfl) ok46) (pcOk_nil) (mcOk_cons (by kernel_rfl) ok48 (mcOk_nil)))
theorem ok32:c32.ok prog 32:=Ctr.of_den l32 hmix (hl:=hints) (d:=4) func32 rfl (by decide) (e32 lpK jnK program_Valid program_right program_sums_of)
noncomputable def law05_ProgramForms_b (_:Lp) (_:Jn) (program_Valid:((List Int)×List ((List Int)×Int×Int))→Option (Bool)) (law05_awake:Option (Bool)) (law05_few:((List Int)×List ((List Int)×Int×Int))→Option (Bool)) (law05_short:(List (List (Int×Int)))→Option (Bool)) (ref05_Valid:((List Int)×List ((List Int)×Int×Int))→Option (Bool)) (ref02_All:(List (Int×Int))→Option (Bool)) (ref05_Sum:(List Int)→(List (Int×Int))→Option ((Int×Int)×Int×Unit)) (ref05_Feasible:((List Int)×List ((List Int)×Int×Int))→(List (Int×Int))→Option (Bool×Int×Unit)) (program_Feasible:((List Int)×List ((List Int)×Int×Int))→(List (Int×Int))→Option (Bool×Int×Unit)) (program_Value:((List Int)×List ((List Int)×Int×Int))→(List (Int×Int))→Option ((Int×Int)×Int×Unit)) (x0:(List Int)×List ((List Int)×Int×Int)) (x1:List (Int×Int)):Option Bool :=
 obind law05_awake fun (t:Bool)=>bif !t then some false else obind (law05_few x0) fun (t:Bool) =>
 let v6:Bool:=!t;
 let v7:Bool:=!v6;
 let v8:Bool:=!v7||v7;bif v8 then bif v8 then obind (bif v7 then law05_short [x1] else some false) fun (t:Bool)=>bif v8 then bif v6||v7 then bif bif v6 then true else !t then
  some true else obind (ref05_Valid x0) fun (t:Bool) =>
 let v11:Bool:=!t;
 let v12:Bool:=!v11;
 let v13:Bool:=!v12||v12;obind (program_Feasible x0 x1) fun (t_1:Bool×Int×PUnit) =>
 let v15:Bool:=!t_1.1;
 let v16:Bool:=!v15||v15;
 let v17:Bool:=bif v15 then decide (t_1.2.1=(1:Int)) else false;
 let v18:Bool:=bif v15 then decide (t_1.2.1=(3:Int)) else false;
 let v19:Bool:=!v17||v17;
 let v20:Bool:=!v18||v18;obind (program_Value x0 x1) fun (t_2:(Int×Int)×Int×PUnit) =>
 let v22:Bool:=decide (t_2.1.1=(0:Int))&&(decide (t_2.1.2=(0:Int))&&true);
 let v23:Bool:=bif v17 then v22 else false;
 let v24:Bool:=bif v18 then v22 else false;
 let v25:Bool:=!v23||v23;
 let v26:Bool:=!v24||v24;obind (program_Valid x0) fun (t_3:Bool)=>bif !decide (t_3=t) then some false else bif v13 then obind (bif v12 then ref02_All x1 else some false) fun
  (t:Bool)=>bif v13 then bif v11||v12 then bif bif v11 then true else !t then bif v16 then bif v16 then bif v19&&v19 then bif v19 then bif v25 then bif v25 then some (bif v23 then
  decide (t_2.2.1=(1:Int)) else false) else none else none else none else none else none else none else bif !decide ((↑(List.length x1):Int)=(↑(List.length x0.1):Int))
  then bif v16 then bif v16 then bif v20&&v20 then bif v20 then bif v26 then bif v26 then some (bif v24 then decide (t_2.2.1=(3:Int)) else false) else none else none else none
  else none else none else none else obind (ref05_Feasible x0 x1) fun (t:Bool×Int×PUnit) =>
 let v30:Bool:=decide (t_1.1=t.1);
 let v31:Bool:=!v30||v30;
 let v32:Bool:=bif v30 then decide (t_1.2.1=t.2.1) else false;
 let v33:Bool:=!v32||v32;obind (ref05_Sum x0.1 x1) fun (t:(Int×Int)×Int×PUnit) =>
 let v35:Bool:=bif v32 then decide (t_2.1.1=t.1.1)&&(decide (t_2.1.2=t.1.2)&&true) else false;
 let v36:Bool:=!v35||v35;bif v31&&v31 then bif v31 then bif v33&&v33 then bif v33 then bif v36&&v36 then bif v36 then some (bif v35 then decide (t_2.2.1=t.2.1) else
  false) else none else none else none else none else none else none else none else none else none else none else none else none else none
noncomputable def law05_ProgramForms (x0:(List Int)×List ((List Int)×Int×Int)) (x1:List (Int×Int)):Option Bool:=law05_ProgramForms_b lpK jnK program_Valid law05_awake law05_few law05_short ref05_Valid ref02_All ref05_Sum ref05_Feasible program_Feasible program_Value x0 x1
noncomputable def c6:Ctr:=⟨[T25,(.sl T27)],[],[],.one .bool,fun x _ _=>law05_ProgramForms x.1 x.2.1⟩
theorem e6 (lp:Lp) (jn:Jn) (program_Valid:((List Int)×List ((List Int)×Int×Int))→Option (Bool)) (law05_awake:Option (Bool)) (law05_few:((List Int)×List ((List Int)×Int×Int))→Option (Bool)) (law05_short:(List (List (Int×Int)))→Option (Bool)) (ref05_Valid:((List Int)×List ((List Int)×Int×Int))→Option (Bool)) (ref02_All:(List (Int×Int))→Option (Bool)) (ref05_Sum:(List Int)→(List (Int×Int))→Option ((Int×Int)×Int×Unit)) (ref05_Feasible:((List Int)×List ((List Int)×Int×Int))→(List (Int×Int))→Option (Bool×Int×Unit)) (program_Feasible:((List Int)×List ((List Int)×Int×Int))→(List (Int×Int))→Option (Bool×Int×Unit)) (program_Value:((List Int)×List ((List Int)×Int×Int))→(List (Int×Int))→Option ((Int×Int)×Int×Unit)):∀(x:TsS c6.as) (F:TsF c6.fs) (y:TsS c6.cs),law05_ProgramForms_b lp jn program_Valid law05_awake law05_few law05_short ref05_Valid ref02_All ref05_Sum ref05_Feasible program_Feasible program_Value x.1 x.2.1=runC lp jn (ctxT tabs lits (ctxOf prog shs inls its [(32,⟨[T25,(.sl T27)],[],[],.tup [T27,i64],fun x _ _=>program_Value x.1 x.2.1⟩),(31,⟨[T25,(.sl T27)],[],[],.tup [.bool,i64],fun x _ _=>program_Feasible x.1 x.2.1⟩),(34,⟨[T25,(.sl T27)],[],[],.tup [.bool,i64],fun x _ _=>ref05_Feasible x.1 x.2.1⟩),(35,⟨[(.sl i64),(.sl T27)],[],[],.tup [T27,i64],fun x _ _=>ref05_Sum x.1 x.2.1⟩),(18,⟨[(.sl T27)],[],[],.one .bool,fun x _ _=>ref02_All x.1⟩),(16,⟨[T25],[],[],.one .bool,fun x _ _=>ref05_Valid x.1⟩),(13,⟨[(.sl (.sl T27))],[],[],.one .bool,fun x _ _=>law05_short x.1⟩),(12,⟨[T25],[],[],.one .bool,fun x _ _=>law05_few x.1⟩),(11,⟨[],[],[],.one .bool,fun _ _ _=>law05_awake⟩),(33,⟨[T25],[],[],.one .bool,fun x _ _=>program_Valid x.1⟩)] [(24,r24),(22,r22)])) hints 4 6 f6 c6 x F y:=fun x F y=>by kernel_rfl
noncomputable def law05_ProgramBeats_b (_:Lp) (_:Jn) (ratio_Cmp:(Int×Int)→(Int×Int)→Option (Int×Int×Unit)) (program_Solve:((List Int)×List ((List Int)×Int×Int))→Option (((Int×Int)×(List (Int×Int))×List (Int×Int))×Int×Unit)) (law05_awake:Option (Bool)) (law05_few:((List Int)×List ((List Int)×Int×Int))→Option (Bool)) (law05_short:(List (List (Int×Int)))→Option (Bool)) (program_Feasible:((List Int)×List ((List Int)×Int×Int))→(List (Int×Int))→Option (Bool×Int×Unit)) (program_Value:((List Int)×List ((List Int)×Int×Int))→(List (Int×Int))→Option ((Int×Int)×Int×Unit)) (x0:(List Int)×List ((List Int)×Int×Int)) (x1:List (Int×Int)):Option Bool :=
 obind law05_awake fun (t:Bool)=>bif !t then some false else obind (law05_few x0) fun (t:Bool) =>
 let v6:Bool:=!t;
 let v7:Bool:=!v6;
 let v8:Bool:=!v7||v7;bif v8 then bif v8 then obind (bif v7 then law05_short [x1] else some false) fun (t:Bool)=>bif v8 then bif v6||v7 then bif bif v6 then true else !t then
  some true else obind (program_Feasible x0 x1) fun (t:Bool×Int×PUnit) =>
 let v11:Bool:=!t.1;
 let v12:Bool:=!decide (t.2.1=(0:Int));
 let v13:Bool:=!v12;bif !v13||v13 then bif v12||v13 then bif bif v12 then true else v11 then some v11 else obind (program_Solve x0) fun (t:((Int×Int)×List (Int×Int)×List
  (Int×Int))×Int×PUnit) =>
 let v15:Bool:=decide (t.2.1=(21:Int));
 let v16:Bool:=!v15;bif !decide (t.2.1=(0:Int)) then bif !v16||v16 then bif v15||v16 then some (bif v15 then true else decide (t.2.1=(5:Int))) else none else none
  else obind (program_Value x0 x1) fun (t_1:(Int×Int)×Int×PUnit)=>bif !decide (t_1.2.1=(0:Int)) then some (decide (t_1.2.1=(5:Int))) else obind (ratio_Cmp
  t.1.1 t_1.1) fun (t:Int×Int×PUnit) =>
 let v19:Bool:=decide (t.2.1=(0:Int));
 let v20:Bool:=!v19||v19;bif v20 then bif v20 then some (bif v19 then decide (t.1≤(0:Int)) else false) else none else none else none else none else none else none else none
  else none
noncomputable def law05_ProgramBeats (x0:(List Int)×List ((List Int)×Int×Int)) (x1:List (Int×Int)):Option Bool:=law05_ProgramBeats_b lpK jnK ratio_Cmp program_Solve law05_awake law05_few law05_short program_Feasible program_Value x0 x1
noncomputable def c7:Ctr:=⟨[T25,(.sl T27)],[],[],.one .bool,fun x _ _=>law05_ProgramBeats x.1 x.2.1⟩
theorem e7 (lp:Lp) (jn:Jn) (ratio_Cmp:(Int×Int)→(Int×Int)→Option (Int×Int×Unit)) (program_Solve:((List Int)×List ((List Int)×Int×Int))→Option (((Int×Int)×(List (Int×Int))×List (Int×Int))×Int×Unit)) (law05_awake:Option (Bool)) (law05_few:((List Int)×List ((List Int)×Int×Int))→Option (Bool)) (law05_short:(List (List (Int×Int)))→Option (Bool)) (program_Feasible:((List Int)×List ((List Int)×Int×Int))→(List (Int×Int))→Option (Bool×Int×Unit)) (program_Value:((List Int)×List ((List Int)×Int×Int))→(List (Int×Int))→Option ((Int×Int)×Int×Unit)):∀(x:TsS c7.as) (F:TsF c7.fs) (y:TsS c7.cs),law05_ProgramBeats_b lp jn ratio_Cmp program_Solve law05_awake law05_few law05_short program_Feasible program_Value x.1 x.2.1=runC lp jn (ctxT tabs lits (ctxOf prog shs inls its [(32,⟨[T25,(.sl T27)],[],[],.tup [T27,i64],fun x _ _=>program_Value x.1 x.2.1⟩),(31,⟨[T25,(.sl T27)],[],[],.tup [.bool,i64],fun x _ _=>program_Feasible x.1 x.2.1⟩),(13,⟨[(.sl (.sl T27))],[],[],.one .bool,fun x _ _=>law05_short x.1⟩),(12,⟨[T25],[],[],.one .bool,fun x _ _=>law05_few x.1⟩),(11,⟨[],[],[],.one .bool,fun _ _ _=>law05_awake⟩),(21,⟨[T25],[],[],.tup [T30,i64],fun x _ _=>program_Solve x.1⟩),(26,⟨[T27,T27],[],[],.tup [i64,i64],fun x _ _=>ratio_Cmp x.1 x.2.1⟩)] [(24,r24),(22,r22)])) hints 4 7 f7 c7 x F y:=fun x F y=>by kernel_rfl
theorem l7:(ctxT tabs lits (ctxOf prog shs inls its [(32,c32),(31,c31),(13,c13),(12,c12),(11,c11),(21,c21),(26,c26)] [(24,r24),(22,r22)])).ok:=ctxT_ok (ctxOf_cons (ctxOf_cons (ctxOf_cons (ctxOf_cons (ctxOf_cons (ctxOf_cons (ctxOf_cons (q24) (by kernel_rfl) ok26) (by kernel_rfl) ok21) (by kernel_rfl) ok11) (by kernel_rfl) ok12) (by kernel_rfl) ok13) (by kernel_rfl) ok31) (by kernel_rfl) ok32)
theorem ok7:c7.ok prog 7:=Ctr.of_den l7 hmix (hl:=hints) (d:=4) func7 rfl (by decide) (e7 lpK jnK ratio_Cmp program_Solve law05_awake law05_few law05_short program_Feasible program_Value)
end Go.Proofs.Ytnbbackjofgcfaa

namespace Go.Proofs.Ytnbbackjofgcfaa
namespace Dn
section
variable {T R α σ:Type}
theorem obind_some' {t:T} {k:T→Option R}:obind (some t) k=k t:=rfl
theorem loopF_eq {F:(α→Option R)→α→Option R} {g:α→Option R} (I:α→Prop) (μ:α→Nat)
  (h:∀x rec,I x→(∀y,I y→μ y<μ x→rec y=g y)→F rec x=g x):∀{n:Nat} {x:α},I x→μ x<n→loopF F n x=g x
 | 0,x,_,hn=>by omega
 | n+1,x,hx,hn=>by
  rw[loopF_succ]
  exact h x _ hx fun y hy hlt=>loopF_eq I μ h hy (by omega)
theorem lpK_loop {F:(α→Option R)→α→Option R} {g:α→Option R} (I:α→Prop) (μ:α→Nat)
  (h:∀x rec,I x→(∀y,I y→μ y<μ x→rec y=g y)→F rec x=g x) {x:α} (hx:I x) (hn:μ x<1180591620717411303424):lpK α R F x=g x:=loopF_eq I μ h hx hn
theorem jnK_eq' {j:α→Option R} {f:(α→Option R)→Option R}:jnK α R j f=f j:=rfl
theorem wrap_id {x:Int} (h1: -9223372036854775808≤x) (h2:x<9223372036854775808):IntKind.wrap .i64 x=x:=by
 rw[IntKind.wrap_i64];omega
def upF (b:Nat→σ→(σ→Option R)→Option R) (f:σ→Option R):Nat→Nat→σ→Option R
 | 0,_,s=>f s
 | k+1,i,s=>b i s (upF b f k (i+1))
theorem loopF_up {F:(α→Option R)→α→Option R} (n:Nat) (hn:n≤1180591620717411303423) (enc:Nat→σ→α) (b:Nat→σ→(σ→Option R)→Option R) (f:σ→Option R)
  (hb:∀again (i:Nat) s,i<n→F again (enc i s)=b i s (fun s'=>again (enc (i+1) s'))) (hf:∀again s,F again (enc n s)=f s) (s:σ) :
  loopF F K0 (enc 0 s)=upF b f n 0 s:=by
 have key:∀(k:Nat) (i:Nat) (m:Nat) (s:σ),i+k=n→k<m→loopF F m (enc i s)=upF b f k i s:=by
  intro k
  induction k with
  | zero =>
   intro i m s h1 h2
   obtain ⟨m,rfl⟩:∃m',m=m'+1:=⟨m - 1,by omega⟩
   have:i=n:=by omega
   subst this
   simp only[loopF_succ,hf,upF]
  | succ k ih =>
   intro i m s h1 h2
   obtain ⟨m,rfl⟩:∃m',m=m'+1:=⟨m - 1,by omega⟩
   simp only[loopF_succ,upF]
   rw[hb _ _ _ (by omega)]
   congr 1
   funext s'
   exact ih (i+1) m s' (by omega) (by omega)
 exact key n 0 K0 s (by omega) (by unfold K0;omega)
theorem inB_nat {i n:Nat}:inB (i:Int) n=decide (i<n):=by
 rw[Bool.eq_iff_iff,inB_iff,decide_eq_true_iff];omega
theorem inB_of {i:Int} {n:Nat} (h1:0≤i) (h2:i<n):inB i n=true:=inB_iff.2 ⟨h1,h2⟩
theorem nzB_of {n:Int} (h:n≠0):nzB n=true:=nzB_iff.2 h
theorem fitB_of {n k:Nat} (h:n*k≤140737488355328):fitB n k=true:=fitB_iff.2 h
theorem ble_of {n m:Nat} (h:n≤m):Nat.ble n m=true:=by rw[Nat.ble_eq];exact h
theorem cT0 {α:Sort _} {c:Bool} (h:c=true) (a b:α):cond c a b=a:=by subst h;rfl
theorem cT {α:Sort _} (a b:α):cond true a b=a:=cT0 (Eq.trans rfl rfl) a b
theorem cF0 {α:Sort _} {c:Bool} (h:c=false) (a b:α):cond c a b=b:=by subst h;rfl
theorem cF {α:Sort _} (a b:α):cond false a b=b:=cF0 (Eq.trans rfl rfl) a b
theorem or_self_not {b:Bool}:(b||!b)=true:=by cases b<;>rfl
theorem not_or_self' {b:Bool}:(!b||b)=true:=by cases b<;>rfl
theorem bif_false' {b:Bool} {c:Bool}:(bif b then c else false)=(b&&c):=by cases b<;>rfl
theorem bif_true' {b:Bool} {c:Bool}:(bif b then true else c)=(b||c):=by cases b<;>rfl
theorem ite_max {a b:Int}:(if b>a then b else a)=max a b:=by omega
theorem getD_nat {l:List α} {d:α} {i:Nat} (h:i<l.length):l.getD i d=l[i]:=by simp[List.getD,h]
end
end Dn
end Go.Proofs.Ytnbbackjofgcfaa

namespace Go.Proofs.Ytnbbackjofgcfaa
namespace Dn
abbrev Fq:=Int×Int
def okF (a:Fq):Prop:=(1≤a.2∧a.2≤1152921504606846976)∧(-1152921504606846976≤a.1∧a.1≤1152921504606846976)∧Nat.gcd a.1.natAbs a.2.natAbs=1
instance (a:Fq):Decidable (okF a):=by unfold okF;infer_instance
def qv (a:Fq):Rat:=mkRat a.1 a.2.toNat
def fitsQ (q:Rat):Prop:=q.num.natAbs≤1152921504606846976∧q.den≤1152921504606846976
instance (q:Rat):Decidable (fitsQ q):=by unfold fitsQ;infer_instance
def prQ (q:Rat):Fq:=(q.num,(q.den:Int))
def fitQ (q:Rat):Fq×Int×Unit:=if fitsQ q then (prQ q,0,()) else ((0,0),5,())
theorem okF_num {a:Fq} (h:okF a):(qv a).num=a.1:=by
 obtain ⟨⟨h1,h2⟩,_,h3⟩:=h
 have h0:a.2.toNat≠0:=by omega
 have h4:Nat.gcd a.2.toNat a.1.natAbs=1:=by rw[Nat.gcd_comm,show a.2.toNat=a.2.natAbs by omega];exact h3
 rw[qv,Rat.num_mkRat,if_neg h0,h4]
 simp
theorem okF_den {a:Fq} (h:okF a):((qv a).den:Int)=a.2:=by
 obtain ⟨⟨h1,h2⟩,_,h3⟩:=h
 have h0:a.2.toNat≠0:=by omega
 have h4:Nat.gcd a.2.toNat a.1.natAbs=1:=by rw[Nat.gcd_comm,show a.2.toNat=a.2.natAbs by omega];exact h3
 rw[qv,Rat.den_mkRat,if_neg h0,h4]
 simp;omega
theorem qv_prQ (q:Rat):qv (prQ q)=q:=by
 unfold qv prQ
 simp only[Int.toNat_natCast]
 exact Rat.mkRat_self q
theorem okF_prQ {q:Rat} (h:fitsQ q):okF (prQ q):=by
 obtain ⟨h1,h2⟩:=h
 have:=q.den_pos
 refine ⟨⟨?_,?_⟩,⟨?_,?_⟩,?_⟩
 ·simp only[prQ];omega
 ·simp only[prQ];omega
 ·simp only[prQ];omega
 ·simp only[prQ];omega
 ·simp only[prQ]
  rw[Int.natAbs_natCast]
  exact q.reduced
theorem fitQ_cases (q:Rat):(fitsQ q∧fitQ q=(prQ q,0,()))∨(¬ fitsQ q∧fitQ q=((0,0),5,())):=by
 unfold fitQ
 by_cases h:fitsQ q
 ·exact .inl ⟨h,by rw[if_pos h]⟩
 ·exact .inr ⟨h,by rw[if_neg h]⟩
theorem qv_int (n:Int):qv (n,1)=(n:Rat):=by
 show mkRat n 1=(n:Rat)
 rw[Rat.mkRat_eq_div]
 show (n:Rat) / ((1:Nat):Rat)=n
 rw[show ((1:Nat):Rat)=1 from rfl]
 grind
theorem okF_int {n:Int} (h1: -1152921504606846976≤n) (h2:n≤1152921504606846976):okF (n,1):=⟨⟨by simp,by simp⟩,⟨h1,h2⟩,by simp⟩
theorem okF_nonneg {a:Fq} (h:okF a):0≤qv a↔0≤a.1:=by rw[←Rat.num_nonneg,okF_num h]
theorem okF_zero {a:Fq} (h:okF a):qv a=0↔a.1=0:=by rw[←Rat.num_eq_zero,okF_num h]
theorem okF_neg {a:Fq} (h:okF a):qv a<0↔a.1<0:=by
 rw[←Rat.not_le,okF_nonneg h];omega
theorem okF_le {a b:Fq} (ha:okF a) (hb:okF b):qv a≤qv b↔a.1*b.2≤b.1*a.2:=by
 rw[Rat.le_iff,okF_num ha,okF_num hb,okF_den ha,okF_den hb]
theorem okF_lt {a b:Fq} (ha:okF a) (hb:okF b):qv a<qv b↔a.1*b.2<b.1*a.2:=by
 rw[Rat.lt_iff,okF_num ha,okF_num hb,okF_den ha,okF_den hb]
def sgn (s:Bool) (n:Nat):Int:=if s then -(n:Int) else n
theorem mkQ_low {s:Bool} {n d:Nat} (hd:0<d) (hc:Nat.gcd n d=1):(mkRat (sgn s n) d).num=sgn s n∧(mkRat (sgn s n) d).den=d:=by
 have h0:d≠0:=by omega
 have ha:(sgn s n).natAbs=n:=by unfold sgn;split<;>simp
 have hg:Nat.gcd d (sgn s n).natAbs=1:=by rw[ha,Nat.gcd_comm];exact hc
 rw[Rat.num_mkRat,Rat.den_mkRat,if_neg h0,if_neg h0,hg]
 simp
theorem mkQ_div {s:Bool} {n d:Nat} (hd:0<d):mkRat (sgn s n) d=mkRat (sgn s (n / Nat.gcd n d)) (d / Nat.gcd n d)∧0<d / Nat.gcd n d∧Nat.gcd (n / Nat.gcd n d) (d / Nat.gcd n d)=1:=by
 have hg:0<Nat.gcd n d:=Nat.gcd_pos_of_pos_right _ hd
 have h1:n / Nat.gcd n d*Nat.gcd n d=n:=Nat.div_mul_cancel (Nat.gcd_dvd_left n d)
 have h2:d / Nat.gcd n d*Nat.gcd n d=d:=Nat.div_mul_cancel (Nat.gcd_dvd_right n d)
 refine ⟨?_,Nat.div_pos (Nat.le_of_dvd hd (Nat.gcd_dvd_right n d)) hg,Nat.gcd_div_gcd_div_gcd_of_pos_right hd⟩
 have h3:sgn s n=sgn s (n / Nat.gcd n d)*(Nat.gcd n d:Int):=by
  unfold sgn
  split
  ·rw[Int.neg_mul,←Int.natCast_mul,h1]
  ·rw[←Int.natCast_mul,h1]
 have h4:mkRat (sgn s n) d=mkRat (sgn s (n / Nat.gcd n d)*(Nat.gcd n d:Int)) (d / Nat.gcd n d*Nat.gcd n d):=by rw[←h3,h2]
 rw[h4]
 exact Rat.mkRat_mul_right (by omega)
theorem mkQ_congr {s:Bool} {n d m e:Nat} (hd:0<d) (he:0<e) (h:n*e=m*d):mkRat (sgn s n) d=mkRat (sgn s m) e:=by
 rw[Rat.mkRat_eq_iff (by omega) (by omega)]
 unfold sgn
 split
 ·rw[Int.neg_mul,Int.neg_mul,←Int.natCast_mul,←Int.natCast_mul,h]
 ·rw[←Int.natCast_mul,←Int.natCast_mul,h]
theorem fit_low {s:Bool} {n d:Nat} (hd:0<d) (hc:Nat.gcd n d=1):fitQ (mkRat (sgn s n) d)=if n≤1152921504606846976∧d≤1152921504606846976 then ((sgn s n,(d:Int)),0,()) else ((0,0),5,()):=by
 obtain ⟨h1,h2⟩:=mkQ_low (s:=s) hd hc
 have ha:(sgn s n).natAbs=n:=by unfold sgn;split<;>simp
 unfold fitQ
 have e:fitsQ (mkRat (sgn s n) d)↔n≤1152921504606846976∧d≤1152921504606846976:=by unfold fitsQ;rw[h1,h2,ha]
 have e2:prQ (mkRat (sgn s n) d)=(sgn s n,(d:Int)):=by unfold prQ;rw[h1,h2]
 rw[e2]
 by_cases h:n≤1152921504606846976∧d≤1152921504606846976
 ·rw[if_pos h,if_pos (e.2 h)]
 ·rw[if_neg h,if_neg (fun hh=>h (e.1 hh))]
theorem size_sgn (n:Int):n=sgn (decide (n<0)) n.natAbs:=by
 unfold sgn
 by_cases h:n<0
 ·simp[h];omega
 ·simp[h];omega
theorem okF_mkQ (a:Fq):qv a=mkRat (sgn (decide (a.1<0)) a.1.natAbs) a.2.toNat:=by
 unfold qv
 rw[←size_sgn]
theorem mul_sgn {s t:Bool} {m n:Nat}:sgn s m*sgn t n=sgn (s !=t) (m*n):=by
 unfold sgn
 cases s<;>cases t<;>simp[Int.neg_mul,Int.mul_neg]
theorem mkQ_mul {s t:Bool} {m n d e:Nat}:mkRat (sgn s m) d*mkRat (sgn t n) e=mkRat (sgn (s !=t) (m*n)) (d*e):=by
 rw[Rat.mkRat_mul_mkRat,mul_sgn]
theorem sgn_zero (s t:Bool):sgn s 0=sgn t 0:=by unfold sgn;cases s<;>cases t<;>rfl
end Dn
end Go.Proofs.Ytnbbackjofgcfaa

namespace Go.Proofs.Ytnbbackjofgcfaa
open Try Dn Dn.Sh
theorem u_wrap {x:Int} (h1:0≤x) (h2:x<18446744073709551616):IntKind.wrap .u64 x=x:=by
 rw[IntKind.wrap_u64];omega
theorem size_ok {x:Int} (h1: -9223372036854775808≤x) (h2:x<9223372036854775808):ratio_size x=some (x.natAbs:Int):=by
 simp only[ratio_size,ratio_size_b]
 by_cases h:x<0
 ·simp only[h,decide_true,cond_true]
  rw[IntKind.wrap_u64,IntKind.wrap_u64]
  congr 1;omega
 ·simp only[h,decide_false,cond_false]
  rw[u_wrap (by omega) (by omega)]
  congr 1;omega
theorem gcd_ok (m n:Nat) (hn:n<18446744073709551616):ratio_gcd (m:Int) (n:Int)=some ((Nat.gcd m n:Nat):Int):=by
 simp only[ratio_gcd,ratio_gcd_b]
 refine lpK_loop (g:=fun x=>some ((Nat.gcd x.1.toNat x.2.1.toNat:Nat):Int)) (I:=fun (x:Int×Int×PUnit)=>0≤x.1∧0≤x.2.1) (μ:=fun (x:Int×Int×PUnit)=>x.2.1.toNat) (x:=((m:Int),(n:Int),PUnit.unit)) ?_ ⟨Int.natCast_nonneg _,Int.natCast_nonneg _⟩ (by simp only;omega)
 rintro ⟨a,b,_⟩ rec ⟨h1,h2⟩ hrec
 simp only at h1 h2 ⊢
 by_cases hb:b=0
 ·subst hb
  simp only[decide_true,Bool.not_true,cond_false,Int.toNat_zero,Nat.gcd_zero_right]
  congr 1;omega
 ·rw[decide_eq_false hb,nzB_of hb,Int.tmod_eq_emod_of_nonneg h1]
  simp only[Bool.not_false,cT]
  have h3:0≤a % b:=Int.emod_nonneg _ hb
  have h4:a % b<b:=Int.emod_lt_of_pos _ (by omega)
  rw[hrec _ ⟨by simp only;omega,by simp only;omega⟩ (by simp only;omega)]
  simp only
  congr 2
  rw[Int.toNat_emod h1 h2,Nat.gcd_comm a.toNat,Nat.gcd_rec b.toNat a.toNat,Nat.gcd_comm]
theorem signed_ok (s:Bool) (n d:Nat) (h1:n<18446744073709551616) (h2:d<18446744073709551616) :
  ratio_signed s (n:Int) (d:Int)=some (if n≤1152921504606846976∧d≤1152921504606846976 then ((sgn s n,(d:Int)),0,()) else ((0,0),5,())):=by
 simp only[ratio_signed,ratio_signed_b,not_or_self',or_self_not,cond_true]
 by_cases hn:n≤1152921504606846976
 ·by_cases hd:d≤1152921504606846976
  ·have e1:decide ((n:Int)>1152921504606846976)=false:=decide_eq_false (by omega)
   have e2:decide ((d:Int)>1152921504606846976)=false:=decide_eq_false (by omega)
   rw[wrap_id (x:=(n:Int)) (by omega) (by omega),wrap_id (x:=(d:Int)) (by omega) (by omega),wrap_id (x:=0 - (n:Int)) (by omega) (by omega)]
   simp only[e1,e2,cond_false,hn,hd,and_self,if_true]
   cases s<;>simp[sgn]
  ·have e2:decide ((d:Int)>1152921504606846976)=true:=decide_eq_true (by omega)
   simp only[e2,bif_true',Bool.or_true,cond_true,hd,and_false,if_false]
 ·have e1:decide ((n:Int)>1152921504606846976)=true:=decide_eq_true (by omega)
  simp only[e1,cond_true,hn,false_and,if_false]
def divQ (n d:Int):Rat:=mkRat (sgn (decide (n<0) !=decide (d<0)) n.natAbs) d.natAbs
theorem divQ_eq {n d:Int} (hd:d≠0):divQ n d=(n:Rat) / d:=by
 unfold divQ
 rw[←Rat.divInt_eq_div,show mkRat (sgn (decide (n<0) !=decide (d<0)) n.natAbs) d.natAbs=Rat.divInt (sgn (decide (n<0) !=decide (d<0)) n.natAbs) (d.natAbs:Int) from (Rat.divInt_ofNat _ _).symm]
 rw[Rat.divInt_eq_divInt_iff (by omega) hd]
 unfold sgn
 by_cases h1:n<0<;>by_cases h2:d<0
 ·rw[show ((n.natAbs:Nat):Int)= -n by omega,show ((d.natAbs:Nat):Int)= -d by omega]
  simp[h1,h2,Int.neg_mul,Int.mul_neg]
 ·rw[show ((n.natAbs:Nat):Int)= -n by omega,show ((d.natAbs:Nat):Int)=d by omega]
  simp[h1,h2]
 ·rw[show ((n.natAbs:Nat):Int)=n by omega,show ((d.natAbs:Nat):Int)= -d by omega]
  simp[h1,h2,Int.neg_mul,Int.mul_neg]
 ·rw[show ((n.natAbs:Nat):Int)=n by omega,show ((d.natAbs:Nat):Int)=d by omega]
  simp[h1,h2]
theorem tdiv_nat (m n:Nat):Int.tdiv (m:Int) (n:Int)=((m / n:Nat):Int):=by
 rw[Int.tdiv_eq_ediv_of_nonneg (by omega)]
 rfl
theorem Make_ok {n d:Int} (h1: -9223372036854775808≤n) (h2:n<9223372036854775808) (h3: -9223372036854775808≤d) (h4:d<9223372036854775808) :
  ratio_Make n d=some (if d=0 then ((0,0),16,()) else fitQ (divQ n d)):=by
 simp only[ratio_Make,ratio_Make_b,not_or_self',Bool.and_self,cond_true]
 by_cases hd:d=0
 ·simp only[hd,decide_true,cond_true,if_true]
 ·simp only[hd,decide_false,cond_false,if_false]
  rw[size_ok h1 h2,obind_some',size_ok h3 h4,obind_some',gcd_ok _ _ (by omega),obind_some']
  have hg:0<Nat.gcd n.natAbs d.natAbs:=Nat.gcd_pos_of_pos_right _ (by omega)
  have a1:n.natAbs / Nat.gcd n.natAbs d.natAbs≤n.natAbs:=Nat.div_le_self _ _
  have a2:d.natAbs / Nat.gcd n.natAbs d.natAbs≤d.natAbs:=Nat.div_le_self _ _
  have hz:nzB ((Nat.gcd n.natAbs d.natAbs:Nat):Int)=true:=nzB_of (by omega)
  obtain ⟨m1,m2,m3⟩:=mkQ_div (s:=decide (n<0) !=decide (d<0)) (n:=n.natAbs) (d:=d.natAbs) (by omega)
  have hs:n=0→n.natAbs / Nat.gcd n.natAbs d.natAbs=0:=fun h=>by subst h;simp
  rw[hz,cond_true,cond_true,tdiv_nat,tdiv_nat]
  unfold divQ
  rw[m1]
  generalize n.natAbs / Nat.gcd n.natAbs d.natAbs=p at *
  generalize d.natAbs / Nat.gcd n.natAbs d.natAbs=q at *
  rw[u_wrap (by omega) (by omega),u_wrap (by omega) (by omega),signed_ok _ _ _ (by omega) (by omega),obind_some',fit_low m2 m3]
  have hs:sgn (bif !decide (n=0) then !decide (decide (n<0)=decide (d<0)) else false) p=sgn (decide (n<0) !=decide (d<0)) p:=by
   by_cases h0:n=0
   ·rw[hs h0]
    exact sgn_zero _ _
   ·simp only[h0,decide_false,Bool.not_false,cond_true]
    cases decide (n<0)<;>cases decide (d<0)<;>rfl
  rw[hs]
theorem Valid_ok {a:Fq}:ratio_Valid a=some (decide (okF a)):=by
 simp only[ratio_Valid,ratio_Valid_b,not_or_self',Bool.and_self,cond_true,bif_false']
 unfold okF
 by_cases h1:1≤a.2
 ·by_cases h2:a.2≤1152921504606846976
  ·by_cases h3: -1152921504606846976≤a.1
   ·by_cases h4:a.1≤1152921504606846976
    ·have e:IntKind.wrap .u64 a.2=((a.2.natAbs:Nat):Int):=by rw[u_wrap (by omega) (by omega)];omega
     simp only[ge_iff_le,h1,h2,h3,h4,decide_true,Bool.and_self,cond_true]
     rw[size_ok (by omega) (by omega),obind_some',e,gcd_ok _ _ (by omega),obind_some']
     congr 1
     rw[Bool.eq_iff_iff]
     simp only[Bool.true_and,decide_eq_true_eq,true_and]
     generalize Nat.gcd a.1.natAbs a.2.natAbs=g
     omega
    ·simp[obind_some',h4]
   ·simp[obind_some',h3]
  ·simp[obind_some',h2]
 ·simp[obind_some',h1]
end Go.Proofs.Ytnbbackjofgcfaa

namespace Go.Proofs.Ytnbbackjofgcfaa
open Try Dn Dn.Sh
theorem land32 {x:Int} (h1:0≤x) (h2:x<18446744073709551616):((Nat.land (Int.toNat (x % Int.ofNat 18446744073709551616)) (Int.toNat ((4294967295:Int) % Int.ofNat 18446744073709551616)):Nat):Int)=x % 4294967296:=by
 have e1:x % Int.ofNat 18446744073709551616=x:=Int.emod_eq_of_lt h1 h2
 have e2:Int.toNat ((4294967295:Int) % Int.ofNat 18446744073709551616)=2 ^ 32 - 1:=by decide
 rw[e1,e2]
 have:Nat.land x.toNat (2 ^ 32 - 1)=x.toNat % 2 ^ 32:=Nat.and_two_pow_sub_one_eq_mod x.toNat 32
 rw[this]
 omega
def hl (n:Nat):Int×Int:=(((n / 18446744073709551616:Nat):Int),((n % 18446744073709551616:Nat):Int))
theorem mulW {x y:Int} (x0:0≤x) (x1:x<18446744073709551616) (y0:0≤y) (y1:y<18446744073709551616):bits_Mul64 x y=some (x*y / 18446744073709551616,x*y % 18446744073709551616,()):=by
 have p32:(2:Int) ^ (32:Nat)=4294967296:=by decide
 simp only[bits_Mul64,bits_Mul64_b,p32,show decide ((0:Int)≤32)=true from rfl,cond_true]
 obtain ⟨a,b,ha,hb,hx⟩:∃a b,a=x / 4294967296∧b=x % 4294967296∧x=a*4294967296+b:=⟨_,_,rfl,rfl,by omega⟩
 obtain ⟨c,d,hc,hd,hy⟩:∃c d,c=y / 4294967296∧d=y % 4294967296∧y=c*4294967296+d:=⟨_,_,rfl,rfl,by omega⟩
 have fd:∀n:Int,Int.fdiv n 4294967296=n / 4294967296:=fun n=>Int.fdiv_eq_ediv_of_nonneg n (by omega)
 rw[land32 x0 x1,land32 y0 y1,←hb,←hd]
 simp only[fd,←ha,←hc]
 have a0:0≤a∧a≤4294967295:=by omega
 have b0:0≤b∧b≤4294967295:=by omega
 have c0:0≤c∧c≤4294967295:=by omega
 have d0:0≤d∧d≤4294967295:=by omega
 have mb:∀{m n:Int},0≤m∧m≤4294967295→0≤n∧n≤4294967295→0≤m*n∧m*n≤18446744065119617025:=fun {m n} hm hn=>⟨Int.mul_nonneg hm.1 hn.1,Int.le_trans (Int.mul_le_mul hm.2 hn.2 hn.1 (by omega)) (by decide)⟩
 have e1:=mb a0 c0
 have e2:=mb a0 d0
 have e3:=mb b0 c0
 have e4:=mb b0 d0
 have hxy:x*y=a*c*18446744073709551616+(a*d+b*c)*4294967296+b*d:=by rw[hx,hy];grind
 rw[IntKind.wrap_u64 (x*y)]
 rw[hxy]
 rw[u_wrap (x:=b) (by omega) (by omega),u_wrap (x:=d) (by omega) (by omega)]
 rw[u_wrap (x:=b*d) (by omega) (by omega),u_wrap (x:=a*d) (by omega) (by omega),u_wrap (x:=b*c) (by omega) (by omega),u_wrap (x:=a*c) (by omega) (by omega)]
 generalize b*d=bd at *
 generalize a*d=ad at *
 generalize b*c=bc at *
 generalize a*c=ac at *
 rw[u_wrap (x:=ad+bd / 4294967296) (by omega) (by omega)]
 generalize ht:ad+bd / 4294967296=t
 rw[land32 (by omega) (by omega)]
 rw[u_wrap (x:=t % 4294967296) (by omega) (by omega)]
 rw[u_wrap (x:=t % 4294967296+bc) (by omega) (by omega),u_wrap (x:=ac+t / 4294967296) (by omega) (by omega)]
 rw[u_wrap (x:=ac+t / 4294967296+(t % 4294967296+bc) / 4294967296) (by omega) (by omega)]
 congr 1
 ext
 ·simp only;omega
 ·rfl
theorem product_ok {m n:Nat} (hm:m<18446744073709551616) (hn:n<18446744073709551616):ratio_product (m:Int) (n:Int)=some (hl (m*n)):=by
 simp only[ratio_product,ratio_product_b]
 rw[mulW (by omega) (by omega) (by omega) (by omega),obind_some',←Int.natCast_mul]
 rfl
theorem hl_small {n:Nat} (h:n<18446744073709551616):hl n=(0,(n:Int)):=by
 unfold hl
 rw[Nat.div_eq_of_lt h,Nat.mod_eq_of_lt h]
 rfl
theorem hl_big {n:Nat} (h:¬ n<18446744073709551616):(hl n).1>0:=by
 unfold hl
 simp only
 omega
theorem Mul_ok {a b:Fq} (ha:okF a) (hb:okF b):ratio_Mul a b=some (fitQ (qv a*qv b)):=by
 simp only[ratio_Mul,ratio_Mul_b,Valid_ok,ha,hb,decide_true,obind_some',Bool.not_true,Bool.not_false,Bool.and_self,cond_true,cond_false,not_or_self',or_self_not]
 have ha':=ha
 have hb':=hb
 obtain ⟨⟨a1,a2⟩,⟨a3,a4⟩,a5⟩:=ha'
 obtain ⟨⟨b1,b2⟩,⟨b3,b4⟩,b5⟩:=hb'
 rw[okF_mkQ a,okF_mkQ b,mkQ_mul]
 obtain ⟨d,hd⟩:∃d:Nat,a.2=(d:Int):=⟨a.2.toNat,by omega⟩
 obtain ⟨e,he⟩:∃e:Nat,b.2=(e:Int):=⟨b.2.toNat,by omega⟩
 rw[size_ok (by omega) (by omega),size_ok (by omega) (by omega)]
 simp only[obind_some',hd,he,Int.toNat_natCast] at *
 rw[u_wrap (x:=(d:Int)) (by omega) (by omega),u_wrap (x:=(e:Int)) (by omega) (by omega),gcd_ok _ _ (by omega),obind_some',gcd_ok _ _ (by omega),obind_some']
 have sa:a.1.natAbs≤1152921504606846976:=by omega
 have sb:b.1.natAbs≤1152921504606846976:=by omega
 have za:a.1=0↔a.1.natAbs=0:=by omega
 have zb:b.1=0↔b.1.natAbs=0:=by omega
 have hlt:decide (a.1<0)=true→a.1.natAbs≠0:=fun h=>by have:=of_decide_eq_true h;omega
 rw[Int.natAbs_natCast] at a5 b5
 generalize a.1.natAbs=m at *
 generalize b.1.natAbs=n at *
 generalize decide (a.1<0)=s at *
 generalize decide (b.1<0)=t at *
 have hd0:0<d:=by omega
 have he0:0<e:=by omega
 have hg:0<Nat.gcd m e:=Nat.gcd_pos_of_pos_right _ he0
 have hh:0<Nat.gcd n d:=Nat.gcd_pos_of_pos_right _ hd0
 rw[nzB_of (show ((Nat.gcd m e:Nat):Int)≠0 by omega),nzB_of (show ((Nat.gcd n d:Nat):Int)≠0 by omega)]
 simp only[cond_true,tdiv_nat]
 have m1:m / Nat.gcd m e*Nat.gcd m e=m:=Nat.div_mul_cancel (Nat.gcd_dvd_left m e)
 have e1:e / Nat.gcd m e*Nat.gcd m e=e:=Nat.div_mul_cancel (Nat.gcd_dvd_right m e)
 have n1:n / Nat.gcd n d*Nat.gcd n d=n:=Nat.div_mul_cancel (Nat.gcd_dvd_left n d)
 have d1:d / Nat.gcd n d*Nat.gcd n d=d:=Nat.div_mul_cancel (Nat.gcd_dvd_right n d)
 have c1:Nat.Coprime (m / Nat.gcd m e) (e / Nat.gcd m e):=Nat.coprime_div_gcd_div_gcd hg
 have c2:Nat.Coprime (n / Nat.gcd n d) (d / Nat.gcd n d):=Nat.coprime_div_gcd_div_gcd hh
 have q1:m / Nat.gcd m e≤m:=Nat.div_le_self _ _
 have q2:e / Nat.gcd m e≤e:=Nat.div_le_self _ _
 have q3:n / Nat.gcd n d≤n:=Nat.div_le_self _ _
 have q4:d / Nat.gcd n d≤d:=Nat.div_le_self _ _
 have p2:0<e / Nat.gcd m e:=Nat.div_pos (Nat.le_of_dvd he0 (Nat.gcd_dvd_right m e)) hg
 have p4:0<d / Nat.gcd n d:=Nat.div_pos (Nat.le_of_dvd hd0 (Nat.gcd_dvd_right n d)) hh
 have x1:m / Nat.gcd m e∣m:=Nat.div_dvd_of_dvd (Nat.gcd_dvd_left m e)
 have x2:e / Nat.gcd m e∣e:=Nat.div_dvd_of_dvd (Nat.gcd_dvd_right m e)
 have x3:n / Nat.gcd n d∣n:=Nat.div_dvd_of_dvd (Nat.gcd_dvd_left n d)
 have x4:d / Nat.gcd n d∣d:=Nat.div_dvd_of_dvd (Nat.gcd_dvd_right n d)
 generalize Nat.gcd m e=g at *
 generalize Nat.gcd n d=h at *
 generalize m / g=m' at *
 generalize e / g=e' at *
 generalize n / h=n' at *
 generalize d / h=d' at *
 have cop:Nat.gcd (m'*n') (d'*e')=1:=by
  refine Nat.Coprime.mul_left (Nat.Coprime.mul_right ?_ c1) (Nat.Coprime.mul_right c2 ?_)
  ·exact Nat.Coprime.coprime_dvd_left x1 (Nat.Coprime.coprime_dvd_right x4 a5)
  ·exact Nat.Coprime.coprime_dvd_left x3 (Nat.Coprime.coprime_dvd_right x2 b5)
 have hq:mkRat (sgn (s !=t) (m*n)) (d*e)=mkRat (sgn (s !=t) (m'*n')) (d'*e'):=by
  refine mkQ_congr (Nat.mul_pos hd0 he0) (Nat.mul_pos p4 p2) ?_
  rw[←m1,←n1,←d1,←e1]
  grind
 rw[hq,fit_low (Nat.mul_pos p4 p2) cop]
 rw[u_wrap (by omega) (by omega),u_wrap (by omega) (by omega),product_ok (by omega) (by omega),obind_some',u_wrap (by omega) (by omega),u_wrap (by omega) (by omega),product_ok (by omega) (by omega),obind_some']
 by_cases hN:m'*n'<18446744073709551616
 ·rw[hl_small hN]
  by_cases hD:d'*e'<18446744073709551616
  ·rw[hl_small hD]
   simp only[show decide ((0:Int)>0)=false from rfl,cond_false]
   rw[signed_ok _ _ _ hN hD,obind_some']
   have hs:sgn (bif decide (((m'*n':Nat):Int)>0) then !decide (s=t) else false) (m'*n')=sgn (s !=t) (m'*n'):=by
    by_cases h0:m'*n'=0
    ·rw[h0];exact sgn_zero _ _
    ·rw[decide_eq_true (show ((m'*n':Nat):Int)>0 by omega)]
     cases s<;>cases t<;>rfl
   rw[hs]
  ·have:=hl_big hD
   simp only[show decide ((0:Int)>0)=false from rfl,cond_false,decide_eq_true this,cond_true]
   rw[if_neg (by omega)]
 ·have:=hl_big hN
  simp only[decide_eq_true this,cond_true]
  rw[if_neg (by omega)]
end Go.Proofs.Ytnbbackjofgcfaa

namespace Go.Proofs.Ytnbbackjofgcfaa
open Try Dn Dn.Sh
theorem fdiv_of {n d:Int} (h:0≤d):Int.fdiv n d=n / d:=Int.fdiv_eq_ediv_of_nonneg n h
theorem zero_hl {n:Nat} (_:n<340282366920938463463374607431768211456):(decide ((hl n).1=0)&&(decide ((hl n).2=0)&&true))=decide (n=0):=by
 rw[Bool.and_true,Bool.eq_iff_iff,Bool.and_eq_true,decide_eq_true_iff,decide_eq_true_iff,decide_eq_true_iff]
 simp only[hl]
 omega
end Go.Proofs.Ytnbbackjofgcfaa

namespace Go.Proofs.Ytnbbackjofgcfaa
open Try Dn Dn.Sh
theorem divMod_of {t b q r:Nat} (hr:r<b) (h:t=q*b+r):t / b=q∧t % b=r:=by
 subst h
 constructor
 ·rw[Nat.mul_comm,Nat.mul_add_div (by omega),Nat.div_eq_of_lt hr,Nat.add_zero]
 ·rw[Nat.mul_comm,Nat.mul_add_mod,Nat.mod_eq_of_lt hr]
theorem not_dec_eq {a b:Prop} [Decidable a] [Decidable b]:(!decide (decide a=decide b))=(decide a !=decide b):=by
 cases decide a<;>cases decide b<;>rfl
end Go.Proofs.Ytnbbackjofgcfaa

namespace Go.Proofs.Ytnbbackjofgcfaa
open Try Dn Dn.Sh
theorem rLess_ok {a b:Nat}:ratio_less (hl a) (hl b)=some (decide (a<b)):=by
 simp only[ratio_less,ratio_less_b]
 have e:decide (a<b)=(bif decide ((hl a).1<(hl b).1) then true else bif decide ((hl a).1=(hl b).1) then decide ((hl a).2<(hl b).2) else false):=by
  by_cases c1:(hl a).1<(hl b).1
  ·simp only[c1,decide_true,cond_true]
   simp only[hl] at c1
   exact decide_eq_true (by omega)
  ·by_cases c2:(hl a).1=(hl b).1
   ·rw[decide_eq_false c1,decide_eq_true c2,cond_true,cond_false]
    have e2:a<b↔(hl a).2<(hl b).2:=by
     simp only[hl] at c1 c2 ⊢
     omega
    rw[Bool.eq_iff_iff,decide_eq_true_iff,decide_eq_true_iff]
    exact e2
   ·simp only[c1,c2,decide_false,cond_false]
    simp only[hl] at c1 c2
    exact decide_eq_false (by omega)
 rw[e]
 cases decide ((hl a).1<(hl b).1)<;>cases decide ((hl a).1=(hl b).1)<;>rfl
theorem addC_hl {m n:Nat}:addC (hl m).2 (hl n).2 0=(((m % 18446744073709551616+n % 18446744073709551616) / 18446744073709551616:Nat):Int):=by
 simp only[addC,hl,Int.toNat_natCast,Int.toNat_zero,Nat.add_zero]
 rfl
theorem subC_hl {m n:Nat}:subC (hl m).2 (hl n).2 0=(((if m % 18446744073709551616<n % 18446744073709551616 then 1 else 0:Nat):Nat):Int):=by
 simp only[subC,hl,Int.toNat_natCast,Int.toNat_zero,Nat.add_zero]
 cases h:Nat.blt (m % 18446744073709551616) (n % 18446744073709551616) with
 | true =>
  have h':m % 18446744073709551616<n % 18446744073709551616:=by simpa [Nat.blt_eq] using h
  rw[if_pos h'];rfl
 | false =>
  have h':¬ m % 18446744073709551616<n % 18446744073709551616:=by
   intro h2
   have:Nat.blt (m % 18446744073709551616) (n % 18446744073709551616)=true:=by simpa [Nat.blt_eq] using h2
   rw[this] at h;cases h
  rw[if_neg h'];rfl
theorem rPlus_ok {m n:Nat} (h:m+n<340282366920938463463374607431768211456):ratio_plus (hl m) (hl n)=some (hl (m+n)):=by
 simp only[ratio_plus,ratio_plus_b,addC_hl]
 have c1:decide ((0:Int)≤(0:Int))=true:=rfl
 have c2:decide ((0:Int)≤(1:Int))=true:=rfl
 rw[c1,c2,decide_eq_true (show (0:Int)≤(((m % 18446744073709551616+n % 18446744073709551616) / 18446744073709551616:Nat):Int) by omega),decide_eq_true (show (((m % 18446744073709551616+n % 18446744073709551616) / 18446744073709551616:Nat):Int)≤1 by omega)]
 simp only[Bool.and_self,cT,Option.some.injEq,addO,hl,Int.toNat_natCast,Int.toNat_zero,Nat.add_zero,Prod.mk.injEq]
 constructor
 ·show ((_:Nat):Int)=((_:Nat):Int)
  omega
 ·show ((_:Nat):Int)=((_:Nat):Int)
  omega
theorem rMinus_ok {m n:Nat} (h:n≤m) (hm:m<340282366920938463463374607431768211456):ratio_minus (hl m) (hl n)=some (hl (m - n)):=by
 simp only[ratio_minus,ratio_minus_b,subC_hl]
 have c1:decide ((0:Int)≤(0:Int))=true:=rfl
 have c2:decide ((0:Int)≤(1:Int))=true:=rfl
 have hb:(if m % 18446744073709551616<n % 18446744073709551616 then 1 else 0:Nat)≤1:=by split<;>omega
 have hc:(if m % 18446744073709551616<n % 18446744073709551616 then 1 else 0:Nat)=1∧m % 18446744073709551616<n % 18446744073709551616∨(if m % 18446744073709551616<n % 18446744073709551616 then 1 else 0:Nat)=0∧¬ m % 18446744073709551616<n % 18446744073709551616:=by split<;>simp_all
 generalize (if m % 18446744073709551616<n % 18446744073709551616 then 1 else 0:Nat)=c at *
 rw[c1,c2,decide_eq_true (show (0:Int)≤(c:Int) by omega),decide_eq_true (show (c:Int)≤1 by omega)]
 simp only[Bool.and_self,cT,Option.some.injEq,subO,hl,Int.toNat_natCast,Int.toNat_zero,Nat.sub_zero,Prod.mk.injEq]
 constructor
 ·show ((_:Nat):Int)=((_:Nat):Int)
  omega
 ·show ((_:Nat):Int)=((_:Nat):Int)
  omega
noncomputable def lenT (T:ByteArray) (a b:Int):Option Int :=
 bif decide (a≥(256:Int)) then bif decide ((0:Int)≤(8:Int)) then bif inB (IntKind.wrap .u8 (Int.fdiv a ((2:Int) ^ (8:Nat)))) (256:Nat) then
  some (IntKind.wrap .i64 (IntKind.wrap .i64 (b+(8:Int))+IntKind.wrap .i64 (byteAt T (Int.toNat (IntKind.wrap .u8 (Int.fdiv a ((2:Int) ^ (8:Nat)))))))) else none else none
 else bif inB (IntKind.wrap .u8 a) (256:Nat) then some (IntKind.wrap .i64 (b+IntKind.wrap .i64 (byteAt T (Int.toNat (IntKind.wrap .u8 a))))) else none
noncomputable def lenU (T:ByteArray) (a b:Int):Option Int:=bif decide (a≥(65536:Int)) then bif decide ((0:Int)≤(16:Int)) then lenT T (Int.fdiv a ((2:Int) ^ (16:Nat))) (IntKind.wrap .i64 (b+(16:Int))) else none else lenT T a b
theorem len_table:∃T:ByteArray,(∀i,i<256→0≤byteAt T i∧byteAt T i≤8∧(0<i→i<2 ^ (byteAt T i).toNat∧2 ^ (byteAt T i).toNat≤2*i)) ∧
  ∀x,bits_Len64 x=bif decide (x≥(4294967296:Int)) then bif decide ((0:Int)≤(32:Int)) then lenU T (Int.fdiv x ((2:Int) ^ (32:Nat))) 32 else none else lenU T x 0 :=
 ⟨_,by decide +kernel,fun _=>rfl⟩
def isLen (n L:Nat):Prop:=n<2 ^ L∧2 ^ L≤2*n
theorem isLen_shift {n k L:Nat} (h:isLen (n / 2 ^ k) L):isLen n (L+k):=by
 obtain ⟨h1,h2⟩:=h
 have hk:0<2 ^ k:=Nat.two_pow_pos k
 unfold isLen
 rw[Nat.pow_add]
 constructor
 ·exact (Nat.div_lt_iff_lt_mul hk).1 h1
 ·have h3:n / 2 ^ k*2 ^ k≤n:=Nat.div_mul_le_self n _
  have h4:=Nat.mul_le_mul_right (2 ^ k) h2
  rw[Nat.mul_assoc] at h4
  omega
theorem u8_wrap {x:Int} (h1:0≤x) (h2:x<256):IntKind.wrap .u8 x=x:=by
 rw[IntKind.wrap_u8];omega
theorem Len64_ok {n:Nat} (h0:0<n) (h1:n<18446744073709551616):∃L:Nat,bits_Len64 (n:Int)=some (L:Int)∧isLen n L∧L≤64:=by
 obtain ⟨T,hT,hx⟩:=len_table
 have tab:∀i:Nat,0<i→i<256→∃L:Nat,byteAt T i=L∧L≤8∧isLen i L:=fun i h2 h3=>by
  obtain ⟨a1,a2,a3⟩:=hT i h3
  exact ⟨(byteAt T i).toNat,by omega,by omega,a3 h2⟩
 have p8:(2:Int) ^ (8:Nat)=256:=by decide
 have p16:(2:Int) ^ (16:Nat)=65536:=by decide
 have p32:(2:Int) ^ (32:Nat)=4294967296:=by decide
 have stepT:∀a b:Nat,0<a→a<65536→b≤48→∃L:Nat,lenT T (a:Int) (b:Int)=some ((L+b:Nat):Int)∧isLen a L∧L≤16:=fun a b ha hb hb2=>by
  unfold lenT
  by_cases h:a<256
  ·obtain ⟨L,e1,e2,e3⟩:=tab a ha h
   rw[decide_eq_false (show ¬ (a:Int)≥256 by omega),cond_false,u8_wrap (by omega) (by omega),inB_of (by omega) (by omega),cond_true,Int.toNat_natCast,e1,wrap_id (x:=(L:Int)) (by omega) (by omega),wrap_id (by omega) (by omega)]
   exact ⟨L,by congr 1;omega,e3,by omega⟩
  ·obtain ⟨L,e1,e2,e3⟩:=tab (a / 256) (by omega) (by omega)
   rw[decide_eq_true (show (a:Int)≥256 by omega),cond_true,show decide ((0:Int)≤8)=true from rfl,cond_true,p8,fdiv_of (by omega),u8_wrap (by omega) (by omega),inB_of (by omega) (by omega),cond_true,show ((a:Int) / 256).toNat=a / 256 by omega,e1,wrap_id (x:=(L:Int)) (by omega) (by omega),wrap_id (x:=(b:Int)+8) (by omega) (by omega),wrap_id (by omega) (by omega)]
   exact ⟨L+8,by congr 1;omega,isLen_shift (k:=8) e3,by omega⟩
 have stepU:∀a b:Nat,0<a→a<4294967296→b≤32→∃L:Nat,lenU T (a:Int) (b:Int)=some ((L+b:Nat):Int)∧isLen a L∧L≤32:=fun a b ha hb hb2=>by
  unfold lenU
  by_cases h:a<65536
  ·obtain ⟨L,e1,e2,e3⟩:=stepT a b ha h (by omega)
   rw[decide_eq_false (show ¬ (a:Int)≥65536 by omega),cond_false,e1]
   exact ⟨L,rfl,e2,by omega⟩
  ·obtain ⟨L,e1,e2,e3⟩:=stepT (a / 65536) (b+16) (by omega) (by omega) (by omega)
   rw[decide_eq_true (show (a:Int)≥65536 by omega),cond_true,show decide ((0:Int)≤16)=true from rfl,cond_true,p16,fdiv_of (by omega),wrap_id (by omega) (by omega),show (a:Int) / 65536=((a / 65536:Nat):Int) by omega,show (b:Int)+16=((b+16:Nat):Int) by omega,e1]
   exact ⟨L+16,by congr 1;omega,isLen_shift (k:=16) e2,by omega⟩
 rw[hx]
 by_cases h:n<4294967296
 ·obtain ⟨L,e1,e2,e3⟩:=stepU n 0 h0 h (by omega)
  rw[decide_eq_false (show ¬ (n:Int)≥4294967296 by omega),cond_false]
  exact ⟨L,e1,e2,by omega⟩
 ·obtain ⟨L,e1,e2,e3⟩:=stepU (n / 4294967296) 32 (by omega) (by omega) (by omega)
  rw[decide_eq_true (show (n:Int)≥4294967296 by omega),cond_true,show decide ((0:Int)≤32)=true from rfl,cond_true,p32,fdiv_of (by omega),show (n:Int) / 4294967296=((n / 4294967296:Nat):Int) by omega]
  exact ⟨L+32,e1,isLen_shift (k:=32) e2,by omega⟩
end Go.Proofs.Ytnbbackjofgcfaa

namespace Go.Proofs.Ytnbbackjofgcfaa
open Try Dn Dn.Sh
theorem digit_stop {q r U u y1 y0:Int} (hq:q*y1+r=U) (_:0≤u) (hy:0<y1*4294967296+y0) (hge:(U*4294967296+u) / (y1*4294967296+y0)≤q) (ht:q*y0≤4294967296*r+u):q=(U*4294967296+u) / (y1*4294967296+y0):=by
 refine Int.le_antisymm (Int.le_ediv_of_mul_le hy ?_) hge
 rw[Int.mul_add,←Int.mul_assoc]
 omega
theorem digit_less {q r U u y1 y0:Int} (hq:q*y1+r=U) (hy:0<y1*4294967296+y0) (hU:U*4294967296+u<(y1*4294967296+y0)*4294967296) (ht:q≥4294967296∨q*y0>4294967296*r+u):(U*4294967296+u) / (y1*4294967296+y0)≤q - 1:=by
 have:(U*4294967296+u) / (y1*4294967296+y0)<q:=by
  refine Int.ediv_lt_of_lt_mul hy ?_
  rcases ht with ht | ht
  ·exact Int.lt_of_lt_of_le hU (by rw[Int.mul_comm q];exact Int.mul_le_mul_of_nonneg_left ht (by omega))
  ·rw[Int.mul_add,←Int.mul_assoc]
   omega
 omega
theorem digit_end {q r U u y1 y0:Int} (hq:q*y1+r=U) (hu:0≤u) (hy:0<y1*4294967296+y0) (h0:0≤y0∧y0<4294967296) (hge:(U*4294967296+u) / (y1*4294967296+y0)≤q - 1) (hr:r+y1≥4294967296) (hq2:1≤q∧q≤4294967297):q - 1=(U*4294967296+u) / (y1*4294967296+y0):=by
 refine Int.le_antisymm (Int.le_ediv_of_mul_le hy ?_) hge
 have e1:(q - 1)*y0≤4294967296*4294967295:=Int.mul_le_mul (by omega) (by omega) h0.1 (by omega)
 rw[Int.mul_add,←Int.mul_assoc,Int.sub_mul q 1 y1,Int.one_mul]
 omega
theorem lor_add {s:Nat} {a b:Nat} (h:b<2 ^ s):Nat.lor (a*2 ^ s) b=a*2 ^ s+b:=by
 have:=Nat.two_pow_add_eq_or_of_lt h a
 rw[Nat.mul_comm a]
 exact this.symm
theorem digit_loop {α R:Type} {F:(α→Option R)→α→Option R} {J:Int→Option R} {U u y1 y0:Int} (enc:Int→Int→α) (dec:α→Int) (hdec:∀q r,dec (enc q r)=q)
  (hu:0≤u) (h0:0≤y0∧y0<4294967296) (h1:2147483648≤y1∧y1<4294967296) (hU0:0≤U) (hU:U*4294967296+u<(y1*4294967296+y0)*4294967296)
  (hF1:∀again q r,1≤q→q≤4294967297→0≤r→r<4294967296→(q≥4294967296∨q*y0>4294967296*r+u)→F again (enc q r)=bif decide (r+y1≥4294967296) then J (q - 1) else again (enc (q - 1) (r+y1)))
  (hF2:∀again q r,0≤q→q<4294967296→0≤r→r<4294967296→¬ q*y0>4294967296*r+u→F again (enc q r)=J q)
  {q r:Int} (hq:q*y1+r=U) (hq0:0≤q) (hq2:q≤4294967297) (hr0:0≤r) (hr1:r<4294967296) (hge:(U*4294967296+u) / (y1*4294967296+y0)≤q) :
  lpK α R F (enc q r)=J ((U*4294967296+u) / (y1*4294967296+y0)):=by
 have hD:0≤(U*4294967296+u) / (y1*4294967296+y0):=Int.ediv_nonneg (by omega) (by omega)
 refine lpK_loop (g:=fun _=>J ((U*4294967296+u) / (y1*4294967296+y0))) (I:=fun x=>∃q r,x=enc q r∧q*y1+r=U∧0≤q∧q≤4294967297∧0≤r∧r<4294967296∧(U*4294967296+u) / (y1*4294967296+y0)≤q) (μ:=fun x=>(dec x).toNat) ?_ ⟨q,r,rfl,hq,hq0,hq2,hr0,hr1,hge⟩ (by rw[hdec];omega)
 rintro _ rec ⟨q,r,rfl,hq,hq0,hq2,hr0,hr1,hge⟩ hrec
 have hy:0<y1*4294967296+y0:=by omega
 by_cases ht:q≥4294967296∨q*y0>4294967296*r+u
 ·have hl:=digit_less hq hy hU ht
  rw[hF1 _ _ _ (by omega) hq2 hr0 hr1 ht]
  by_cases hr:r+y1≥4294967296
  ·rw[decide_eq_true hr,cond_true,digit_end hq hu hy h0 hl hr ⟨by omega,hq2⟩]
  ·rw[decide_eq_false hr,cond_false]
   refine hrec _ ⟨q - 1,r+y1,rfl,?_,by omega,by omega,by omega,by omega,hl⟩ (by rw[hdec,hdec];omega)
   rw[Int.sub_mul,Int.one_mul];omega
 ·rw[not_or] at ht
  rw[hF2 _ _ _ hq0 (by omega) hr0 hr1 ht.2,←digit_stop hq hu hy hge (by omega)]
theorem digit_init {U u y1 y0:Int} (hu:0≤u∧u<4294967296) (h0:0≤y0∧y0<4294967296) (h1:2147483648≤y1∧y1<4294967296) (hU0:0≤U) (hU:U<y1*4294967296+y0) :
  (U / y1)*y1+(U - U / y1*y1)=U∧0≤U / y1∧U / y1≤4294967297∧0≤U - U / y1*y1∧U - U / y1*y1<4294967296∧(U*4294967296+u) / (y1*4294967296+y0)≤U / y1:=by
 have e1:=Int.mul_ediv_add_emod U y1
 have e2:=Int.emod_nonneg U (show y1≠0 by omega)
 have e3:=Int.emod_lt_of_pos U (show 0<y1 by omega)
 rw[Int.mul_comm] at e1
 refine ⟨by omega,Int.ediv_nonneg hU0 (by omega),?_,by omega,by omega,?_⟩
 ·have:U / y1<4294967298:=Int.ediv_lt_of_lt_mul (by omega) (by omega)
  omega
 ·have:(U*4294967296+u) / (y1*4294967296+y0)<U / y1+1:=by
   refine Int.ediv_lt_of_lt_mul (by omega) ?_
   have hq:0≤U / y1:=Int.ediv_nonneg hU0 (by omega)
   have e4:0≤(U / y1+1)*y0:=Int.mul_nonneg (by omega) h0.1
   rw[Int.mul_add,←Int.mul_assoc,Int.add_mul (U / y1) 1 y1,Int.one_mul]
   omega
  omega
noncomputable def dv2E (_ _ Y u0 P q1 un:Int) (q:Int):Option (Int×Int×Unit):=some (IntKind.wrap .u64 (IntKind.wrap .u64 (q1*4294967296)+q),Int.fdiv (IntKind.wrap .u64 (IntKind.wrap .u64 (IntKind.wrap .u64 (un*4294967296)+u0) - IntKind.wrap .u64 (q*Y))) P,())
noncomputable def dv2 (y1 y0 Y u0 P q1 un:Int):Option (Int×Int×Unit):=lpK (Int×Int×PUnit) (Int×Int×PUnit) (fun again x=>bif (bif decide (x.2.1≥4294967296) then true else decide (IntKind.wrap .u64 (x.2.1*y0)>IntKind.wrap .u64 (IntKind.wrap .u64 (4294967296*x.1)+u0))) then
 (bif decide (IntKind.wrap .u64 (x.1+y1)≥4294967296) then dv2E y1 y0 Y u0 P q1 un (IntKind.wrap .u64 (x.2.1 - 1)) else again (IntKind.wrap .u64 (x.1+y1),IntKind.wrap .u64 (x.2.1 - 1),PUnit.unit)) else dv2E y1 y0 Y u0 P q1 un x.2.1)
 (IntKind.wrap .u64 (un - IntKind.wrap .u64 (IntKind.wrap .u64 (Int.tdiv un y1)*y1)),IntKind.wrap .u64 (Int.tdiv un y1),PUnit.unit)
theorem dv2_ok {y1 y0 u0 P q1 un:Int} (hu:0≤u0∧u0<4294967296) (h0:0≤y0∧y0<4294967296) (h1:2147483648≤y1∧y1<4294967296) (hU0:0≤un) (hU:un<y1*4294967296+y0) :
  dv2 y1 y0 (y1*4294967296+y0) u0 P q1 un=dv2E y1 y0 (y1*4294967296+y0) u0 P q1 un ((un*4294967296+u0) / (y1*4294967296+y0)):=by
 obtain ⟨i1,i2,i3,i4,i5,i6⟩:=digit_init (U:=un) hu h0 h1 hU0 hU
 unfold dv2
 rw[Int.tdiv_eq_ediv_of_nonneg hU0]
 have hm:un / y1*y1≤un:=by omega
 have hm0:0≤un / y1*y1:=Int.mul_nonneg i2 (by omega)
 rw[u_wrap (x:=un / y1) i2 (by omega),u_wrap (x:=un / y1*y1) hm0 (by omega),u_wrap (x:=un - un / y1*y1) (by omega) (by omega)]
 refine digit_loop (α:=Int×Int×PUnit) (enc:=fun q r=>(r,q,PUnit.unit)) (dec:=fun x=>x.2.1) (fun _ _=>rfl) hu.1 h0 h1 hU0 (by omega) ?_ ?_ i1 i2 i3 i4 i5 i6
 ·intro again q r g1 g2 g3 g4 g5
  have e1:0≤q*y0:=Int.mul_nonneg (by omega) h0.1
  have e2:q*y0≤4294967297*4294967295:=Int.mul_le_mul g2 (by omega) h0.1 (by omega)
  simp only
  rw[u_wrap (x:=q*y0) e1 (by omega),u_wrap (x:=4294967296*r) (by omega) (by omega),u_wrap (x:=4294967296*r+u0) (by omega) (by omega),u_wrap (x:=r+y1) (by omega) (by omega),u_wrap (x:=q - 1) (by omega) (by omega)]
  have e:(bif decide (q≥4294967296) then true else decide (q*y0>4294967296*r+u0))=true:=by
   rcases g5 with ht | ht
   ·rw[decide_eq_true ht];rfl
   ·rw[decide_eq_true ht];cases decide (q≥4294967296)<;>rfl
  rw[e,cT]
 ·intro again q r g1 g2 g3 g4 g5
  have e1:0≤q*y0:=Int.mul_nonneg (by omega) h0.1
  have e2:q*y0≤4294967297*4294967295:=Int.mul_le_mul (by omega) (by omega) h0.1 (by omega)
  simp only
  rw[u_wrap (x:=q*y0) e1 (by omega),u_wrap (x:=4294967296*r) (by omega) (by omega),u_wrap (x:=4294967296*r+u0) (by omega) (by omega)]
  rw[decide_eq_false (show ¬ q≥4294967296 by omega),decide_eq_false g5,cF,cF]
noncomputable def dv1E (y1 y0 Y u1 u0 P U:Int) (q1:Int):Option (Int×Int×Unit):=dv2 y1 y0 Y u0 P q1 (IntKind.wrap .u64 (IntKind.wrap .u64 (IntKind.wrap .u64 (U*4294967296)+u1) - IntKind.wrap .u64 (q1*Y)))
noncomputable def dv1 (y1 y0 Y u1 u0 P U:Int):Option (Int×Int×Unit):=lpK (Int×Int×PUnit) (Int×Int×PUnit) (fun again x=>bif (bif decide (x.1≥4294967296) then true else decide (IntKind.wrap .u64 (x.1*y0)>IntKind.wrap .u64 (IntKind.wrap .u64 (4294967296*x.2.1)+u1))) then
 (bif decide (IntKind.wrap .u64 (x.2.1+y1)≥4294967296) then dv1E y1 y0 Y u1 u0 P U (IntKind.wrap .u64 (x.1 - 1)) else again (IntKind.wrap .u64 (x.1 - 1),IntKind.wrap .u64 (x.2.1+y1),PUnit.unit)) else dv1E y1 y0 Y u1 u0 P U x.1)
 (IntKind.wrap .u64 (Int.tdiv U y1),IntKind.wrap .u64 (U - IntKind.wrap .u64 (IntKind.wrap .u64 (Int.tdiv U y1)*y1)),PUnit.unit)
theorem dv1_ok {y1 y0 u1 u0 P U:Int} (hu:0≤u1∧u1<4294967296) (h0:0≤y0∧y0<4294967296) (h1:2147483648≤y1∧y1<4294967296) (hU0:0≤U) (hU:U<y1*4294967296+y0) :
  dv1 y1 y0 (y1*4294967296+y0) u1 u0 P U=dv1E y1 y0 (y1*4294967296+y0) u1 u0 P U ((U*4294967296+u1) / (y1*4294967296+y0)):=by
 obtain ⟨i1,i2,i3,i4,i5,i6⟩:=digit_init (U:=U) hu h0 h1 hU0 hU
 unfold dv1
 rw[Int.tdiv_eq_ediv_of_nonneg hU0]
 have hm:U / y1*y1≤U:=by omega
 have hm0:0≤U / y1*y1:=Int.mul_nonneg i2 (by omega)
 rw[u_wrap (x:=U / y1) i2 (by omega),u_wrap (x:=U / y1*y1) hm0 (by omega),u_wrap (x:=U - U / y1*y1) (by omega) (by omega)]
 refine digit_loop (α:=Int×Int×PUnit) (enc:=fun q r=>(q,r,PUnit.unit)) (dec:=fun x=>x.1) (fun _ _=>rfl) hu.1 h0 h1 hU0 (by omega) ?_ ?_ i1 i2 i3 i4 i5 i6
 ·intro again q r g1 g2 g3 g4 g5
  have e1:0≤q*y0:=Int.mul_nonneg (by omega) h0.1
  have e2:q*y0≤4294967297*4294967295:=Int.mul_le_mul g2 (by omega) h0.1 (by omega)
  simp only
  rw[u_wrap (x:=q*y0) e1 (by omega),u_wrap (x:=4294967296*r) (by omega) (by omega),u_wrap (x:=4294967296*r+u1) (by omega) (by omega),u_wrap (x:=r+y1) (by omega) (by omega),u_wrap (x:=q - 1) (by omega) (by omega)]
  have e:(bif decide (q≥4294967296) then true else decide (q*y0>4294967296*r+u1))=true:=by
   rcases g5 with ht | ht
   ·rw[decide_eq_true ht];rfl
   ·rw[decide_eq_true ht];cases decide (q≥4294967296)<;>rfl
  rw[e,cT]
 ·intro again q r g1 g2 g3 g4 g5
  have e1:0≤q*y0:=Int.mul_nonneg (by omega) h0.1
  have e2:q*y0≤4294967297*4294967295:=Int.mul_le_mul (by omega) (by omega) h0.1 (by omega)
  simp only
  rw[u_wrap (x:=q*y0) e1 (by omega),u_wrap (x:=4294967296*r) (by omega) (by omega),u_wrap (x:=4294967296*r+u1) (by omega) (by omega)]
  rw[decide_eq_false (show ¬ q≥4294967296 by omega),decide_eq_false g5,cF,cF]
theorem dv_ok {U W Y P:Nat} (hY:9223372036854775808≤Y) (hY2:Y<18446744073709551616) (hW:W<18446744073709551616) (hU:U<Y) :
  dv1 ((Y:Int) / 4294967296) ((Y:Int) % 4294967296) (Y:Int) ((W:Int) / 4294967296) ((W:Int) % 4294967296) (P:Int) (U:Int)=some ((((U*18446744073709551616+W) / Y:Nat):Int),(((U*18446744073709551616+W) % Y / P:Nat):Int),()):=by
 have eY:(Y:Int) / 4294967296*4294967296+(Y:Int) % 4294967296=Y:=by omega
 have h1:=dv1_ok (y1:=(Y:Int) / 4294967296) (y0:=(Y:Int) % 4294967296) (u1:=(W:Int) / 4294967296) (u0:=(W:Int) % 4294967296) (P:=(P:Int)) (U:=(U:Int)) (by omega) (by omega) (by omega) (by omega) (by omega)
 rw[eY] at h1
 rw[h1]
 unfold dv1E
 obtain ⟨A,hA⟩:∃A:Nat,A=U*4294967296+W / 4294967296:=⟨_,rfl⟩
 have hAi:(U:Int)*4294967296+(W:Int) / 4294967296=(A:Int):=by omega
 rw[hAi]
 have hq1:A / Y<4294967296:=(Nat.div_lt_iff_lt_mul (by omega)).2 (by omega)
 have d1:=Nat.div_add_mod A Y
 have d2:=Nat.mod_lt A (show Y>0 by omega)
 rw[show (A:Int) / (Y:Int)=((A / Y:Nat):Int) from rfl]
 have hun:IntKind.wrap .u64 (IntKind.wrap .u64 (IntKind.wrap .u64 ((U:Int)*4294967296)+(W:Int) / 4294967296) - IntKind.wrap .u64 (((A / Y:Nat):Int)*(Y:Int)))=((A % Y:Nat):Int):=by
  rw[←Int.natCast_mul,Nat.mul_comm (A / Y)]
  generalize A / Y=q1 at *
  generalize Y*q1=m at *
  rw[IntKind.wrap_u64,IntKind.wrap_u64,IntKind.wrap_u64,IntKind.wrap_u64]
  omega
 rw[hun]
 have h2:=dv2_ok (y1:=(Y:Int) / 4294967296) (y0:=(Y:Int) % 4294967296) (u0:=(W:Int) % 4294967296) (P:=(P:Int)) (q1:=((A / Y:Nat):Int)) (un:=((A % Y:Nat):Int)) (by omega) (by omega) (by omega) (by omega) (by omega)
 rw[eY] at h2
 rw[h2]
 unfold dv2E
 obtain ⟨B,hB⟩:∃B:Nat,B=A % Y*4294967296+W % 4294967296:=⟨_,rfl⟩
 have hBi:((A % Y:Nat):Int)*4294967296+(W:Int) % 4294967296=(B:Int):=by omega
 rw[hBi,show (B:Int) / (Y:Int)=((B / Y:Nat):Int) from rfl]
 have hq0:B / Y<4294967296:=(Nat.div_lt_iff_lt_mul (by omega)).2 (by omega)
 have d3:=Nat.div_add_mod B Y
 have d4:=Nat.mod_lt B (show Y>0 by omega)
 have hN:U*18446744073709551616+W=(A / Y*4294967296+B / Y)*Y+B % Y:=by
  rw[Nat.add_mul,Nat.mul_right_comm,Nat.mul_comm (A / Y),Nat.mul_comm (B / Y)]
  omega
 obtain ⟨n1,n2⟩:=divMod_of d4 hN
 rw[n1,n2]
 have hrest:IntKind.wrap .u64 (IntKind.wrap .u64 (IntKind.wrap .u64 (((A % Y:Nat):Int)*4294967296)+(W:Int) % 4294967296) - IntKind.wrap .u64 (((B / Y:Nat):Int)*(Y:Int)))=((B % Y:Nat):Int):=by
  rw[←Int.natCast_mul,Nat.mul_comm (B / Y)]
  generalize B / Y=q0 at *
  generalize Y*q0=m at *
  generalize A % Y=r1 at *
  rw[IntKind.wrap_u64,IntKind.wrap_u64,IntKind.wrap_u64,IntKind.wrap_u64]
  omega
 rw[hrest,fdiv_of (by omega)]
 generalize A / Y=q1 at *
 generalize B / Y=q0 at *
 rw[u_wrap (x:=(q1:Int)*4294967296) (by omega) (by omega),u_wrap (by omega) (by omega)]
 rfl
theorem tmod_nat (m n:Nat):Int.tmod (m:Int) (n:Int)=((m % n:Nat):Int):=by
 rw[Int.tmod_eq_emod_of_nonneg (by omega)]
 rfl
theorem jnT {α R:Type} (j:α→Option R) (f:(α→Option R)→Option R):jnK α R j f=f j:=Eq.trans rfl rfl
theorem Div64_ok {h l y:Nat} (hy:h<y) (hy2:y<18446744073709551616) (hl0:l<18446744073709551616):bits_Div64 (h:Int) (l:Int) (y:Int)=some ((((h*18446744073709551616+l) / y:Nat):Int),(((h*18446744073709551616+l) % y:Nat):Int),()):=by
 simp only[bits_Div64,bits_Div64_b,jnT]
 rw[decide_eq_false (show ¬ (y:Int)=0 by omega),cF,decide_eq_false (show ¬ (y:Int)≤(h:Int) by omega),cF]
 have hz:nzB (y:Int)=true:=nzB_of (by omega)
 by_cases h0:h=0
 ·subst h0
  rw[decide_eq_true (show ((0:Nat):Int)=0 from rfl),cT,hz,cT,cT,tdiv_nat,tmod_nat,Nat.zero_mul,Nat.zero_add]
  have:=Nat.div_le_self l y
  generalize l / y=d at *
  rw[u_wrap (by omega) (by omega)]
 ·rw[decide_eq_false (show ¬ (h:Int)=0 by omega),cF]
  obtain ⟨L,e1,⟨e2,e3⟩,e4⟩:=Len64_ok (n:=y) (by omega) hy2
  simp only[bits_LeadingZeros64,bits_LeadingZeros64_b,e1,obind_some']
  rw[wrap_id (x:=64 - (L:Int)) (by omega) (by omega)]
  obtain ⟨s,hs⟩:∃s:Nat,L+s=64:=⟨64 - L,by omega⟩
  have w1:IntKind.wrap .u64 (64 - (L:Int))=(s:Int):=by rw[u_wrap (by omega) (by omega)];omega
  have w2:IntKind.wrap .u64 (64 - (s:Int))=(L:Int):=by rw[u_wrap (by omega) (by omega)];omega
  have p2:∀k:Nat,(2:Int) ^ k=((2 ^ k:Nat):Int):=fun k=>by rw[Int.natCast_pow];rfl
  have p32:(2:Int) ^ (32:Nat)=4294967296:=by decide
  simp only[w1,w2,Int.toNat_natCast,Nat.min_eq_left (show s≤64 by omega),Nat.min_eq_left (show L≤64 by omega),p32]
  simp only[p2]
  have hPQ:2 ^ s*2 ^ L=18446744073709551616:=by rw[←Nat.pow_add,show s+L=64 by omega]
  have hP:0<2 ^ s:=Nat.two_pow_pos s
  have hQ:0<2 ^ L:=Nat.two_pow_pos L
  have hYlt:y*2 ^ s<18446744073709551616:=by rw[←hPQ,Nat.mul_comm (2 ^ s)];exact Nat.mul_lt_mul_of_pos_right e2 hP
  have hYge:9223372036854775808≤y*2 ^ s:=by
   have:=Nat.mul_le_mul_right (2 ^ s) e3
   rw[Nat.mul_comm (2 ^ L),hPQ,Nat.mul_assoc] at this
   omega
  have hhP:h*2 ^ s+2 ^ s≤y*2 ^ s:=by rw[←Nat.succ_mul];exact Nat.mul_le_mul_right _ hy
  have hlQ:l / 2 ^ L<2 ^ s:=by rw[Nat.div_lt_iff_lt_mul hQ,hPQ];exact hl0
  have hlor:IntKind.wrap .u64 ((Nat.lor (Int.toNat (IntKind.wrap .u64 ((h:Int)*((2 ^ s:Nat):Int)) % Int.ofNat 18446744073709551616)) (Int.toNat (Int.fdiv (l:Int) ((2 ^ L:Nat):Int) % Int.ofNat 18446744073709551616)):Nat):Int)=((h*2 ^ s+l / 2 ^ L:Nat):Int):=by
   have a1:IntKind.wrap .u64 ((h:Int)*((2 ^ s:Nat):Int))=((h*2 ^ s:Nat):Int):=by rw[←Int.natCast_mul,u_wrap (by omega) (by omega)]
   have a2:Int.fdiv (l:Int) ((2 ^ L:Nat):Int)=((l / 2 ^ L:Nat):Int):=by rw[fdiv_of (by omega)];rfl
   have a3:∀n:Nat,n<18446744073709551616→Int.toNat ((n:Int) % Int.ofNat 18446744073709551616)=n:=fun n hn=>by
    rw[show Int.ofNat 18446744073709551616=(18446744073709551616:Int) from rfl];omega
   rw[a1,a2,a3 (h*2 ^ s) (by omega),a3 (l / 2 ^ L) (by omega),lor_add hlQ]
   exact u_wrap (Int.natCast_nonneg _) (by
    have h5:h*2 ^ s+l / 2 ^ L<18446744073709551616:=by omega
    exact Int.ofNat_lt.2 h5)
  have hlo:IntKind.wrap .u64 ((l:Int)*((2 ^ s:Nat):Int))=((l % 2 ^ L*2 ^ s:Nat):Int):=by
   rw[←Int.natCast_mul,IntKind.wrap_u64]
   have a1:l*2 ^ s=(l / 2 ^ L)*18446744073709551616+l % 2 ^ L*2 ^ s:=by
    rw[←hPQ,Nat.mul_comm (2 ^ s),←Nat.mul_assoc,←Nat.add_mul,Nat.mul_comm (l / 2 ^ L),Nat.div_add_mod]
   have a2:l % 2 ^ L*2 ^ s<18446744073709551616:=by rw[←hPQ,Nat.mul_comm (2 ^ s)];exact Nat.mul_lt_mul_of_pos_right (Nat.mod_lt _ hQ) hP
   rw[a1]
   generalize l / 2 ^ L=A at *
   generalize l % 2 ^ L*2 ^ s=B at *
   omega
  have hlolt:l % 2 ^ L*2 ^ s<18446744073709551616:=by rw[←hPQ,Nat.mul_comm (2 ^ s)];exact Nat.mul_lt_mul_of_pos_right (Nat.mod_lt _ hQ) hP
  have hN:(h*18446744073709551616+l)*2 ^ s=(h*2 ^ s+l / 2 ^ L)*18446744073709551616+l % 2 ^ L*2 ^ s:=by
   have a1:l*2 ^ s=(l / 2 ^ L)*18446744073709551616+l % 2 ^ L*2 ^ s:=by
    rw[←hPQ,Nat.mul_comm (2 ^ s),←Nat.mul_assoc,←Nat.add_mul,Nat.mul_comm (l / 2 ^ L),Nat.div_add_mod]
   rw[Nat.add_mul,a1,Nat.add_mul,Nat.mul_right_comm]
   omega
  have hY:IntKind.wrap .u64 ((y:Int)*((2 ^ s:Nat):Int))=((y*2 ^ s:Nat):Int):=by rw[←Int.natCast_mul,u_wrap (by omega) (by omega)]
  have hdiv:(h*18446744073709551616+l) / y=((h*2 ^ s+l / 2 ^ L)*18446744073709551616+l % 2 ^ L*2 ^ s) / (y*2 ^ s):=by rw[←hN,Nat.mul_div_mul_right _ _ hP]
  have hmod:((h*18446744073709551616+l) % y)*2 ^ s=((h*2 ^ s+l / 2 ^ L)*18446744073709551616+l % 2 ^ L*2 ^ s) % (y*2 ^ s):=by rw[←hN,Nat.mul_mod_mul_right]
  rw[hlor,hlo,hY]
  have hU:h*2 ^ s+l / 2 ^ L<y*2 ^ s:=by omega
  have hm:(h*18446744073709551616+l) % y=((h*2 ^ s+l / 2 ^ L)*18446744073709551616+l % 2 ^ L*2 ^ s) % (y*2 ^ s) / 2 ^ s:=by rw[←hmod,Nat.mul_div_cancel _ hP]
  rw[hdiv,hm]
  generalize h*2 ^ s+l / 2 ^ L=U at *
  generalize l % 2 ^ L*2 ^ s=W at *
  generalize y*2 ^ s=Y at *
  generalize 2 ^ s=P at *
  clear e2 e3 e1 hlor hlo hN hdiv hmod hm hlQ hPQ hhP hY
  have hdv:=dv_ok (P:=P) hYge hYlt hlolt hU
  rw[←hdv]
  have c1:decide ((0:Int)≤(s:Int))=true:=decide_eq_true (by omega)
  have c2:decide ((0:Int)≤(L:Int))=true:=decide_eq_true (by omega)
  have c3:decide ((0:Int)≤(32:Int))=true:=rfl
  have c4:nzB ((Y:Int) / 4294967296)=true:=nzB_of (by omega)
  have m1:∀n:Nat,n<18446744073709551616→IntKind.wrap .u64 ((Nat.land (Int.toNat ((n:Int) % Int.ofNat 18446744073709551616)) (Int.toNat ((4294967295:Int) % Int.ofNat 18446744073709551616)):Nat):Int)=(n:Int) % 4294967296:=fun n hn=>by
   rw[land32 (by omega) (by omega),u_wrap (by omega) (by omega)]
  simp only[fdiv_of (show (0:Int)≤4294967296 by omega),c1,c2,c3,c4,m1 Y hYlt,m1 W hlolt,or_self_not,Bool.not_not,Bool.and_self,cT]
  rfl
end Go.Proofs.Ytnbbackjofgcfaa

namespace Go.Proofs.Ytnbbackjofgcfaa
open Try Dn Dn.Sh
theorem over_ok {n b:Nat} (hb0:0<b) (hb:b<18446744073709551616) (hn:n<340282366920938463463374607431768211456):ratio_over (hl n) (b:Int)=some (hl (n / b),((n % b:Nat):Int),()):=by
 have hz:nzB (b:Int)=true:=nzB_of (by omega)
 obtain ⟨h,l,hh,hl',hnn⟩:∃h l:Nat,h=n / 18446744073709551616∧l=n % 18446744073709551616∧n=h*18446744073709551616+l:=⟨_,_,rfl,rfl,by omega⟩
 have e:hl n=((h:Int),(l:Int)):=by unfold hl;rw[hh,hl']
 rw[e]
 simp only[ratio_over,ratio_over_b]
 rw[hz,tmod_nat,Div64_ok (Nat.mod_lt h hb0) hb (by omega),obind_some']
 have d1:=Nat.div_add_mod h b
 have d2:=Nat.mod_lt h hb0
 obtain ⟨A,hA⟩:∃A,A=h % b*18446744073709551616+l:=⟨_,rfl⟩
 rw[←hA]
 have d3:=Nat.div_add_mod A b
 have d4:=Nat.mod_lt A hb0
 have d5:A / b<18446744073709551616:=(Nat.div_lt_iff_lt_mul hb0).2 (by
  have:(h % b+1)*18446744073709551616≤b*18446744073709551616:=Nat.mul_le_mul_right _ d2
  rw[Nat.mul_comm 18446744073709551616 b]
  omega)
 have hN:n=(h / b*18446744073709551616+A / b)*b+A % b:=by
  have e1:(h / b*18446744073709551616+A / b)*b=b*(h / b)*18446744073709551616+b*(A / b):=by grind
  rw[e1,hnn]
  generalize b*(h / b)=x at *
  generalize b*(A / b)=y at *
  generalize A % b=r at *
  generalize h % b=r1 at *
  clear e hz hb0 hb hn hh hl' hnn d5 e1
  omega
 obtain ⟨n1,n2⟩:=divMod_of d4 hN
 rw[n1,n2,tdiv_nat]
 have d6:h / b<18446744073709551616:=Nat.lt_of_le_of_lt (Nat.div_le_self h b) (by omega)
 generalize h / b=x at *
 generalize A / b=y at *
 rw[u_wrap (x:=(x:Int)) (by omega) (by omega)]
 unfold hl
 rw[show (x*18446744073709551616+y) / 18446744073709551616=x by omega,show (x*18446744073709551616+y) % 18446744073709551616=y by omega]
 rfl
theorem sum_cop {na nb:Int} {da A B:Nat} (ha:Nat.gcd na.natAbs da=1) (hA:A∣da) (hAB:Nat.gcd A B=1):Nat.gcd (na*B+nb*A).natAbs A=1:=by
 have d1:=Nat.gcd_dvd_left (na*B+nb*A).natAbs A
 have d2:=Nat.gcd_dvd_right (na*B+nb*A).natAbs A
 generalize Nat.gcd (na*B+nb*A).natAbs A=d at *
 have e1:(d:Int)∣na*B+nb*A:=Int.ofNat_dvd_left.2 d1
 have e2:(d:Int)∣nb*A:=Int.dvd_mul_of_dvd_right (Int.ofNat_dvd.2 d2)
 have e3:(d:Int)∣na*B:=(Int.dvd_iff_dvd_of_dvd_add e1).2 e2
 have e4:d∣na.natAbs*B:=by
  have:=Int.ofNat_dvd_left.1 e3
  rwa [Int.natAbs_mul,Int.natAbs_natCast] at this
 have e5:Nat.Coprime d na.natAbs:=(Nat.Coprime.coprime_dvd_right (Nat.dvd_trans d2 hA) ha).symm
 have e6:d∣B:=Nat.Coprime.dvd_of_dvd_mul_left e5 e4
 have e7:=Nat.dvd_gcd d2 e6
 rw[hAB] at e7
 exact Nat.dvd_one.1 e7
theorem sum_plain {na nb:Int} {da db g A B:Nat} (ha:Nat.gcd na.natAbs da=1) (hb:Nat.gcd nb.natAbs db=1) (h1:da=A*g) (h2:db=B*g) (hAB:Nat.gcd A B=1) (hg:0<g) (hA:0<A) (hB:0<B) {c:Nat} (hc:c=Nat.gcd g (na*B+nb*A).natAbs) :
  mkRat na da+mkRat nb db=mkRat (na*B+nb*A) (A*db)∧Nat.gcd ((na*B+nb*A).natAbs / c) (A*(db / c))=1∧0<c∧c∣(na*B+nb*A).natAbs∧c∣db:=by
 have hc0:0<c:=by rw[hc];exact Nat.gcd_pos_of_pos_left _ hg
 have k1:Nat.gcd (na*B+nb*A).natAbs A=1:=sum_cop ha ⟨g,h1⟩ hAB
 have k2:Nat.gcd (na*B+nb*A).natAbs B=1:=by
  rw[Int.add_comm]
  exact sum_cop hb ⟨g,h2⟩ (by rw[Nat.gcd_comm];exact hAB)
 have c1:c∣(na*B+nb*A).natAbs:=by rw[hc];exact Nat.gcd_dvd_right _ _
 have c2:c∣g:=by rw[hc];exact Nat.gcd_dvd_left _ _
 refine ⟨?_,?_,hc0,c1,by rw[h2];exact Nat.dvd_trans c2 (Nat.dvd_mul_left g B)⟩
 ·have p1:0<A*g:=Nat.mul_pos hA hg
  have p2:0<B*g:=Nat.mul_pos hB hg
  have p3:0<A*(B*g):=Nat.mul_pos hA p2
  rw[Rat.mkRat_add_mkRat _ _ (by omega) (by omega),h1,h2,Rat.mkRat_eq_iff (Nat.ne_of_gt (Nat.mul_pos p1 p2)) (by omega)]
  simp only[Int.natCast_mul]
  grind
 ·have c3:Nat.gcd ((na*B+nb*A).natAbs / c) (g / c)=1:=by
   rw[hc,Nat.gcd_comm]
   exact Nat.gcd_div_gcd_div_gcd_of_pos_left hg
  have hdb:db / c=B*(g / c):=by rw[h2,Nat.mul_div_assoc _ c2]
  have dv:(na*B+nb*A).natAbs / c∣(na*B+nb*A).natAbs:=Nat.div_dvd_of_dvd c1
  rw[hdb]
  exact Nat.Coprime.mul_right (Nat.Coprime.coprime_dvd_left dv k1) (Nat.Coprime.mul_right (Nat.Coprime.coprime_dvd_left dv k2) c3)
theorem Add_ok {a b:Fq} (ha:okF a) (hb:okF b):ratio_Add a b=some (fitQ (qv a+qv b)):=by
 obtain ⟨na,da'⟩:=a
 obtain ⟨nb,db'⟩:=b
 have ha':=ha
 have hb':=hb
 unfold okF at ha' hb'
 simp only at ha' hb'
 obtain ⟨⟨a1,a2⟩,⟨a3,a4⟩,a5⟩:=ha'
 obtain ⟨⟨b1,b2⟩,⟨b3,b4⟩,b5⟩:=hb'
 obtain ⟨da,rfl⟩:∃da:Nat,da'=da:=⟨da'.toNat,by omega⟩
 obtain ⟨db,rfl⟩:∃db:Nat,db'=db:=⟨db'.toNat,by omega⟩
 rw[Int.natAbs_natCast] at a5 b5
 simp only[ratio_Add,ratio_Add_b,Valid_ok,decide_eq_true ha,decide_eq_true hb,obind_some',Bool.not_true,Bool.not_false,Bool.or_true,cT,cF,jnT]
 rw[u_wrap (x:=(da:Int)) (by omega) (by omega),u_wrap (x:=(db:Int)) (by omega) (by omega),gcd_ok _ _ (by omega),obind_some',size_ok (by omega) (by omega),obind_some',size_ok (by omega) (by omega)]
 have hg:0<Nat.gcd da db:=Nat.gcd_pos_of_pos_left _ (by omega)
 have hgl:Nat.gcd da db≤da:=Nat.gcd_le_left _ (by omega)
 obtain ⟨A,hA⟩:∃A,A=da / Nat.gcd da db:=⟨_,rfl⟩
 obtain ⟨B,hB⟩:∃B,B=db / Nat.gcd da db:=⟨_,rfl⟩
 have hAg:da=A*Nat.gcd da db:=by rw[hA,Nat.div_mul_cancel (Nat.gcd_dvd_left _ _)]
 have hBg:db=B*Nat.gcd da db:=by rw[hB,Nat.div_mul_cancel (Nat.gcd_dvd_right _ _)]
 have hAB:Nat.gcd A B=1:=by rw[hA,hB];exact Nat.gcd_div_gcd_div_gcd_of_pos_left (by omega)
 have hA0:0<A:=by rw[hA];exact Nat.div_pos (Nat.gcd_le_left _ (by omega)) hg
 have hB0:0<B:=by rw[hB];exact Nat.div_pos (Nat.gcd_le_right _ (by omega)) hg
 have hAl:A≤da:=by rw[hA];exact Nat.div_le_self _ _
 have hBl:B≤db:=by rw[hB];exact Nat.div_le_self _ _
 have hz:nzB ((Nat.gcd da db:Nat):Int)=true:=nzB_of (by omega)
 rw[hz,cT,tdiv_nat,tdiv_nat,←hA,←hB,u_wrap (x:=(A:Int)) (by omega) (by omega),u_wrap (x:=(B:Int)) (by omega) (by omega)]
 have x1:na.natAbs*B≤1152921504606846976*1152921504606846976:=Nat.mul_le_mul (by omega) (by omega)
 have y1:nb.natAbs*A≤1152921504606846976*1152921504606846976:=Nat.mul_le_mul (by omega) (by omega)
 rw[product_ok (by omega) (by omega),obind_some',obind_some',cT,product_ok (by omega) (by omega),obind_some']
 have hsum:=sum_plain (na:=na) (nb:=nb) a5 b5 hAg hBg hAB hg hA0 hB0 rfl
 generalize Nat.gcd da db=g at *
 have hv:qv (na,(da:Int))+qv (nb,(db:Int))=mkRat na da+mkRat nb db:=rfl
 rw[hv,hsum.1]
 simp only[or_self_not,Bool.not_not,cT]
 have tail:∀(s:Bool) (N:Nat),N≤2658455991569831745807614120560689152→sgn s N=na*B+nb*A→(bif decide ((hl N).1=0)&&(decide ((hl N).2=0)&&true) then some (((0:Int),(1:Int)),(0:Int),PUnit.unit) else
   obind (ratio_over (hl N) (g:Int)) fun t_5=>obind (ratio_gcd (g:Int) t_5.2.1) fun t_1=>obind (ratio_over (hl N) t_1) fun t_6=>bif nzB t_1 then obind (ratio_product (A:Int) (IntKind.wrap .u64 (Int.tdiv (db:Int) t_1))) fun t =>
    bif bif decide (t_6.1.1>0) then true else decide (t.1>0) then some (((0:Int),(0:Int)),(5:Int),PUnit.unit) else obind (ratio_signed s t_6.1.2 t.2) fun t=>some (t.1,t.2.1,PUnit.unit) else none)=some (fitQ (mkRat (na*B+nb*A) (A*db))):=by
  intro s N hN hs
  have hNT:(na*B+nb*A).natAbs=N:=by rw[←hs];unfold sgn;split<;>simp
  rw[hNT] at hsum
  rw[zero_hl (by omega)]
  by_cases h0:N=0
  ·rw[decide_eq_true h0,cT,←hs,h0,show sgn s 0=0 by unfold sgn;cases s<;>rfl,Rat.zero_mkRat]
   rfl
  ·obtain ⟨c,hc⟩:∃c,c=Nat.gcd g N:=⟨_,rfl⟩
   rw[←hc] at hsum
   obtain ⟨_,s2,s3,s4,s5⟩:=hsum
   have hcg:c≤g:=by rw[hc];exact Nat.gcd_le_left _ hg
   rw[decide_eq_false h0,cF,over_ok hg (by omega) (by omega),obind_some',gcd_ok _ _ (by have:=Nat.mod_lt N hg;generalize N % g=w at *;omega),obind_some',Nat.gcd_comm,←Nat.gcd_rec,←hc,over_ok s3 (by omega) (by omega),obind_some',nzB_of (by omega),cT,tdiv_nat]
   have hdc:db / c≤db:=Nat.div_le_self _ _
   have hdc0:0<db / c:=Nat.div_pos (Nat.le_of_dvd (by omega) s5) s3
   rw[u_wrap (by omega) (by generalize db / c=w at *;omega),product_ok (by omega) (by generalize db / c=w at *;omega),obind_some']
   have hNc:N / c≤N:=Nat.div_le_self _ _
   have hval:mkRat (na*B+nb*A) (A*db)=mkRat (sgn s (N / c)) (A*(db / c)):=by
    rw[←hs]
    refine mkQ_congr (Nat.mul_pos hA0 (by omega)) (Nat.mul_pos hA0 hdc0) ?_
    obtain ⟨x,rfl⟩:=s4
    obtain ⟨y,rfl⟩:=s5
    rw[Nat.mul_div_cancel_left _ s3,Nat.mul_div_cancel_left _ s3]
    grind
   rw[hval,fit_low (Nat.mul_pos hA0 hdc0) s2]
   have hden:A*(db / c)≤1152921504606846976*1152921504606846976:=Nat.mul_le_mul (by omega) (by omega)
   generalize N / c=n at *
   generalize A*(db / c)=d at *
   by_cases hn:n<18446744073709551616
   ·by_cases hd:d<18446744073709551616
    ·rw[hl_small hn,hl_small hd]
     simp only
     rw[show decide ((0:Int)>0)=false from rfl,cF,cF,signed_ok _ _ _ hn hd,obind_some']
    ·rw[hl_small hn]
     simp only
     rw[show decide ((0:Int)>0)=false from rfl,decide_eq_true (hl_big hd),cF,cT,if_neg (by omega)]
   ·rw[decide_eq_true (hl_big hn),cT,cT,if_neg (by omega)]
 have sx:∀{n:Int} {s:Bool},s=decide (n<0)→n=sgn s n.natAbs:=fun {n s} h=>by rw[h];exact size_sgn n
 by_cases hsg:decide (na<0)=decide (nb<0)
 ·rw[decide_eq_true hsg,cT,rPlus_ok (by omega),obind_some']
  refine tail _ _ (by omega) ?_
  have e1:na=sgn (decide (na<0)) na.natAbs:=size_sgn na
  have e2:nb=sgn (decide (na<0)) nb.natAbs:=by rw[hsg];exact size_sgn nb
  generalize na.natAbs=m at *
  generalize nb.natAbs=n at *
  generalize decide (na<0)=s at *
  rw[e1,e2]
  unfold sgn
  cases s
  ·simp only[Bool.false_eq_true,if_false]
   rw[Int.natCast_add,Int.natCast_mul,Int.natCast_mul]
  ·simp only[if_true]
   rw[Int.natCast_add,Int.natCast_mul,Int.natCast_mul]
   grind
 ·have e1:na=sgn (decide (na<0)) na.natAbs:=size_sgn na
  have e2:nb=sgn (!decide (na<0)) nb.natAbs:=by
   have:(!decide (na<0))=decide (nb<0):=by
    clear tail sx hsum hv ha hb
    revert hsg
    cases decide (na<0)<;>cases decide (nb<0)<;>simp
   rw[this];exact size_sgn nb
  rw[decide_eq_false hsg,cF,rLess_ok,obind_some']
  by_cases hlt:na.natAbs*B<nb.natAbs*A
  ·rw[decide_eq_true hlt,cT,rMinus_ok (by omega) (by omega),obind_some']
   refine tail _ _ (by omega) ?_
   generalize na.natAbs=m at *
   generalize nb.natAbs=n at *
   generalize decide (na<0)=s at *
   rw[e1,e2]
   have e3:(((n*A - m*B:Nat)):Int)=(n:Int)*A - (m:Int)*B:=by rw[Int.ofNat_sub (Nat.le_of_lt hlt),Int.natCast_mul,Int.natCast_mul]
   unfold sgn
   cases s
   ·simp only[Bool.false_eq_true,if_false,Bool.not_false,if_true]
    grind
   ·simp only[if_true,Bool.not_true,Bool.false_eq_true,if_false]
    grind
  ·rw[decide_eq_false hlt,cF,rMinus_ok (by omega) (by omega),obind_some']
   refine tail _ _ (by omega) ?_
   generalize na.natAbs=m at *
   generalize nb.natAbs=n at *
   generalize decide (na<0)=s at *
   rw[e1,e2]
   have e3:(((m*B - n*A:Nat)):Int)=(m:Int)*B - (n:Int)*A:=by rw[Int.ofNat_sub (Nat.not_lt.1 hlt),Int.natCast_mul,Int.natCast_mul]
   unfold sgn
   cases s
   ·simp only[Bool.false_eq_true,if_false,Bool.not_false,if_true]
    grind
   ·simp only[if_true,Bool.not_true,Bool.false_eq_true,if_false]
    grind
end Go.Proofs.Ytnbbackjofgcfaa

namespace Go.Proofs.Ytnbbackjofgcfaa
namespace Dn
theorem lpK_up {σ α R:Type} {F:(α→Option R)→α→Option R} (n:Nat) (hn:n≤1180591620717411303423) (enc:Nat→σ→α) (b:Nat→σ→(σ→Option R)→Option R) (f:σ→Option R)
  (hb:∀again (i:Nat) s,i<n→F again (enc i s)=b i s (fun s'=>again (enc (i+1) s'))) (hf:∀again s,F again (enc n s)=f s) (s:σ) :
  lpK α R F (enc 0 s)=upF b f n 0 s:=loopF_up n hn enc b f hb hf s
def idxI {α:Type} (p:α→Bool):List α→Int→Int
 | [],_=> -1
 | a ::l,i=>bif p a then i else idxI p l (i+1)
theorem idxI_neg {α:Type} {p:α→Bool}:∀{l:List α} {i:Int},0≤i→(idxI p l i<0↔∀a ∈ l,p a=false)
 | [],i,h=>by simp[idxI]
 | a ::l,i,h=>by
  unfold idxI
  cases hp:p a with
  | true=>simp only[cond_true,List.mem_cons,forall_eq_or_imp,hp];simp;omega
  | false=>simp only[cond_false,List.mem_cons,forall_eq_or_imp,hp,true_and];exact idxI_neg (by omega)
theorem idxI_drop {α:Type} {p:α→Bool} {l:List α} {d:α} {i:Nat} (h:i<l.length):idxI p (l.drop i) i=bif p (l.getD i d) then (i:Int) else idxI p (l.drop (i+1)) ((i:Int)+1):=by
 rw[List.drop_eq_getElem_cons h,getD_nat h]
 rfl
theorem index_loop {α:Type} {f:(α×Unit)→Option Bool} {d:α} {p:α→Bool} {l:List α} (hl:l.length≤1000000) (h:∀a,a ∈ l→f (a,())=some (p a)) :
  lpK (Int×PUnit) Int (fun (again:Int×PUnit→Option Int) (x:Int×PUnit)=>bif decide (x.1<(↑(List.length l):Int)) then bif inB x.1 (List.length l) then obind (f
   (List.getD l (Int.toNat x.1) d,PUnit.unit)) fun (t:Bool)=>bif t then some x.1 else again
   (IntKind.wrap .i64 (x.1+(1:Int)),PUnit.unit) else none else some (-1:Int)) ((0:Int),PUnit.unit)=some (idxI p l 0):=by
 refine lpK_loop (g:=fun _=>some (idxI p l 0)) (I:=fun (x:Int×PUnit)=>0≤x.1∧x.1≤l.length∧idxI p (l.drop x.1.toNat) x.1=idxI p l 0) (μ:=fun (x:Int×PUnit)=>((l.length:Int) - x.1).toNat) ?_ ⟨by simp,by simp only;omega,rfl⟩ (by simp only;omega)
 rintro ⟨i,_⟩ rec ⟨h0,h1,h2⟩ hrec
 simp only at h0 h1 h2 ⊢
 by_cases hi:i<l.length
 ·obtain ⟨n,rfl⟩:∃n:Nat,i=n:=⟨i.toNat,by omega⟩
  rw[decide_eq_true hi,cond_true,inB_of h0 hi,cond_true,Int.toNat_natCast,h _ (by rw[getD_nat (by omega)];exact List.getElem_mem (by omega)),obind_some',wrap_id (by omega) (by omega)]
  rw[Int.toNat_natCast,idxI_drop (d:=d) (by omega)] at h2
  cases hp:p (l.getD n d) with
  | true=>rw[hp,cond_true] at h2;rw[cond_true,h2]
  | false=>rw[hp,cond_false] at h2;rw[cond_false];exact hrec _ ⟨by simp only;omega,by simp only;omega,h2⟩ (by simp only;omega)
 ·rw[decide_eq_false hi,cond_false]
  have e:i.toNat=l.length:=by omega
  rw[e,List.drop_length] at h2
  rw[←h2]
  rfl
theorem upF_all {R σ:Type} {b:Nat→σ→(σ→Option R)→Option R} {f:σ→Option R} {p:Nat→Bool} {r:Option R} {s:σ} (n:Nat) (hb:∀i (k:σ→Option R),i<n→b i s k=bif p i then k s else r) :
  ∀(k i:Nat),i+k≤n→upF b f k i s=bif (List.range' i k).all p then f s else r
 | 0,i,_=>rfl
 | k+1,i,h=>by
  simp only[upF,hb i _ (by omega),List.range'_succ,List.all_cons]
  cases hp:p i with
  | true=>exact upF_all n hb k (i+1) (by omega)
  | false=>rfl
end Dn
end Go.Proofs.Ytnbbackjofgcfaa

namespace Go.Proofs.Ytnbbackjofgcfaa
open Try Dn Dn.Sh
end Go.Proofs.Ytnbbackjofgcfaa

namespace Go.Proofs.Ytnbbackjofgcfaa
open Try Dn Dn.Sh
def cmpQ (p q:Rat):Int:=if p<q then -1 else if p=q then 0 else 1
theorem cmp_signs {a b:Fq} (ha:okF a) (hb:okF b) {M N:Nat} (hM:M=a.1.natAbs*b.2.natAbs) (hN:N=b.1.natAbs*a.2.natAbs) :
  cmpQ (qv a) (qv b)=if a.1<0 then (if b.1<0 then (if N<M then -1 else if M=N then 0 else 1) else -1) else (if b.1<0 then 1 else (if M<N then -1 else if M=N then 0 else 1)):=by
 have e1:=okF_lt ha hb
 have e2:qv a=qv b↔a.1*b.2=b.1*a.2:=by
  have h1:=okF_le ha hb
  have h2:=okF_le hb ha
  constructor
  ·intro h
   have h3:=h1.1 (by rw[h];exact Rat.le_refl)
   have h4:=h2.1 (by rw[h];exact Rat.le_refl)
   omega
  ·intro h
   exact Rat.le_antisymm (h1.2 (by omega)) (h2.2 (by omega))
 obtain ⟨⟨a1,_⟩,_,_⟩:=ha
 obtain ⟨⟨b1,_⟩,_,_⟩:=hb
 have eM:(M:Int)=(a.1.natAbs:Int)*b.2:=by rw[hM,Int.natCast_mul,show ((b.2.natAbs:Nat):Int)=b.2 by omega]
 have eN:(N:Int)=(b.1.natAbs:Int)*a.2:=by rw[hN,Int.natCast_mul,show ((a.2.natAbs:Nat):Int)=a.2 by omega]
 have sa:a.1*b.2=if a.1<0 then -(M:Int) else M:=by
  split
  ·rw[eM,←Int.neg_mul];congr 1;omega
  ·rw[eM];congr 1;omega
 have sb:b.1*a.2=if b.1<0 then -(N:Int) else N:=by
  split
  ·rw[eN,←Int.neg_mul];congr 1;omega
  ·rw[eN];congr 1;omega
 have p1:a.1<0→0<M:=fun h=>by rw[hM];exact Nat.mul_pos (by omega) (by omega)
 have p2:b.1<0→0<N:=fun h=>by rw[hN];exact Nat.mul_pos (by omega) (by omega)
 unfold cmpQ
 simp only[e1,e2,sa,sb]
 clear e1 e2 sa sb eM eN hM hN
 by_cases c1:a.1<0
 ·by_cases c2:b.1<0
  ·simp only[c1,c2,if_true]
   repeat' split
   all_goals first | rfl | omega
  ·have:=p1 c1
   simp only[c1,c2,if_true,if_false]
   repeat' split
   all_goals first | rfl | omega
 ·by_cases c2:b.1<0
  ·have:=p2 c2
   simp only[c1,c2,if_true,if_false]
   repeat' split
   all_goals first | rfl | omega
  ·simp only[c1,c2,if_false]
   repeat' split
   all_goals first | rfl | omega
theorem Cmp_ok {a b:Fq} (ha:okF a) (hb:okF b):ratio_Cmp a b=some (cmpQ (qv a) (qv b),0,()):=by
 have hs:=cmp_signs ha hb rfl rfl
 have ha':=ha
 have hb':=hb
 obtain ⟨⟨a1,a2⟩,⟨a3,a4⟩,_⟩:=ha'
 obtain ⟨⟨b1,b2⟩,⟨b3,b4⟩,_⟩:=hb'
 simp only[ratio_Cmp,ratio_Cmp_b,Valid_ok,decide_eq_true ha,decide_eq_true hb,obind_some',Bool.not_true,Bool.not_false,Bool.or_true,cT,cF,jnT]
 rw[size_ok (by omega) (by omega),obind_some',u_wrap (by omega) (by omega),u_wrap (by omega) (by omega),show b.2=((b.2.natAbs:Nat):Int) by omega,product_ok (by omega) (by omega),obind_some',size_ok (by omega) (by omega),obind_some',show a.2=((a.2.natAbs:Nat):Int) by omega,product_ok (by omega) (by omega),obind_some']
 simp only[not_dec_eq]
 rw[hs]
 clear hs
 generalize a.1.natAbs*b.2.natAbs=M
 generalize b.1.natAbs*a.2.natAbs=N
 by_cases c1:a.1<0
 ·by_cases c2:b.1<0
  ·rw[if_pos c1,if_pos c2]
   simp only[decide_eq_true c1,decide_eq_true c2,bne_self_eq_false,cT,cF,rLess_ok,obind_some']
   by_cases e:N<M
   ·simp only[decide_eq_true e,cT];rw[if_pos e]
   ·simp only[decide_eq_false e,cF];rw[if_neg e]
    by_cases e2:M<N
    ·simp only[decide_eq_true e2,cT];rw[if_neg (by omega)]
    ·simp only[decide_eq_false e2,cF];rw[if_pos (by omega)]
  ·rw[if_pos c1,if_neg c2]
   simp only[decide_eq_true c1,decide_eq_false c2,Bool.true_bne,Bool.not_false,cT]
 ·by_cases c2:b.1<0
  ·rw[if_neg c1,if_pos c2]
   simp only[decide_eq_false c1,decide_eq_true c2,Bool.false_bne,cT,cF]
  ·rw[if_neg c1,if_neg c2]
   simp only[decide_eq_false c1,decide_eq_false c2,bne_self_eq_false,cF,rLess_ok,obind_some']
   by_cases e:M<N
   ·simp only[decide_eq_true e,cT];rw[if_pos e]
   ·simp only[decide_eq_false e,cF];rw[if_neg e]
    by_cases e2:N<M
    ·simp only[decide_eq_true e2,cT];rw[if_neg (by omega)]
    ·simp only[decide_eq_false e2,cF];rw[if_pos (by omega)]
end Go.Proofs.Ytnbbackjofgcfaa

namespace Go.Proofs.Ytnbbackjofgcfaa
namespace Dn
def listF {α σ R:Type} (b:α→σ→(σ→Option R)→Option R) (f:σ→Option R):List α→σ→Option R
 | [],s=>f s
 | a ::l,s=>b a s (listF b f l)
theorem upF_list {α σ R:Type} (L:List α) (d:α) {b:α→σ→(σ→Option R)→Option R} {c:Nat→σ→(σ→Option R)→Option R} {f:σ→Option R} (h:∀i s k,i<L.length→c i s k=b (L.getD i d) s k) :
  ∀(k i:Nat) (s:σ),i+k=L.length→upF c f k i s=listF b f (L.drop i) s
 | 0,i,s,hi=>by
  rw[List.drop_of_length_le (by omega)]
  rfl
 | k+1,i,s,hi=>by
  rw[List.drop_eq_getElem_cons (show i<L.length by omega)]
  simp only[upF,listF]
  rw[h _ _ _ (by omega),getD_nat (by omega)]
  congr 1
  funext s'
  exact upF_list L d h k (i+1) s' (by omega)
theorem lpK_int {α β σ R:Type} (L:List α) (d:α) (hn:L.length≤1180591620717411303423) {F:(β→Option R)→β→Option R} (enc:Nat→σ→β) (b:α→σ→(σ→Option R)→Option R) (f:σ→Option R)
  (hb:∀again (i:Nat) s,i<L.length→F again (enc i s)=b (L.getD i d) s (fun s'=>again (enc (i+1) s'))) (hf:∀again s,F again (enc L.length s)=f s) (s:σ):lpK β R F (enc 0 s)=listF b f L s :=
 (lpK_up L.length hn enc (fun i s k=>b (L.getD i d) s k) f hb hf s).trans ((upF_list L d (b:=b) (fun _ _ _ _=>rfl) L.length 0 s (by omega)).trans (by rw[List.drop_zero]))
theorem listF_fold {α σ R:Type} {b:α→σ→(σ→Option R)→Option R} {f:σ→Option R} (g:σ→α→σ):∀{L:List α} {s:σ},(∀a ∈ L,∀s k,b a s k=k (g s a))→listF b f L s=f (L.foldl g s)
 | [],_,_=>rfl
 | a ::L,s,h=>by
  simp only[listF,List.foldl_cons]
  rw[h a (by simp)]
  exact listF_fold g fun a' ha=>h a' (by simp[ha])
end Dn
end Go.Proofs.Ytnbbackjofgcfaa

namespace Go.Proofs.Ytnbbackjofgcfaa
open Try Dn Dn.Sh
abbrev Rw:=List Int×Int×Int
abbrev Pg:=List Int×List Rw
abbrev rw0:Rw:=([],(0:Int),(0:Int))
def inC (n:Int):Bool:=decide (-1048576≤n∧n≤1048576)
def inR (n:Int):Bool:=decide (-1073741824≤n∧n≤1073741824)
def rowOk (n:Nat) (r:Rw):Bool:=decide (r.1.length=n)&&(decide (1≤r.2.1∧r.2.1≤3)&&(inR r.2.2&&r.1.all inC))
def sizeP (p:Pg):Bool:=decide (1≤p.1.length∧p.1.length≤12∧p.2.length≤6)
def validP (p:Pg):Bool:=sizeP p&&(p.1.all inC&&p.2.all (rowOk p.1.length))
theorem any_idx {α:Type} {p:α→Bool} {l:List α}:decide (idxI p l 0≥0)=l.any p:=by
 have:=idxI_neg (p:=p) (l:=l) (i:=0) (by omega)
 rw[Bool.eq_iff_iff,decide_eq_true_iff,List.any_eq_true]
 constructor
 ·intro h1
  by_cases h2:∃a ∈ l,p a=true
  ·exact h2
  ·have:idxI p l 0<0:=this.2 fun a ha=>by
    cases e:p a with
    | false=>rfl
    | true=>exact (h2 ⟨a,ha,e⟩).elim
   omega
 ·rintro ⟨a,ha,h3⟩
  by_cases h2:idxI p l 0<0
  ·rw[this.1 h2 a ha] at h3;cases h3
  ·omega
theorem any_not {α:Type} {p:α→Bool} {l:List α}:(l.any fun a=>!p a)=!l.all p:=by
 induction l with
 | nil=>rfl
 | cons a l ih=>simp[ih,Bool.not_and]
theorem all_range {α:Type} {p:α→Bool} {l:List α} (d:α):(List.range' 0 l.length).all (fun i=>p (l.getD i d))=l.all p:=by
 rw[Bool.eq_iff_iff,List.all_eq_true,List.all_eq_true]
 constructor
 ·intro h a ha
  obtain ⟨i,hi,rfl⟩:=List.getElem_of_mem ha
  have:=h i (List.mem_range'.2 ⟨i,hi,by omega⟩)
  rwa [getD_nat hi] at this
 ·intro h i hi
  obtain ⟨k,hk,rfl⟩:=List.mem_range'.1 hi
  rw[getD_nat (by omega)]
  exact h _ (List.getElem_mem _)
theorem contains81 {f:(Int×Unit)→Option Bool} {p:Int→Bool} {l:List Int} (hl:l.length≤1000000) (h:∀a,a ∈ l→f (a,())=some (p a)):slices_ContainsFunc_81 l f=some (l.any p):=by
 have h1:slices_IndexFunc_117 l f=some (idxI p l 0):=by
  unfold slices_IndexFunc_117 slices_IndexFunc_117_b
  exact index_loop (f:=f) (d:=(0:Int)) hl h
 simp only[slices_ContainsFunc_81,slices_ContainsFunc_81_b,h1,obind_some',any_idx]
theorem containsR {f:(Rw×Unit)→Option Bool} {p:Rw→Bool} {l:List Rw} (hl:l.length≤1000000) (h:∀a,a ∈ l→f (a,())=some (p a)):slices_ContainsFunc_41 l f=some (l.any p):=by
 have h1:slices_IndexFunc_93 l f=some (idxI p l 0):=by
  unfold slices_IndexFunc_93 slices_IndexFunc_93_b
  exact index_loop (f:=f) (d:=rw0) hl h
 simp only[slices_ContainsFunc_41,slices_ContainsFunc_41_b,h1,obind_some',any_idx]
theorem containsF {f:((Int×Int)×Unit)→Option Bool} {p:(Int×Int)→Bool} {l:List (Int×Int)} (hl:l.length≤1000000) (h:∀a,a ∈ l→f (a,())=some (p a)):slices_ContainsFunc_95 l f=some (l.any p):=by
 have h1:slices_IndexFunc_122 l f=some (idxI p l 0):=by
  unfold slices_IndexFunc_122 slices_IndexFunc_122_b
  exact index_loop (f:=f) (d:=((0:Int),(0:Int))) hl h
 simp only[slices_ContainsFunc_95,slices_ContainsFunc_95_b,h1,obind_some',any_idx]
theorem containsL {f:((List (Int×Int))×Unit)→Option Bool} {p:List (Int×Int)→Bool} {l:List (List (Int×Int))} (hl:l.length≤1000000) (h:∀a,a ∈ l→f (a,())=some (p a)):slices_ContainsFunc_43 l f=some (l.any p):=by
 have h1:slices_IndexFunc_94 l f=some (idxI p l 0):=by
  unfold slices_IndexFunc_94 slices_IndexFunc_94_b
  exact index_loop (f:=f) (d:=([]:List (Int×Int))) hl h
 simp only[slices_ContainsFunc_43,slices_ContainsFunc_43_b,h1,obind_some',any_idx]
theorem far_ok (n m:Int) (h0:0≤m) (h1:m≤1099511627776):program_Valid_1_1 n m=some (!decide (-m≤n∧n≤m)):=by
 have hw:IntKind.wrap .i64 (0 - m)= -m:=by rw[wrap_id (by omega) (by omega)];omega
 simp only[program_Valid_1_1,program_Valid_1_1_b,hw,not_or_self',or_self_not,Bool.and_self,cT]
 by_cases g1:n< -m
 ·rw[decide_eq_true g1,decide_eq_false (show ¬ (-m≤n∧n≤m) by omega)];rfl
 ·rw[decide_eq_false g1]
  by_cases g2:n>m
  ·rw[decide_eq_true g2,decide_eq_false (show ¬ (-m≤n∧n≤m) by omega)];rfl
  ·rw[decide_eq_false g2,decide_eq_true (show (-m≤n∧n≤m) by omega)];rfl
theorem farC (n:Int):program_Valid_1_1 n 1048576=some (!inC n):=far_ok n _ (by omega) (by omega)
theorem farR (n:Int):program_Valid_1_1 n 1073741824=some (!inR n):=far_ok n _ (by omega) (by omega)
theorem pValid_ok (p:Pg):program_Valid p=some (validP p):=by
 obtain ⟨c,rs⟩:=p
 simp only[program_Valid,program_Valid_b,program_Valid_1,program_Valid_1_b,not_or_self',or_self_not,Bool.and_self,cT,validP,sizeP]
 by_cases g1:(c.length:Int)<1
 ·rw[decide_eq_true g1,decide_eq_false (show ¬ (1≤c.length∧c.length≤12∧rs.length≤6) by omega)]
  rfl
 ·rw[decide_eq_false g1]
  by_cases g2:(c.length:Int)>12
  ·rw[decide_eq_true g2,decide_eq_false (show ¬ (1≤c.length∧c.length≤12∧rs.length≤6) by omega)]
   rfl
  ·rw[decide_eq_false g2]
   by_cases g3:(rs.length:Int)>6
   ·rw[decide_eq_true g3,decide_eq_false (show ¬ (1≤c.length∧c.length≤12∧rs.length≤6) by omega)]
    rfl
   ·rw[decide_eq_false g3,decide_eq_true (show (1≤c.length∧c.length≤12∧rs.length≤6) by omega)]
    have hc:∀l:List Int,l.length≤1000000→slices_ContainsFunc_81 l (fun x=>program_Valid_1_1 x.1 1048576)=some (!l.all inC):=fun l hl=>by
     rw[←any_not]
     exact contains81 hl fun a _=>farC a
    simp only[cF,cT,Bool.not_false,obind_some',hc c (by omega),Bool.true_and]
    cases hcc:c.all inC with
    | false=>rfl
    | true =>
     simp only[Bool.not_true,cF,Bool.true_and]
     refine (lpK_up (α:=Int×PUnit) rs.length (by omega) (fun i (_:Unit)=>((i:Int),PUnit.unit)) (fun i s k=>bif rowOk c.length (rs.getD i rw0) then k s else some false) (fun _=>some true) ?_ ?_ ()).trans ?_
     ·intro again i _ hi
      have hw:IntKind.wrap .i64 ((i:Int)+1)=((i+1:Nat):Int):=by rw[wrap_id (by omega) (by omega)];rfl
      simp only[inB_nat,decide_eq_true hi,decide_eq_true (show (i:Int)<rs.length by omega),cT,Int.toNat_natCast,hw]
      obtain ⟨a,k,b,e⟩:∃a k b,List.getD rs i rw0=(a,k,b):=⟨_,_,_,rfl⟩
      simp only[e,rowOk,farR,decide_eq_true (show (i:Int)≥0 by omega)]
      by_cases q1:a.length=c.length
      ·have hca:=hc a (by omega)
       simp only[decide_eq_true (show (a.length:Int)=c.length by omega),decide_eq_true q1,Bool.not_true,Bool.not_false,cT,cF,obind_some',hca,Bool.true_and]
       by_cases q2:k<1
       ·simp only[decide_eq_true q2,decide_eq_false (show ¬ (1≤k∧k≤3) by omega)]
        cases a.all inC<;>simp[obind_some']
       ·by_cases q3:k>3
        ·simp only[decide_eq_false q2,decide_eq_true q3,decide_eq_false (show ¬ (1≤k∧k≤3) by omega)]
         cases a.all inC<;>simp[obind_some']
        ·simp only[decide_eq_false q2,decide_eq_false q3,decide_eq_true (show (1≤k∧k≤3) by omega)]
         cases h1:a.all inC<;>cases h2:inR b<;>simp[obind_some',h2]
      ·simp only[decide_eq_false (show ¬ (a.length:Int)=c.length by omega),decide_eq_false q1]
       simp[obind_some']
     ·intro again _
      simp
     ·refine (upF_all (p:=fun i=>rowOk c.length (rs.getD i rw0)) (r:=some false) rs.length (fun _ _ _=>rfl) rs.length 0 (by omega)).trans ?_
      rw[all_range (p:=rowOk c.length) (l:=rs) rw0]
      cases rs.all (rowOk c.length)<;>rfl
end Go.Proofs.Ytnbbackjofgcfaa

namespace Go.Proofs.Ytnbbackjofgcfaa
open Try Dn Dn.Sh
noncomputable def sumR:List Int→List Fq→Rat→Option Rat
 | n ::l,a ::x,s=>if fitsQ ((n:Rat)*qv a)∧fitsQ (s+(n:Rat)*qv a) then sumR l x (s+(n:Rat)*qv a) else none
 | _,_,s=>some s
noncomputable def endR {R:Type} (o:Option Rat) (bad:Option R) (good:Rat→Option R):Option R:=match o with
 | some q=>good q
 | none=>bad
theorem sum_up {σ R:Type} {l:List Int} {x:List Fq} (hl:l.length≤x.length) {b:Nat→σ→(σ→Option R)→Option R} {f:σ→Option R} {cur:σ→Rat} {bad:Option R} {good:Rat→Option R}
  (nx:∀i s,fitsQ (cur s+((l.getD i 0:Int):Rat)*qv (x.getD i (0,0)))→σ) (hnx:∀i s h,cur (nx i s h)=cur s+((l.getD i 0:Int):Rat)*qv (x.getD i (0,0)))
  (hb:∀i s k,i<l.length→b i s k=if h:fitsQ (((l.getD i 0:Int):Rat)*qv (x.getD i (0,0)))∧fitsQ (cur s+((l.getD i 0:Int):Rat)*qv (x.getD i (0,0))) then k (nx i s h.2) else bad)
  (hf:∀s,f s=good (cur s)):∀(k i:Nat) (s:σ),i+k=l.length→upF b f k i s=endR (sumR (l.drop i) (x.drop i) (cur s)) bad good
 | 0,i,s,h=>by
  rw[List.drop_eq_nil_of_le (by omega)]
  exact hf s
 | k+1,i,s,h=>by
  have h1:i<l.length:=by omega
  have h2:i<x.length:=by omega
  have e1:l.getD i 0=l[i]:=getD_nat h1
  have e2:x.getD i (0,0)=x[i]:=getD_nat h2
  simp only[upF]
  rw[hb i s _ h1,List.drop_eq_getElem_cons h1,List.drop_eq_getElem_cons h2,sumR,←e1,←e2]
  split
  ·rw[sum_up hl nx hnx hb hf k (i+1) _ (by omega),hnx]
  ·rfl
theorem obN {T R:Type} {t:T} {k:T→Option R}:obind (some t) k=k t:=id rfl
theorem of_ok {l:List Int} {x:List Fq} {e:Int} (hl:l.length≤x.length) (h0:l.length≤1000000) (hc:∀n ∈ l,-1152921504606846976≤n∧n≤1152921504606846976) (hx:∀a ∈ x,okF a) :
  program_sums_of e l x=endR (sumR l x 0) (some (5,(0,1))) fun q=>some (e,prQ q):=by
 simp only[program_sums_of,program_sums_of_b]
 refine (lpK_up (α:=Int×Int×Fq×Fq×PUnit) l.length (by omega) (fun i (s:Fq×{q:Rat // fitsQ q})=>((i:Int),e,s.1,prQ s.2.1,PUnit.unit))
  (fun i s k=>if h:fitsQ (((l.getD i 0:Int):Rat)*qv (x.getD i (0,0)))∧fitsQ (s.2.1+((l.getD i 0:Int):Rat)*qv (x.getD i (0,0))) then k (s.1,⟨_,h.2⟩) else some (5,(0,1))) (fun s=>some (e,prQ s.2.1)) ?_ ?_ ((0,0),⟨0,by decide⟩)).trans ?_
 ·intro again i s hi
  have hw:IntKind.wrap .i64 ((i:Int)+1)=((i+1:Nat):Int):=by rw[wrap_id (by omega) (by omega)];rfl
  obtain ⟨w,q,hq⟩:=s
  have hn:l.getD i 0 ∈ l:=by rw[getD_nat hi];exact List.getElem_mem _
  have ha:okF (x.getD i (0,0)):=by rw[getD_nat (show i<x.length by omega)];exact hx _ (List.getElem_mem _)
  have hm:=Mul_ok (okF_int (hc _ hn).1 (hc _ hn).2) ha
  rw[qv_int] at hm
  simp only[inB_nat,decide_eq_true hi,decide_eq_true (show i<x.length by omega),decide_eq_true (show (i:Int)<l.length by omega),cT,Int.toNat_natCast,hw,jnK_eq',hm,obind_some']
  generalize l.getD i 0=n at *
  generalize x.getD i (0,0)=a at *
  rcases fitQ_cases ((n:Rat)*qv a) with ⟨f1,e1⟩ | ⟨f1,e1⟩
  ·have hA:=Add_ok (okF_prQ hq) (okF_prQ f1)
   rw[qv_prQ,qv_prQ] at hA
   simp only[e1,decide_true,cT,hA,obind_some']
   rcases fitQ_cases (q+(n:Rat)*qv a) with ⟨f2,e2⟩ | ⟨f2,e2⟩
   ·rw[dif_pos ⟨f1,f2⟩]
    simp only[e2,decide_true,Bool.not_true,cF]
   ·rw[dif_neg fun h=>f2 h.2]
    simp only[e2]
    rfl
  ·rw[dif_neg fun h=>f1 h.1]
   simp only[e1]
   rfl
 ·intro again s
  simp only[decide_eq_false (show ¬ (l.length:Int)<l.length by omega),cF]
 ·exact sum_up (cur:=fun s:Fq×{q:Rat // fitsQ q}=>s.2.1) (bad:=some (5,(0,1))) (good:=fun q=>some (e,prQ q)) hl (fun i s h=>(s.1,⟨_,h⟩)) (fun _ _ _=>rfl) (fun _ _ _ _=>rfl) (fun _=>rfl) l.length 0 ((0,0),⟨0,by decide⟩) (by omega)
theorem sumR_fits:∀{l:List Int} {x:List Fq} {s q:Rat},fitsQ s→sumR l x s=some q→fitsQ q
 | [],_,s,q,hs,h=>by
  unfold sumR at h
  injection h with h
  rw[←h];exact hs
 | _ ::_,[],s,q,hs,h=>by
  unfold sumR at h
  injection h with h
  rw[←h];exact hs
 | n ::l,a ::x,s,q,hs,h=>by
  unfold sumR at h
  split at h
  ·rename_i hh
   exact sumR_fits hh.2 h
  ·cases h
end Go.Proofs.Ytnbbackjofgcfaa
