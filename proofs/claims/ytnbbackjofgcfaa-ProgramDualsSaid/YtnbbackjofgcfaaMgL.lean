/- r05: what its functions answer (printed by a program), and that they do; part 2. r05: what its functions answer (printed by a program), and that they do; part 3. Plain lemmas for what functions answer: loops, machine numbers, lists. Fractions: rational numbers, and the pairs of numbers that stand for them. Fractions: what 'Make', 'Valid', 'Mul', 'Floor', 'Ceil' of package ratio answer. Fractions: products of two words, 'Mul', 'Floor', 'Ceil' of package ratio. Fractions of the reference: numbers of two words, their greatest common divisors and quotients. Fractions of the reference: 'Div', 'Made', 'Make', 'Times', 'Floor', 'Ceil'. Numbers of 128 bits: sums, differences, comparisons; the length of a number. The quotient of a number of 128 bits by one of 64. Fractions: 'Add' of package ratio. Loops over lists: searches and tests of all elements. Fractions: 'Add', 'Valid', 'All' of the reference. Fractions: 'Sub' and 'Cmp' of both. Loops over the elements of a list, as recursions over it. Programs: both programs know the same valid ones. Programs: sums of numbers times fractions. Programs: which points are feasible, as the program tells it. Programs: feasible points and values, in both programs. Sums of integers, and determinants. Tables of the simplex method: integers with a common denominator, as determinants of columns. Steps of the simplex method by the rule of least indices: they never come back to a basis. Steps of the simplex method come to an end: a measure. -/
import Derived.Test.YtnbbackjofgcfaaMgK

namespace Go.Proofs.Ytnbbackjofgcfaa
open Try Dn Dn.Sh
set_option maxRecDepth 100000
noncomputable def law05_example_b (_:Lp) (_:Jn):Option ((List Int)×List ((List Int)×Int×Int)) :=
 some ([(-1:Int),(-1:Int)],[([(1:Int),(2:Int)],(1:Int),(4:Int)),([(3:Int),(1:Int)],(1:Int),(6:Int))])
noncomputable def law05_example:Option ((List Int)×List ((List Int)×Int×Int)):=law05_example_b lpK jnK
noncomputable def c40:Ctr:=⟨[],[],[],.one T25,fun _ _ _=>law05_example⟩
theorem e40 (lp:Lp) (jn:Jn):∀(x:TsS c40.as) (F:TsF c40.fs) (y:TsS c40.cs),law05_example_b lp jn=runC lp jn (ctxT tabs lits (ctxOf prog shs inls its [] [(24,r24),(22,r22)])) hints 4 40 f40 c40 x F y:=fun x F y=>by kernel_rfl
theorem l40:(ctxT tabs lits (ctxOf prog shs inls its [] [(24,r24),(22,r22)])).ok:=ctxT_ok (q24)
theorem ok40:c40.ok prog 40:=Ctr.of_den l40 hmix (hl:=hints) (d:=4) func40 rfl (by decide) (e40 lpK jnK)
noncomputable def law05_awake_b (_:Lp) (_:Jn) (program_Check:((List Int)×List ((List Int)×Int×Int))→((Int×Int)×(List (Int×Int))×List (Int×Int))→Option (Bool×Int×Unit)) (program_Refutes:((List Int)×List ((List Int)×Int×Int))→(List (Int×Int))→Option (Bool×Int×Unit)) (program_Solve:((List Int)×List ((List Int)×Int×Int))→Option (((Int×Int)×(List (Int×Int))×List (Int×Int))×Int×Unit)) (law05_example:Option ((List Int)×List ((List Int)×Int×Int))):Option Bool :=
 obind law05_example fun (t:List Int×List (List Int×Int×Int))=>obind (program_Solve t) fun (t:((Int×Int)×List (Int×Int)×List (Int×Int))×Int×PUnit) =>
 let v4:Bool:=decide (t.2.1=(0:Int));
 let v5:Bool:=!v4||v4;
 let v6:Bool:=bif v4 then decide (t.1.1.1=(-14:Int))&&(decide (t.1.1.2=(5:Int))&&true) else false;
 let v7:Bool:=!v6||v6;obind law05_example fun (t:List Int×List (List Int×Int×Int))=>obind (program_Check t (((-14:Int),(5:Int)),[((8:Int),(5:Int)),((6:Int),
  (5:Int))],[((-2:Int),(5:Int)),((-1:Int),(5:Int))])) fun (t:Bool×Int×PUnit) =>
 let v10:Bool:=bif v6 then decide (t.2.1=(0:Int)) else false;
 let v11:Bool:=bif v10 then t.1 else false;
 let v12:Bool:=!v11||v11;obind (program_Refutes ([(0:Int)],[([(1:Int)],(2:Int),(3:Int)),([(1:Int)],(1:Int),(2:Int))]) [((1:Int),(1:Int)),((-1:Int),(1 :
  Int))]) fun (t:Bool×Int×PUnit) =>
 let v14:Bool:=bif v11 then decide (t.2.1=(0:Int)) else false;bif v5 then bif v5&&v5 then bif v5 then bif v7 then bif v7 then bif !v10||v10 then bif v12 then bif v12 then
  bif !v14||v14 then some (bif v14 then t.1 else false) else none else none else none else none else none else none else none else none else none
noncomputable def law05_awake:Option Bool:=law05_awake_b lpK jnK program_Check program_Refutes program_Solve law05_example
noncomputable def c11:Ctr:=⟨[],[],[],.one .bool,fun _ _ _=>law05_awake⟩
theorem e11 (lp:Lp) (jn:Jn) (program_Check:((List Int)×List ((List Int)×Int×Int))→((Int×Int)×(List (Int×Int))×List (Int×Int))→Option (Bool×Int×Unit)) (program_Refutes:((List Int)×List ((List Int)×Int×Int))→(List (Int×Int))→Option (Bool×Int×Unit)) (program_Solve:((List Int)×List ((List Int)×Int×Int))→Option (((Int×Int)×(List (Int×Int))×List (Int×Int))×Int×Unit)) (law05_example:Option ((List Int)×List ((List Int)×Int×Int))):∀(x:TsS c11.as) (F:TsF c11.fs) (y:TsS c11.cs),law05_awake_b lp jn program_Check program_Refutes program_Solve law05_example=runC lp jn (ctxT tabs lits (ctxOf prog shs inls its [(40,⟨[],[],[],.one T25,fun _ _ _=>law05_example⟩),(21,⟨[T25],[],[],.tup [T30,i64],fun x _ _=>program_Solve x.1⟩),(15,⟨[T25,(.sl T27)],[],[],.tup [.bool,i64],fun x _ _=>program_Refutes x.1 x.2.1⟩),(14,⟨[T25,T30],[],[],.tup [.bool,i64],fun x _ _=>program_Check x.1 x.2.1⟩)] [(24,r24),(22,r22)])) hints 4 11 f11 c11 x F y:=fun x F y=>by kernel_rfl
theorem l11:(ctxT tabs lits (ctxOf prog shs inls its [(40,c40),(21,c21),(15,c15),(14,c14)] [(24,r24),(22,r22)])).ok:=ctxT_ok (ctxOf_cons (ctxOf_cons (ctxOf_cons (ctxOf_cons (q24) (by kernel_rfl) ok14) (by kernel_rfl) ok15) (by kernel_rfl) ok21) (by kernel_rfl) ok40)
theorem ok11:c11.ok prog 11:=Ctr.of_den l11 hmix (hl:=hints) (d:=4) func11 rfl (by decide) (e11 lpK jnK program_Check program_Refutes program_Solve law05_example)
noncomputable def law05_few_1_b (_:Lp) (_:Jn) (x0:(List Int)×Int×Int):Option Bool :=
 some (decide ((↑(List.length x0.1):Int)>(14:Int)))
noncomputable def law05_few_1 (x0:(List Int)×Int×Int):Option Bool:=law05_few_1_b lpK jnK x0
noncomputable def c42:Ctr:=⟨[T45],[],[],.one .bool,fun x _ _=>law05_few_1 x.1⟩
theorem e42 (lp:Lp) (jn:Jn):∀(x:TsS c42.as) (F:TsF c42.fs) (y:TsS c42.cs),law05_few_1_b lp jn x.1=runC lp jn (ctxT tabs lits (ctxOf prog shs inls its [] [(24,r24),(22,r22)])) hints 4 42 f42 c42 x F y:=fun x F y=>by kernel_rfl
theorem l42:(ctxT tabs lits (ctxOf prog shs inls its [] [(24,r24),(22,r22)])).ok:=ctxT_ok (q24)
theorem ok42:c42.ok prog 42:=Ctr.of_den l42 hmix (hl:=hints) (d:=4) func42 rfl (by decide) (e42 lpK jnK)
noncomputable def law05_few_b (_:Lp) (_:Jn) (slices_ContainsFunc_41:(List ((List Int)×Int×Int))→(((((List Int)×Int×Int)×Unit)→Option Bool))→Option (Bool)) (law05_few_1:((List Int)×Int×Int)→Option (Bool)) (x0:(List Int)×List ((List Int)×Int×Int)):Option Bool :=
 
 let v3:Bool:=decide ((↑(List.length x0.1):Int)≤(14:Int));
 let v4:Bool:=!v3||v3;
 let v5:Bool:=bif v3 then decide ((↑(List.length x0.2):Int)≤(8:Int)) else false;
 let v6:Bool:=!v5||v5;bif v4 then bif v4 then bif v4 then bif v4 then bif v6 then bif v6 then obind (bif v5 then slices_ContainsFunc_41 x0.2 fun (x:(List Int×Int×Int) ×
  PUnit)=>law05_few_1 x.1 else some false) fun (t:Bool)=>bif v6 then bif v6 then some (bif v5 then !t else false) else none else none else none else none else none else none else
  none else none
noncomputable def law05_few (x0:(List Int)×List ((List Int)×Int×Int)):Option Bool:=law05_few_b lpK jnK slices_ContainsFunc_41 law05_few_1 x0
noncomputable def c12:Ctr:=⟨[T25],[],[],.one .bool,fun x _ _=>law05_few x.1⟩
theorem e12 (lp:Lp) (jn:Jn) (slices_ContainsFunc_41:(List ((List Int)×Int×Int))→(((((List Int)×Int×Int)×Unit)→Option Bool))→Option (Bool)) (law05_few_1:((List Int)×Int×Int)→Option (Bool)):∀(x:TsS c12.as) (F:TsF c12.fs) (y:TsS c12.cs),law05_few_b lp jn slices_ContainsFunc_41 law05_few_1 x.1=runC lp jn (ctxT tabs lits (ctxOf prog shs inls its [(42,⟨[T45],[],[],.one .bool,fun x _ _=>law05_few_1 x.1⟩),(41,⟨[(.sl T45)],[([T45],.bool)],[],.one .bool,fun x F _=>slices_ContainsFunc_41 x.1 F.1⟩)] [(24,r24),(22,r22)])) hints 4 12 f12 c12 x F y:=fun x F y=>by kernel_rfl
theorem l12:(ctxT tabs lits (ctxOf prog shs inls its [(42,c42),(41,c41)] [(24,r24),(22,r22)])).ok:=ctxT_ok (ctxOf_cons (ctxOf_cons (q24) (by kernel_rfl) ok41) (by kernel_rfl) ok42)
theorem ok12:c12.ok prog 12:=Ctr.of_den l12 hmix (hl:=hints) (d:=4) func12 rfl (by decide) (e12 lpK jnK slices_ContainsFunc_41 law05_few_1)
noncomputable def slices_IndexFunc_94_b (lp:Lp) (_:Jn) (x0:List (List (Int×Int))) (f0:(((List (Int×Int))×Unit)→Option Bool)):Option Int :=
 lp (Int×PUnit) Int (fun (again:Int×PUnit→Option Int) (x:Int×PUnit)=>bif decide (x.1<(↑(List.length x0):Int)) then bif inB x.1 (List.length x0) then obind (f0
  (List.getD x0 (Int.toNat x.1) [],PUnit.unit)) fun (t:Bool)=>bif t then some x.1 else again (IntKind.wrap .i64 (x.1+(1:Int)),PUnit.unit) else none else some (-1 :
  Int)) ((0:Int),PUnit.unit)
noncomputable def slices_IndexFunc_94 (x0:List (List (Int×Int))) (f0:(((List (Int×Int))×Unit)→Option Bool)):Option Int:=slices_IndexFunc_94_b lpK jnK x0 f0
noncomputable def c94:Ctr:=⟨[(.sl (.sl T27))],[([(.sl T27)],.bool)],[],.one i64,fun x F _=>slices_IndexFunc_94 x.1 F.1⟩
theorem e94 (lp:Lp) (jn:Jn):∀(x:TsS c94.as) (F:TsF c94.fs) (y:TsS c94.cs),slices_IndexFunc_94_b lp jn x.1 F.1=runC lp jn (ctxT tabs lits (ctxOf prog shs inls its [] [(24,r24),(22,r22)])) hints 4 94 f94 c94 x F y:=fun x F y=>by kernel_rfl
theorem l94:(ctxT tabs lits (ctxOf prog shs inls its [] [(24,r24),(22,r22)])).ok:=ctxT_ok (q24)
theorem ok94:c94.ok prog 94:=Ctr.of_den l94 hmix (hl:=hints) (d:=4) func94 rfl (by decide) (e94 lpK jnK)
noncomputable def slices_ContainsFunc_43_b (_:Lp) (_:Jn) (slices_IndexFunc_94:(List (List (Int×Int)))→((((List (Int×Int))×Unit)→Option Bool))→Option (Int)) (x0:List (List (Int×Int))) (f0:(((List (Int×Int))×Unit)→Option Bool)):Option Bool :=
 obind (slices_IndexFunc_94 x0 f0) fun (t:Int)=>some (decide (t≥(0:Int)))
noncomputable def slices_ContainsFunc_43 (x0:List (List (Int×Int))) (f0:(((List (Int×Int))×Unit)→Option Bool)):Option Bool:=slices_ContainsFunc_43_b lpK jnK slices_IndexFunc_94 x0 f0
noncomputable def c43:Ctr:=⟨[(.sl (.sl T27))],[([(.sl T27)],.bool)],[],.one .bool,fun x F _=>slices_ContainsFunc_43 x.1 F.1⟩
theorem e43 (lp:Lp) (jn:Jn) (slices_IndexFunc_94:(List (List (Int×Int)))→((((List (Int×Int))×Unit)→Option Bool))→Option (Int)):∀(x:TsS c43.as) (F:TsF c43.fs) (y:TsS c43.cs),slices_ContainsFunc_43_b lp jn slices_IndexFunc_94 x.1 F.1=runC lp jn (ctxT tabs lits (ctxOf prog shs inls its [(94,⟨[(.sl (.sl T27))],[([(.sl T27)],.bool)],[],.one i64,fun x F _=>slices_IndexFunc_94 x.1 F.1⟩)] [(24,r24),(22,r22)])) hints 4 43 f43 c43 x F y:=fun x F y=>by kernel_rfl
theorem l43:(ctxT tabs lits (ctxOf prog shs inls its [(94,c94)] [(24,r24),(22,r22)])).ok:=ctxT_ok (ctxOf_cons (q24) (by kernel_rfl) ok94)
theorem ok43:c43.ok prog 43:=Ctr.of_den l43 hmix (hl:=hints) (d:=4) func43 rfl (by decide) (e43 lpK jnK slices_IndexFunc_94)
noncomputable def law05_short_1_b (_:Lp) (_:Jn) (x0:List (Int×Int)):Option Bool :=
 some (decide ((↑(List.length x0):Int)>(20:Int)))
noncomputable def law05_short_1 (x0:List (Int×Int)):Option Bool:=law05_short_1_b lpK jnK x0
noncomputable def c44:Ctr:=⟨[(.sl T27)],[],[],.one .bool,fun x _ _=>law05_short_1 x.1⟩
theorem e44 (lp:Lp) (jn:Jn):∀(x:TsS c44.as) (F:TsF c44.fs) (y:TsS c44.cs),law05_short_1_b lp jn x.1=runC lp jn (ctxT tabs lits (ctxOf prog shs inls its [] [(24,r24),(22,r22)])) hints 4 44 f44 c44 x F y:=fun x F y=>by kernel_rfl
theorem l44:(ctxT tabs lits (ctxOf prog shs inls its [] [(24,r24),(22,r22)])).ok:=ctxT_ok (q24)
theorem ok44:c44.ok prog 44:=Ctr.of_den l44 hmix (hl:=hints) (d:=4) func44 rfl (by decide) (e44 lpK jnK)
noncomputable def law05_short_b (_:Lp) (_:Jn) (slices_ContainsFunc_43:(List (List (Int×Int)))→((((List (Int×Int))×Unit)→Option Bool))→Option (Bool)) (law05_short_1:(List (Int×Int))→Option (Bool)) (x0:List (List (Int×Int))):Option Bool :=
 obind (slices_ContainsFunc_43 x0 fun (x:List (Int×Int)×PUnit)=>law05_short_1 x.1) fun (t:Bool)=>some !t
noncomputable def law05_short (x0:List (List (Int×Int))):Option Bool:=law05_short_b lpK jnK slices_ContainsFunc_43 law05_short_1 x0
noncomputable def c13:Ctr:=⟨[(.sl (.sl T27))],[],[],.one .bool,fun x _ _=>law05_short x.1⟩
theorem e13 (lp:Lp) (jn:Jn) (slices_ContainsFunc_43:(List (List (Int×Int)))→((((List (Int×Int))×Unit)→Option Bool))→Option (Bool)) (law05_short_1:(List (Int×Int))→Option (Bool)):∀(x:TsS c13.as) (F:TsF c13.fs) (y:TsS c13.cs),law05_short_b lp jn slices_ContainsFunc_43 law05_short_1 x.1=runC lp jn (ctxT tabs lits (ctxOf prog shs inls its [(44,⟨[(.sl T27)],[],[],.one .bool,fun x _ _=>law05_short_1 x.1⟩),(43,⟨[(.sl (.sl T27))],[([(.sl T27)],.bool)],[],.one .bool,fun x F _=>slices_ContainsFunc_43 x.1 F.1⟩)] [(24,r24),(22,r22)])) hints 4 13 f13 c13 x F y:=fun x F y=>by kernel_rfl
theorem l13:(ctxT tabs lits (ctxOf prog shs inls its [(44,c44),(43,c43)] [(24,r24),(22,r22)])).ok:=ctxT_ok (ctxOf_cons (ctxOf_cons (q24) (by kernel_rfl) ok43) (by kernel_rfl) ok44)
theorem ok13:c13.ok prog 13:=Ctr.of_den l13 hmix (hl:=hints) (d:=4) func13 rfl (by decide) (e13 lpK jnK slices_ContainsFunc_43 law05_short_1)
noncomputable def ref05_within_b (_:Lp) (_:Jn) (x0:Int) (x1:Int):Option Bool :=
 
 let v4:Bool:=decide (x0≥IntKind.wrap .i64 ((0:Int) - x1));
 let v5:Bool:=!v4||v4;bif v5&&v5 then bif v5 then some (bif v4 then decide (x0≤x1) else false) else none else none
noncomputable def ref05_within (x0:Int) (x1:Int):Option Bool:=ref05_within_b lpK jnK x0 x1
noncomputable def c54:Ctr:=⟨[i64,i64],[],[],.one .bool,fun x _ _=>ref05_within x.1 x.2.1⟩
theorem e54 (lp:Lp) (jn:Jn):∀(x:TsS c54.as) (F:TsF c54.fs) (y:TsS c54.cs),ref05_within_b lp jn x.1 x.2.1=runC lp jn (ctxT tabs lits (ctxOf prog shs inls its [] [(24,r24),(22,r22)])) hints 4 54 f54 c54 x F y:=fun x F y=>by kernel_rfl
theorem l54:(ctxT tabs lits (ctxOf prog shs inls its [] [(24,r24),(22,r22)])).ok:=ctxT_ok (q24)
theorem ok54:c54.ok prog 54:=Ctr.of_den l54 hmix (hl:=hints) (d:=4) func54 rfl (by decide) (e54 lpK jnK)
noncomputable def ref05_Valid_b (lp:Lp) (_:Jn) (ref05_within:(Int)→(Int)→Option (Bool)) (x0:(List Int)×List ((List Int)×Int×Int)):Option Bool :=
 
 let v3:Bool:=decide ((↑(List.length x0.1):Int)<(1:Int));
 let v4:Bool:=!v3;
 let v5:Bool:=bif v3 then true else decide ((↑(List.length x0.1):Int)>(12:Int));
 let v6:Bool:=!v4||v4;
 let v7:Bool:=!v5;
 let v8:Bool:=!v7||v7;bif v6 then bif v6 then bif v6 then bif v3||v4 then bif v8 then bif v8 then bif v8 then bif v5||v7 then bif bif v5 then true else decide ((↑(List.length
  x0.2):Int)>(6:Int)) then some false else lp (Int×PUnit) Bool (fun (again:Int×PUnit→Option Bool) (x:Int×PUnit)=>bif decide (x.1<(↑(List.length x0.1):Int))
  then bif inB x.1 (List.length x0.1) then obind (ref05_within (List.getD x0.1 (Int.toNat x.1) (0:Int)) (1048576:Int)) fun (t:Bool)=>bif !t then some false else again
  (IntKind.wrap .i64 (x.1+(1:Int)),PUnit.unit) else none else lp (Int×PUnit) Bool (fun (again:Int×PUnit→Option Bool) (x:Int×PUnit) =>
 let v13:List Int×Int×Int:=List.getD x0.2 (Int.toNat x.1) ([],(0:Int),(0:Int));
 let v14:Bool:=!decide ((↑(List.length v13.1):Int)=(↑(List.length x0.1):Int));
 let v15:Bool:=!v14;
 let v16:Bool:=bif v14 then true else decide (v13.2.1<(1:Int));
 let v17:Bool:=!v16;
 let v18:Bool:=!v15||v15;
 let v19:Bool:=bif v16 then true else decide (v13.2.1>(3:Int));
 let v20:Bool:=!v19;
 let v21:Bool:=!v17||v17;
 let v22:Bool:=!v20||v20;bif decide (x.1<(↑(List.length x0.2):Int)) then bif inB x.1 (List.length x0.2) then bif v18 then bif v18 then bif v14||v15 then bif v21 then
  bif v21 then bif v16||v17 then bif v22 then bif v22 then obind (bif v20 then ref05_within v13.2.2 (1073741824:Int) else some false) fun (t:Bool)=>bif v22 then bif v19||v20
  then bif bif v19 then true else !t then some false else lp (Int×PUnit) Bool (fun (again_1:Int×PUnit→Option Bool) (x_1:Int×PUnit)=>bif decide (x_1.1<(↑(List.length
  v13.1):Int)) then bif inB x_1.1 (List.length v13.1) then obind (ref05_within (List.getD v13.1 (Int.toNat x_1.1) (0:Int)) (1048576:Int)) fun (t:Bool)=>bif !t then
  some false else again_1 (IntKind.wrap .i64 (x_1.1+(1:Int)),PUnit.unit) else none else again (IntKind.wrap .i64 (x.1+(1:Int)),PUnit.unit)) ((0:Int),
  PUnit.unit) else none else none else none else none else none else none else none else none else none else none else none else some true) ((0:Int),PUnit.unit)) ((0:Int),
  PUnit.unit) else none else none else none else none else none else none else none else none
noncomputable def ref05_Valid (x0:(List Int)×List ((List Int)×Int×Int)):Option Bool:=ref05_Valid_b lpK jnK ref05_within x0
noncomputable def c16:Ctr:=⟨[T25],[],[],.one .bool,fun x _ _=>ref05_Valid x.1⟩
theorem e16 (lp:Lp) (jn:Jn) (ref05_within:(Int)→(Int)→Option (Bool)):∀(x:TsS c16.as) (F:TsF c16.fs) (y:TsS c16.cs),ref05_Valid_b lp jn ref05_within x.1=runC lp jn (ctxT tabs lits (ctxOf prog shs inls its [(54,⟨[i64,i64],[],[],.one .bool,fun x _ _=>ref05_within x.1 x.2.1⟩)] [(24,r24),(22,r22)])) hints 4 16 f16 c16 x F y:=fun x F y=>by kernel_rfl
theorem l16:(ctxT tabs lits (ctxOf prog shs inls its [(54,c54)] [(24,r24),(22,r22)])).ok:=ctxT_ok (ctxOf_cons (q24) (by kernel_rfl) ok54)
theorem ok16:c16.ok prog 16:=Ctr.of_den l16 hmix (hl:=hints) (d:=4) func16 rfl (by decide) (e16 lpK jnK ref05_within)
noncomputable def ref02_Half_b (_:Lp) (_:Jn) (x0:Int×Int):Option (Int×Int) :=
 
 let v3:Int:=(2:Int) ^ (1:Nat);
 let v4:Bool:=decide ((0:Int)≤(1:Int));bif v4 then bif v4 then bif decide ((0:Int)≤(63:Int)) then some (Int.fdiv x0.1 v3,IntKind.wrap .u64 (Int.fdiv x0.2 v3 +
  IntKind.wrap .u64 (x0.1*(2:Int) ^ (63:Nat)))) else none else none else none
noncomputable def ref02_Half (x0:Int×Int):Option (Int×Int):=ref02_Half_b lpK jnK x0
noncomputable def c101:Ctr:=⟨[T83],[],[],.one T83,fun x _ _=>ref02_Half x.1⟩
theorem e101 (lp:Lp) (jn:Jn):∀(x:TsS c101.as) (F:TsF c101.fs) (y:TsS c101.cs),ref02_Half_b lp jn x.1=runC lp jn (ctxT tabs lits (ctxOf prog shs inls its [] [(24,r24),(22,r22)])) hints 4 101 f101 c101 x F y:=fun x F y=>by kernel_rfl
theorem l101:(ctxT tabs lits (ctxOf prog shs inls its [] [(24,r24),(22,r22)])).ok:=ctxT_ok (q24)
theorem ok101:c101.ok prog 101:=Ctr.of_den l101 hmix (hl:=hints) (d:=4) func101 rfl (by decide) (e101 lpK jnK)
noncomputable def ref02_Less_b (_:Lp) (_:Jn) (x0:Int×Int) (x1:Int×Int):Option Bool :=
 
 let v4:Bool:=decide (x0.1=x1.1);
 let v5:Bool:=decide (x0.1<x1.1);
 let v6:Bool:=!v5;
 let v7:Bool:=!v6;
 let v8:Bool:=v6&&v4;
 let v9:Bool:=v7||v6;
 let v10:Bool:=!v8||v8;bif v9 then bif v9 then bif v9&&v9 then bif v9 then bif v10 then bif v10 then bif v10&&v10 then bif (v7||v9)&&(v7||(!v4||(v7||v8))) then bif v5
  || v6 then some (bif v5 then true else bif v4 then decide (x0.2<x1.2) else false) else none else none else none else none else none else none else none else none else none
noncomputable def ref02_Less (x0:Int×Int) (x1:Int×Int):Option Bool:=ref02_Less_b lpK jnK x0 x1
noncomputable def c102:Ctr:=⟨[T83,T83],[],[],.one .bool,fun x _ _=>ref02_Less x.1 x.2.1⟩
theorem e102 (lp:Lp) (jn:Jn):∀(x:TsS c102.as) (F:TsF c102.fs) (y:TsS c102.cs),ref02_Less_b lp jn x.1 x.2.1=runC lp jn (ctxT tabs lits (ctxOf prog shs inls its [] [(24,r24),(22,r22)])) hints 4 102 f102 c102 x F y:=fun x F y=>by kernel_rfl
theorem l102:(ctxT tabs lits (ctxOf prog shs inls its [] [(24,r24),(22,r22)])).ok:=ctxT_ok (q24)
theorem ok102:c102.ok prog 102:=Ctr.of_den l102 hmix (hl:=hints) (d:=4) func102 rfl (by decide) (e102 lpK jnK)
noncomputable def ref02_Minus_b (_:Lp) (_:Jn) (x0:Int×Int) (x1:Int×Int):Option (Int×Int) :=
 
 let v4:Int:=IntKind.wrap .u64 (x0.1 - x1.1);
 let v5:Int:=IntKind.wrap .u64 (x0.2 - x1.2);bif decide (x0.2<x1.2) then some (IntKind.wrap .u64 (v4 - (1:Int)),v5) else some (v4,v5)
noncomputable def ref02_Minus (x0:Int×Int) (x1:Int×Int):Option (Int×Int):=ref02_Minus_b lpK jnK x0 x1
noncomputable def c103:Ctr:=⟨[T83,T83],[],[],.one T83,fun x _ _=>ref02_Minus x.1 x.2.1⟩
theorem e103 (lp:Lp) (jn:Jn):∀(x:TsS c103.as) (F:TsF c103.fs) (y:TsS c103.cs),ref02_Minus_b lp jn x.1 x.2.1=runC lp jn (ctxT tabs lits (ctxOf prog shs inls its [] [(24,r24),(22,r22)])) hints 4 103 f103 c103 x F y:=fun x F y=>by kernel_rfl
theorem l103:(ctxT tabs lits (ctxOf prog shs inls its [] [(24,r24),(22,r22)])).ok:=ctxT_ok (q24)
theorem ok103:c103.ok prog 103:=Ctr.of_den l103 hmix (hl:=hints) (d:=4) func103 rfl (by decide) (e103 lpK jnK)
noncomputable def ref02_Plus_b (_:Lp) (_:Jn) (x0:Int×Int) (x1:Int×Int):Option (Int×Int) :=
 
 let v4:Int:=IntKind.wrap .u64 (x0.1+x1.1);
 let v5:Int:=IntKind.wrap .u64 (x0.2+x1.2);bif decide (v5<x0.2) then some (IntKind.wrap .u64 (v4+(1:Int)),v5) else some (v4,v5)
noncomputable def ref02_Plus (x0:Int×Int) (x1:Int×Int):Option (Int×Int):=ref02_Plus_b lpK jnK x0 x1
noncomputable def c104:Ctr:=⟨[T83,T83],[],[],.one T83,fun x _ _=>ref02_Plus x.1 x.2.1⟩
theorem e104 (lp:Lp) (jn:Jn):∀(x:TsS c104.as) (F:TsF c104.fs) (y:TsS c104.cs),ref02_Plus_b lp jn x.1 x.2.1=runC lp jn (ctxT tabs lits (ctxOf prog shs inls its [] [(24,r24),(22,r22)])) hints 4 104 f104 c104 x F y:=fun x F y=>by kernel_rfl
theorem l104:(ctxT tabs lits (ctxOf prog shs inls its [] [(24,r24),(22,r22)])).ok:=ctxT_ok (q24)
theorem ok104:c104.ok prog 104:=Ctr.of_den l104 hmix (hl:=hints) (d:=4) func104 rfl (by decide) (e104 lpK jnK)
noncomputable def ref02_Gcd_b (lp:Lp) (_:Jn) (ref02_Half:(Int×Int)→Option (Int×Int)) (ref02_Less:(Int×Int)→(Int×Int)→Option (Bool)) (ref02_Minus:(Int×Int)→(Int×Int)→Option (Int×Int)) (ref02_Plus:(Int×Int)→(Int×Int)→Option (Int×Int)) (x0:Int×Int) (x1:Int×Int):Option (Int×Int) :=
 bif decide (x0.1=(0:Int))&&(decide (x0.2=(0:Int))&&true) then some x1 else lp (Int×(Int×Int)×(Int×Int)×PUnit) (Int×Int) (fun (again:Int×(Int×Int)×(Int ×
  Int)×PUnit→Option (Int×Int)) (x:Int×(Int×Int)×(Int×Int)×PUnit) =>
 let v6:Bool:=decide (IntKind.wrap .u64 (↑(Nat.land (Int.toNat (x.2.1.2 % Int.ofNat (18446744073709551616:Nat))) (Int.toNat ((1:Int) % Int.ofNat (18446744073709551616
  : Nat)))):Int)=(0:Int));
 let v7:Bool:=!v6||v6;bif v7 then bif v7 then bif v7 then bif v7 then bif bif v6 then decide (IntKind.wrap .u64 (↑(Nat.land (Int.toNat (x.2.2.1.2 % Int.ofNat
  (18446744073709551616:Nat))) (Int.toNat ((1:Int) % Int.ofNat (18446744073709551616:Nat)))):Int)=(0:Int)) else false then obind (ref02_Half x.2.1) fun (t:Int×Int) =>
  obind (ref02_Half x.2.2.1) fun (t_1:Int×Int)=>again (IntKind.wrap .i64 (x.1+(1:Int)),t,t_1,PUnit.unit) else lp ((Int×Int)×(Int×Int)×PUnit) (Int ×
  Int) (fun (again:(Int×Int)×(Int×Int)×PUnit→Option (Int×Int)) (x_1:(Int×Int)×(Int×Int)×PUnit) =>
 let v10:(Int×Int)×PUnit:=(x_1.2.1,PUnit.unit);bif !(decide (x_1.1.1=(0:Int))&&(decide (x_1.1.2=(0:Int))&&true)) then lp ((Int×Int)×PUnit) (Int×Int)
  (fun (again_1:(Int×Int)×PUnit→Option (Int×Int)) (x:(Int×Int)×PUnit)=>bif decide (IntKind.wrap .u64 (↑(Nat.land (Int.toNat (x.1.2 % Int.ofNat
  (18446744073709551616:Nat))) (Int.toNat ((1:Int) % Int.ofNat (18446744073709551616:Nat)))):Int)=(0:Int)) then obind (ref02_Half x.1) fun (t:Int×Int)=>again_1 (t,
  PUnit.unit) else lp ((Int×Int)×PUnit) (Int×Int) (fun (again_2:(Int×Int)×PUnit→Option (Int×Int)) (x_2:(Int×Int)×PUnit)=>bif decide (IntKind.wrap .u64
  (↑(Nat.land (Int.toNat (x_2.1.2 % Int.ofNat (18446744073709551616:Nat))) (Int.toNat ((1:Int) % Int.ofNat (18446744073709551616:Nat)))):Int)=(0:Int)) then obind
  (ref02_Half x_2.1) fun (t:Int×Int)=>again_2 (t,PUnit.unit) else obind (ref02_Less x.1 x_2.1) fun (t:Bool)=>bif t then obind (ref02_Minus x_2.1 x.1) fun (t:Int ×
  Int)=>again (t,x.1,PUnit.unit) else obind (ref02_Minus x.1 x_2.1) fun (t:Int×Int)=>again (t,x_2.1,PUnit.unit)) v10) (x_1.1,PUnit.unit) else lp (Int×(Int×Int)
  × PUnit) (Int×Int) (fun (again:Int×(Int×Int)×PUnit→Option (Int×Int)) (x:Int×(Int×Int)×PUnit)=>bif decide (x.1>(0:Int)) then obind (ref02_Plus x.2.1
  x.2.1) fun (t:Int×Int)=>again (IntKind.wrap .i64 (x.1 - (1:Int)),t,PUnit.unit) else some x.2.1) (x.1,v10)) (x.2.1,x.2.2.1,PUnit.unit) else none
  else none else none else none) ((0:Int),x0,x1,PUnit.unit)
noncomputable def ref02_Gcd (x0:Int×Int) (x1:Int×Int):Option (Int×Int):=ref02_Gcd_b lpK jnK ref02_Half ref02_Less ref02_Minus ref02_Plus x0 x1
noncomputable def c55:Ctr:=⟨[T83,T83],[],[],.one T83,fun x _ _=>ref02_Gcd x.1 x.2.1⟩
theorem e55 (lp:Lp) (jn:Jn) (ref02_Half:(Int×Int)→Option (Int×Int)) (ref02_Less:(Int×Int)→(Int×Int)→Option (Bool)) (ref02_Minus:(Int×Int)→(Int×Int)→Option (Int×Int)) (ref02_Plus:(Int×Int)→(Int×Int)→Option (Int×Int)):∀(x:TsS c55.as) (F:TsF c55.fs) (y:TsS c55.cs),ref02_Gcd_b lp jn ref02_Half ref02_Less ref02_Minus ref02_Plus x.1 x.2.1=runC lp jn (ctxT tabs lits (ctxOf prog shs inls its [(104,⟨[T83,T83],[],[],.one T83,fun x _ _=>ref02_Plus x.1 x.2.1⟩),(103,⟨[T83,T83],[],[],.one T83,fun x _ _=>ref02_Minus x.1 x.2.1⟩),(102,⟨[T83,T83],[],[],.one .bool,fun x _ _=>ref02_Less x.1 x.2.1⟩),(101,⟨[T83],[],[],.one T83,fun x _ _=>ref02_Half x.1⟩)] [(24,r24),(22,r22)])) hints 4 55 f55 c55 x F y:=fun x F y=>by kernel_rfl
theorem l55:(ctxT tabs lits (ctxOf prog shs inls its [(104,c104),(103,c103),(102,c102),(101,c101)] [(24,r24),(22,r22)])).ok:=ctxT_ok (ctxOf_cons (ctxOf_cons (ctxOf_cons (ctxOf_cons (q24) (by kernel_rfl) ok101) (by kernel_rfl) ok102) (by kernel_rfl) ok103) (by kernel_rfl) ok104)
theorem ok55:c55.ok prog 55:=Ctr.of_den l55 hmix (hl:=hints) (d:=4) func55 rfl (by decide) (e55 lpK jnK ref02_Half ref02_Less ref02_Minus ref02_Plus)
noncomputable def ref02_Size_b (_:Lp) (_:Jn) (x0:Int):Option Int :=
 
 let v3:Int:=IntKind.wrap .u64 x0;bif decide (x0<(0:Int)) then some (IntKind.wrap .u64 ((0:Int) - v3)) else some v3
noncomputable def ref02_Size (x0:Int):Option Int:=ref02_Size_b lpK jnK x0
noncomputable def c56:Ctr:=⟨[i64],[],[],.one (.int .u64),fun x _ _=>ref02_Size x.1⟩
theorem e56 (lp:Lp) (jn:Jn):∀(x:TsS c56.as) (F:TsF c56.fs) (y:TsS c56.cs),ref02_Size_b lp jn x.1=runC lp jn (ctxT tabs lits (ctxOf prog shs inls its [] [(24,r24),(22,r22)])) hints 4 56 f56 c56 x F y:=fun x F y=>by kernel_rfl
theorem l56:(ctxT tabs lits (ctxOf prog shs inls its [] [(24,r24),(22,r22)])).ok:=ctxT_ok (q24)
theorem ok56:c56.ok prog 56:=Ctr.of_den l56 hmix (hl:=hints) (d:=4) func56 rfl (by decide) (e56 lpK jnK)
noncomputable def ref02_Valid_b (_:Lp) (_:Jn) (ref02_Gcd:(Int×Int)→(Int×Int)→Option (Int×Int)) (ref02_Size:(Int)→Option (Int)) (x0:Int×Int):Option Bool :=
 
 let v3:Bool:=decide (x0.2<(1:Int));
 let v4:Bool:=!v3;
 let v5:Bool:=bif v3 then true else decide (x0.2>(1152921504606846976:Int));
 let v6:Bool:=!v4||v4;
 let v7:Bool:=!v5;
 let v8:Bool:=bif v5 then true else decide (x0.1<(-1152921504606846976:Int));
 let v9:Bool:=!v8;
 let v10:Bool:=!v7||v7;
 let v11:Bool:=!v9||v9;bif v6 then bif v6 then bif v3||v4 then bif v10 then bif v10 then bif v5||v7 then bif v11 then bif v11 then bif v8||v9 then bif bif v8 then true else
  decide (x0.1>(1152921504606846976:Int)) then some false else obind (ref02_Size x0.1) fun (t:Int)=>obind (ref02_Size x0.2) fun (t_1:Int)=>obind (ref02_Gcd ((0:Int),
  t) ((0:Int),t_1)) fun (t:Int×Int)=>some (decide (t.1=(0:Int))&&(decide (t.2=(1:Int))&&true)) else none else none else none else none else none else none else
  none else none else none
noncomputable def ref02_Valid (x0:Int×Int):Option Bool:=ref02_Valid_b lpK jnK ref02_Gcd ref02_Size x0
noncomputable def c17:Ctr:=⟨[T27],[],[],.one .bool,fun x _ _=>ref02_Valid x.1⟩
theorem e17 (lp:Lp) (jn:Jn) (ref02_Gcd:(Int×Int)→(Int×Int)→Option (Int×Int)) (ref02_Size:(Int)→Option (Int)):∀(x:TsS c17.as) (F:TsF c17.fs) (y:TsS c17.cs),ref02_Valid_b lp jn ref02_Gcd ref02_Size x.1=runC lp jn (ctxT tabs lits (ctxOf prog shs inls its [(56,⟨[i64],[],[],.one (.int .u64),fun x _ _=>ref02_Size x.1⟩),(55,⟨[T83,T83],[],[],.one T83,fun x _ _=>ref02_Gcd x.1 x.2.1⟩)] [(24,r24),(22,r22)])) hints 4 17 f17 c17 x F y:=fun x F y=>by kernel_rfl
theorem l17:(ctxT tabs lits (ctxOf prog shs inls its [(56,c56),(55,c55)] [(24,r24),(22,r22)])).ok:=ctxT_ok (ctxOf_cons (ctxOf_cons (q24) (by kernel_rfl) ok55) (by kernel_rfl) ok56)
theorem ok17:c17.ok prog 17:=Ctr.of_den l17 hmix (hl:=hints) (d:=4) func17 rfl (by decide) (e17 lpK jnK ref02_Gcd ref02_Size)
noncomputable def ref02_All_b (lp:Lp) (_:Jn) (ref02_Valid:(Int×Int)→Option (Bool)) (x0:List (Int×Int)):Option Bool :=
 lp (Int×PUnit) Bool (fun (again:Int×PUnit→Option Bool) (x:Int×PUnit)=>bif decide (x.1<(↑(List.length x0):Int)) then bif inB x.1 (List.length x0) then obind
  (ref02_Valid (List.getD x0 (Int.toNat x.1) ((0:Int),(0:Int)))) fun (t:Bool)=>bif !t then some false else again (IntKind.wrap .i64 (x.1+(1:Int)),PUnit.unit) else
  none else some true) ((0:Int),PUnit.unit)
noncomputable def ref02_All (x0:List (Int×Int)):Option Bool:=ref02_All_b lpK jnK ref02_Valid x0
noncomputable def c18:Ctr:=⟨[(.sl T27)],[],[],.one .bool,fun x _ _=>ref02_All x.1⟩
theorem e18 (lp:Lp) (jn:Jn) (ref02_Valid:(Int×Int)→Option (Bool)):∀(x:TsS c18.as) (F:TsF c18.fs) (y:TsS c18.cs),ref02_All_b lp jn ref02_Valid x.1=runC lp jn (ctxT tabs lits (ctxOf prog shs inls its [(17,⟨[T27],[],[],.one .bool,fun x _ _=>ref02_Valid x.1⟩)] [(24,r24),(22,r22)])) hints 4 18 f18 c18 x F y:=fun x F y=>by kernel_rfl
theorem l18:(ctxT tabs lits (ctxOf prog shs inls its [(17,c17)] [(24,r24),(22,r22)])).ok:=ctxT_ok (ctxOf_cons (q24) (by kernel_rfl) ok17)
theorem ok18:c18.ok prog 18:=Ctr.of_den l18 hmix (hl:=hints) (d:=4) func18 rfl (by decide) (e18 lpK jnK ref02_Valid)
noncomputable def ref02_Of_b (_:Lp) (_:Jn) (x0:Int):Option (Int×Int) :=
 some (x0,(1:Int))
noncomputable def ref02_Of (x0:Int):Option (Int×Int):=ref02_Of_b lpK jnK x0
noncomputable def c84:Ctr:=⟨[i64],[],[],.one T27,fun x _ _=>ref02_Of x.1⟩
theorem e84 (lp:Lp) (jn:Jn):∀(x:TsS c84.as) (F:TsF c84.fs) (y:TsS c84.cs),ref02_Of_b lp jn x.1=runC lp jn (ctxT tabs lits (ctxOf prog shs inls its [] [(24,r24),(22,r22)])) hints 4 84 f84 c84 x F y:=fun x F y=>by kernel_rfl
theorem l84:(ctxT tabs lits (ctxOf prog shs inls its [] [(24,r24),(22,r22)])).ok:=ctxT_ok (q24)
theorem ok84:c84.ok prog 84:=Ctr.of_den l84 hmix (hl:=hints) (d:=4) func84 rfl (by decide) (e84 lpK jnK)
noncomputable def ref02_Div_b (lp:Lp) (_:Jn) (ref02_Less:(Int×Int)→(Int×Int)→Option (Bool)) (ref02_Minus:(Int×Int)→(Int×Int)→Option (Int×Int)) (x0:Int×Int) (x1:Int×Int):Option ((Int×Int)×(Int×Int)×Unit) :=
 
 let v4:Bool:=nzB x1.2;
 let v5:Int:=(2:Int) ^ (63:Nat);
 let v6:Int:=(2:Int) ^ (1:Nat);
 let v7:Bool:=decide (x0.1=(0:Int));
 let v8:Bool:=decide ((0:Int)≤(63:Int));
 let v9:Bool:=decide ((0:Int)≤(1:Int));
 let v10:Bool:=!v7||v7;bif v10 then bif v10 then bif v10 then bif bif v7 then decide (x1.1=(0:Int)) else false then bif v4 then bif v4 then some (((0:Int),IntKind.wrap
  IntKind.u64 (Int.tdiv x0.2 x1.2)),((0:Int),Int.tmod x0.2 x1.2),PUnit.unit) else none else none else lp (Int×(Int×Int)×(Int×Int)×(Int×Int)×PUnit) ((Int×Int)
  × (Int×Int)×PUnit) (fun (again:Int×(Int×Int)×(Int×Int)×(Int×Int)×PUnit→Option ((Int×Int)×(Int×Int)×PUnit)) (x:Int×(Int×Int)×(Int×Int)×(Int ×
  Int)×PUnit) =>
 let v13:Int:=IntKind.wrap .i64 (x.1+(1:Int));
 let v14:Int:=IntKind.wrap .u64 (x.2.2.1.2*v6);
 let v15:Int:=IntKind.wrap .u64 (IntKind.wrap .u64 (x.2.2.1.1*v6)+Int.fdiv x.2.2.1.2 v5);
 let v16:Bool:=decide (Int.fdiv x.2.2.2.1.1 v5>(0:Int));
 let v17:Bool:=!v16;
 let v18:Int×Int:=(IntKind.wrap .u64 (IntKind.wrap .u64 (x.2.1.1*v6)+Int.fdiv x.2.1.2 v5),IntKind.wrap .u64 (x.2.1.2*v6));
 let v19:Int×Int:=(IntKind.wrap .u64 (IntKind.wrap .u64 (x.2.2.2.1.1*v6)+Int.fdiv x.2.2.2.1.2 v5),IntKind.wrap .u64 (IntKind.wrap
  IntKind.u64 (x.2.2.2.1.2*v6)+Int.fdiv x.2.1.1 v5));
 let v20:Bool:=!v17||v17;bif decide (x.1<(128:Int)) then bif v8 then bif v9 then bif v8 then bif v9 then bif v8 then bif v9 then bif v8 then bif v9 then bif v9 then bif v8
  then bif v9 then bif v20&&v20 then obind (bif v17 then ref02_Less v19 x1 else some false) fun (t:Bool)=>bif v20 then bif v16||v17 then bif bif v16 then true else !t then obind
  (ref02_Minus v19 x1) fun (t:Int×Int)=>again (v13,v18,(v15,IntKind.wrap .u64 (v14+(1:Int))),t,PUnit.unit) else again (v13,v18,(v15,v14),v19,PUnit.unit) else
  none else none else none else none else none else none else none else none else none else none else none else none else none else none else some (x.2.2.1,x.2.2.2.1,
  PUnit.unit)) ((0:Int),x0,((0:Int),(0:Int)),((0:Int),(0:Int)),PUnit.unit) else none else none else none
noncomputable def ref02_Div (x0:Int×Int) (x1:Int×Int):Option ((Int×Int)×(Int×Int)×Unit):=ref02_Div_b lpK jnK ref02_Less ref02_Minus x0 x1
noncomputable def c127:Ctr:=⟨[T83,T83],[],[],.tup [T83,T83],fun x _ _=>ref02_Div x.1 x.2.1⟩
theorem e127 (lp:Lp) (jn:Jn) (ref02_Less:(Int×Int)→(Int×Int)→Option (Bool)) (ref02_Minus:(Int×Int)→(Int×Int)→Option (Int×Int)):∀(x:TsS c127.as) (F:TsF c127.fs) (y:TsS c127.cs),ref02_Div_b lp jn ref02_Less ref02_Minus x.1 x.2.1=runC lp jn (ctxT tabs lits (ctxOf prog shs inls its [(103,⟨[T83,T83],[],[],.one T83,fun x _ _=>ref02_Minus x.1 x.2.1⟩),(102,⟨[T83,T83],[],[],.one .bool,fun x _ _=>ref02_Less x.1 x.2.1⟩)] [(24,r24),(22,r22)])) hints 4 127 f127 c127 x F y:=fun x F y=>by kernel_rfl
theorem l127:(ctxT tabs lits (ctxOf prog shs inls its [(103,c103),(102,c102)] [(24,r24),(22,r22)])).ok:=ctxT_ok (ctxOf_cons (ctxOf_cons (q24) (by kernel_rfl) ok102) (by kernel_rfl) ok103)
theorem ok127:c127.ok prog 127:=Ctr.of_den l127 hmix (hl:=hints) (d:=4) func127 rfl (by decide) (e127 lpK jnK ref02_Less ref02_Minus)
noncomputable def ref02_Made_b (_:Lp) (_:Jn) (ref02_Gcd:(Int×Int)→(Int×Int)→Option (Int×Int)) (ref02_Div:(Int×Int)→(Int×Int)→Option ((Int×Int)×(Int×Int)×Unit)) (x0:Int×Int) (x1:Bool) (x2:Int×Int):Option ((Int×Int)×Int×Unit) :=
 bif decide (x2.1=(0:Int))&&(decide (x2.2=(0:Int))&&true) then some (((0:Int),(0:Int)),(16:Int),PUnit.unit) else obind (ref02_Gcd x0 x2) fun (t:Int×Int)=>obind
  (ref02_Div x0 t) fun (t_1:(Int×Int)×(Int×Int)×PUnit) =>
 let v7:Int:=IntKind.wrap .i64 t_1.1.2;
 let v8:Bool:=decide (t_1.1.1>(0:Int));
 let v9:Bool:=!v8;
 let v10:Bool:=bif v8 then true else decide (t_1.1.2>(1152921504606846976:Int));
 let v11:Bool:=!v9||v9;
 let v12:Bool:=!v10;
 let v13:Bool:=!v12||v12;obind (ref02_Div x2 t) fun (t:(Int×Int)×(Int×Int)×PUnit) =>
 let v15:Int:=IntKind.wrap .i64 t.1.2;
 let v16:Bool:=bif v10 then true else decide (t.1.1>(0:Int));
 let v17:Bool:=!v16;
 let v18:Bool:=!v17||v17;bif v11 then bif v11 then bif v8||v9 then bif v13 then bif v13 then bif v10||v12 then bif v18 then bif v18 then bif v16||v17 then bif bif v16 then
  true else decide (t.1.2>(1152921504606846976:Int)) then some (((0:Int),(0:Int)),(5:Int),PUnit.unit) else bif x1 then some ((IntKind.wrap .i64 ((0:Int) - v7),
  v15),(0:Int),PUnit.unit) else some ((v7,v15),(0:Int),PUnit.unit) else none else none else none else none else none else none else none else none else none
noncomputable def ref02_Made (x0:Int×Int) (x1:Bool) (x2:Int×Int):Option ((Int×Int)×Int×Unit):=ref02_Made_b lpK jnK ref02_Gcd ref02_Div x0 x1 x2
noncomputable def c116:Ctr:=⟨[T83,.bool,T83],[],[],.tup [T27,i64],fun x _ _=>ref02_Made x.1 x.2.1 x.2.2.1⟩
theorem e116 (lp:Lp) (jn:Jn) (ref02_Gcd:(Int×Int)→(Int×Int)→Option (Int×Int)) (ref02_Div:(Int×Int)→(Int×Int)→Option ((Int×Int)×(Int×Int)×Unit)):∀(x:TsS c116.as) (F:TsF c116.fs) (y:TsS c116.cs),ref02_Made_b lp jn ref02_Gcd ref02_Div x.1 x.2.1 x.2.2.1=runC lp jn (ctxT tabs lits (ctxOf prog shs inls its [(127,⟨[T83,T83],[],[],.tup [T83,T83],fun x _ _=>ref02_Div x.1 x.2.1⟩),(55,⟨[T83,T83],[],[],.one T83,fun x _ _=>ref02_Gcd x.1 x.2.1⟩)] [(24,r24),(22,r22)])) hints 4 116 f116 c116 x F y:=fun x F y=>by kernel_rfl
theorem l116:(ctxT tabs lits (ctxOf prog shs inls its [(127,c127),(55,c55)] [(24,r24),(22,r22)])).ok:=ctxT_ok (ctxOf_cons (ctxOf_cons (q24) (by kernel_rfl) ok55) (by kernel_rfl) ok127)
theorem ok116:c116.ok prog 116:=Ctr.of_den l116 hmix (hl:=hints) (d:=4) func116 rfl (by decide) (e116 lpK jnK ref02_Gcd ref02_Div)
noncomputable def ref02_Mul_b (_:Lp) (_:Jn) (x0:Int) (x1:Int):Option (Int×Int) :=
 
 let v4:Int:=(2:Int) ^ (32:Nat);
 let v5:Int:=Int.fdiv x0 v4;
 let v6:Int:=Int.fdiv x1 v4;
 let v7:Bool:=decide ((0:Int)≤(32:Int));
 let v8:Int:=IntKind.wrap .u64 (↑(Nat.land (Int.toNat (x1 % Int.ofNat (18446744073709551616:Nat))) (Int.toNat ((4294967295:Int) % Int.ofNat (18446744073709551616:Nat)))) :
  Int);
 let v9:Int:=IntKind.wrap .u64 (↑(Nat.land (Int.toNat (x0 % Int.ofNat (18446744073709551616:Nat))) (Int.toNat ((4294967295:Int) % Int.ofNat (18446744073709551616:Nat)))) :
  Int);
 let v10:Int:=IntKind.wrap .u64 (v9*v8);
 let v11:Int:=IntKind.wrap .u64 (IntKind.wrap .u64 (v5*v8)+Int.fdiv v10 v4);
 let v12:Int:=IntKind.wrap .u64 (IntKind.wrap .u64 (v9*v6)+IntKind.wrap .u64 (↑(Nat.land (Int.toNat (v11 % Int.ofNat (18446744073709551616:Nat))) (Int.toNat
  ((4294967295:Int) % Int.ofNat (18446744073709551616:Nat)))):Int));bif v7 then bif v7 then bif v7 then bif v7 then bif v7 then bif v7 then some (IntKind.wrap .u64
  (IntKind.wrap .u64 (IntKind.wrap .u64 (v5*v6)+Int.fdiv v11 v4)+Int.fdiv v12 v4),IntKind.wrap .u64 (IntKind.wrap .u64 (v12*v4)+IntKind.wrap
  IntKind.u64 (↑(Nat.land (Int.toNat (v10 % Int.ofNat (18446744073709551616:Nat))) (Int.toNat ((4294967295:Int) % Int.ofNat (18446744073709551616:Nat)))):Int))) else none else
  none else none else none else none else none
noncomputable def ref02_Mul (x0:Int) (x1:Int):Option (Int×Int):=ref02_Mul_b lpK jnK x0 x1
noncomputable def c118:Ctr:=⟨[(.int .u64),(.int .u64)],[],[],.one T83,fun x _ _=>ref02_Mul x.1 x.2.1⟩
theorem e118 (lp:Lp) (jn:Jn):∀(x:TsS c118.as) (F:TsF c118.fs) (y:TsS c118.cs),ref02_Mul_b lp jn x.1 x.2.1=runC lp jn (ctxT tabs lits (ctxOf prog shs inls its [] [(24,r24),(22,r22)])) hints 4 118 f118 c118 x F y:=fun x F y=>by kernel_rfl
theorem l118:(ctxT tabs lits (ctxOf prog shs inls its [] [(24,r24),(22,r22)])).ok:=ctxT_ok (q24)
theorem ok118:c118.ok prog 118:=Ctr.of_den l118 hmix (hl:=hints) (d:=4) func118 rfl (by decide) (e118 lpK jnK)
noncomputable def ref02_Times_b (_:Lp) (_:Jn) (ref02_Size:(Int)→Option (Int)) (ref02_Made:(Int×Int)→(Bool)→(Int×Int)→Option ((Int×Int)×Int×Unit)) (ref02_Mul:(Int)→(Int)→Option (Int×Int)) (x0:Int×Int) (x1:Int×Int):Option ((Int×Int)×Int×Unit) :=
 obind (ref02_Size x0.1) fun (t:Int)=>obind (ref02_Size x1.1) fun (t_1:Int)=>obind (ref02_Mul t t_1) fun (t:Int×Int)=>obind (ref02_Size x0.2) fun (t_2:Int)=>obind
  (ref02_Size x1.2) fun (t_3:Int)=>obind (ref02_Mul t_2 t_3) fun (t_4:Int×Int)=>obind (ref02_Made t (!decide (decide (x0.1<(0:Int))=decide (x1.1<(0:Int)))) t_4)
  fun (t:(Int×Int)×Int×PUnit)=>some (t.1,t.2.1,PUnit.unit)
noncomputable def ref02_Times (x0:Int×Int) (x1:Int×Int):Option ((Int×Int)×Int×Unit):=ref02_Times_b lpK jnK ref02_Size ref02_Made ref02_Mul x0 x1
noncomputable def c85:Ctr:=⟨[T27,T27],[],[],.tup [T27,i64],fun x _ _=>ref02_Times x.1 x.2.1⟩
theorem e85 (lp:Lp) (jn:Jn) (ref02_Size:(Int)→Option (Int)) (ref02_Made:(Int×Int)→(Bool)→(Int×Int)→Option ((Int×Int)×Int×Unit)) (ref02_Mul:(Int)→(Int)→Option (Int×Int)):∀(x:TsS c85.as) (F:TsF c85.fs) (y:TsS c85.cs),ref02_Times_b lp jn ref02_Size ref02_Made ref02_Mul x.1 x.2.1=runC lp jn (ctxT tabs lits (ctxOf prog shs inls its [(118,⟨[(.int .u64),(.int .u64)],[],[],.one T83,fun x _ _=>ref02_Mul x.1 x.2.1⟩),(116,⟨[T83,.bool,T83],[],[],.tup [T27,i64],fun x _ _=>ref02_Made x.1 x.2.1 x.2.2.1⟩),(56,⟨[i64],[],[],.one (.int .u64),fun x _ _=>ref02_Size x.1⟩)] [(24,r24),(22,r22)])) hints 4 85 f85 c85 x F y:=fun x F y=>by kernel_rfl
theorem l85:(ctxT tabs lits (ctxOf prog shs inls its [(118,c118),(116,c116),(56,c56)] [(24,r24),(22,r22)])).ok:=ctxT_ok (ctxOf_cons (ctxOf_cons (ctxOf_cons (q24) (by kernel_rfl) ok56) (by kernel_rfl) ok116) (by kernel_rfl) ok118)
theorem ok85:c85.ok prog 85:=Ctr.of_den l85 hmix (hl:=hints) (d:=4) func85 rfl (by decide) (e85 lpK jnK ref02_Size ref02_Made ref02_Mul)
noncomputable def ref02_Add_b (_:Lp) (_:Jn) (ref02_Less:(Int×Int)→(Int×Int)→Option (Bool)) (ref02_Minus:(Int×Int)→(Int×Int)→Option (Int×Int)) (ref02_Plus:(Int×Int)→(Int×Int)→Option (Int×Int)) (ref02_Size:(Int)→Option (Int)) (ref02_Made:(Int×Int)→(Bool)→(Int×Int)→Option ((Int×Int)×Int×Unit)) (ref02_Mul:(Int)→(Int)→Option (Int×Int)) (x0:Int×Int) (x1:Int×Int):Option ((Int×Int)×Int×Unit) :=
 
 let v4:Bool:=decide (x0.1<(0:Int));obind (ref02_Size x0.1) fun (t:Int)=>obind (ref02_Size x1.2) fun (t_1:Int)=>obind (ref02_Mul t t_1) fun (t:Int×Int)=>obind
  (ref02_Size x1.1) fun (t_2:Int)=>obind (ref02_Size x0.2) fun (t_3:Int)=>obind (ref02_Mul t_2 t_3) fun (t_4:Int×Int)=>obind (ref02_Size x0.2) fun (t_5:Int)=>obind
  (ref02_Size x1.2) fun (t_6:Int)=>obind (ref02_Mul t_5 t_6) fun (t_7:Int×Int)=>bif decide (v4=decide (x1.1<(0:Int))) then obind (ref02_Plus t t_4) fun (t:Int×Int)
  =>obind (ref02_Made t v4 t_7) fun (t:(Int×Int)×Int×PUnit)=>some (t.1,t.2.1,PUnit.unit) else obind (ref02_Less t t_4) fun (t_8:Bool)=>bif t_8 then obind
  (ref02_Minus t_4 t) fun (t:Int×Int)=>obind (ref02_Made t (decide (x1.1<(0:Int))) t_7) fun (t:(Int×Int)×Int×PUnit)=>some (t.1,t.2.1,PUnit.unit) else obind
  (ref02_Minus t t_4) fun (t:Int×Int)=>obind (ref02_Made t v4 t_7) fun (t:(Int×Int)×Int×PUnit)=>some (t.1,t.2.1,PUnit.unit)
noncomputable def ref02_Add (x0:Int×Int) (x1:Int×Int):Option ((Int×Int)×Int×Unit):=ref02_Add_b lpK jnK ref02_Less ref02_Minus ref02_Plus ref02_Size ref02_Made ref02_Mul x0 x1
noncomputable def c86:Ctr:=⟨[T27,T27],[],[],.tup [T27,i64],fun x _ _=>ref02_Add x.1 x.2.1⟩
theorem e86 (lp:Lp) (jn:Jn) (ref02_Less:(Int×Int)→(Int×Int)→Option (Bool)) (ref02_Minus:(Int×Int)→(Int×Int)→Option (Int×Int)) (ref02_Plus:(Int×Int)→(Int×Int)→Option (Int×Int)) (ref02_Size:(Int)→Option (Int)) (ref02_Made:(Int×Int)→(Bool)→(Int×Int)→Option ((Int×Int)×Int×Unit)) (ref02_Mul:(Int)→(Int)→Option (Int×Int)):∀(x:TsS c86.as) (F:TsF c86.fs) (y:TsS c86.cs),ref02_Add_b lp jn ref02_Less ref02_Minus ref02_Plus ref02_Size ref02_Made ref02_Mul x.1 x.2.1=runC lp jn (ctxT tabs lits (ctxOf prog shs inls its [(118,⟨[(.int .u64),(.int .u64)],[],[],.one T83,fun x _ _=>ref02_Mul x.1 x.2.1⟩),(116,⟨[T83,.bool,T83],[],[],.tup [T27,i64],fun x _ _=>ref02_Made x.1 x.2.1 x.2.2.1⟩),(56,⟨[i64],[],[],.one (.int .u64),fun x _ _=>ref02_Size x.1⟩),(104,⟨[T83,T83],[],[],.one T83,fun x _ _=>ref02_Plus x.1 x.2.1⟩),(103,⟨[T83,T83],[],[],.one T83,fun x _ _=>ref02_Minus x.1 x.2.1⟩),(102,⟨[T83,T83],[],[],.one .bool,fun x _ _=>ref02_Less x.1 x.2.1⟩)] [(24,r24),(22,r22)])) hints 4 86 f86 c86 x F y:=fun x F y=>by kernel_rfl
theorem l86:(ctxT tabs lits (ctxOf prog shs inls its [(118,c118),(116,c116),(56,c56),(104,c104),(103,c103),(102,c102)] [(24,r24),(22,r22)])).ok:=ctxT_ok (ctxOf_cons (ctxOf_cons (ctxOf_cons (ctxOf_cons (ctxOf_cons (ctxOf_cons (q24) (by kernel_rfl) ok102) (by kernel_rfl) ok103) (by kernel_rfl) ok104) (by kernel_rfl) ok56) (by kernel_rfl) ok116) (by kernel_rfl) ok118)
theorem ok86:c86.ok prog 86:=Ctr.of_den l86 hmix (hl:=hints) (d:=4) func86 rfl (by decide) (e86 lpK jnK ref02_Less ref02_Minus ref02_Plus ref02_Size ref02_Made ref02_Mul)
noncomputable def ref05_Sum_b (lp:Lp) (_:Jn) (ref02_Of:(Int)→Option (Int×Int)) (ref02_Times:(Int×Int)→(Int×Int)→Option ((Int×Int)×Int×Unit)) (ref02_Add:(Int×Int)→(Int×Int)→Option ((Int×Int)×Int×Unit)) (x0:List Int) (x1:List (Int×Int)):Option ((Int×Int)×Int×Unit) :=
 obind (ref02_Of (0:Int)) fun (t:Int×Int)=>lp (Int×(Int×Int)×(Int×Int)×PUnit) ((Int×Int)×Int×PUnit) (fun (again:Int×(Int×Int)×(Int×Int)×PUnit→Option
  ((Int×Int)×Int×PUnit)) (x:Int×(Int×Int)×(Int×Int)×PUnit)=>bif decide (x.1<(↑(List.length x0):Int)) then bif inB x.1 (List.length x0) then obind (ref02_Of
  (List.getD x0 (Int.toNat x.1) (0:Int))) fun (t:Int×Int)=>bif inB x.1 (List.length x1) then obind (ref02_Times t (List.getD x1 (Int.toNat x.1) ((0:Int),(0:Int)))) fun
  (t:(Int×Int)×Int×PUnit)=>bif !decide (t.2.1=(0:Int)) then some (((0:Int),(0:Int)),t.2.1,PUnit.unit) else obind (ref02_Add x.2.2.1 t.1) fun (t:(Int
  × Int)×Int×PUnit)=>bif !decide (t.2.1=(0:Int)) then some (((0:Int),(0:Int)),t.2.1,PUnit.unit) else again (IntKind.wrap .i64 (x.1+(1:Int)),
  x.2.1,t.1,PUnit.unit) else none else none else some (x.2.2.1,(0:Int),PUnit.unit)) ((0:Int),((0:Int),(0:Int)),t,PUnit.unit)
noncomputable def ref05_Sum (x0:List Int) (x1:List (Int×Int)):Option ((Int×Int)×Int×Unit):=ref05_Sum_b lpK jnK ref02_Of ref02_Times ref02_Add x0 x1
noncomputable def c35:Ctr:=⟨[(.sl i64),(.sl T27)],[],[],.tup [T27,i64],fun x _ _=>ref05_Sum x.1 x.2.1⟩
theorem e35 (lp:Lp) (jn:Jn) (ref02_Of:(Int)→Option (Int×Int)) (ref02_Times:(Int×Int)→(Int×Int)→Option ((Int×Int)×Int×Unit)) (ref02_Add:(Int×Int)→(Int×Int)→Option ((Int×Int)×Int×Unit)):∀(x:TsS c35.as) (F:TsF c35.fs) (y:TsS c35.cs),ref05_Sum_b lp jn ref02_Of ref02_Times ref02_Add x.1 x.2.1=runC lp jn (ctxT tabs lits (ctxOf prog shs inls its [(86,⟨[T27,T27],[],[],.tup [T27,i64],fun x _ _=>ref02_Add x.1 x.2.1⟩),(85,⟨[T27,T27],[],[],.tup [T27,i64],fun x _ _=>ref02_Times x.1 x.2.1⟩),(84,⟨[i64],[],[],.one T27,fun x _ _=>ref02_Of x.1⟩)] [(24,r24),(22,r22)])) hints 4 35 f35 c35 x F y:=fun x F y=>by kernel_rfl
theorem l35:(ctxT tabs lits (ctxOf prog shs inls its [(86,c86),(85,c85),(84,c84)] [(24,r24),(22,r22)])).ok:=ctxT_ok (ctxOf_cons (ctxOf_cons (ctxOf_cons (q24) (by kernel_rfl) ok84) (by kernel_rfl) ok85) (by kernel_rfl) ok86)
theorem ok35:c35.ok prog 35:=Ctr.of_den l35 hmix (hl:=hints) (d:=4) func35 rfl (by decide) (e35 lpK jnK ref02_Of ref02_Times ref02_Add)
noncomputable def ref02_Cmp_b (_:Lp) (_:Jn) (ref02_Less:(Int×Int)→(Int×Int)→Option (Bool)) (ref02_Size:(Int)→Option (Int)) (ref02_Mul:(Int)→(Int)→Option (Int×Int)) (x0:Int×Int) (x1:Int×Int):Option Int :=
 
 let v4:Bool:=decide (x0.1<(0:Int));
 let v5:Bool:=decide (x0.1≥(0:Int));
 let v6:Bool:=!v4||v4;
 let v7:Bool:=!v5||v5;obind (ref02_Size x0.1) fun (t:Int)=>obind (ref02_Size x1.2) fun (t_1:Int)=>obind (ref02_Mul t t_1) fun (t:Int×Int)=>obind (ref02_Size
  x1.1) fun (t_2:Int)=>obind (ref02_Size x0.2) fun (t_3:Int)=>obind (ref02_Mul t_2 t_3) fun (t_4:Int×Int)=>bif v6 then bif v6 then bif v6 then bif bif v4 then decide
  (x1.1≥(0:Int)) else false then some (-1:Int) else bif v7 then bif v7 then bif v7 then bif bif v5 then decide (x1.1<(0:Int)) else false then some (1:Int) else bif decide
  (t.1=t_4.1)&&(decide (t.2=t_4.2)&&true) then some (0:Int) else obind (ref02_Less t t_4) fun (t:Bool)=>bif decide (t=v5) then some (-1:Int) else some (1:Int)
  else none else none else none else none else none else none
noncomputable def ref02_Cmp (x0:Int×Int) (x1:Int×Int):Option Int:=ref02_Cmp_b lpK jnK ref02_Less ref02_Size ref02_Mul x0 x1
noncomputable def c83:Ctr:=⟨[T27,T27],[],[],.one i64,fun x _ _=>ref02_Cmp x.1 x.2.1⟩
theorem e83 (lp:Lp) (jn:Jn) (ref02_Less:(Int×Int)→(Int×Int)→Option (Bool)) (ref02_Size:(Int)→Option (Int)) (ref02_Mul:(Int)→(Int)→Option (Int×Int)):∀(x:TsS c83.as) (F:TsF c83.fs) (y:TsS c83.cs),ref02_Cmp_b lp jn ref02_Less ref02_Size ref02_Mul x.1 x.2.1=runC lp jn (ctxT tabs lits (ctxOf prog shs inls its [(118,⟨[(.int .u64),(.int .u64)],[],[],.one T83,fun x _ _=>ref02_Mul x.1 x.2.1⟩),(56,⟨[i64],[],[],.one (.int .u64),fun x _ _=>ref02_Size x.1⟩),(102,⟨[T83,T83],[],[],.one .bool,fun x _ _=>ref02_Less x.1 x.2.1⟩)] [(24,r24),(22,r22)])) hints 4 83 f83 c83 x F y:=fun x F y=>by kernel_rfl
theorem l83:(ctxT tabs lits (ctxOf prog shs inls its [(118,c118),(56,c56),(102,c102)] [(24,r24),(22,r22)])).ok:=ctxT_ok (ctxOf_cons (ctxOf_cons (ctxOf_cons (q24) (by kernel_rfl) ok102) (by kernel_rfl) ok56) (by kernel_rfl) ok118)
theorem ok83:c83.ok prog 83:=Ctr.of_den l83 hmix (hl:=hints) (d:=4) func83 rfl (by decide) (e83 lpK jnK ref02_Less ref02_Size ref02_Mul)
noncomputable def ref05_sign_b (_:Lp) (_:Jn) (ref02_Of:(Int)→Option (Int×Int)) (ref02_Cmp:(Int×Int)→(Int×Int)→Option (Int)) (x0:Int×Int):Option Int :=
 obind (ref02_Of (0:Int)) fun (t:Int×Int)=>obind (ref02_Cmp x0 t) fun (t:Int)=>some t
noncomputable def ref05_sign (x0:Int×Int):Option Int:=ref05_sign_b lpK jnK ref02_Of ref02_Cmp x0
noncomputable def c60:Ctr:=⟨[T27],[],[],.one i64,fun x _ _=>ref05_sign x.1⟩
theorem e60 (lp:Lp) (jn:Jn) (ref02_Of:(Int)→Option (Int×Int)) (ref02_Cmp:(Int×Int)→(Int×Int)→Option (Int)):∀(x:TsS c60.as) (F:TsF c60.fs) (y:TsS c60.cs),ref05_sign_b lp jn ref02_Of ref02_Cmp x.1=runC lp jn (ctxT tabs lits (ctxOf prog shs inls its [(83,⟨[T27,T27],[],[],.one i64,fun x _ _=>ref02_Cmp x.1 x.2.1⟩),(84,⟨[i64],[],[],.one T27,fun x _ _=>ref02_Of x.1⟩)] [(24,r24),(22,r22)])) hints 4 60 f60 c60 x F y:=fun x F y=>by kernel_rfl
theorem l60:(ctxT tabs lits (ctxOf prog shs inls its [(83,c83),(84,c84)] [(24,r24),(22,r22)])).ok:=ctxT_ok (ctxOf_cons (ctxOf_cons (q24) (by kernel_rfl) ok84) (by kernel_rfl) ok83)
theorem ok60:c60.ok prog 60:=Ctr.of_den l60 hmix (hl:=hints) (d:=4) func60 rfl (by decide) (e60 lpK jnK ref02_Of ref02_Cmp)
noncomputable def ref05_Feasible_b (lp:Lp) (_:Jn) (ref02_Of:(Int)→Option (Int×Int)) (ref05_Sum:(List Int)→(List (Int×Int))→Option ((Int×Int)×Int×Unit)) (ref02_Cmp:(Int×Int)→(Int×Int)→Option (Int)) (ref05_sign:(Int×Int)→Option (Int)) (x0:(List Int)×List ((List Int)×Int×Int)) (x1:List (Int×Int)):Option (Bool×Int×Unit) :=
 lp (Bool×Int×PUnit) (Bool×Int×PUnit) (fun (again:Bool×Int×PUnit→Option (Bool×Int×PUnit)) (x:Bool×Int×PUnit) =>
 let v6:Bool:=!x.1;
 let v7:Bool:=v6||x.1;bif decide (x.2.1<(↑(List.length x1):Int)) then bif v7&&(v7&&(v6||inB x.2.1 (List.length x1))) then bif v7 then bif v7 then obind (bif
  x.1 then ref05_sign (List.getD x1 (Int.toNat x.2.1) ((0:Int),(0:Int))) else some (0:Int)) fun (t:Int)=>bif v7 then bif v7 then again (bif x.1 then decide (t≥(0 :
  Int)) else false,IntKind.wrap .i64 (x.2.1+(1:Int)),PUnit.unit) else none else none else none else none else none else lp (Bool×Int×PUnit) (Bool×Int×PUnit) (fun
  (again:Bool×Int×PUnit→Option (Bool×Int×PUnit)) (x:Bool×Int×PUnit) =>
 let v10:Int×PUnit:=(IntKind.wrap .i64 (x.2.1+(1:Int)),PUnit.unit);
 let v11:Bool:=inB x.2.1 (List.length x0.2);
 let v12:List Int×Int×Int:=List.getD x0.2 (Int.toNat x.2.1) ([],(0:Int),(0:Int));
 let v13:Bool:=!decide (v12.2.1=(2:Int));
 let v14:Bool:=!decide (v12.2.1=(1:Int));
 let v15:Bool:=!v13||v13;bif decide (x.2.1<(↑(List.length x0.2):Int)) then bif v11 then obind (ref05_Sum v12.1 x1) fun (t:(Int×Int)×Int×PUnit)=>bif !decide
  (t.2.1=(0:Int)) then some (false,t.2.1,PUnit.unit) else bif v11 then obind (ref02_Of v12.2.2) fun (t_1:Int×Int)=>obind (ref02_Cmp t.1 t_1) fun (t:Int) =>
 let v19:Bool:=bif v13 then decide (t>(0:Int)) else false;
 let v20:Bool:=!v19;
 let v21:Bool:=!v20;
 let v22:Bool:=v20&&v14;
 let v23:Bool:=v21||v20;bif v11 then bif v15 then bif v15 then bif v23 then bif v23 then bif !v22||v22 then bif (v21||v23)&&(v21||(!v14||(v21||v22))) then bif v19||v20
  then bif bif v19 then true else bif v14 then decide (t<(0:Int)) else false then again (false,v10) else again (x.1,v10) else none else none else none else none else none else
  none else none else none else none else none else some (x.1,(0:Int),PUnit.unit)) (x.1,(0:Int),PUnit.unit)) (true,(0:Int),PUnit.unit)
noncomputable def ref05_Feasible (x0:(List Int)×List ((List Int)×Int×Int)) (x1:List (Int×Int)):Option (Bool×Int×Unit):=ref05_Feasible_b lpK jnK ref02_Of ref05_Sum ref02_Cmp ref05_sign x0 x1
noncomputable def c34:Ctr:=⟨[T25,(.sl T27)],[],[],.tup [.bool,i64],fun x _ _=>ref05_Feasible x.1 x.2.1⟩
theorem e34 (lp:Lp) (jn:Jn) (ref02_Of:(Int)→Option (Int×Int)) (ref05_Sum:(List Int)→(List (Int×Int))→Option ((Int×Int)×Int×Unit)) (ref02_Cmp:(Int×Int)→(Int×Int)→Option (Int)) (ref05_sign:(Int×Int)→Option (Int)):∀(x:TsS c34.as) (F:TsF c34.fs) (y:TsS c34.cs),ref05_Feasible_b lp jn ref02_Of ref05_Sum ref02_Cmp ref05_sign x.1 x.2.1=runC lp jn (ctxT tabs lits (ctxOf prog shs inls its [(60,⟨[T27],[],[],.one i64,fun x _ _=>ref05_sign x.1⟩),(83,⟨[T27,T27],[],[],.one i64,fun x _ _=>ref02_Cmp x.1 x.2.1⟩),(35,⟨[(.sl i64),(.sl T27)],[],[],.tup [T27,i64],fun x _ _=>ref05_Sum x.1 x.2.1⟩),(84,⟨[i64],[],[],.one T27,fun x _ _=>ref02_Of x.1⟩)] [(24,r24),(22,r22)])) hints 4 34 f34 c34 x F y:=fun x F y=>by kernel_rfl
theorem l34:(ctxT tabs lits (ctxOf prog shs inls its [(60,c60),(83,c83),(35,c35),(84,c84)] [(24,r24),(22,r22)])).ok:=ctxT_ok (ctxOf_cons (ctxOf_cons (ctxOf_cons (ctxOf_cons (q24) (by kernel_rfl) ok84) (by kernel_rfl) ok35) (by kernel_rfl) ok83) (by kernel_rfl) ok60)
theorem ok34:c34.ok prog 34:=Ctr.of_den l34 hmix (hl:=hints) (d:=4) func34 rfl (by decide) (e34 lpK jnK ref02_Of ref05_Sum ref02_Cmp ref05_sign)
noncomputable def ref05_Column_b (lp:Lp) (_:Jn) (x0:(List Int)×List ((List Int)×Int×Int)) (x1:Int):Option (List Int) :=
 lp (List Int×Int×PUnit) (List Int) (fun (again:List Int×Int×PUnit→Option (List Int)) (x:List Int×Int×PUnit)=>bif decide (x.2.1<(↑(List.length x0.2):Int)) then
  bif inB x.2.1 (List.length x0.2) then bif inB x1 (List.length (List.getD x0.2 (Int.toNat x.2.1) ([],(0:Int),(0:Int))).1) then bif fitB (List.length x.1+(1 :
  Nat)) (8:Nat) then again (x.1++[List.getD (List.getD x0.2 (Int.toNat x.2.1) ([],(0:Int),(0:Int))).1 (Int.toNat x1) (0:Int)],IntKind.wrap .i64 (x.2.1 +
  (1:Int)),PUnit.unit) else none else none else none else some x.1) ([],(0:Int),PUnit.unit)
noncomputable def ref05_Column (x0:(List Int)×List ((List Int)×Int×Int)) (x1:Int):Option (List Int):=ref05_Column_b lpK jnK x0 x1
noncomputable def c105:Ctr:=⟨[T25,i64],[],[],.one (.sl i64),fun x _ _=>ref05_Column x.1 x.2.1⟩
theorem e105 (lp:Lp) (jn:Jn):∀(x:TsS c105.as) (F:TsF c105.fs) (y:TsS c105.cs),ref05_Column_b lp jn x.1 x.2.1=runC lp jn (ctxT tabs lits (ctxOf prog shs inls its [] [(24,r24),(22,r22)])) hints 4 105 f105 c105 x F y:=fun x F y=>by kernel_rfl
theorem l105:(ctxT tabs lits (ctxOf prog shs inls its [] [(24,r24),(22,r22)])).ok:=ctxT_ok (q24)
theorem ok105:c105.ok prog 105:=Ctr.of_den l105 hmix (hl:=hints) (d:=4) func105 rfl (by decide) (e105 lpK jnK)
noncomputable def ref05_below_b (lp:Lp) (_:Jn) (ref02_Of:(Int)→Option (Int×Int)) (ref05_Sum:(List Int)→(List (Int×Int))→Option ((Int×Int)×Int×Unit)) (ref02_Cmp:(Int×Int)→(Int×Int)→Option (Int)) (ref05_Column:((List Int)×List ((List Int)×Int×Int))→(Int)→Option (List Int)) (x0:(List Int)×List ((List Int)×Int×Int)) (x1:List (Int×Int)) (x2:List Int):Option (Bool×Int×Unit) :=
 lp (Bool×Int×PUnit) (Bool×Int×PUnit) (fun (again:Bool×Int×PUnit→Option (Bool×Int×PUnit)) (x:Bool×Int×PUnit) =>
 let v7:Bool:=!x.1;
 let v8:Bool:=v7||x.1;bif decide (x.2.1<(↑(List.length x2):Int)) then obind (ref05_Column x0 x.2.1) fun (t:List Int)=>obind (ref05_Sum t x1) fun (t:(Int×Int) ×
  Int×PUnit)=>bif !decide (t.2.1=(0:Int)) then some (false,t.2.1,PUnit.unit) else bif v8&&(v8&&(v7||inB x.2.1 (List.length x2))) then bif v8 then bif v8 then
  obind (bif x.1 then ref02_Of (List.getD x2 (Int.toNat x.2.1) (0:Int)) else some ((0:Int),(0:Int))) fun (t_1:Int×Int)=>bif v8&&v8 then obind (bif x.1 then
  ref02_Cmp t.1 t_1 else some (0:Int)) fun (t:Int)=>bif v8 then bif v8 then again (bif x.1 then decide (t≤(0:Int)) else false,IntKind.wrap .i64 (x.2.1+(1 :
  Int)),PUnit.unit) else none else none else none else none else none else none else some (x.1,(0:Int),PUnit.unit)) (true,(0:Int),PUnit.unit)
noncomputable def ref05_below (x0:(List Int)×List ((List Int)×Int×Int)) (x1:List (Int×Int)) (x2:List Int):Option (Bool×Int×Unit):=ref05_below_b lpK jnK ref02_Of ref05_Sum ref02_Cmp ref05_Column x0 x1 x2
noncomputable def c58:Ctr:=⟨[T25,(.sl T27),(.sl i64)],[],[],.tup [.bool,i64],fun x _ _=>ref05_below x.1 x.2.1 x.2.2.1⟩
theorem e58 (lp:Lp) (jn:Jn) (ref02_Of:(Int)→Option (Int×Int)) (ref05_Sum:(List Int)→(List (Int×Int))→Option ((Int×Int)×Int×Unit)) (ref02_Cmp:(Int×Int)→(Int×Int)→Option (Int)) (ref05_Column:((List Int)×List ((List Int)×Int×Int))→(Int)→Option (List Int)):∀(x:TsS c58.as) (F:TsF c58.fs) (y:TsS c58.cs),ref05_below_b lp jn ref02_Of ref05_Sum ref02_Cmp ref05_Column x.1 x.2.1 x.2.2.1=runC lp jn (ctxT tabs lits (ctxOf prog shs inls its [(105,⟨[T25,i64],[],[],.one (.sl i64),fun x _ _=>ref05_Column x.1 x.2.1⟩),(83,⟨[T27,T27],[],[],.one i64,fun x _ _=>ref02_Cmp x.1 x.2.1⟩),(35,⟨[(.sl i64),(.sl T27)],[],[],.tup [T27,i64],fun x _ _=>ref05_Sum x.1 x.2.1⟩),(84,⟨[i64],[],[],.one T27,fun x _ _=>ref02_Of x.1⟩)] [(24,r24),(22,r22)])) hints 4 58 f58 c58 x F y:=fun x F y=>by kernel_rfl
theorem l58:(ctxT tabs lits (ctxOf prog shs inls its [(105,c105),(83,c83),(35,c35),(84,c84)] [(24,r24),(22,r22)])).ok:=ctxT_ok (ctxOf_cons (ctxOf_cons (ctxOf_cons (ctxOf_cons (q24) (by kernel_rfl) ok84) (by kernel_rfl) ok35) (by kernel_rfl) ok83) (by kernel_rfl) ok105)
theorem ok58:c58.ok prog 58:=Ctr.of_den l58 hmix (hl:=hints) (d:=4) func58 rfl (by decide) (e58 lpK jnK ref02_Of ref05_Sum ref02_Cmp ref05_Column)
noncomputable def ref05_Rights_b (lp:Lp) (_:Jn) (x0:(List Int)×List ((List Int)×Int×Int)):Option (List Int) :=
 lp (List Int×Int×PUnit) (List Int) (fun (again:List Int×Int×PUnit→Option (List Int)) (x:List Int×Int×PUnit)=>bif decide (x.2.1<(↑(List.length x0.2):Int)) then
  bif inB x.2.1 (List.length x0.2) then bif fitB (List.length x.1+(1:Nat)) (8:Nat) then again (x.1++[(List.getD x0.2 (Int.toNat x.2.1) ([],(0:Int),(0 :
  Int))).2.2],IntKind.wrap .i64 (x.2.1+(1:Int)),PUnit.unit) else none else none else some x.1) ([],(0:Int),PUnit.unit)
noncomputable def ref05_Rights (x0:(List Int)×List ((List Int)×Int×Int)):Option (List Int):=ref05_Rights_b lpK jnK x0
noncomputable def c59:Ctr:=⟨[T25],[],[],.one (.sl i64),fun x _ _=>ref05_Rights x.1⟩
theorem e59 (lp:Lp) (jn:Jn):∀(x:TsS c59.as) (F:TsF c59.fs) (y:TsS c59.cs),ref05_Rights_b lp jn x.1=runC lp jn (ctxT tabs lits (ctxOf prog shs inls its [] [(24,r24),(22,r22)])) hints 4 59 f59 c59 x F y:=fun x F y=>by kernel_rfl
theorem l59:(ctxT tabs lits (ctxOf prog shs inls its [] [(24,r24),(22,r22)])).ok:=ctxT_ok (q24)
theorem ok59:c59.ok prog 59:=Ctr.of_den l59 hmix (hl:=hints) (d:=4) func59 rfl (by decide) (e59 lpK jnK)
noncomputable def ref05_Signed_b (lp:Lp) (_:Jn) (ref05_sign:(Int×Int)→Option (Int)) (x0:(List Int)×List ((List Int)×Int×Int)) (x1:List (Int×Int)):Option Bool :=
 lp (Int×PUnit) Bool (fun (again:Int×PUnit→Option Bool) (x:Int×PUnit) =>
 let v6:Bool:=inB x.1 (List.length x1);
 let v7:Bool:=inB x.1 (List.length x0.2);
 let v8:Bool:=decide ((List.getD x0.2 (Int.toNat x.1) ([],(0:Int),(0:Int))).2.1=(1:Int));
 let v9:Bool:=decide ((List.getD x0.2 (Int.toNat x.1) ([],(0:Int),(0:Int))).2.1=(2:Int));
 let v10:Bool:=!v8;
 let v11:Bool:=v10||v8;bif decide (x.1<(↑(List.length x1):Int)) then bif v7 then bif v11&&(v11&&(v10||v6)) then bif v11 then bif v11 then obind (bif v8 then ref05_sign
  (List.getD x1 (Int.toNat x.1) ((0:Int),(0:Int))) else some (0:Int)) fun (t:Int) =>
 let v13:Bool:=bif v8 then decide (t>(0:Int)) else false;
 let v14:Bool:=!v13;
 let v15:Bool:=!v14;
 let v16:Bool:=v14&&v9;
 let v17:Bool:=!v16;
 let v18:Bool:=v15||v14;
 let v19:Bool:=v17||v16;bif v11 then bif v11 then bif v18 then bif v18&&(v18&&(v15||v7)) then bif v18 then bif v18 then bif v18 then bif v18 then bif v19&&(v19&&(v17 ||
  v6)) then bif v19 then bif v19 then obind (bif v16 then ref05_sign (List.getD x1 (Int.toNat x.1) ((0:Int),(0:Int))) else some (0:Int)) fun (t:Int)=>bif v19 then bif (v15 ||
  v18)&&(v15||(!v9||(v15||v16))) then bif v13||v14 then bif bif v13 then true else bif v9 then decide (t<(0:Int)) else false then some false else again (IntKind.wrap
  IntKind.i64 (x.1+(1:Int)),PUnit.unit) else none else none else none else none else none else none else none else none else none else none else none else none else none else none
  else none else none else none else none else some true) ((0:Int),PUnit.unit)
noncomputable def ref05_Signed (x0:(List Int)×List ((List Int)×Int×Int)) (x1:List (Int×Int)):Option Bool:=ref05_Signed_b lpK jnK ref05_sign x0 x1
noncomputable def c61:Ctr:=⟨[T25,(.sl T27)],[],[],.one .bool,fun x _ _=>ref05_Signed x.1 x.2.1⟩
theorem e61 (lp:Lp) (jn:Jn) (ref05_sign:(Int×Int)→Option (Int)):∀(x:TsS c61.as) (F:TsF c61.fs) (y:TsS c61.cs),ref05_Signed_b lp jn ref05_sign x.1 x.2.1=runC lp jn (ctxT tabs lits (ctxOf prog shs inls its [(60,⟨[T27],[],[],.one i64,fun x _ _=>ref05_sign x.1⟩)] [(24,r24),(22,r22)])) hints 4 61 f61 c61 x F y:=fun x F y=>by kernel_rfl
theorem l61:(ctxT tabs lits (ctxOf prog shs inls its [(60,c60)] [(24,r24),(22,r22)])).ok:=ctxT_ok (ctxOf_cons (q24) (by kernel_rfl) ok60)
theorem ok61:c61.ok prog 61:=Ctr.of_den l61 hmix (hl:=hints) (d:=4) func61 rfl (by decide) (e61 lpK jnK ref05_sign)
noncomputable def ref05_Proves_b (_:Lp) (_:Jn) (ref05_Sum:(List Int)→(List (Int×Int))→Option ((Int×Int)×Int×Unit)) (ref05_below:((List Int)×List ((List Int)×Int×Int))→(List (Int×Int))→(List Int)→Option (Bool×Int×Unit)) (ref05_Rights:((List Int)×List ((List Int)×Int×Int))→Option (List Int)) (ref05_Signed:((List Int)×List ((List Int)×Int×Int))→(List (Int×Int))→Option (Bool)) (x0:(List Int)×List ((List Int)×Int×Int)) (x1:List (Int×Int)) (x2:Int×Int):Option (Bool×Int×Unit) :=
 obind (ref05_below x0 x1 x0.1) fun (t:Bool×Int×PUnit) =>
 let v6:Bool:=!t.1||t.1;bif !decide (t.2.1=(0:Int)) then some (false,t.2.1,PUnit.unit) else obind (ref05_Rights x0) fun (t_1:List Int)=>obind (ref05_Sum t_1
  x1) fun (t_2:(Int×Int)×Int×PUnit) =>
 let v9:Bool:=bif t.1 then decide (t_2.1.1=x2.1)&&(decide (t_2.1.2=x2.2)&&true) else false;
 let v10:Bool:=!v9||v9;bif v6&&v6 then bif v6 then bif v10&&v10 then obind (bif v9 then ref05_Signed x0 x1 else some false) fun (t:Bool)=>bif v10 then some (bif v9 then t
  else false,t_2.2.1,PUnit.unit) else none else none else none else none
noncomputable def ref05_Proves (x0:(List Int)×List ((List Int)×Int×Int)) (x1:List (Int×Int)) (x2:Int×Int):Option (Bool×Int×Unit):=ref05_Proves_b lpK jnK ref05_Sum ref05_below ref05_Rights ref05_Signed x0 x1 x2
noncomputable def c57:Ctr:=⟨[T25,(.sl T27),T27],[],[],.tup [.bool,i64],fun x _ _=>ref05_Proves x.1 x.2.1 x.2.2.1⟩
theorem e57 (lp:Lp) (jn:Jn) (ref05_Sum:(List Int)→(List (Int×Int))→Option ((Int×Int)×Int×Unit)) (ref05_below:((List Int)×List ((List Int)×Int×Int))→(List (Int×Int))→(List Int)→Option (Bool×Int×Unit)) (ref05_Rights:((List Int)×List ((List Int)×Int×Int))→Option (List Int)) (ref05_Signed:((List Int)×List ((List Int)×Int×Int))→(List (Int×Int))→Option (Bool)):∀(x:TsS c57.as) (F:TsF c57.fs) (y:TsS c57.cs),ref05_Proves_b lp jn ref05_Sum ref05_below ref05_Rights ref05_Signed x.1 x.2.1 x.2.2.1=runC lp jn (ctxT tabs lits (ctxOf prog shs inls its [(61,⟨[T25,(.sl T27)],[],[],.one .bool,fun x _ _=>ref05_Signed x.1 x.2.1⟩),(59,⟨[T25],[],[],.one (.sl i64),fun x _ _=>ref05_Rights x.1⟩),(58,⟨[T25,(.sl T27),(.sl i64)],[],[],.tup [.bool,i64],fun x _ _=>ref05_below x.1 x.2.1 x.2.2.1⟩),(35,⟨[(.sl i64),(.sl T27)],[],[],.tup [T27,i64],fun x _ _=>ref05_Sum x.1 x.2.1⟩)] [(24,r24),(22,r22)])) hints 4 57 f57 c57 x F y:=fun x F y=>by kernel_rfl
theorem l57:(ctxT tabs lits (ctxOf prog shs inls its [(61,c61),(59,c59),(58,c58),(35,c35)] [(24,r24),(22,r22)])).ok:=ctxT_ok (ctxOf_cons (ctxOf_cons (ctxOf_cons (ctxOf_cons (q24) (by kernel_rfl) ok35) (by kernel_rfl) ok58) (by kernel_rfl) ok59) (by kernel_rfl) ok61)
theorem ok57:c57.ok prog 57:=Ctr.of_den l57 hmix (hl:=hints) (d:=4) func57 rfl (by decide) (e57 lpK jnK ref05_Sum ref05_below ref05_Rights ref05_Signed)
noncomputable def ref05_Check_b (_:Lp) (_:Jn) (ref05_Sum:(List Int)→(List (Int×Int))→Option ((Int×Int)×Int×Unit)) (ref05_Feasible:((List Int)×List ((List Int)×Int×Int))→(List (Int×Int))→Option (Bool×Int×Unit)) (ref05_Proves:((List Int)×List ((List Int)×Int×Int))→(List (Int×Int))→(Int×Int)→Option (Bool×Int×Unit)) (x0:(List Int)×List ((List Int)×Int×Int)) (x1:(Int×Int)×(List (Int×Int))×List (Int×Int)):Option (Bool×Int×Unit) :=
 obind (ref05_Feasible x0 x1.2.1) fun (t:Bool×Int×PUnit) =>
 let v5:Bool:=!t.1||t.1;
 let v6:Bool:=!decide (t.2.1=(0:Int));
 let v7:Bool:=!v6;obind (ref05_Sum x0.1 x1.2.1) fun (t_1:(Int×Int)×Int×PUnit) =>
 let v9:Bool:=bif v6 then true else !decide (t_1.2.1=(0:Int));
 let v10:Bool:=!v9;
 let v11:Bool:=bif t.1 then decide (t_1.1.1=x1.1.1)&&(decide (t_1.1.2=x1.1.2)&&true) else false;obind (ref05_Proves x0 x1.2.2 x1.1) fun (t:Bool×Int
  × PUnit)=>bif !v7||v7 then bif v6||v7 then bif !v10||v10 then bif v9||v10 then bif bif v9 then true else !decide (t.2.1=(0:Int)) then some (false,(5:Int),
  PUnit.unit) else bif v5 then bif v5&&v5 then bif v5 then bif !v11||v11 then some (bif v11 then t.1 else false,(0:Int),PUnit.unit) else none else none else none else none else
  none else none else none else none
noncomputable def ref05_Check (x0:(List Int)×List ((List Int)×Int×Int)) (x1:(Int×Int)×(List (Int×Int))×List (Int×Int)):Option (Bool×Int×Unit):=ref05_Check_b lpK jnK ref05_Sum ref05_Feasible ref05_Proves x0 x1
noncomputable def c19:Ctr:=⟨[T25,T30],[],[],.tup [.bool,i64],fun x _ _=>ref05_Check x.1 x.2.1⟩
theorem e19 (lp:Lp) (jn:Jn) (ref05_Sum:(List Int)→(List (Int×Int))→Option ((Int×Int)×Int×Unit)) (ref05_Feasible:((List Int)×List ((List Int)×Int×Int))→(List (Int×Int))→Option (Bool×Int×Unit)) (ref05_Proves:((List Int)×List ((List Int)×Int×Int))→(List (Int×Int))→(Int×Int)→Option (Bool×Int×Unit)):∀(x:TsS c19.as) (F:TsF c19.fs) (y:TsS c19.cs),ref05_Check_b lp jn ref05_Sum ref05_Feasible ref05_Proves x.1 x.2.1=runC lp jn (ctxT tabs lits (ctxOf prog shs inls its [(57,⟨[T25,(.sl T27),T27],[],[],.tup [.bool,i64],fun x _ _=>ref05_Proves x.1 x.2.1 x.2.2.1⟩),(34,⟨[T25,(.sl T27)],[],[],.tup [.bool,i64],fun x _ _=>ref05_Feasible x.1 x.2.1⟩),(35,⟨[(.sl i64),(.sl T27)],[],[],.tup [T27,i64],fun x _ _=>ref05_Sum x.1 x.2.1⟩)] [(24,r24),(22,r22)])) hints 4 19 f19 c19 x F y:=fun x F y=>by kernel_rfl
theorem l19:(ctxT tabs lits (ctxOf prog shs inls its [(57,c57),(34,c34),(35,c35)] [(24,r24),(22,r22)])).ok:=ctxT_ok (ctxOf_cons (ctxOf_cons (ctxOf_cons (q24) (by kernel_rfl) ok35) (by kernel_rfl) ok34) (by kernel_rfl) ok57)
theorem ok19:c19.ok prog 19:=Ctr.of_den l19 hmix (hl:=hints) (d:=4) func19 rfl (by decide) (e19 lpK jnK ref05_Sum ref05_Feasible ref05_Proves)
noncomputable def ref05_Refutes_b (_:Lp) (_:Jn) (ref05_Sum:(List Int)→(List (Int×Int))→Option ((Int×Int)×Int×Unit)) (ref05_sign:(Int×Int)→Option (Int)) (ref05_below:((List Int)×List ((List Int)×Int×Int))→(List (Int×Int))→(List Int)→Option (Bool×Int×Unit)) (ref05_Rights:((List Int)×List ((List Int)×Int×Int))→Option (List Int)) (ref05_Signed:((List Int)×List ((List Int)×Int×Int))→(List (Int×Int))→Option (Bool)) (x0:(List Int)×List ((List Int)×Int×Int)) (x1:List (Int×Int)):Option (Bool×Int×Unit) :=
 bif decide ((0:Int)≤(↑(List.length x0.1):Int))&&fitB (Int.toNat (↑(List.length x0.1):Int)) (8:Nat) then obind (ref05_below x0 x1 (List.replicate (Int.toNat (↑(List.length
  x0.1):Int)) (0:Int))) fun (t:Bool×Int×PUnit) =>
 let v5:Bool:=!t.1||t.1;bif !decide (t.2.1=(0:Int)) then some (false,t.2.1,PUnit.unit) else obind (ref05_Rights x0) fun (t_1:List Int)=>obind (ref05_Sum t_1
  x1) fun (t_2:(Int×Int)×Int×PUnit)=>bif !decide (t_2.2.1=(0:Int)) then some (false,t_2.2.1,PUnit.unit) else bif v5 then obind (bif t.1 then ref05_sign t_2.1
  else some (0:Int)) fun (t_3:Int) =>
 let v9:Bool:=bif t.1 then decide (t_3>(0:Int)) else false;
 let v10:Bool:=!v9||v9;bif v5 then bif v5 then bif v10&&v10 then obind (bif v9 then ref05_Signed x0 x1 else some false) fun (t:Bool)=>bif v10 then some (bif v9 then t else
  false,(0:Int),PUnit.unit) else none else none else none else none else none else none
noncomputable def ref05_Refutes (x0:(List Int)×List ((List Int)×Int×Int)) (x1:List (Int×Int)):Option (Bool×Int×Unit):=ref05_Refutes_b lpK jnK ref05_Sum ref05_sign ref05_below ref05_Rights ref05_Signed x0 x1
noncomputable def c20:Ctr:=⟨[T25,(.sl T27)],[],[],.tup [.bool,i64],fun x _ _=>ref05_Refutes x.1 x.2.1⟩
theorem e20 (lp:Lp) (jn:Jn) (ref05_Sum:(List Int)→(List (Int×Int))→Option ((Int×Int)×Int×Unit)) (ref05_sign:(Int×Int)→Option (Int)) (ref05_below:((List Int)×List ((List Int)×Int×Int))→(List (Int×Int))→(List Int)→Option (Bool×Int×Unit)) (ref05_Rights:((List Int)×List ((List Int)×Int×Int))→Option (List Int)) (ref05_Signed:((List Int)×List ((List Int)×Int×Int))→(List (Int×Int))→Option (Bool)):∀(x:TsS c20.as) (F:TsF c20.fs) (y:TsS c20.cs),ref05_Refutes_b lp jn ref05_Sum ref05_sign ref05_below ref05_Rights ref05_Signed x.1 x.2.1=runC lp jn (ctxT tabs lits (ctxOf prog shs inls its [(61,⟨[T25,(.sl T27)],[],[],.one .bool,fun x _ _=>ref05_Signed x.1 x.2.1⟩),(59,⟨[T25],[],[],.one (.sl i64),fun x _ _=>ref05_Rights x.1⟩),(58,⟨[T25,(.sl T27),(.sl i64)],[],[],.tup [.bool,i64],fun x _ _=>ref05_below x.1 x.2.1 x.2.2.1⟩),(60,⟨[T27],[],[],.one i64,fun x _ _=>ref05_sign x.1⟩),(35,⟨[(.sl i64),(.sl T27)],[],[],.tup [T27,i64],fun x _ _=>ref05_Sum x.1 x.2.1⟩)] [(24,r24),(22,r22)])) hints 4 20 f20 c20 x F y:=fun x F y=>by kernel_rfl
theorem l20:(ctxT tabs lits (ctxOf prog shs inls its [(61,c61),(59,c59),(58,c58),(60,c60),(35,c35)] [(24,r24),(22,r22)])).ok:=ctxT_ok (ctxOf_cons (ctxOf_cons (ctxOf_cons (ctxOf_cons (ctxOf_cons (q24) (by kernel_rfl) ok35) (by kernel_rfl) ok60) (by kernel_rfl) ok58) (by kernel_rfl) ok59) (by kernel_rfl) ok61)
theorem ok20:c20.ok prog 20:=Ctr.of_den l20 hmix (hl:=hints) (d:=4) func20 rfl (by decide) (e20 lpK jnK ref05_Sum ref05_sign ref05_below ref05_Rights ref05_Signed)
noncomputable def law05_ProgramChecks_b (_:Lp) (jn:Jn) (program_Check:((List Int)×List ((List Int)×Int×Int))→((Int×Int)×(List (Int×Int))×List (Int×Int))→Option (Bool×Int×Unit)) (program_Refutes:((List Int)×List ((List Int)×Int×Int))→(List (Int×Int))→Option (Bool×Int×Unit)) (law05_awake:Option (Bool)) (law05_few:((List Int)×List ((List Int)×Int×Int))→Option (Bool)) (law05_short:(List (List (Int×Int)))→Option (Bool)) (ref05_Valid:((List Int)×List ((List Int)×Int×Int))→Option (Bool)) (ref02_Valid:(Int×Int)→Option (Bool)) (ref02_All:(List (Int×Int))→Option (Bool)) (ref05_Check:((List Int)×List ((List Int)×Int×Int))→((Int×Int)×(List (Int×Int))×List (Int×Int))→Option (Bool×Int×Unit)) (ref05_Refutes:((List Int)×List ((List Int)×Int×Int))→(List (Int×Int))→Option (Bool×Int×Unit)) (x0:(List Int)×List ((List Int)×Int×Int)) (x1:(Int×Int)×(List (Int×Int))×List (Int×Int)) (x2:List (Int×Int)):Option Bool :=
 
 let v5:Bool:=!decide ((↑(List.length x1.2.1):Int)=(↑(List.length x0.1):Int));
 let v6:Bool:=!v5;
 let v7:Bool:=!v6||v6;obind law05_awake fun (t:Bool)=>bif !t then some false else obind (law05_few x0) fun (t:Bool) =>
 let v10:Bool:=!t;
 let v11:Bool:=!v10;
 let v12:Bool:=!v11||v11;bif v12 then bif v12 then bif v12&&(v12&&v12) then bif v12 then obind (bif v11 then law05_short [x1.2.1,x1.2.2,x2] else some false) fun (t :
  Bool)=>bif v12 then bif v10||v11 then bif bif v10 then true else !t then some true else obind (program_Check x0 x1) fun (t:Bool×Int×PUnit) =>
 let v15:Bool:=!t.1;
 let v16:Bool:=t.1||v15;
 let v17:Bool:=!v15||v15;obind (program_Refutes x0 x2) fun (t_1:Bool×Int×PUnit) =>
 let v19:Bool:=!t_1.1;
 let v20:Bool:=!v19||v19;obind (ref05_Valid x0) fun (t_2:Bool) =>
 let v22:Bool:=!t_2;
 let v23:Bool:=!v22;
 let v24:Bool:=v22||v23;
 let v25:Bool:=!v23||v23;bif v25 then bif v25 then obind (bif v23 then ref02_Valid x1.1 else some false) fun (t_3:Bool) =>
 let v27:Bool:=bif v22 then true else !t_3;
 let v28:Bool:=!v27;
 let v29:Bool:=!v28||v28;bif v25 then bif v24 then bif v29 then bif v29 then obind (bif v28 then ref02_All x1.2.1 else some false) fun (t_4:Bool) =>
 let v31:Bool:=bif v27 then true else !t_4;
 let v32:Bool:=!v31;
 let v33:Bool:=!v32||v32;bif v29 then bif v27||v28 then bif v33 then bif v33 then obind (bif v32 then ref02_All x1.2.2 else some false) fun (t_5:Bool)=>bif v33 then bif
  v31||v32 then jn PUnit Bool (fun (_:PUnit)=>bif v25 then obind (bif v23 then ref02_All x2 else some false) fun (t:Bool)=>bif v25 then bif v24 then bif bif v22 then true else
  !t then bif v20 then bif v20 then some (bif v19 then decide (t_1.2.1=(1:Int)) else false) else none else none else bif !decide ((↑(List.length x2):Int)=(↑(List.length
  x0.2):Int)) then bif v20 then bif v20 then some (bif v19 then decide (t_1.2.1=(3:Int)) else false) else none else none else obind (ref05_Refutes x0 x2) fun (t:Bool×Int ×
  PUnit) =>
 let v38:Bool:=decide (t_1.1=t.1);
 let v39:Bool:=!v38||v38;bif v39&&v39 then bif v39 then some (bif v38 then decide (t_1.2.1=t.2.1) else false) else none else none else none else none else none) fun (j :
  PUnit→Option Bool)=>bif bif v31 then true else !t_5 then bif v17 then bif v16 then bif bif t.1 then true else !decide (t.2.1=(1:Int)) then some false else j PUnit.unit
  else none else none else bif v7 then bif v7 then bif v7 then bif v7 then bif v7&&v7 then bif v5||v6 then jn PUnit Bool (fun (_:PUnit)=>j PUnit.unit) fun (j:PUnit→Option
  Bool)=>bif bif v5 then true else !decide ((↑(List.length x1.2.2):Int)=(↑(List.length x0.2):Int)) then bif v17 then bif v16 then bif bif t.1 then true else !decide
  (t.2.1=(3:Int)) then some false else j PUnit.unit else none else none else obind (ref05_Check x0 x1) fun (t_6:Bool×Int×PUnit) =>
 let v38:Bool:=!decide (t.1=t_6.1);
 let v39:Bool:=!v38;
 let v40:Bool:=!v39||v39;bif v40&&v40 then bif v38||v39 then bif bif v38 then true else !decide (t.2.1=t_6.2.1) then some false else j PUnit.unit else none else none
  else none else none else none else none else none else none else none else none else none else none else none else none else none else none else none else none else none else none else
  none else none else none else none else none else none
noncomputable def law05_ProgramChecks (x0:(List Int)×List ((List Int)×Int×Int)) (x1:(Int×Int)×(List (Int×Int))×List (Int×Int)) (x2:List (Int×Int)):Option Bool:=law05_ProgramChecks_b lpK jnK program_Check program_Refutes law05_awake law05_few law05_short ref05_Valid ref02_Valid ref02_All ref05_Check ref05_Refutes x0 x1 x2
noncomputable def c3:Ctr:=⟨[T25,T30,(.sl T27)],[],[],.one .bool,fun x _ _=>law05_ProgramChecks x.1 x.2.1 x.2.2.1⟩
theorem e3 (lp:Lp) (jn:Jn) (program_Check:((List Int)×List ((List Int)×Int×Int))→((Int×Int)×(List (Int×Int))×List (Int×Int))→Option (Bool×Int×Unit)) (program_Refutes:((List Int)×List ((List Int)×Int×Int))→(List (Int×Int))→Option (Bool×Int×Unit)) (law05_awake:Option (Bool)) (law05_few:((List Int)×List ((List Int)×Int×Int))→Option (Bool)) (law05_short:(List (List (Int×Int)))→Option (Bool)) (ref05_Valid:((List Int)×List ((List Int)×Int×Int))→Option (Bool)) (ref02_Valid:(Int×Int)→Option (Bool)) (ref02_All:(List (Int×Int))→Option (Bool)) (ref05_Check:((List Int)×List ((List Int)×Int×Int))→((Int×Int)×(List (Int×Int))×List (Int×Int))→Option (Bool×Int×Unit)) (ref05_Refutes:((List Int)×List ((List Int)×Int×Int))→(List (Int×Int))→Option (Bool×Int×Unit)):∀(x:TsS c3.as) (F:TsF c3.fs) (y:TsS c3.cs),law05_ProgramChecks_b lp jn program_Check program_Refutes law05_awake law05_few law05_short ref05_Valid ref02_Valid ref02_All ref05_Check ref05_Refutes x.1 x.2.1 x.2.2.1=runC lp jn (ctxT tabs lits (ctxOf prog shs inls its [(20,⟨[T25,(.sl T27)],[],[],.tup [.bool,i64],fun x _ _=>ref05_Refutes x.1 x.2.1⟩),(19,⟨[T25,T30],[],[],.tup [.bool,i64],fun x _ _=>ref05_Check x.1 x.2.1⟩),(18,⟨[(.sl T27)],[],[],.one .bool,fun x _ _=>ref02_All x.1⟩),(17,⟨[T27],[],[],.one .bool,fun x _ _=>ref02_Valid x.1⟩),(16,⟨[T25],[],[],.one .bool,fun x _ _=>ref05_Valid x.1⟩),(13,⟨[(.sl (.sl T27))],[],[],.one .bool,fun x _ _=>law05_short x.1⟩),(12,⟨[T25],[],[],.one .bool,fun x _ _=>law05_few x.1⟩),(11,⟨[],[],[],.one .bool,fun _ _ _=>law05_awake⟩),(15,⟨[T25,(.sl T27)],[],[],.tup [.bool,i64],fun x _ _=>program_Refutes x.1 x.2.1⟩),(14,⟨[T25,T30],[],[],.tup [.bool,i64],fun x _ _=>program_Check x.1 x.2.1⟩)] [(24,r24),(22,r22)])) hints 4 3 f3 c3 x F y:=fun x F y=>by kernel_rfl
theorem l3:(ctxT tabs lits (ctxOf prog shs inls its [(20,c20),(19,c19),(18,c18),(17,c17),(16,c16),(13,c13),(12,c12),(11,c11),(15,c15),(14,c14)] [(24,r24),(22,r22)])).ok:=ctxT_ok (ctxOf_cons (ctxOf_cons (ctxOf_cons (ctxOf_cons (ctxOf_cons (ctxOf_cons (ctxOf_cons (ctxOf_cons (ctxOf_cons (ctxOf_cons (q24) (by kernel_rfl) ok14) (by kernel_rfl) ok15) (by kernel_rfl) ok11) (by kernel_rfl) ok12) (by kernel_rfl) ok13) (by kernel_rfl) ok16) (by kernel_rfl) ok17) (by kernel_rfl) ok18) (by kernel_rfl) ok19) (by kernel_rfl) ok20)
noncomputable def law05_empty_b (_:Lp) (_:Jn) (x0:(Int×Int)×(List (Int×Int))×List (Int×Int)):Option Bool :=
 
 let v3:Bool:=decide (x0.1.1=(0:Int))&&(decide (x0.1.2=(0:Int))&&true);
 let v4:Bool:=bif v3 then decide ((↑(List.length x0.2.1):Int)=(0:Int)) else false;
 let v5:Bool:=!v3||v3;
 let v6:Bool:=!v4||v4;bif v5 then bif v5 then bif v5 then bif v5 then bif v6 then bif v6 then bif v6 then bif v6 then some (bif v4 then decide ((↑(List.length x0.2.2):Int) =
  (0:Int)) else false) else none else none else none else none else none else none else none else none
noncomputable def law05_empty (x0:(Int×Int)×(List (Int×Int))×List (Int×Int)):Option Bool:=law05_empty_b lpK jnK x0
noncomputable def law05_ProgramMore_b (lp:Lp) (_:Jn) (_:(Int×Int)→(Int×Int)→Option (Int×Int×Unit)) (program_Solve:((List Int)×List ((List Int)×Int×Int))→Option (((Int×Int)×(List (Int×Int))×List (Int×Int))×Int×Unit)) (law05_awake:Option (Bool)) (law05_few:((List Int)×List ((List Int)×Int×Int))→Option (Bool)) (_:((Int×Int)×(List (Int×Int))×List (Int×Int))→Option (Bool)) (slices_Clone_22:(List Int)→Option (List Int)) (_:(List ((List Int)×Int×Int))→Option (List ((List Int)×Int×Int))) (x0:(List Int)×List ((List Int)×Int×Int)) (x1:(List Int)×Int×Int):Option Bool :=
 obind law05_awake fun (t:Bool)=>bif !t then some false else obind (law05_few x0) fun (t:Bool) =>
 let v6:Bool:=!t;
 let v7:Bool:=!v6;
 let v8:Bool:=!v7||v7;bif v8 then bif v8 then bif v8 then bif v6||v7 then bif bif v6 then true else decide ((↑(List.length x1.1):Int)>(14:Int)) then some true else obind
  (program_Solve x0) fun (_:((Int×Int)×List (Int×Int)×List (Int×Int))×Int×PUnit)=>obind (slices_Clone_22 x0.1) fun (t:List Int)=>lp (Int×Int×List Int×PUnit)
  Bool (fun (again:Int×Int×List Int×PUnit→Option Bool) (x:Int×Int×List Int×PUnit) =>
 let v13:Bool:=inB x.1 (List.length x.2.2.1);
 let v14:Bool:=Nat.ble (Nat.succ (Int.toNat x.1)) (List.length x.2.2.1);
 let v15:Bool:=inB x.2.1 (List.length x.2.2.1);
 let v16:Bool:=Nat.ble (Nat.succ (Int.toNat x.2.1)) (List.length x.2.2.1);bif decide (x.1<x.2.1) then bif v15 then bif v16 then bif v13 then bif v14 then bif v13
  then bif v14 then bif v15 then bif v16 then again (IntKind.wrap .i64 (x.1+(1:Int)),IntKind.wrap .i64 (x.2.1 - (1:Int)),List.set (List.set x.2.2.1
  (Int.toNat x.1) (List.getD x.2.2.1 (Int.toNat x.2.1) (0:Int))) (Int.toNat x.2.1) (List.getD x.2.2.1 (Int.toNat x.1) (0:Int)),PUnit.unit) else none else none
  else none else none else none else none else none else none else none) ((0:Int),IntKind.wrap .i64 ((↑(List.length t):Int) - (1:Int)),t,PUnit.unit) else none else none
  else none else none
noncomputable def law05_ProgramMore (x0:(List Int)×List ((List Int)×Int×Int)) (x1:(List Int)×Int×Int):Option Bool:=law05_ProgramMore_b lpK jnK ratio_Cmp program_Solve law05_awake law05_few law05_empty slices_Clone_22 slices_Clone_24 x0 x1
noncomputable def c4:Ctr:=⟨[T25,T45],[],[],.one .bool,fun x _ _=>law05_ProgramMore x.1 x.2.1⟩
theorem e4 (lp:Lp) (jn:Jn) (ratio_Cmp:(Int×Int)→(Int×Int)→Option (Int×Int×Unit)) (program_Solve:((List Int)×List ((List Int)×Int×Int))→Option (((Int×Int)×(List (Int×Int))×List (Int×Int))×Int×Unit)) (law05_awake:Option (Bool)) (law05_few:((List Int)×List ((List Int)×Int×Int))→Option (Bool)) (law05_empty:((Int×Int)×(List (Int×Int))×List (Int×Int))→Option (Bool)) (slices_Clone_22:(List Int)→Option (List Int)) (slices_Clone_24:(List ((List Int)×Int×Int))→Option (List ((List Int)×Int×Int))):∀(x:TsS c4.as) (F:TsF c4.fs) (y:TsS c4.cs),law05_ProgramMore_b lp jn ratio_Cmp program_Solve law05_awake law05_few law05_empty slices_Clone_22 slices_Clone_24 x.1 x.2.1=runC lp jn (ctxT tabs lits (ctxOf prog shs inls its [(25,⟨[T30],[],[],.one .bool,fun x _ _=>law05_empty x.1⟩),(12,⟨[T25],[],[],.one .bool,fun x _ _=>law05_few x.1⟩),(11,⟨[],[],[],.one .bool,fun _ _ _=>law05_awake⟩),(21,⟨[T25],[],[],.tup [T30,i64],fun x _ _=>program_Solve x.1⟩),(26,⟨[T27,T27],[],[],.tup [i64,i64],fun x _ _=>ratio_Cmp x.1 x.2.1⟩)] [(24,⟨[(.sl T45)],45,T45,fun x=>slices_Clone_24 x.1⟩),(22,⟨[(.sl i64)],3,i64,fun x=>slices_Clone_22 x.1⟩)])) hints 4 4 f4 c4 x F y:=fun x F y=>by kernel_rfl
noncomputable def ref05_size_b (_:Lp) (_:Jn) (x0:Int):Option Int :=
 some (if IntKind.wrap .i64 ((0:Int) - x0)>x0 then IntKind.wrap .i64 ((0:Int) - x0) else x0)
noncomputable def ref05_size (x0:Int):Option Int:=ref05_size_b lpK jnK x0
noncomputable def ref05_Factors_b (lp:Lp) (_:Jn) (ref05_size:(Int)→Option (Int)) (x0:(List Int)×List ((List Int)×Int×Int)):Option (List Int) :=
 lp (Int×Int×PUnit) (List Int) (fun (again:Int×Int×PUnit→Option (List Int)) (x:Int×Int×PUnit)=>bif decide (x.2.1<(↑(List.length x0.1):Int)) then bif inB
  x.2.1 (List.length x0.1) then obind (ref05_size (List.getD x0.1 (Int.toNat x.2.1) (0:Int))) fun (t:Int)=>again (IntKind.wrap .i64 (x.1+t),IntKind.wrap
  IntKind.i64 (x.2.1+(1:Int)),PUnit.unit) else none else lp (List Int×Int×PUnit) (List Int) (fun (again:List Int×Int×PUnit→Option (List Int)) (x:List Int×Int ×
  PUnit) =>
 let v7:Bool:=inB x.2.1 (List.length x0.2);
 let v8:List Int×Int×Int:=List.getD x0.2 (Int.toNat x.2.1) ([],(0:Int),(0:Int));bif decide (x.2.1<(↑(List.length x0.2):Int)) then bif v7 then obind
  (ref05_size v8.2.2) fun (t:Int)=>lp (Int×Int×PUnit) (List Int) (fun (again_1:Int×Int×PUnit→Option (List Int)) (x_1:Int×Int×PUnit)=>bif decide (x_1.2.1 <
  (↑(List.length x0.1):Int)) then bif v7 then bif inB x_1.2.1 (List.length v8.1) then obind (ref05_size (List.getD v8.1 (Int.toNat x_1.2.1) (0:Int))) fun (t:Int) =>
  again_1 (IntKind.wrap .i64 (x_1.1+t),IntKind.wrap .i64 (x_1.2.1+(1:Int)),PUnit.unit) else none else none else bif fitB (List.length x.1+(1:Nat)) (8 :
  Nat) then again (x.1++[x_1.1],IntKind.wrap .i64 (x.2.1+(1:Int)),PUnit.unit) else none) (IntKind.wrap .i64 ((1:Int)+t),(0:Int),PUnit.unit) else none
  else some x.1) ([x.1],(0:Int),PUnit.unit)) ((1:Int),(0:Int),PUnit.unit)
noncomputable def ref05_Factors (x0:(List Int)×List ((List Int)×Int×Int)):Option (List Int):=ref05_Factors_b lpK jnK ref05_size x0
noncomputable def ref05_product_b (lp:Lp) (_:Jn) (x0:List Int) (x1:Int):Option (Int×Bool×Unit) :=
 lp (Int×Int×PUnit) (Int×Bool×PUnit) (fun (again:Int×Int×PUnit→Option (Int×Bool×PUnit)) (x:Int×Int×PUnit) =>
 let v6:Bool:=inB x.2.1 (List.length x0);bif decide (x.2.1<(↑(List.length x0):Int)) then bif v6 then bif nzB x.1 then bif decide (List.getD x0 (Int.toNat x.2.1) (0 :
  Int)>IntKind.wrap .i64 (Int.tdiv x1 x.1)) then some ((0:Int),false,PUnit.unit) else bif v6 then again (IntKind.wrap .i64 (x.1*List.getD x0 (Int.toNat
  x.2.1) (0:Int)),IntKind.wrap .i64 (x.2.1+(1:Int)),PUnit.unit) else none else none else none else some (x.1,true,PUnit.unit)) ((1:Int),(0:Int),PUnit.unit)
noncomputable def ref05_product (x0:List Int) (x1:Int):Option (Int×Bool×Unit):=ref05_product_b lpK jnK x0 x1
noncomputable def ref05_Fits_b (lp:Lp) (_:Jn) (ref05_Factors:((List Int)×List ((List Int)×Int×Int))→Option (List Int)) (ref05_product:(List Int)→(Int)→Option (Int×Bool×Unit)) (x0:(List Int)×List ((List Int)×Int×Int)):Option Bool :=
 obind (ref05_Factors x0) fun (t:List Int)=>obind (ref05_product t (17592186044416:Int)) fun (t_1:Int×Bool×PUnit) =>
 let v5:Bool:=!t_1.2.1;
 let v6:Int:=IntKind.wrap .i64 (Int.tdiv (144115188075855872:Int) t_1.1);
 let v7:Bool:=v5||t_1.2.1;lp (Int×Int×PUnit) Bool (fun (again:Int×Int×PUnit→Option Bool) (x:Int×Int×PUnit)=>bif decide (x.2.1<(↑(List.length t):Int))
  then bif inB x.2.1 (List.length t) then again (if List.getD t (Int.toNat x.2.1) (0:Int)>x.1 then List.getD t (Int.toNat x.2.1) (0:Int) else x.1,IntKind.wrap
  IntKind.i64 (x.2.1+(1:Int)),PUnit.unit) else none else bif v7&&(v5||nzB t_1.1) then bif v7&&v7 then bif v7 then some (bif t_1.2.1 then decide (x.1≤v6) else
  false) else none else none else none) ((0:Int),(0:Int),PUnit.unit)
noncomputable def ref05_Fits (x0:(List Int)×List ((List Int)×Int×Int)):Option Bool:=ref05_Fits_b lpK jnK ref05_Factors ref05_product x0
noncomputable def ref05_Small_b (_:Lp) (_:Jn) (ref05_Factors:((List Int)×List ((List Int)×Int×Int))→Option (List Int)) (ref05_product:(List Int)→(Int)→Option (Int×Bool×Unit)) (x0:(List Int)×List ((List Int)×Int×Int)):Option Bool :=
 obind (ref05_Factors x0) fun (t:List Int)=>obind (ref05_product t (536870912:Int)) fun (t:Int×Bool×PUnit)=>some t.2.1
noncomputable def ref05_Small (x0:(List Int)×List ((List Int)×Int×Int)):Option Bool:=ref05_Small_b lpK jnK ref05_Factors ref05_product x0
noncomputable def program_Farkas_b (lp:Lp) (jn:Jn) (program_Valid:((List Int)×List ((List Int)×Int×Int))→Option (Bool)) (program_fits:((List Int)×List ((List Int)×Int×Int))→Option (Bool)) (slices_Clone_22:(List Int)→Option (List Int)) (program_table_start:(List Nat×List (Option (List Int)))→(Int)→(List Int)→(List Int)→(List Int)→(Int)→(Int)→Option ((List Nat×List (Option (List Int)))×Int×(List Int)×(List Int)×(List Int)×Int×Int×Bool×Unit)) (program_table_artificial:((List (List Int))×Int×(List Int)×(List Int)×(List Int)×Int×Int)→(Int)→Option (Int)) (program_table_part:((List (List Int))×Int×(List Int)×(List Int)×(List Int)×Int×Int)→(Int)→Option (Int×Int)) (x0:(List Int)×List ((List Int)×Int×Int)):Option ((List (Int×Int))×Int×Unit) :=
 obind (program_Valid x0) fun (t:Bool)=>bif !t then some ([],(1:Int),PUnit.unit) else obind (program_fits x0) fun (t:Bool)=>bif !t then some ([],(5:Int),PUnit.unit) else lp
  (Int×Int×PUnit) (List (Int×Int)×Int×PUnit) (fun (again:Int×Int×PUnit→Option (List (Int×Int)×Int×PUnit)) (x:Int×Int×PUnit) =>
 let v7:Int×PUnit:=(IntKind.wrap .i64 (x.2.1+(1:Int)),PUnit.unit);
 let v8:Int:=IntKind.wrap .i64 ((↑(List.length x0.1):Int)+x.1);bif decide (x.2.1<(↑(List.length x0.2):Int)) then bif inB x.2.1 (List.length x0.2) then
  bif !decide ((List.getD x0.2 (Int.toNat x.2.1) ([],(0:Int),(0:Int))).2.1=(3:Int)) then again (IntKind.wrap .i64 (x.1+(1:Int)),v7) else again (x.1,
  v7) else none else obind (slices_Clone_22 x0.1) fun (t:List Int)=>lp (Int×Int×(List Nat×List (Option (List Int)))×Int×List Int×List Int×List Int×Int×Int×PUnit)
  (List (Int×Int)×Int×PUnit) (fun (again:Int×Int×(List Nat×List (Option (List Int)))×Int×List Int×List Int×List Int×Int×Int×PUnit→Option (List (Int×Int) ×
  Int×PUnit)) (x:Int×Int×(List Nat×List (Option (List Int)))×Int×List Int×List Int×List Int×Int×Int×PUnit) =>
 let v12:Int:=IntKind.wrap .i64 (x.1+(1:Int));
 let v13:List Int×Int×Int:=List.getD x0.2 (Int.toNat x.2.1) ([],(0:Int),(0:Int));
 let v14:List Int:=List.replicate (Int.toNat (IntKind.wrap .i64 (x.2.2.2.2.2.2.2.2.1+(1:Int)))) (0:Int);
 let v15:Bool:=inB x.1 (Int.toNat (IntKind.wrap .i64 (x.2.2.2.2.2.2.2.2.1+(1:Int))));
 let v16:Bool:=Nat.ble (Nat.succ (Int.toNat x.1)) (Int.toNat (IntKind.wrap .i64 (x.2.2.2.2.2.2.2.2.1+(1:Int))));
 let v17:Int:=IntKind.wrap .i64 (x.2.2.2.2.2.2.2.1+x.2.1);
 let v18:List Int:=List.take (Int.toNat (IntKind.wrap .i64 (x.2.2.2.2.2.2.2.2.1+(1:Int)))) v13.1;
 let v19:List Int:=List.set (List.take (0:Nat) v14++v18++List.drop ((0:Nat)+List.length v18) v14) (Int.toNat x.2.2.2.2.2.2.2.2.1) v13.2.2;bif decide
  (x.2.1<(↑(List.length x0.2):Int)) then bif inB x.2.1 (List.length x0.2) then bif decide ((0:Int)≤IntKind.wrap .i64 (x.2.2.2.2.2.2.2.2.1+(1
  : Int)))&&fitB (Int.toNat (IntKind.wrap .i64 (x.2.2.2.2.2.2.2.2.1+(1:Int)))) (8:Nat) then bif inB x.2.2.2.2.2.2.2.2.1 (Int.toNat
  (IntKind.wrap .i64 (x.2.2.2.2.2.2.2.2.1+(1:Int)))) then bif Nat.ble (Nat.succ (Int.toNat x.2.2.2.2.2.2.2.2.1)) (Int.toNat (IntKind.wrap
  IntKind.i64 (x.2.2.2.2.2.2.2.2.1+(1:Int)))) then jn (Int×List Int×PUnit) (List (Int×Int)×Int×PUnit) (fun (x_1:Int×List Int×PUnit) =>
 let v21:List Int×PUnit:=(x_1.2.1,PUnit.unit);jn (Int×List Int×PUnit) (List (Int×Int)×Int×PUnit) (fun (x_2:Int×List Int×PUnit)=>bif inB v17 (List.length
  x_2.2.1) then bif Nat.ble (Nat.succ (Int.toNat v17)) (List.length x_2.2.1) then bif fitB (List.length x.2.2.1.1+(1:Nat)) (24:Nat) then bif fitB (List.length
  x.2.2.2.2.2.1+(1:Nat)) (8:Nat) then bif fitB (List.length x.2.2.2.2.1+(1:Nat)) (8:Nat) then again (x_1.1,IntKind.wrap .i64 (x.2.1+(1 :
  Int)),(x.2.2.1.1++[List.length x.2.2.1.2+(0:Nat)],x.2.2.1.2++[some (List.set x_2.2.1 (Int.toNat v17) (1:Int))]),x.2.2.2.1,
  x.2.2.2.2.1++[v17],x.2.2.2.2.2.1++[x_2.1],x.2.2.2.2.2.2.1,x.2.2.2.2.2.2.2.1,x.2.2.2.2.2.2.2.2.1,
  PUnit.unit) else none else none else none else none else none) fun (j:Int×List Int×PUnit→Option (List (Int×Int)×Int×PUnit))=>bif decide (v13.2.2<(0:Int)) then lp
  (Int×List Int×PUnit) (List (Int×Int)×Int×PUnit) (fun (again:Int×List Int×PUnit→Option (List (Int×Int)×Int×PUnit)) (x:Int×List Int×PUnit) =>
 let v25:Bool:=inB x.1 (List.length x.2.1);
 let v26:Bool:=Nat.ble (Nat.succ (Int.toNat x.1)) (List.length x.2.1);bif decide (x.1<(↑(List.length x_1.2.1):Int)) then bif v25 then bif v26 then bif v25 then bif v26
  then again (IntKind.wrap .i64 (x.1+(1:Int)),List.set x.2.1 (Int.toNat x.1) (IntKind.wrap .i64 ((0:Int) - List.getD x.2.1 (Int.toNat x.1) (0:Int))),
  PUnit.unit) else none else none else none else none else j ((-1:Int),x.2.1,PUnit.unit)) ((0:Int),v21) else j ((1:Int),v21)) fun (j:Int×List Int×PUnit→Option (List
  (Int×Int)×Int×PUnit))=>bif decide (v13.2.1=(1:Int)) then bif v15 then bif v16 then j (v12,List.set v19 (Int.toNat x.1) (1:Int),PUnit.unit) else none else none else
  jn (Int×List Int×PUnit) (List (Int×Int)×Int×PUnit) (fun (x:Int×List Int×PUnit)=>j (x.1,x.2.1,PUnit.unit)) fun (j:Int×List Int×PUnit→Option (List (Int ×
  Int)×Int×PUnit))=>bif decide (v13.2.1=(2:Int)) then bif v15 then bif v16 then j (v12,List.set v19 (Int.toNat x.1) (-1:Int),PUnit.unit) else none else none else j
  (x.1,v19,PUnit.unit) else none else none else none else none else obind (program_table_start x.2.2.1 x.2.2.2.1 x.2.2.2.2.1 x.2.2.2.2.2.1
  x.2.2.2.2.2.2.1 x.2.2.2.2.2.2.2.1 x.2.2.2.2.2.2.2.2.1) fun (y:(List Nat×List (Option (List Int)))×Int×List Int×List Int×List
  Int×Int×Int×Bool×PUnit)=>bif y.2.2.2.2.2.2.2.1 then some ([],(12:Int),PUnit.unit) else lp (List (Int×Int)×Int×PUnit) (List (Int×Int)×Int×PUnit)
  (fun (again:List (Int×Int)×Int×PUnit→Option (List (Int×Int)×Int×PUnit)) (x:List (Int×Int)×Int×PUnit)=>bif decide (x.2.1<(↑(List.length x0.2):Int))
  then bif inB x.2.1 (List.length y.2.2.2.1) then bif Nat.ble (Nat.succ (Int.toNat x.2.1)) (List.length y.2.2.2.1) then obind (bif List.all y.1.1 fun (x:Nat)
  =>liveB y.1.2 x then program_table_artificial (List.map (fun (x:Nat)=>rowD y.1.2 x) y.1.1,y.2.1,y.2.2.1,y.2.2.2.1,y.2.2.2.2.1,
  y.2.2.2.2.2.1,y.2.2.2.2.2.2.1) (IntKind.wrap .i64 (y.2.2.2.2.2.1+x.2.1)) else none) fun (t:Int)=>obind (bif List.all y.1.1
  fun (x:Nat)=>liveB y.1.2 x then program_table_part (List.map (fun (x:Nat)=>rowD y.1.2 x) y.1.1,y.2.1,y.2.2.1,y.2.2.2.1,y.2.2.2.2.1,
  y.2.2.2.2.2.1,y.2.2.2.2.2.2.1) (IntKind.wrap .i64 (List.getD y.2.2.2.1 (Int.toNat x.2.1) (0:Int)*t)) else none) fun (t:Int×Int) =>
  bif fitB (List.length x.1+(1:Nat)) (16:Nat) then again (x.1++[t],IntKind.wrap .i64 (x.2.1+(1:Int)),PUnit.unit) else none else none else none else some
  (x.1,(0:Int),PUnit.unit)) ([],(0:Int),PUnit.unit)) ((↑(List.length x0.1):Int),(0:Int),([],[]),(1:Int),[],[],t,v8,IntKind.wrap .i64 (v8+(↑(List.length
  x0.2):Int)),PUnit.unit)) ((0:Int),(0:Int),PUnit.unit)
noncomputable def program_Farkas (x0:(List Int)×List ((List Int)×Int×Int)):Option ((List (Int×Int))×Int×Unit):=program_Farkas_b lpK jnK program_Valid program_fits slices_Clone_22 program_table_start program_table_artificial program_table_part x0
noncomputable def ref05_pivot_b (lp:Lp) (_:Jn) (x0:List Nat×List (Option (List Int))) (x1:List Int) (x2:Int) (x3:Int) (x4:Int) (x5:Int):Option ((List Nat×List (Option (List Int)))×(List Int)×Int×Int×Unit) :=
 bif inB x4 (List.length x0.1) then bif Nat.ble (Nat.succ (Int.toNat x4)) (List.length x0.1) then bif inB x5 (List.length (rowD x0.2 (List.getD x0.1 (Int.toNat x4) (0:Nat)))) then
  bif Nat.ble (Nat.succ (Int.toNat x5)) (List.length (rowD x0.2 (List.getD x0.1 (Int.toNat x4) (0:Nat)))) then lp (Int×(List Nat×List (Option (List Int)))×PUnit) ((List Nat ×
  List (Option (List Int)))×List Int×Int×Int×PUnit) (fun (again:Int×(List Nat×List (Option (List Int)))×PUnit→Option ((List Nat×List (Option (List Int)))×List Int ×
  Int×Int×PUnit)) (x:Int×(List Nat×List (Option (List Int)))×PUnit) =>
 let v10:Int:=IntKind.wrap .i64 (x.1+(1:Int));
 let v11:(List Nat×List (Option (List Int)))×PUnit:=(x.2.1,PUnit.unit);bif decide (x.1<(↑(List.length x.2.1.1):Int)) then bif inB x.1 (List.length
  x.2.1.1) then bif Nat.ble (Nat.succ (Int.toNat x.1)) (List.length x.2.1.1) then bif inB x5 (List.length (rowD x.2.1.2 (List.getD x.2.1.1 (Int.toNat x.1) (0 :
  Nat)))) then bif Nat.ble (Nat.succ (Int.toNat x5)) (List.length (rowD x.2.1.2 (List.getD x.2.1.1 (Int.toNat x.1) (0:Nat)))) then bif decide (x.1=x4) then again (v10,
  v11) else lp (Int×(List Nat×List (Option (List Int)))×PUnit) ((List Nat×List (Option (List Int)))×List Int×Int×Int×PUnit) (fun (again_1:Int×(List Nat×List (Option
  (List Int)))×PUnit→Option ((List Nat×List (Option (List Int)))×List Int×Int×Int×PUnit)) (x_1:Int×(List Nat×List (Option (List Int)))×PUnit) =>
 let v14:Bool:=inB x.1 (List.length x_1.2.1.1);
 let v15:Bool:=Nat.ble (Nat.succ (Int.toNat x.1)) (List.length x_1.2.1.1);bif v14 then bif v15 then bif liveB x_1.2.1.2 (List.getD x_1.2.1.1 (Int.toNat x.1) (0 :
  Nat)) then bif decide (x_1.1<(↑(List.length (rowD x_1.2.1.2 (List.getD x_1.2.1.1 (Int.toNat x.1) (0:Nat)))):Int)) then bif v14 then bif v15 then bif v14 then bif
  v15 then bif inB x_1.1 (List.length (rowD x_1.2.1.2 (List.getD x_1.2.1.1 (Int.toNat x.1) (0:Nat)))) then bif Nat.ble (Nat.succ (Int.toNat x_1.1)) (List.length (rowD
  x_1.2.1.2 (List.getD x_1.2.1.1 (Int.toNat x.1) (0:Nat)))) then bif inB x4 (List.length x_1.2.1.1) then bif Nat.ble (Nat.succ (Int.toNat x4)) (List.length
  x_1.2.1.1) then bif inB x_1.1 (List.length (rowD x_1.2.1.2 (List.getD x_1.2.1.1 (Int.toNat x4) (0:Nat)))) then bif Nat.ble (Nat.succ (Int.toNat x_1.1))
  (List.length (rowD x_1.2.1.2 (List.getD x_1.2.1.1 (Int.toNat x4) (0:Nat)))) then bif nzB x2 then bif inB x_1.1 (List.length (rowD x_1.2.1.2 (List.getD
  x_1.2.1.1 (Int.toNat x.1) (0:Nat)))) then bif Nat.ble (Nat.succ (Int.toNat x_1.1)) (List.length (rowD x_1.2.1.2 (List.getD x_1.2.1.1 (Int.toNat x.1) (0 :
  Nat)))) then again_1 (IntKind.wrap .i64 (x_1.1+(1:Int)),(x_1.2.1.1,List.set x_1.2.1.2 (List.getD x_1.2.1.1 (Int.toNat x.1) (0:Nat)) (some (List.set
  (rowD x_1.2.1.2 (List.getD x_1.2.1.1 (Int.toNat x.1) (0:Nat))) (Int.toNat x_1.1) (IntKind.wrap .i64 (Int.tdiv (IntKind.wrap .i64 (IntKind.wrap
  IntKind.i64 (List.getD (rowD x_1.2.1.2 (List.getD x_1.2.1.1 (Int.toNat x.1) (0:Nat))) (Int.toNat x_1.1) (0:Int)*List.getD (rowD x0.2 (List.getD x0.1 (Int.toNat
  x4) (0:Nat))) (Int.toNat x5) (0:Int)) - IntKind.wrap .i64 (List.getD (rowD x.2.1.2 (List.getD x.2.1.1 (Int.toNat x.1) (0:Nat))) (Int.toNat x5) (0:Int) *
  List.getD (rowD x_1.2.1.2 (List.getD x_1.2.1.1 (Int.toNat x4) (0:Nat))) (Int.toNat x_1.1) (0:Int)))) x2))))),PUnit.unit) else none else none else none else none else
  none else none else none else none else none else none else none else none else none else again (v10,x_1.2.1,PUnit.unit) else none else none else none) ((0:Int),v11) else none
  else none else none else none else bif inB x4 (List.length x1) then bif Nat.ble (Nat.succ (Int.toNat x4)) (List.length x1) then some (x.2.1,List.set x1 (Int.toNat x4) x5,List.getD
  (rowD x0.2 (List.getD x0.1 (Int.toNat x4) (0:Nat))) (Int.toNat x5) (0:Int),x3,PUnit.unit) else none else none) ((0:Int),x0,PUnit.unit) else none else none else none else
  none
noncomputable def ref05_pivot (x0:List Nat×List (Option (List Int))) (x1:List Int) (x2:Int) (x3:Int) (x4:Int) (x5:Int):Option ((List Nat×List (Option (List Int)))×(List Int)×Int×Int×Unit):=ref05_pivot_b lpK jnK x0 x1 x2 x3 x4 x5
noncomputable def ref05_run_b (lp:Lp) (_:Jn) (ref05_pivot:(List Nat×List (Option (List Int)))→(List Int)→(Int)→(Int)→(Int)→(Int)→Option ((List Nat×List (Option (List Int)))×(List Int)×Int×Int×Unit)) (x0:List Nat×List (Option (List Int))) (x1:List Int) (x2:Int) (x3:Int):Option ((List Nat×List (Option (List Int)))×(List Int)×Int×Int×Bool×Unit) :=
 
 let v6:Int:=IntKind.wrap .i64 ((↑(List.length x0.1):Int) - (1:Int));lp ((List Nat×List (Option (List Int)))×List Int×Int×Int×(List Nat×List (Option (List
  Int)))×List Int×Int×Int×PUnit) ((List Nat×List (Option (List Int)))×List Int×Int×Int×Bool×PUnit) (fun (again:(List Nat×List (Option (List Int)))×List Int×Int
  × Int×(List Nat×List (Option (List Int)))×List Int×Int×Int×PUnit→Option ((List Nat×List (Option (List Int)))×List Int×Int×Int×Bool×PUnit)) (x:(List Nat ×
  List (Option (List Int)))×List Int×Int×Int×(List Nat×List (Option (List Int)))×List Int×Int×Int×PUnit)=>lp (Int×PUnit) ((List Nat×List (Option (List Int))) ×
  List Int×Int×Int×Bool×PUnit) (fun (again_1:Int×PUnit→Option ((List Nat×List (Option (List Int)))×List Int×Int×Int×Bool×PUnit)) (x_1:Int×PUnit) =>
 let v11:Bool:=decide (x_1.1<x.2.2.2.1);
 let v12:Bool:=!v11;
 let v13:Bool:=v12||v11;bif v13 then bif v13&&(v13&&(v12||inB v6 (List.length x.1.1))) then bif v13&&(v12||Nat.ble (Nat.succ (Int.toNat v6)) (List.length x.1.1))
  then bif v13&&(v13&&(v12||inB x_1.1 (List.length (rowD x.1.2 (List.getD x.1.1 (Int.toNat v6) (0:Nat)))))) then bif v13&&(v12||Nat.ble (Nat.succ (Int.toNat
  x_1.1)) (List.length (rowD x.1.2 (List.getD x.1.1 (Int.toNat v6) (0:Nat))))) then bif v13 then bif v13 then bif bif v11 then decide (List.getD (rowD x.1.2 (List.getD
  x.1.1 (Int.toNat v6) (0:Nat))) (Int.toNat x_1.1) (0:Int)≥(0:Int)) else false then again_1 (IntKind.wrap .i64 (x_1.1+(1:Int)),PUnit.unit) else bif decide
  (x_1.1=x.2.2.2.1) then some (x.1,x.2.1,x.2.2.1,x.2.2.2.1,true,PUnit.unit) else bif inB (0:Int) (List.length x.1.1) then bif Nat.ble (1:Nat)
  (List.length x.1.1) then bif liveB x.1.2 (List.getD x.1.1 (0:Nat) (0:Nat)) then lp (Int×Int×PUnit) ((List Nat×List (Option (List Int)))×List Int×Int×Int ×
  Bool×PUnit) (fun (again_2:Int×Int×PUnit→Option ((List Nat×List (Option (List Int)))×List Int×Int×Int×Bool×PUnit)) (x_2:Int×Int×PUnit) =>
 let v16:Int×PUnit:=(IntKind.wrap .i64 (x_2.2.1+(1:Int)),PUnit.unit);
 let v17:Bool:=decide (x_2.1<(0:Int));
 let v18:Bool:=inB x_2.1 (List.length x.1.1);
 let v19:Bool:=Nat.ble (Nat.succ (Int.toNat x_2.1)) (List.length x.1.1);
 let v20:Bool:=inB x_2.2.1 (List.length x.1.1);
 let v21:Bool:=Nat.ble (Nat.succ (Int.toNat x_2.2.1)) (List.length x.1.1);bif decide (x_2.2.1<v6) then bif v20 then bif v21 then bif inB x_1.1 (List.length (rowD
  x.1.2 (List.getD x.1.1 (Int.toNat x_2.2.1) (0:Nat)))) then bif Nat.ble (Nat.succ (Int.toNat x_1.1)) (List.length (rowD x.1.2 (List.getD x.1.1 (Int.toNat
  x_2.2.1) (0:Nat)))) then bif decide (List.getD (rowD x.1.2 (List.getD x.1.1 (Int.toNat x_2.2.1) (0:Nat))) (Int.toNat x_1.1) (0:Int)≤(0:Int)) then again_2
  (x_2.1,v16) else bif v17 then again_2 (x_2.2.1,v16) else bif v20 then bif v21 then bif inB (IntKind.wrap .i64 ((↑(List.length (rowD x.1.2 (List.getD x.1.1 (0 :
  Nat) (0:Nat)))):Int) - (1:Int))) (List.length (rowD x.1.2 (List.getD x.1.1 (Int.toNat x_2.2.1) (0:Nat)))) then bif Nat.ble (Nat.succ (Int.toNat (IntKind.wrap
  IntKind.i64 ((↑(List.length (rowD x.1.2 (List.getD x.1.1 (0:Nat) (0:Nat)))):Int) - (1:Int))))) (List.length (rowD x.1.2 (List.getD x.1.1 (Int.toNat x_2.2.1)
  (0:Nat)))) then bif v18 then bif v19 then bif inB x_1.1 (List.length (rowD x.1.2 (List.getD x.1.1 (Int.toNat x_2.1) (0:Nat)))) then bif Nat.ble (Nat.succ (Int.toNat
  x_1.1)) (List.length (rowD x.1.2 (List.getD x.1.1 (Int.toNat x_2.1) (0:Nat)))) then bif v18 then bif v19 then bif inB (IntKind.wrap .i64 ((↑(List.length (rowD
  x.1.2 (List.getD x.1.1 (0:Nat) (0:Nat)))):Int) - (1:Int))) (List.length (rowD x.1.2 (List.getD x.1.1 (Int.toNat x_2.1) (0:Nat)))) then bif Nat.ble (Nat.succ
  (Int.toNat (IntKind.wrap .i64 ((↑(List.length (rowD x.1.2 (List.getD x.1.1 (0:Nat) (0:Nat)))):Int) - (1:Int))))) (List.length (rowD x.1.2 (List.getD x.1.1
  (Int.toNat x_2.1) (0:Nat)))) then bif v20 then bif v21 then bif inB x_1.1 (List.length (rowD x.1.2 (List.getD x.1.1 (Int.toNat x_2.2.1) (0:Nat)))) then bif Nat.ble
  (Nat.succ (Int.toNat x_1.1)) (List.length (rowD x.1.2 (List.getD x.1.1 (Int.toNat x_2.2.1) (0:Nat)))) then bif (!!decide (IntKind.wrap .i64 (List.getD (rowD
  x.1.2 (List.getD x.1.1 (Int.toNat x_2.2.1) (0:Nat))) (Int.toNat (IntKind.wrap .i64 ((↑(List.length (rowD x.1.2 (List.getD x.1.1 (0:Nat) (0:Nat)))) :
  Int) - (1:Int)))) (0:Int)*List.getD (rowD x.1.2 (List.getD x.1.1 (Int.toNat x_2.1) (0:Nat))) (Int.toNat x_1.1) (0:Int))<IntKind.wrap .i64 (List.getD (rowD
  x.1.2 (List.getD x.1.1 (Int.toNat x_2.1) (0:Nat))) (Int.toNat (IntKind.wrap .i64 ((↑(List.length (rowD x.1.2 (List.getD x.1.1 (0:Nat) (0:Nat)))):Int) -
  (1:Int)))) (0:Int)*List.getD (rowD x.1.2 (List.getD x.1.1 (Int.toNat x_2.2.1) (0:Nat))) (Int.toNat x_1.1) (0:Int)))||!decide (IntKind.wrap .i64
  (List.getD (rowD x.1.2 (List.getD x.1.1 (Int.toNat x_2.2.1) (0:Nat))) (Int.toNat (IntKind.wrap .i64 ((↑(List.length (rowD x.1.2 (List.getD x.1.1 (0:Nat)
  (0:Nat)))):Int) - (1:Int)))) (0:Int)*List.getD (rowD x.1.2 (List.getD x.1.1 (Int.toNat x_2.1) (0:Nat))) (Int.toNat x_1.1) (0:Int))<IntKind.wrap .i64
  (List.getD (rowD x.1.2 (List.getD x.1.1 (Int.toNat x_2.1) (0:Nat))) (Int.toNat (IntKind.wrap .i64 ((↑(List.length (rowD x.1.2 (List.getD x.1.1 (0:Nat) (0 :
  Nat)))):Int) - (1:Int)))) (0:Int)*List.getD (rowD x.1.2 (List.getD x.1.1 (Int.toNat x_2.2.1) (0:Nat))) (Int.toNat x_1.1) (0:Int))))&&(!!decide (IntKind.wrap
  IntKind.i64 (List.getD (rowD x.1.2 (List.getD x.1.1 (Int.toNat x_2.2.1) (0:Nat))) (Int.toNat (IntKind.wrap .i64 ((↑(List.length (rowD x.1.2 (List.getD x.1.1
  (0:Nat) (0:Nat)))):Int) - (1:Int)))) (0:Int)*List.getD (rowD x.1.2 (List.getD x.1.1 (Int.toNat x_2.1) (0:Nat))) (Int.toNat x_1.1) (0:Int))<IntKind.wrap
  IntKind.i64 (List.getD (rowD x.1.2 (List.getD x.1.1 (Int.toNat x_2.1) (0:Nat))) (Int.toNat (IntKind.wrap .i64 ((↑(List.length (rowD x.1.2 (List.getD x.1.1 (0
  : Nat) (0:Nat)))):Int) - (1:Int)))) (0:Int)*List.getD (rowD x.1.2 (List.getD x.1.1 (Int.toNat x_2.2.1) (0:Nat))) (Int.toNat x_1.1) (0:Int)))||!decide
  (IntKind.wrap .i64 (List.getD (rowD x.1.2 (List.getD x.1.1 (Int.toNat x_2.2.1) (0:Nat))) (Int.toNat (IntKind.wrap .i64 ((↑(List.length (rowD x.1.2
  (List.getD x.1.1 (0:Nat) (0:Nat)))):Int) - (1:Int)))) (0:Int)*List.getD (rowD x.1.2 (List.getD x.1.1 (Int.toNat x_2.1) (0:Nat))) (Int.toNat x_1.1) (0 :
  Int))<IntKind.wrap .i64 (List.getD (rowD x.1.2 (List.getD x.1.1 (Int.toNat x_2.1) (0:Nat))) (Int.toNat (IntKind.wrap .i64 ((↑(List.length (rowD x.1.2
  (List.getD x.1.1 (0:Nat) (0:Nat)))):Int) - (1:Int)))) (0:Int)*List.getD (rowD x.1.2 (List.getD x.1.1 (Int.toNat x_2.2.1) (0:Nat))) (Int.toNat x_1.1) (0 :
  Int)))) then bif !!decide (IntKind.wrap .i64 (List.getD (rowD x.1.2 (List.getD x.1.1 (Int.toNat x_2.2.1) (0:Nat))) (Int.toNat (IntKind.wrap .i64
  ((↑(List.length (rowD x.1.2 (List.getD x.1.1 (0:Nat) (0:Nat)))):Int) - (1:Int)))) (0:Int)*List.getD (rowD x.1.2 (List.getD x.1.1 (Int.toNat x_2.1) (0 :
  Nat))) (Int.toNat x_1.1) (0:Int))<IntKind.wrap .i64 (List.getD (rowD x.1.2 (List.getD x.1.1 (Int.toNat x_2.1) (0:Nat))) (Int.toNat (IntKind.wrap .i64
  ((↑(List.length (rowD x.1.2 (List.getD x.1.1 (0:Nat) (0:Nat)))):Int) - (1:Int)))) (0:Int)*List.getD (rowD x.1.2 (List.getD x.1.1 (Int.toNat x_2.2.1) (0 :
  Nat))) (Int.toNat x_1.1) (0:Int)))||!decide (IntKind.wrap .i64 (List.getD (rowD x.1.2 (List.getD x.1.1 (Int.toNat x_2.2.1) (0:Nat))) (Int.toNat (IntKind.wrap
  IntKind.i64 ((↑(List.length (rowD x.1.2 (List.getD x.1.1 (0:Nat) (0:Nat)))):Int) - (1:Int)))) (0:Int)*List.getD (rowD x.1.2 (List.getD x.1.1 (Int.toNat
  x_2.1) (0:Nat))) (Int.toNat x_1.1) (0:Int))<IntKind.wrap .i64 (List.getD (rowD x.1.2 (List.getD x.1.1 (Int.toNat x_2.1) (0:Nat))) (Int.toNat (IntKind.wrap
  IntKind.i64 ((↑(List.length (rowD x.1.2 (List.getD x.1.1 (0:Nat) (0:Nat)))):Int) - (1:Int)))) (0:Int)*List.getD (rowD x.1.2 (List.getD x.1.1 (Int.toNat
  x_2.2.1) (0:Nat))) (Int.toNat x_1.1) (0:Int))) then bif !(!decide (IntKind.wrap .i64 (List.getD (rowD x.1.2 (List.getD x.1.1 (Int.toNat x_2.2.1) (0:Nat)))
  (Int.toNat (IntKind.wrap .i64 ((↑(List.length (rowD x.1.2 (List.getD x.1.1 (0:Nat) (0:Nat)))):Int) - (1:Int)))) (0:Int)*List.getD (rowD x.1.2 (List.getD
  x.1.1 (Int.toNat x_2.1) (0:Nat))) (Int.toNat x_1.1) (0:Int))<IntKind.wrap .i64 (List.getD (rowD x.1.2 (List.getD x.1.1 (Int.toNat x_2.1) (0:Nat)))
  (Int.toNat (IntKind.wrap .i64 ((↑(List.length (rowD x.1.2 (List.getD x.1.1 (0:Nat) (0:Nat)))):Int) - (1:Int)))) (0:Int)*List.getD (rowD x.1.2 (List.getD
  x.1.1 (Int.toNat x_2.2.1) (0:Nat))) (Int.toNat x_1.1) (0:Int)))&&decide (IntKind.wrap .i64 (List.getD (rowD x.1.2 (List.getD x.1.1 (Int.toNat x_2.2.1)
  (0:Nat))) (Int.toNat (IntKind.wrap .i64 ((↑(List.length (rowD x.1.2 (List.getD x.1.1 (0:Nat) (0:Nat)))):Int) - (1:Int)))) (0:Int)*List.getD (rowD x.1.2
  (List.getD x.1.1 (Int.toNat x_2.1) (0:Nat))) (Int.toNat x_1.1) (0:Int))=IntKind.wrap .i64 (List.getD (rowD x.1.2 (List.getD x.1.1 (Int.toNat x_2.1) (0 :
  Nat))) (Int.toNat (IntKind.wrap .i64 ((↑(List.length (rowD x.1.2 (List.getD x.1.1 (0:Nat) (0:Nat)))):Int) - (1:Int)))) (0:Int)*List.getD (rowD x.1.2
  (List.getD x.1.1 (Int.toNat x_2.2.1) (0:Nat))) (Int.toNat x_1.1) (0:Int))))||!decide (IntKind.wrap .i64 (List.getD (rowD x.1.2 (List.getD x.1.1 (Int.toNat
  x_2.2.1) (0:Nat))) (Int.toNat (IntKind.wrap .i64 ((↑(List.length (rowD x.1.2 (List.getD x.1.1 (0:Nat) (0:Nat)))):Int) - (1:Int)))) (0:Int)*List.getD
  (rowD x.1.2 (List.getD x.1.1 (Int.toNat x_2.1) (0:Nat))) (Int.toNat x_1.1) (0:Int))<IntKind.wrap .i64 (List.getD (rowD x.1.2 (List.getD x.1.1 (Int.toNat
  x_2.1) (0:Nat))) (Int.toNat (IntKind.wrap .i64 ((↑(List.length (rowD x.1.2 (List.getD x.1.1 (0:Nat) (0:Nat)))):Int) - (1:Int)))) (0:Int)*List.getD (rowD
  x.1.2 (List.getD x.1.1 (Int.toNat x_2.2.1) (0:Nat))) (Int.toNat x_1.1) (0:Int)))&&decide (IntKind.wrap .i64 (List.getD (rowD x.1.2 (List.getD x.1.1
  (Int.toNat x_2.2.1) (0:Nat))) (Int.toNat (IntKind.wrap .i64 ((↑(List.length (rowD x.1.2 (List.getD x.1.1 (0:Nat) (0:Nat)))):Int) - (1:Int)))) (0:Int) *
  List.getD (rowD x.1.2 (List.getD x.1.1 (Int.toNat x_2.1) (0:Nat))) (Int.toNat x_1.1) (0:Int))=IntKind.wrap .i64 (List.getD (rowD x.1.2 (List.getD x.1.1
  (Int.toNat x_2.1) (0:Nat))) (Int.toNat (IntKind.wrap .i64 ((↑(List.length (rowD x.1.2 (List.getD x.1.1 (0:Nat) (0:Nat)))):Int) - (1:Int)))) (0:Int) *
  List.getD (rowD x.1.2 (List.getD x.1.1 (Int.toNat x_2.2.1) (0:Nat))) (Int.toNat x_1.1) (0:Int))) then bif (!(!decide (IntKind.wrap .i64 (List.getD (rowD
  x.1.2 (List.getD x.1.1 (Int.toNat x_2.2.1) (0:Nat))) (Int.toNat (IntKind.wrap .i64 ((↑(List.length (rowD x.1.2 (List.getD x.1.1 (0:Nat) (0:Nat)))) :
  Int) - (1:Int)))) (0:Int)*List.getD (rowD x.1.2 (List.getD x.1.1 (Int.toNat x_2.1) (0:Nat))) (Int.toNat x_1.1) (0:Int))<IntKind.wrap .i64 (List.getD (rowD
  x.1.2 (List.getD x.1.1 (Int.toNat x_2.1) (0:Nat))) (Int.toNat (IntKind.wrap .i64 ((↑(List.length (rowD x.1.2 (List.getD x.1.1 (0:Nat) (0:Nat)))):Int) -
  (1:Int)))) (0:Int)*List.getD (rowD x.1.2 (List.getD x.1.1 (Int.toNat x_2.2.1) (0:Nat))) (Int.toNat x_1.1) (0:Int)))&&decide (IntKind.wrap .i64
  (List.getD (rowD x.1.2 (List.getD x.1.1 (Int.toNat x_2.2.1) (0:Nat))) (Int.toNat (IntKind.wrap .i64 ((↑(List.length (rowD x.1.2 (List.getD x.1.1 (0:Nat)
  (0:Nat)))):Int) - (1:Int)))) (0:Int)*List.getD (rowD x.1.2 (List.getD x.1.1 (Int.toNat x_2.1) (0:Nat))) (Int.toNat x_1.1) (0:Int))=IntKind.wrap .i64
  (List.getD (rowD x.1.2 (List.getD x.1.1 (Int.toNat x_2.1) (0:Nat))) (Int.toNat (IntKind.wrap .i64 ((↑(List.length (rowD x.1.2 (List.getD x.1.1 (0:Nat) (0 :
  Nat)))):Int) - (1:Int)))) (0:Int)*List.getD (rowD x.1.2 (List.getD x.1.1 (Int.toNat x_2.2.1) (0:Nat))) (Int.toNat x_1.1) (0:Int))))||!decide (IntKind.wrap
  IntKind.i64 (List.getD (rowD x.1.2 (List.getD x.1.1 (Int.toNat x_2.2.1) (0:Nat))) (Int.toNat (IntKind.wrap .i64 ((↑(List.length (rowD x.1.2 (List.getD x.1.1
  (0:Nat) (0:Nat)))):Int) - (1:Int)))) (0:Int)*List.getD (rowD x.1.2 (List.getD x.1.1 (Int.toNat x_2.1) (0:Nat))) (Int.toNat x_1.1) (0:Int))<IntKind.wrap
  IntKind.i64 (List.getD (rowD x.1.2 (List.getD x.1.1 (Int.toNat x_2.1) (0:Nat))) (Int.toNat (IntKind.wrap .i64 ((↑(List.length (rowD x.1.2 (List.getD x.1.1 (0
  : Nat) (0:Nat)))):Int) - (1:Int)))) (0:Int)*List.getD (rowD x.1.2 (List.getD x.1.1 (Int.toNat x_2.2.1) (0:Nat))) (Int.toNat x_1.1) (0:Int)))&&decide
  (IntKind.wrap .i64 (List.getD (rowD x.1.2 (List.getD x.1.1 (Int.toNat x_2.2.1) (0:Nat))) (Int.toNat (IntKind.wrap .i64 ((↑(List.length (rowD x.1.2
  (List.getD x.1.1 (0:Nat) (0:Nat)))):Int) - (1:Int)))) (0:Int)*List.getD (rowD x.1.2 (List.getD x.1.1 (Int.toNat x_2.1) (0:Nat))) (Int.toNat x_1.1) (0 :
  Int))=IntKind.wrap .i64 (List.getD (rowD x.1.2 (List.getD x.1.1 (Int.toNat x_2.1) (0:Nat))) (Int.toNat (IntKind.wrap .i64 ((↑(List.length (rowD x.1.2
  (List.getD x.1.1 (0:Nat) (0:Nat)))):Int) - (1:Int)))) (0:Int)*List.getD (rowD x.1.2 (List.getD x.1.1 (Int.toNat x_2.2.1) (0:Nat))) (Int.toNat x_1.1) (0 :
  Int))))&&((!(!decide (IntKind.wrap .i64 (List.getD (rowD x.1.2 (List.getD x.1.1 (Int.toNat x_2.2.1) (0:Nat))) (Int.toNat (IntKind.wrap .i64 ((↑(List.length
  (rowD x.1.2 (List.getD x.1.1 (0:Nat) (0:Nat)))):Int) - (1:Int)))) (0:Int)*List.getD (rowD x.1.2 (List.getD x.1.1 (Int.toNat x_2.1) (0:Nat))) (Int.toNat
  x_1.1) (0:Int))<IntKind.wrap .i64 (List.getD (rowD x.1.2 (List.getD x.1.1 (Int.toNat x_2.1) (0:Nat))) (Int.toNat (IntKind.wrap .i64 ((↑(List.length (rowD
  x.1.2 (List.getD x.1.1 (0:Nat) (0:Nat)))):Int) - (1:Int)))) (0:Int)*List.getD (rowD x.1.2 (List.getD x.1.1 (Int.toNat x_2.2.1) (0:Nat))) (Int.toNat
  x_1.1) (0:Int)))&&decide (IntKind.wrap .i64 (List.getD (rowD x.1.2 (List.getD x.1.1 (Int.toNat x_2.2.1) (0:Nat))) (Int.toNat (IntKind.wrap .i64
  ((↑(List.length (rowD x.1.2 (List.getD x.1.1 (0:Nat) (0:Nat)))):Int) - (1:Int)))) (0:Int)*List.getD (rowD x.1.2 (List.getD x.1.1 (Int.toNat x_2.1) (0 :
  Nat))) (Int.toNat x_1.1) (0:Int))=IntKind.wrap .i64 (List.getD (rowD x.1.2 (List.getD x.1.1 (Int.toNat x_2.1) (0:Nat))) (Int.toNat (IntKind.wrap .i64
  ((↑(List.length (rowD x.1.2 (List.getD x.1.1 (0:Nat) (0:Nat)))):Int) - (1:Int)))) (0:Int)*List.getD (rowD x.1.2 (List.getD x.1.1 (Int.toNat x_2.2.1) (0 :
  Nat))) (Int.toNat x_1.1) (0:Int))))||!decide (IntKind.wrap .i64 (List.getD (rowD x.1.2 (List.getD x.1.1 (Int.toNat x_2.2.1) (0:Nat))) (Int.toNat (IntKind.wrap
  IntKind.i64 ((↑(List.length (rowD x.1.2 (List.getD x.1.1 (0:Nat) (0:Nat)))):Int) - (1:Int)))) (0:Int)*List.getD (rowD x.1.2 (List.getD x.1.1 (Int.toNat
  x_2.1) (0:Nat))) (Int.toNat x_1.1) (0:Int))<IntKind.wrap .i64 (List.getD (rowD x.1.2 (List.getD x.1.1 (Int.toNat x_2.1) (0:Nat))) (Int.toNat (IntKind.wrap
  IntKind.i64 ((↑(List.length (rowD x.1.2 (List.getD x.1.1 (0:Nat) (0:Nat)))):Int) - (1:Int)))) (0:Int)*List.getD (rowD x.1.2 (List.getD x.1.1 (Int.toNat
  x_2.2.1) (0:Nat))) (Int.toNat x_1.1) (0:Int)))&&decide (IntKind.wrap .i64 (List.getD (rowD x.1.2 (List.getD x.1.1 (Int.toNat x_2.2.1) (0:Nat)))
  (Int.toNat (IntKind.wrap .i64 ((↑(List.length (rowD x.1.2 (List.getD x.1.1 (0:Nat) (0:Nat)))):Int) - (1:Int)))) (0:Int)*List.getD (rowD x.1.2 (List.getD
  x.1.1 (Int.toNat x_2.1) (0:Nat))) (Int.toNat x_1.1) (0:Int))=IntKind.wrap .i64 (List.getD (rowD x.1.2 (List.getD x.1.1 (Int.toNat x_2.1) (0:Nat)))
  (Int.toNat (IntKind.wrap .i64 ((↑(List.length (rowD x.1.2 (List.getD x.1.1 (0:Nat) (0:Nat)))):Int) - (1:Int)))) (0:Int)*List.getD (rowD x.1.2 (List.getD
  x.1.1 (Int.toNat x_2.2.1) (0:Nat))) (Int.toNat x_1.1) (0:Int))))&&(!(!decide (IntKind.wrap .i64 (List.getD (rowD x.1.2 (List.getD x.1.1 (Int.toNat
  x_2.2.1) (0:Nat))) (Int.toNat (IntKind.wrap .i64 ((↑(List.length (rowD x.1.2 (List.getD x.1.1 (0:Nat) (0:Nat)))):Int) - (1:Int)))) (0:Int)*List.getD
  (rowD x.1.2 (List.getD x.1.1 (Int.toNat x_2.1) (0:Nat))) (Int.toNat x_1.1) (0:Int))<IntKind.wrap .i64 (List.getD (rowD x.1.2 (List.getD x.1.1 (Int.toNat
  x_2.1) (0:Nat))) (Int.toNat (IntKind.wrap .i64 ((↑(List.length (rowD x.1.2 (List.getD x.1.1 (0:Nat) (0:Nat)))):Int) - (1:Int)))) (0:Int)*List.getD (rowD
  x.1.2 (List.getD x.1.1 (Int.toNat x_2.2.1) (0:Nat))) (Int.toNat x_1.1) (0:Int)))&&decide (IntKind.wrap .i64 (List.getD (rowD x.1.2 (List.getD x.1.1
  (Int.toNat x_2.2.1) (0:Nat))) (Int.toNat (IntKind.wrap .i64 ((↑(List.length (rowD x.1.2 (List.getD x.1.1 (0:Nat) (0:Nat)))):Int) - (1:Int)))) (0:Int) *
  List.getD (rowD x.1.2 (List.getD x.1.1 (Int.toNat x_2.1) (0:Nat))) (Int.toNat x_1.1) (0:Int))=IntKind.wrap .i64 (List.getD (rowD x.1.2 (List.getD x.1.1
  (Int.toNat x_2.1) (0:Nat))) (Int.toNat (IntKind.wrap .i64 ((↑(List.length (rowD x.1.2 (List.getD x.1.1 (0:Nat) (0:Nat)))):Int) - (1:Int)))) (0:Int) *
  List.getD (rowD x.1.2 (List.getD x.1.1 (Int.toNat x_2.2.1) (0:Nat))) (Int.toNat x_1.1) (0:Int))))||inB x_2.2.1 (List.length x.2.1))) then bif (!(!decide
  (IntKind.wrap .i64 (List.getD (rowD x.1.2 (List.getD x.1.1 (Int.toNat x_2.2.1) (0:Nat))) (Int.toNat (IntKind.wrap .i64 ((↑(List.length (rowD x.1.2
  (List.getD x.1.1 (0:Nat) (0:Nat)))):Int) - (1:Int)))) (0:Int)*List.getD (rowD x.1.2 (List.getD x.1.1 (Int.toNat x_2.1) (0:Nat))) (Int.toNat x_1.1) (0 :
  Int))<IntKind.wrap .i64 (List.getD (rowD x.1.2 (List.getD x.1.1 (Int.toNat x_2.1) (0:Nat))) (Int.toNat (IntKind.wrap .i64 ((↑(List.length (rowD x.1.2
  (List.getD x.1.1 (0:Nat) (0:Nat)))):Int) - (1:Int)))) (0:Int)*List.getD (rowD x.1.2 (List.getD x.1.1 (Int.toNat x_2.2.1) (0:Nat))) (Int.toNat x_1.1) (0 :
  Int)))&&decide (IntKind.wrap .i64 (List.getD (rowD x.1.2 (List.getD x.1.1 (Int.toNat x_2.2.1) (0:Nat))) (Int.toNat (IntKind.wrap .i64 ((↑(List.length (rowD
  x.1.2 (List.getD x.1.1 (0:Nat) (0:Nat)))):Int) - (1:Int)))) (0:Int)*List.getD (rowD x.1.2 (List.getD x.1.1 (Int.toNat x_2.1) (0:Nat))) (Int.toNat
  x_1.1) (0:Int))=IntKind.wrap .i64 (List.getD (rowD x.1.2 (List.getD x.1.1 (Int.toNat x_2.1) (0:Nat))) (Int.toNat (IntKind.wrap .i64 ((↑(List.length (rowD
  x.1.2 (List.getD x.1.1 (0:Nat) (0:Nat)))):Int) - (1:Int)))) (0:Int)*List.getD (rowD x.1.2 (List.getD x.1.1 (Int.toNat x_2.2.1) (0:Nat))) (Int.toNat
  x_1.1) (0:Int))))||!decide (IntKind.wrap .i64 (List.getD (rowD x.1.2 (List.getD x.1.1 (Int.toNat x_2.2.1) (0:Nat))) (Int.toNat (IntKind.wrap .i64
  ((↑(List.length (rowD x.1.2 (List.getD x.1.1 (0:Nat) (0:Nat)))):Int) - (1:Int)))) (0:Int)*List.getD (rowD x.1.2 (List.getD x.1.1 (Int.toNat x_2.1) (0 :
  Nat))) (Int.toNat x_1.1) (0:Int))<IntKind.wrap .i64 (List.getD (rowD x.1.2 (List.getD x.1.1 (Int.toNat x_2.1) (0:Nat))) (Int.toNat (IntKind.wrap .i64
  ((↑(List.length (rowD x.1.2 (List.getD x.1.1 (0:Nat) (0:Nat)))):Int) - (1:Int)))) (0:Int)*List.getD (rowD x.1.2 (List.getD x.1.1 (Int.toNat x_2.2.1) (0 :
  Nat))) (Int.toNat x_1.1) (0:Int)))&&decide (IntKind.wrap .i64 (List.getD (rowD x.1.2 (List.getD x.1.1 (Int.toNat x_2.2.1) (0:Nat))) (Int.toNat (IntKind.wrap
  IntKind.i64 ((↑(List.length (rowD x.1.2 (List.getD x.1.1 (0:Nat) (0:Nat)))):Int) - (1:Int)))) (0:Int)*List.getD (rowD x.1.2 (List.getD x.1.1 (Int.toNat
  x_2.1) (0:Nat))) (Int.toNat x_1.1) (0:Int))=IntKind.wrap .i64 (List.getD (rowD x.1.2 (List.getD x.1.1 (Int.toNat x_2.1) (0:Nat))) (Int.toNat (IntKind.wrap
  IntKind.i64 ((↑(List.length (rowD x.1.2 (List.getD x.1.1 (0:Nat) (0:Nat)))):Int) - (1:Int)))) (0:Int)*List.getD (rowD x.1.2 (List.getD x.1.1 (Int.toNat
  x_2.2.1) (0:Nat))) (Int.toNat x_1.1) (0:Int))))&&(!(!decide (IntKind.wrap .i64 (List.getD (rowD x.1.2 (List.getD x.1.1 (Int.toNat x_2.2.1) (0:Nat)))
  (Int.toNat (IntKind.wrap .i64 ((↑(List.length (rowD x.1.2 (List.getD x.1.1 (0:Nat) (0:Nat)))):Int) - (1:Int)))) (0:Int)*List.getD (rowD x.1.2 (List.getD
  x.1.1 (Int.toNat x_2.1) (0:Nat))) (Int.toNat x_1.1) (0:Int))<IntKind.wrap .i64 (List.getD (rowD x.1.2 (List.getD x.1.1 (Int.toNat x_2.1) (0:Nat)))
  (Int.toNat (IntKind.wrap .i64 ((↑(List.length (rowD x.1.2 (List.getD x.1.1 (0:Nat) (0:Nat)))):Int) - (1:Int)))) (0:Int)*List.getD (rowD x.1.2 (List.getD
  x.1.1 (Int.toNat x_2.2.1) (0:Nat))) (Int.toNat x_1.1) (0:Int)))&&decide (IntKind.wrap .i64 (List.getD (rowD x.1.2 (List.getD x.1.1 (Int.toNat x_2.2.1)
  (0:Nat))) (Int.toNat (IntKind.wrap .i64 ((↑(List.length (rowD x.1.2 (List.getD x.1.1 (0:Nat) (0:Nat)))):Int) - (1:Int)))) (0:Int)*List.getD (rowD x.1.2
  (List.getD x.1.1 (Int.toNat x_2.1) (0:Nat))) (Int.toNat x_1.1) (0:Int))=IntKind.wrap .i64 (List.getD (rowD x.1.2 (List.getD x.1.1 (Int.toNat x_2.1) (0 :
  Nat))) (Int.toNat (IntKind.wrap .i64 ((↑(List.length (rowD x.1.2 (List.getD x.1.1 (0:Nat) (0:Nat)))):Int) - (1:Int)))) (0:Int)*List.getD (rowD x.1.2
  (List.getD x.1.1 (Int.toNat x_2.2.1) (0:Nat))) (Int.toNat x_1.1) (0:Int))))||Nat.ble (Nat.succ (Int.toNat x_2.2.1)) (List.length x.2.1)) then bif !(!decide
  (IntKind.wrap .i64 (List.getD (rowD x.1.2 (List.getD x.1.1 (Int.toNat x_2.2.1) (0:Nat))) (Int.toNat (IntKind.wrap .i64 ((↑(List.length (rowD x.1.2
  (List.getD x.1.1 (0:Nat) (0:Nat)))):Int) - (1:Int)))) (0:Int)*List.getD (rowD x.1.2 (List.getD x.1.1 (Int.toNat x_2.1) (0:Nat))) (Int.toNat x_1.1) (0 :
  Int))<IntKind.wrap .i64 (List.getD (rowD x.1.2 (List.getD x.1.1 (Int.toNat x_2.1) (0:Nat))) (Int.toNat (IntKind.wrap .i64 ((↑(List.length (rowD x.1.2
  (List.getD x.1.1 (0:Nat) (0:Nat)))):Int) - (1:Int)))) (0:Int)*List.getD (rowD x.1.2 (List.getD x.1.1 (Int.toNat x_2.2.1) (0:Nat))) (Int.toNat x_1.1) (0 :
  Int)))&&decide (IntKind.wrap .i64 (List.getD (rowD x.1.2 (List.getD x.1.1 (Int.toNat x_2.2.1) (0:Nat))) (Int.toNat (IntKind.wrap .i64 ((↑(List.length (rowD
  x.1.2 (List.getD x.1.1 (0:Nat) (0:Nat)))):Int) - (1:Int)))) (0:Int)*List.getD (rowD x.1.2 (List.getD x.1.1 (Int.toNat x_2.1) (0:Nat))) (Int.toNat
  x_1.1) (0:Int))=IntKind.wrap .i64 (List.getD (rowD x.1.2 (List.getD x.1.1 (Int.toNat x_2.1) (0:Nat))) (Int.toNat (IntKind.wrap .i64 ((↑(List.length (rowD
  x.1.2 (List.getD x.1.1 (0:Nat) (0:Nat)))):Int) - (1:Int)))) (0:Int)*List.getD (rowD x.1.2 (List.getD x.1.1 (Int.toNat x_2.2.1) (0:Nat))) (Int.toNat
  x_1.1) (0:Int))))||!decide (IntKind.wrap .i64 (List.getD (rowD x.1.2 (List.getD x.1.1 (Int.toNat x_2.2.1) (0:Nat))) (Int.toNat (IntKind.wrap .i64
  ((↑(List.length (rowD x.1.2 (List.getD x.1.1 (0:Nat) (0:Nat)))):Int) - (1:Int)))) (0:Int)*List.getD (rowD x.1.2 (List.getD x.1.1 (Int.toNat x_2.1) (0 :
  Nat))) (Int.toNat x_1.1) (0:Int))<IntKind.wrap .i64 (List.getD (rowD x.1.2 (List.getD x.1.1 (Int.toNat x_2.1) (0:Nat))) (Int.toNat (IntKind.wrap .i64
  ((↑(List.length (rowD x.1.2 (List.getD x.1.1 (0:Nat) (0:Nat)))):Int) - (1:Int)))) (0:Int)*List.getD (rowD x.1.2 (List.getD x.1.1 (Int.toNat x_2.2.1) (0 :
  Nat))) (Int.toNat x_1.1) (0:Int)))&&decide (IntKind.wrap .i64 (List.getD (rowD x.1.2 (List.getD x.1.1 (Int.toNat x_2.2.1) (0:Nat))) (Int.toNat (IntKind.wrap
  IntKind.i64 ((↑(List.length (rowD x.1.2 (List.getD x.1.1 (0:Nat) (0:Nat)))):Int) - (1:Int)))) (0:Int)*List.getD (rowD x.1.2 (List.getD x.1.1 (Int.toNat
  x_2.1) (0:Nat))) (Int.toNat x_1.1) (0:Int))=IntKind.wrap .i64 (List.getD (rowD x.1.2 (List.getD x.1.1 (Int.toNat x_2.1) (0:Nat))) (Int.toNat (IntKind.wrap
  IntKind.i64 ((↑(List.length (rowD x.1.2 (List.getD x.1.1 (0:Nat) (0:Nat)))):Int) - (1:Int)))) (0:Int)*List.getD (rowD x.1.2 (List.getD x.1.1 (Int.toNat
  x_2.2.1) (0:Nat))) (Int.toNat x_1.1) (0:Int))) then bif (!(!decide (IntKind.wrap .i64 (List.getD (rowD x.1.2 (List.getD x.1.1 (Int.toNat x_2.2.1) (0 :
  Nat))) (Int.toNat (IntKind.wrap .i64 ((↑(List.length (rowD x.1.2 (List.getD x.1.1 (0:Nat) (0:Nat)))):Int) - (1:Int)))) (0:Int)*List.getD (rowD x.1.2
  (List.getD x.1.1 (Int.toNat x_2.1) (0:Nat))) (Int.toNat x_1.1) (0:Int))<IntKind.wrap .i64 (List.getD (rowD x.1.2 (List.getD x.1.1 (Int.toNat x_2.1) (0 :
  Nat))) (Int.toNat (IntKind.wrap .i64 ((↑(List.length (rowD x.1.2 (List.getD x.1.1 (0:Nat) (0:Nat)))):Int) - (1:Int)))) (0:Int)*List.getD (rowD x.1.2
  (List.getD x.1.1 (Int.toNat x_2.2.1) (0:Nat))) (Int.toNat x_1.1) (0:Int)))&&decide (IntKind.wrap .i64 (List.getD (rowD x.1.2 (List.getD x.1.1 (Int.toNat
  x_2.2.1) (0:Nat))) (Int.toNat (IntKind.wrap .i64 ((↑(List.length (rowD x.1.2 (List.getD x.1.1 (0:Nat) (0:Nat)))):Int) - (1:Int)))) (0:Int)*List.getD
  (rowD x.1.2 (List.getD x.1.1 (Int.toNat x_2.1) (0:Nat))) (Int.toNat x_1.1) (0:Int))=IntKind.wrap .i64 (List.getD (rowD x.1.2 (List.getD x.1.1 (Int.toNat
  x_2.1) (0:Nat))) (Int.toNat (IntKind.wrap .i64 ((↑(List.length (rowD x.1.2 (List.getD x.1.1 (0:Nat) (0:Nat)))):Int) - (1:Int)))) (0:Int)*List.getD (rowD
  x.1.2 (List.getD x.1.1 (Int.toNat x_2.2.1) (0:Nat))) (Int.toNat x_1.1) (0:Int))))||!decide (IntKind.wrap .i64 (List.getD (rowD x.1.2 (List.getD x.1.1
  (Int.toNat x_2.2.1) (0:Nat))) (Int.toNat (IntKind.wrap .i64 ((↑(List.length (rowD x.1.2 (List.getD x.1.1 (0:Nat) (0:Nat)))):Int) - (1:Int)))) (0:Int) *
  List.getD (rowD x.1.2 (List.getD x.1.1 (Int.toNat x_2.1) (0:Nat))) (Int.toNat x_1.1) (0:Int))<IntKind.wrap .i64 (List.getD (rowD x.1.2 (List.getD x.1.1
  (Int.toNat x_2.1) (0:Nat))) (Int.toNat (IntKind.wrap .i64 ((↑(List.length (rowD x.1.2 (List.getD x.1.1 (0:Nat) (0:Nat)))):Int) - (1:Int)))) (0:Int) *
  List.getD (rowD x.1.2 (List.getD x.1.1 (Int.toNat x_2.2.1) (0:Nat))) (Int.toNat x_1.1) (0:Int)))&&decide (IntKind.wrap .i64 (List.getD (rowD x.1.2
  (List.getD x.1.1 (Int.toNat x_2.2.1) (0:Nat))) (Int.toNat (IntKind.wrap .i64 ((↑(List.length (rowD x.1.2 (List.getD x.1.1 (0:Nat) (0:Nat)))):Int) - (1 :
  Int)))) (0:Int)*List.getD (rowD x.1.2 (List.getD x.1.1 (Int.toNat x_2.1) (0:Nat))) (Int.toNat x_1.1) (0:Int))=IntKind.wrap .i64 (List.getD (rowD x.1.2
  (List.getD x.1.1 (Int.toNat x_2.1) (0:Nat))) (Int.toNat (IntKind.wrap .i64 ((↑(List.length (rowD x.1.2 (List.getD x.1.1 (0:Nat) (0:Nat)))):Int) - (1 :
  Int)))) (0:Int)*List.getD (rowD x.1.2 (List.getD x.1.1 (Int.toNat x_2.2.1) (0:Nat))) (Int.toNat x_1.1) (0:Int))))&&((!(!decide (IntKind.wrap .i64
  (List.getD (rowD x.1.2 (List.getD x.1.1 (Int.toNat x_2.2.1) (0:Nat))) (Int.toNat (IntKind.wrap .i64 ((↑(List.length (rowD x.1.2 (List.getD x.1.1 (0:Nat)
  (0:Nat)))):Int) - (1:Int)))) (0:Int)*List.getD (rowD x.1.2 (List.getD x.1.1 (Int.toNat x_2.1) (0:Nat))) (Int.toNat x_1.1) (0:Int))<IntKind.wrap .i64
  (List.getD (rowD x.1.2 (List.getD x.1.1 (Int.toNat x_2.1) (0:Nat))) (Int.toNat (IntKind.wrap .i64 ((↑(List.length (rowD x.1.2 (List.getD x.1.1 (0:Nat) (0 :
  Nat)))):Int) - (1:Int)))) (0:Int)*List.getD (rowD x.1.2 (List.getD x.1.1 (Int.toNat x_2.2.1) (0:Nat))) (Int.toNat x_1.1) (0:Int)))&&decide (IntKind.wrap
  IntKind.i64 (List.getD (rowD x.1.2 (List.getD x.1.1 (Int.toNat x_2.2.1) (0:Nat))) (Int.toNat (IntKind.wrap .i64 ((↑(List.length (rowD x.1.2 (List.getD x.1.1
  (0:Nat) (0:Nat)))):Int) - (1:Int)))) (0:Int)*List.getD (rowD x.1.2 (List.getD x.1.1 (Int.toNat x_2.1) (0:Nat))) (Int.toNat x_1.1) (0:Int))=IntKind.wrap
  IntKind.i64 (List.getD (rowD x.1.2 (List.getD x.1.1 (Int.toNat x_2.1) (0:Nat))) (Int.toNat (IntKind.wrap .i64 ((↑(List.length (rowD x.1.2 (List.getD x.1.1 (0
  : Nat) (0:Nat)))):Int) - (1:Int)))) (0:Int)*List.getD (rowD x.1.2 (List.getD x.1.1 (Int.toNat x_2.2.1) (0:Nat))) (Int.toNat x_1.1) (0:Int))))||!decide
  (IntKind.wrap .i64 (List.getD (rowD x.1.2 (List.getD x.1.1 (Int.toNat x_2.2.1) (0:Nat))) (Int.toNat (IntKind.wrap .i64 ((↑(List.length (rowD x.1.2
  (List.getD x.1.1 (0:Nat) (0:Nat)))):Int) - (1:Int)))) (0:Int)*List.getD (rowD x.1.2 (List.getD x.1.1 (Int.toNat x_2.1) (0:Nat))) (Int.toNat x_1.1) (0 :
  Int))<IntKind.wrap .i64 (List.getD (rowD x.1.2 (List.getD x.1.1 (Int.toNat x_2.1) (0:Nat))) (Int.toNat (IntKind.wrap .i64 ((↑(List.length (rowD x.1.2
  (List.getD x.1.1 (0:Nat) (0:Nat)))):Int) - (1:Int)))) (0:Int)*List.getD (rowD x.1.2 (List.getD x.1.1 (Int.toNat x_2.2.1) (0:Nat))) (Int.toNat x_1.1) (0 :
  Int)))&&decide (IntKind.wrap .i64 (List.getD (rowD x.1.2 (List.getD x.1.1 (Int.toNat x_2.2.1) (0:Nat))) (Int.toNat (IntKind.wrap .i64 ((↑(List.length (rowD
  x.1.2 (List.getD x.1.1 (0:Nat) (0:Nat)))):Int) - (1:Int)))) (0:Int)*List.getD (rowD x.1.2 (List.getD x.1.1 (Int.toNat x_2.1) (0:Nat))) (Int.toNat
  x_1.1) (0:Int))=IntKind.wrap .i64 (List.getD (rowD x.1.2 (List.getD x.1.1 (Int.toNat x_2.1) (0:Nat))) (Int.toNat (IntKind.wrap .i64 ((↑(List.length (rowD
  x.1.2 (List.getD x.1.1 (0:Nat) (0:Nat)))):Int) - (1:Int)))) (0:Int)*List.getD (rowD x.1.2 (List.getD x.1.1 (Int.toNat x_2.2.1) (0:Nat))) (Int.toNat
  x_1.1) (0:Int))))&&(!(!decide (IntKind.wrap .i64 (List.getD (rowD x.1.2 (List.getD x.1.1 (Int.toNat x_2.2.1) (0:Nat))) (Int.toNat (IntKind.wrap .i64
  ((↑(List.length (rowD x.1.2 (List.getD x.1.1 (0:Nat) (0:Nat)))):Int) - (1:Int)))) (0:Int)*List.getD (rowD x.1.2 (List.getD x.1.1 (Int.toNat x_2.1) (0 :
  Nat))) (Int.toNat x_1.1) (0:Int))<IntKind.wrap .i64 (List.getD (rowD x.1.2 (List.getD x.1.1 (Int.toNat x_2.1) (0:Nat))) (Int.toNat (IntKind.wrap .i64
  ((↑(List.length (rowD x.1.2 (List.getD x.1.1 (0:Nat) (0:Nat)))):Int) - (1:Int)))) (0:Int)*List.getD (rowD x.1.2 (List.getD x.1.1 (Int.toNat x_2.2.1) (0 :
  Nat))) (Int.toNat x_1.1) (0:Int)))&&decide (IntKind.wrap .i64 (List.getD (rowD x.1.2 (List.getD x.1.1 (Int.toNat x_2.2.1) (0:Nat))) (Int.toNat (IntKind.wrap
  IntKind.i64 ((↑(List.length (rowD x.1.2 (List.getD x.1.1 (0:Nat) (0:Nat)))):Int) - (1:Int)))) (0:Int)*List.getD (rowD x.1.2 (List.getD x.1.1 (Int.toNat
  x_2.1) (0:Nat))) (Int.toNat x_1.1) (0:Int))=IntKind.wrap .i64 (List.getD (rowD x.1.2 (List.getD x.1.1 (Int.toNat x_2.1) (0:Nat))) (Int.toNat (IntKind.wrap
  IntKind.i64 ((↑(List.length (rowD x.1.2 (List.getD x.1.1 (0:Nat) (0:Nat)))):Int) - (1:Int)))) (0:Int)*List.getD (rowD x.1.2 (List.getD x.1.1 (Int.toNat
  x_2.2.1) (0:Nat))) (Int.toNat x_1.1) (0:Int))))||inB x_2.1 (List.length x.2.1))) then bif (!(!decide (IntKind.wrap .i64 (List.getD (rowD x.1.2 (List.getD
  x.1.1 (Int.toNat x_2.2.1) (0:Nat))) (Int.toNat (IntKind.wrap .i64 ((↑(List.length (rowD x.1.2 (List.getD x.1.1 (0:Nat) (0:Nat)))):Int) - (1:Int)))) (0 :
  Int)*List.getD (rowD x.1.2 (List.getD x.1.1 (Int.toNat x_2.1) (0:Nat))) (Int.toNat x_1.1) (0:Int))<IntKind.wrap .i64 (List.getD (rowD x.1.2 (List.getD
  x.1.1 (Int.toNat x_2.1) (0:Nat))) (Int.toNat (IntKind.wrap .i64 ((↑(List.length (rowD x.1.2 (List.getD x.1.1 (0:Nat) (0:Nat)))):Int) - (1:Int)))) (0 :
  Int)*List.getD (rowD x.1.2 (List.getD x.1.1 (Int.toNat x_2.2.1) (0:Nat))) (Int.toNat x_1.1) (0:Int)))&&decide (IntKind.wrap .i64 (List.getD (rowD x.1.2
  (List.getD x.1.1 (Int.toNat x_2.2.1) (0:Nat))) (Int.toNat (IntKind.wrap .i64 ((↑(List.length (rowD x.1.2 (List.getD x.1.1 (0:Nat) (0:Nat)))):Int) - (1 :
  Int)))) (0:Int)*List.getD (rowD x.1.2 (List.getD x.1.1 (Int.toNat x_2.1) (0:Nat))) (Int.toNat x_1.1) (0:Int))=IntKind.wrap .i64 (List.getD (rowD x.1.2
  (List.getD x.1.1 (Int.toNat x_2.1) (0:Nat))) (Int.toNat (IntKind.wrap .i64 ((↑(List.length (rowD x.1.2 (List.getD x.1.1 (0:Nat) (0:Nat)))):Int) - (1 :
  Int)))) (0:Int)*List.getD (rowD x.1.2 (List.getD x.1.1 (Int.toNat x_2.2.1) (0:Nat))) (Int.toNat x_1.1) (0:Int))))||!decide (IntKind.wrap .i64 (List.getD
  (rowD x.1.2 (List.getD x.1.1 (Int.toNat x_2.2.1) (0:Nat))) (Int.toNat (IntKind.wrap .i64 ((↑(List.length (rowD x.1.2 (List.getD x.1.1 (0:Nat) (0:Nat))))
  : Int) - (1:Int)))) (0:Int)*List.getD (rowD x.1.2 (List.getD x.1.1 (Int.toNat x_2.1) (0:Nat))) (Int.toNat x_1.1) (0:Int))<IntKind.wrap .i64 (List.getD
  (rowD x.1.2 (List.getD x.1.1 (Int.toNat x_2.1) (0:Nat))) (Int.toNat (IntKind.wrap .i64 ((↑(List.length (rowD x.1.2 (List.getD x.1.1 (0:Nat) (0:Nat)))) :
  Int) - (1:Int)))) (0:Int)*List.getD (rowD x.1.2 (List.getD x.1.1 (Int.toNat x_2.2.1) (0:Nat))) (Int.toNat x_1.1) (0:Int)))&&decide (IntKind.wrap .i64
  (List.getD (rowD x.1.2 (List.getD x.1.1 (Int.toNat x_2.2.1) (0:Nat))) (Int.toNat (IntKind.wrap .i64 ((↑(List.length (rowD x.1.2 (List.getD x.1.1 (0:Nat)
  (0:Nat)))):Int) - (1:Int)))) (0:Int)*List.getD (rowD x.1.2 (List.getD x.1.1 (Int.toNat x_2.1) (0:Nat))) (Int.toNat x_1.1) (0:Int))=IntKind.wrap .i64
  (List.getD (rowD x.1.2 (List.getD x.1.1 (Int.toNat x_2.1) (0:Nat))) (Int.toNat (IntKind.wrap .i64 ((↑(List.length (rowD x.1.2 (List.getD x.1.1 (0:Nat) (0 :
  Nat)))):Int) - (1:Int)))) (0:Int)*List.getD (rowD x.1.2 (List.getD x.1.1 (Int.toNat x_2.2.1) (0:Nat))) (Int.toNat x_1.1) (0:Int))))&&(!(!decide (IntKind.wrap
  IntKind.i64 (List.getD (rowD x.1.2 (List.getD x.1.1 (Int.toNat x_2.2.1) (0:Nat))) (Int.toNat (IntKind.wrap .i64 ((↑(List.length (rowD x.1.2 (List.getD x.1.1
  (0:Nat) (0:Nat)))):Int) - (1:Int)))) (0:Int)*List.getD (rowD x.1.2 (List.getD x.1.1 (Int.toNat x_2.1) (0:Nat))) (Int.toNat x_1.1) (0:Int))<IntKind.wrap
  IntKind.i64 (List.getD (rowD x.1.2 (List.getD x.1.1 (Int.toNat x_2.1) (0:Nat))) (Int.toNat (IntKind.wrap .i64 ((↑(List.length (rowD x.1.2 (List.getD x.1.1 (0
  : Nat) (0:Nat)))):Int) - (1:Int)))) (0:Int)*List.getD (rowD x.1.2 (List.getD x.1.1 (Int.toNat x_2.2.1) (0:Nat))) (Int.toNat x_1.1) (0:Int)))&&decide
  (IntKind.wrap .i64 (List.getD (rowD x.1.2 (List.getD x.1.1 (Int.toNat x_2.2.1) (0:Nat))) (Int.toNat (IntKind.wrap .i64 ((↑(List.length (rowD x.1.2
  (List.getD x.1.1 (0:Nat) (0:Nat)))):Int) - (1:Int)))) (0:Int)*List.getD (rowD x.1.2 (List.getD x.1.1 (Int.toNat x_2.1) (0:Nat))) (Int.toNat x_1.1) (0 :
  Int))=IntKind.wrap .i64 (List.getD (rowD x.1.2 (List.getD x.1.1 (Int.toNat x_2.1) (0:Nat))) (Int.toNat (IntKind.wrap .i64 ((↑(List.length (rowD x.1.2
  (List.getD x.1.1 (0:Nat) (0:Nat)))):Int) - (1:Int)))) (0:Int)*List.getD (rowD x.1.2 (List.getD x.1.1 (Int.toNat x_2.2.1) (0:Nat))) (Int.toNat x_1.1) (0 :
  Int))))||Nat.ble (Nat.succ (Int.toNat x_2.1)) (List.length x.2.1)) then bif (!(!decide (IntKind.wrap .i64 (List.getD (rowD x.1.2 (List.getD x.1.1 (Int.toNat
  x_2.2.1) (0:Nat))) (Int.toNat (IntKind.wrap .i64 ((↑(List.length (rowD x.1.2 (List.getD x.1.1 (0:Nat) (0:Nat)))):Int) - (1:Int)))) (0:Int)*List.getD
  (rowD x.1.2 (List.getD x.1.1 (Int.toNat x_2.1) (0:Nat))) (Int.toNat x_1.1) (0:Int))<IntKind.wrap .i64 (List.getD (rowD x.1.2 (List.getD x.1.1 (Int.toNat
  x_2.1) (0:Nat))) (Int.toNat (IntKind.wrap .i64 ((↑(List.length (rowD x.1.2 (List.getD x.1.1 (0:Nat) (0:Nat)))):Int) - (1:Int)))) (0:Int)*List.getD (rowD
  x.1.2 (List.getD x.1.1 (Int.toNat x_2.2.1) (0:Nat))) (Int.toNat x_1.1) (0:Int)))&&decide (IntKind.wrap .i64 (List.getD (rowD x.1.2 (List.getD x.1.1
  (Int.toNat x_2.2.1) (0:Nat))) (Int.toNat (IntKind.wrap .i64 ((↑(List.length (rowD x.1.2 (List.getD x.1.1 (0:Nat) (0:Nat)))):Int) - (1:Int)))) (0:Int) *
  List.getD (rowD x.1.2 (List.getD x.1.1 (Int.toNat x_2.1) (0:Nat))) (Int.toNat x_1.1) (0:Int))=IntKind.wrap .i64 (List.getD (rowD x.1.2 (List.getD x.1.1
  (Int.toNat x_2.1) (0:Nat))) (Int.toNat (IntKind.wrap .i64 ((↑(List.length (rowD x.1.2 (List.getD x.1.1 (0:Nat) (0:Nat)))):Int) - (1:Int)))) (0:Int) *
  List.getD (rowD x.1.2 (List.getD x.1.1 (Int.toNat x_2.2.1) (0:Nat))) (Int.toNat x_1.1) (0:Int))))||!decide (IntKind.wrap .i64 (List.getD (rowD x.1.2
  (List.getD x.1.1 (Int.toNat x_2.2.1) (0:Nat))) (Int.toNat (IntKind.wrap .i64 ((↑(List.length (rowD x.1.2 (List.getD x.1.1 (0:Nat) (0:Nat)))):Int) - (1 :
  Int)))) (0:Int)*List.getD (rowD x.1.2 (List.getD x.1.1 (Int.toNat x_2.1) (0:Nat))) (Int.toNat x_1.1) (0:Int))<IntKind.wrap .i64 (List.getD (rowD x.1.2
  (List.getD x.1.1 (Int.toNat x_2.1) (0:Nat))) (Int.toNat (IntKind.wrap .i64 ((↑(List.length (rowD x.1.2 (List.getD x.1.1 (0:Nat) (0:Nat)))):Int) - (1 :
  Int)))) (0:Int)*List.getD (rowD x.1.2 (List.getD x.1.1 (Int.toNat x_2.2.1) (0:Nat))) (Int.toNat x_1.1) (0:Int)))&&decide (IntKind.wrap .i64 (List.getD
  (rowD x.1.2 (List.getD x.1.1 (Int.toNat x_2.2.1) (0:Nat))) (Int.toNat (IntKind.wrap .i64 ((↑(List.length (rowD x.1.2 (List.getD x.1.1 (0:Nat) (0:Nat))))
  : Int) - (1:Int)))) (0:Int)*List.getD (rowD x.1.2 (List.getD x.1.1 (Int.toNat x_2.1) (0:Nat))) (Int.toNat x_1.1) (0:Int))=IntKind.wrap .i64 (List.getD
  (rowD x.1.2 (List.getD x.1.1 (Int.toNat x_2.1) (0:Nat))) (Int.toNat (IntKind.wrap .i64 ((↑(List.length (rowD x.1.2 (List.getD x.1.1 (0:Nat) (0:Nat)))) :
  Int) - (1:Int)))) (0:Int)*List.getD (rowD x.1.2 (List.getD x.1.1 (Int.toNat x_2.2.1) (0:Nat))) (Int.toNat x_1.1) (0:Int))))&&(!(!decide (IntKind.wrap
  IntKind.i64 (List.getD (rowD x.1.2 (List.getD x.1.1 (Int.toNat x_2.2.1) (0:Nat))) (Int.toNat (IntKind.wrap .i64 ((↑(List.length (rowD x.1.2 (List.getD x.1.1
  (0:Nat) (0:Nat)))):Int) - (1:Int)))) (0:Int)*List.getD (rowD x.1.2 (List.getD x.1.1 (Int.toNat x_2.1) (0:Nat))) (Int.toNat x_1.1) (0:Int))<IntKind.wrap
  IntKind.i64 (List.getD (rowD x.1.2 (List.getD x.1.1 (Int.toNat x_2.1) (0:Nat))) (Int.toNat (IntKind.wrap .i64 ((↑(List.length (rowD x.1.2 (List.getD x.1.1 (0
  : Nat) (0:Nat)))):Int) - (1:Int)))) (0:Int)*List.getD (rowD x.1.2 (List.getD x.1.1 (Int.toNat x_2.2.1) (0:Nat))) (Int.toNat x_1.1) (0:Int)))&&decide
  (IntKind.wrap .i64 (List.getD (rowD x.1.2 (List.getD x.1.1 (Int.toNat x_2.2.1) (0:Nat))) (Int.toNat (IntKind.wrap .i64 ((↑(List.length (rowD x.1.2
  (List.getD x.1.1 (0:Nat) (0:Nat)))):Int) - (1:Int)))) (0:Int)*List.getD (rowD x.1.2 (List.getD x.1.1 (Int.toNat x_2.1) (0:Nat))) (Int.toNat x_1.1) (0 :
  Int))=IntKind.wrap .i64 (List.getD (rowD x.1.2 (List.getD x.1.1 (Int.toNat x_2.1) (0:Nat))) (Int.toNat (IntKind.wrap .i64 ((↑(List.length (rowD x.1.2
  (List.getD x.1.1 (0:Nat) (0:Nat)))):Int) - (1:Int)))) (0:Int)*List.getD (rowD x.1.2 (List.getD x.1.1 (Int.toNat x_2.2.1) (0:Nat))) (Int.toNat x_1.1) (0 :
  Int))))||!decide (IntKind.wrap .i64 (List.getD (rowD x.1.2 (List.getD x.1.1 (Int.toNat x_2.2.1) (0:Nat))) (Int.toNat (IntKind.wrap .i64 ((↑(List.length
  (rowD x.1.2 (List.getD x.1.1 (0:Nat) (0:Nat)))):Int) - (1:Int)))) (0:Int)*List.getD (rowD x.1.2 (List.getD x.1.1 (Int.toNat x_2.1) (0:Nat))) (Int.toNat
  x_1.1) (0:Int))<IntKind.wrap .i64 (List.getD (rowD x.1.2 (List.getD x.1.1 (Int.toNat x_2.1) (0:Nat))) (Int.toNat (IntKind.wrap .i64 ((↑(List.length (rowD
  x.1.2 (List.getD x.1.1 (0:Nat) (0:Nat)))):Int) - (1:Int)))) (0:Int)*List.getD (rowD x.1.2 (List.getD x.1.1 (Int.toNat x_2.2.1) (0:Nat))) (Int.toNat
  x_1.1) (0:Int)))&&decide (IntKind.wrap .i64 (List.getD (rowD x.1.2 (List.getD x.1.1 (Int.toNat x_2.2.1) (0:Nat))) (Int.toNat (IntKind.wrap .i64
  ((↑(List.length (rowD x.1.2 (List.getD x.1.1 (0:Nat) (0:Nat)))):Int) - (1:Int)))) (0:Int)*List.getD (rowD x.1.2 (List.getD x.1.1 (Int.toNat x_2.1) (0 :
  Nat))) (Int.toNat x_1.1) (0:Int))=IntKind.wrap .i64 (List.getD (rowD x.1.2 (List.getD x.1.1 (Int.toNat x_2.1) (0:Nat))) (Int.toNat (IntKind.wrap .i64
  ((↑(List.length (rowD x.1.2 (List.getD x.1.1 (0:Nat) (0:Nat)))):Int) - (1:Int)))) (0:Int)*List.getD (rowD x.1.2 (List.getD x.1.1 (Int.toNat x_2.2.1) (0 :
  Nat))) (Int.toNat x_1.1) (0:Int)))) then bif (!!decide (IntKind.wrap .i64 (List.getD (rowD x.1.2 (List.getD x.1.1 (Int.toNat x_2.2.1) (0:Nat))) (Int.toNat
  (IntKind.wrap .i64 ((↑(List.length (rowD x.1.2 (List.getD x.1.1 (0:Nat) (0:Nat)))):Int) - (1:Int)))) (0:Int)*List.getD (rowD x.1.2 (List.getD x.1.1
  (Int.toNat x_2.1) (0:Nat))) (Int.toNat x_1.1) (0:Int))<IntKind.wrap .i64 (List.getD (rowD x.1.2 (List.getD x.1.1 (Int.toNat x_2.1) (0:Nat))) (Int.toNat
  (IntKind.wrap .i64 ((↑(List.length (rowD x.1.2 (List.getD x.1.1 (0:Nat) (0:Nat)))):Int) - (1:Int)))) (0:Int)*List.getD (rowD x.1.2 (List.getD x.1.1
  (Int.toNat x_2.2.1) (0:Nat))) (Int.toNat x_1.1) (0:Int)))||(!!decide (IntKind.wrap .i64 (List.getD (rowD x.1.2 (List.getD x.1.1 (Int.toNat x_2.2.1) (0 :
  Nat))) (Int.toNat (IntKind.wrap .i64 ((↑(List.length (rowD x.1.2 (List.getD x.1.1 (0:Nat) (0:Nat)))):Int) - (1:Int)))) (0:Int)*List.getD (rowD x.1.2
  (List.getD x.1.1 (Int.toNat x_2.1) (0:Nat))) (Int.toNat x_1.1) (0:Int))<IntKind.wrap .i64 (List.getD (rowD x.1.2 (List.getD x.1.1 (Int.toNat x_2.1) (0 :
  Nat))) (Int.toNat (IntKind.wrap .i64 ((↑(List.length (rowD x.1.2 (List.getD x.1.1 (0:Nat) (0:Nat)))):Int) - (1:Int)))) (0:Int)*List.getD (rowD x.1.2
  (List.getD x.1.1 (Int.toNat x_2.2.1) (0:Nat))) (Int.toNat x_1.1) (0:Int)))||!decide (IntKind.wrap .i64 (List.getD (rowD x.1.2 (List.getD x.1.1 (Int.toNat
  x_2.2.1) (0:Nat))) (Int.toNat (IntKind.wrap .i64 ((↑(List.length (rowD x.1.2 (List.getD x.1.1 (0:Nat) (0:Nat)))):Int) - (1:Int)))) (0:Int)*List.getD
  (rowD x.1.2 (List.getD x.1.1 (Int.toNat x_2.1) (0:Nat))) (Int.toNat x_1.1) (0:Int))<IntKind.wrap .i64 (List.getD (rowD x.1.2 (List.getD x.1.1 (Int.toNat
  x_2.1) (0:Nat))) (Int.toNat (IntKind.wrap .i64 ((↑(List.length (rowD x.1.2 (List.getD x.1.1 (0:Nat) (0:Nat)))):Int) - (1:Int)))) (0:Int)*List.getD (rowD
  x.1.2 (List.getD x.1.1 (Int.toNat x_2.2.1) (0:Nat))) (Int.toNat x_1.1) (0:Int)))))&&(!!decide (IntKind.wrap .i64 (List.getD (rowD x.1.2 (List.getD
  x.1.1 (Int.toNat x_2.2.1) (0:Nat))) (Int.toNat (IntKind.wrap .i64 ((↑(List.length (rowD x.1.2 (List.getD x.1.1 (0:Nat) (0:Nat)))):Int) - (1:Int)))) (0 :
  Int)*List.getD (rowD x.1.2 (List.getD x.1.1 (Int.toNat x_2.1) (0:Nat))) (Int.toNat x_1.1) (0:Int))<IntKind.wrap .i64 (List.getD (rowD x.1.2 (List.getD
  x.1.1 (Int.toNat x_2.1) (0:Nat))) (Int.toNat (IntKind.wrap .i64 ((↑(List.length (rowD x.1.2 (List.getD x.1.1 (0:Nat) (0:Nat)))):Int) - (1:Int)))) (0 :
  Int)*List.getD (rowD x.1.2 (List.getD x.1.1 (Int.toNat x_2.2.1) (0:Nat))) (Int.toNat x_1.1) (0:Int)))||(!decide (IntKind.wrap .i64 (List.getD (rowD
  x.1.2 (List.getD x.1.1 (Int.toNat x_2.2.1) (0:Nat))) (Int.toNat (IntKind.wrap .i64 ((↑(List.length (rowD x.1.2 (List.getD x.1.1 (0:Nat) (0:Nat)))) :
  Int) - (1:Int)))) (0:Int)*List.getD (rowD x.1.2 (List.getD x.1.1 (Int.toNat x_2.1) (0:Nat))) (Int.toNat x_1.1) (0:Int))=IntKind.wrap .i64 (List.getD (rowD
  x.1.2 (List.getD x.1.1 (Int.toNat x_2.1) (0:Nat))) (Int.toNat (IntKind.wrap .i64 ((↑(List.length (rowD x.1.2 (List.getD x.1.1 (0:Nat) (0:Nat)))):Int) -
  (1:Int)))) (0:Int)*List.getD (rowD x.1.2 (List.getD x.1.1 (Int.toNat x_2.2.1) (0:Nat))) (Int.toNat x_1.1) (0:Int)))||(!!decide (IntKind.wrap .i64
  (List.getD (rowD x.1.2 (List.getD x.1.1 (Int.toNat x_2.2.1) (0:Nat))) (Int.toNat (IntKind.wrap .i64 ((↑(List.length (rowD x.1.2 (List.getD x.1.1 (0:Nat)
  (0:Nat)))):Int) - (1:Int)))) (0:Int)*List.getD (rowD x.1.2 (List.getD x.1.1 (Int.toNat x_2.1) (0:Nat))) (Int.toNat x_1.1) (0:Int))<IntKind.wrap .i64
  (List.getD (rowD x.1.2 (List.getD x.1.1 (Int.toNat x_2.1) (0:Nat))) (Int.toNat (IntKind.wrap .i64 ((↑(List.length (rowD x.1.2 (List.getD x.1.1 (0:Nat) (0 :
  Nat)))):Int) - (1:Int)))) (0:Int)*List.getD (rowD x.1.2 (List.getD x.1.1 (Int.toNat x_2.2.1) (0:Nat))) (Int.toNat x_1.1) (0:Int)))||!decide (IntKind.wrap
  IntKind.i64 (List.getD (rowD x.1.2 (List.getD x.1.1 (Int.toNat x_2.2.1) (0:Nat))) (Int.toNat (IntKind.wrap .i64 ((↑(List.length (rowD x.1.2 (List.getD x.1.1
  (0:Nat) (0:Nat)))):Int) - (1:Int)))) (0:Int)*List.getD (rowD x.1.2 (List.getD x.1.1 (Int.toNat x_2.1) (0:Nat))) (Int.toNat x_1.1) (0:Int))<IntKind.wrap
  IntKind.i64 (List.getD (rowD x.1.2 (List.getD x.1.1 (Int.toNat x_2.1) (0:Nat))) (Int.toNat (IntKind.wrap .i64 ((↑(List.length (rowD x.1.2 (List.getD x.1.1 (0
  : Nat) (0:Nat)))):Int) - (1:Int)))) (0:Int)*List.getD (rowD x.1.2 (List.getD x.1.1 (Int.toNat x_2.2.1) (0:Nat))) (Int.toNat x_1.1) (0:Int)))&&decide
  (IntKind.wrap .i64 (List.getD (rowD x.1.2 (List.getD x.1.1 (Int.toNat x_2.2.1) (0:Nat))) (Int.toNat (IntKind.wrap .i64 ((↑(List.length (rowD x.1.2
  (List.getD x.1.1 (0:Nat) (0:Nat)))):Int) - (1:Int)))) (0:Int)*List.getD (rowD x.1.2 (List.getD x.1.1 (Int.toNat x_2.1) (0:Nat))) (Int.toNat x_1.1) (0 :
  Int))=IntKind.wrap .i64 (List.getD (rowD x.1.2 (List.getD x.1.1 (Int.toNat x_2.1) (0:Nat))) (Int.toNat (IntKind.wrap .i64 ((↑(List.length (rowD x.1.2
  (List.getD x.1.1 (0:Nat) (0:Nat)))):Int) - (1:Int)))) (0:Int)*List.getD (rowD x.1.2 (List.getD x.1.1 (Int.toNat x_2.2.1) (0:Nat))) (Int.toNat x_1.1) (0 :
  Int)))))) then bif decide (IntKind.wrap .i64 (List.getD (rowD x.1.2 (List.getD x.1.1 (Int.toNat x_2.2.1) (0:Nat))) (Int.toNat (IntKind.wrap .i64
  ((↑(List.length (rowD x.1.2 (List.getD x.1.1 (0:Nat) (0:Nat)))):Int) - (1:Int)))) (0:Int)*List.getD (rowD x.1.2 (List.getD x.1.1 (Int.toNat x_2.1) (0 :
  Nat))) (Int.toNat x_1.1) (0:Int))<IntKind.wrap .i64 (List.getD (rowD x.1.2 (List.getD x.1.1 (Int.toNat x_2.1) (0:Nat))) (Int.toNat (IntKind.wrap .i64
  ((↑(List.length (rowD x.1.2 (List.getD x.1.1 (0:Nat) (0:Nat)))):Int) - (1:Int)))) (0:Int)*List.getD (rowD x.1.2 (List.getD x.1.1 (Int.toNat x_2.2.1) (0 :
  Nat))) (Int.toNat x_1.1) (0:Int)))||!decide (IntKind.wrap .i64 (List.getD (rowD x.1.2 (List.getD x.1.1 (Int.toNat x_2.2.1) (0:Nat))) (Int.toNat (IntKind.wrap
  IntKind.i64 ((↑(List.length (rowD x.1.2 (List.getD x.1.1 (0:Nat) (0:Nat)))):Int) - (1:Int)))) (0:Int)*List.getD (rowD x.1.2 (List.getD x.1.1 (Int.toNat
  x_2.1) (0:Nat))) (Int.toNat x_1.1) (0:Int))<IntKind.wrap .i64 (List.getD (rowD x.1.2 (List.getD x.1.1 (Int.toNat x_2.1) (0:Nat))) (Int.toNat (IntKind.wrap
  IntKind.i64 ((↑(List.length (rowD x.1.2 (List.getD x.1.1 (0:Nat) (0:Nat)))):Int) - (1:Int)))) (0:Int)*List.getD (rowD x.1.2 (List.getD x.1.1 (Int.toNat
  x_2.2.1) (0:Nat))) (Int.toNat x_1.1) (0:Int))) then bif bif decide (IntKind.wrap .i64 (List.getD (rowD x.1.2 (List.getD x.1.1 (Int.toNat x_2.2.1) (0 :
  Nat))) (Int.toNat (IntKind.wrap .i64 ((↑(List.length (rowD x.1.2 (List.getD x.1.1 (0:Nat) (0:Nat)))):Int) - (1:Int)))) (0:Int)*List.getD (rowD x.1.2
  (List.getD x.1.1 (Int.toNat x_2.1) (0:Nat))) (Int.toNat x_1.1) (0:Int))<IntKind.wrap .i64 (List.getD (rowD x.1.2 (List.getD x.1.1 (Int.toNat x_2.1) (0 :
  Nat))) (Int.toNat (IntKind.wrap .i64 ((↑(List.length (rowD x.1.2 (List.getD x.1.1 (0:Nat) (0:Nat)))):Int) - (1:Int)))) (0:Int)*List.getD (rowD x.1.2
  (List.getD x.1.1 (Int.toNat x_2.2.1) (0:Nat))) (Int.toNat x_1.1) (0:Int))) then true else bif decide (IntKind.wrap .i64 (List.getD (rowD x.1.2 (List.getD
  x.1.1 (Int.toNat x_2.2.1) (0:Nat))) (Int.toNat (IntKind.wrap .i64 ((↑(List.length (rowD x.1.2 (List.getD x.1.1 (0:Nat) (0:Nat)))):Int) - (1:Int)))) (0 :
  Int)*List.getD (rowD x.1.2 (List.getD x.1.1 (Int.toNat x_2.1) (0:Nat))) (Int.toNat x_1.1) (0:Int))=IntKind.wrap .i64 (List.getD (rowD x.1.2 (List.getD
  x.1.1 (Int.toNat x_2.1) (0:Nat))) (Int.toNat (IntKind.wrap .i64 ((↑(List.length (rowD x.1.2 (List.getD x.1.1 (0:Nat) (0:Nat)))):Int) - (1:Int)))) (0 :
  Int)*List.getD (rowD x.1.2 (List.getD x.1.1 (Int.toNat x_2.2.1) (0:Nat))) (Int.toNat x_1.1) (0:Int))) then decide (List.getD x.2.1 (Int.toNat x_2.2.1) (0 :
  Int)<List.getD x.2.1 (Int.toNat x_2.1) (0:Int)) else false then again_2 (x_2.2.1,v16) else again_2 (x_2.1,v16) else none else none else none else none else none else
  none else none else none else none else none else none else none else none else none else none else none else none else none else none else none else none else none else none else none
  else none else none else none else none else none else none else none else bif v17 then some (x.1,x.2.1,x.2.2.1,x.2.2.2.1,false,PUnit.unit) else obind
  (ref05_pivot x.1 x.2.1 x.2.2.1 x.2.2.2.1 x_2.1 x_1.1) fun (y:(List Nat×List (Option (List Int)))×List Int×Int×Int×PUnit)=>again (y.1,y.2.1,
  y.2.2.1,y.2.2.2.1,x.2.2.2.2.1,x.2.2.2.2.2.1,x.2.2.2.2.2.2.1,x.2.2.2.2.2.2.2.1,PUnit.unit)) ((-1:Int),(0 :
  Int),PUnit.unit) else none else none else none else none else none else none else none else none else none else none) ((0:Int),PUnit.unit)) (x0,x1,x2,x3,([],[]),[],(0:Int),
  (0:Int),PUnit.unit)
noncomputable def ref05_run (x0:List Nat×List (Option (List Int))) (x1:List Int) (x2:Int) (x3:Int):Option ((List Nat×List (Option (List Int)))×(List Int)×Int×Int×Bool×Unit):=ref05_run_b lpK jnK ref05_pivot x0 x1 x2 x3
end Go.Proofs.Ytnbbackjofgcfaa

namespace Go.Proofs.Ytnbbackjofgcfaa
open Try Dn Dn.Sh
set_option maxRecDepth 100000
noncomputable def ref05_begin_b (lp:Lp) (jn:Jn) (x0:(List Int)×List ((List Int)×Int×Int)):Option ((List Nat×List (Option (List Int)))×(List Int)×Int×Int×Unit) :=
 
 let v3:Int:=IntKind.wrap .i64 ((↑(List.length x0.1):Int)+(↑(List.length x0.2):Int));
 let v4:Int:=IntKind.wrap .i64 ((↑(List.length x0.1):Int)+IntKind.wrap .i64 ((2:Int)*(↑(List.length x0.2):Int)));
 let v5:List Int×PUnit:=(List.replicate (Int.toNat (IntKind.wrap .i64 (v4+(1:Int)))) (0:Int),PUnit.unit);
 let v6:Bool:=decide ((0:Int)≤IntKind.wrap .i64 (v4+(1:Int)))&&fitB (Int.toNat (IntKind.wrap .i64 (v4+(1:Int)))) (8:Nat);bif v6 then lp (Int×(List Nat
  × List (Option (List Int)))×List Int×Int×Int×List Int×PUnit) ((List Nat×List (Option (List Int)))×List Int×Int×Int×PUnit) (fun (again:Int×(List Nat×List
  (Option (List Int)))×List Int×Int×Int×List Int×PUnit→Option ((List Nat×List (Option (List Int)))×List Int×Int×Int×PUnit)) (x:Int×(List Nat×List (Option (List
  Int)))×List Int×Int×Int×List Int×PUnit) =>
 let v9:Int:=IntKind.wrap .i64 (v3+x.1);
 let v10:Bool:=inB x.1 (List.length x0.2);
 let v11:Int:=IntKind.wrap .i64 ((↑(List.length x0.1):Int)+x.1);
 let v12:List Int×Int×Int:=List.getD x0.2 (Int.toNat x.1) ([],(0:Int),(0:Int));
 let v13:Bool:=fitB (List.length x.2.1.1+(1:Nat)) (24:Nat);
 let v14:List Nat:=x.2.1.1++[List.length x.2.1.2+(0:Nat)];bif decide (x.1<(↑(List.length x0.2):Int)) then bif v6 then bif v10 then lp (Int×List Int ×
  PUnit) ((List Nat×List (Option (List Int)))×List Int×Int×Int×PUnit) (fun (again_1:Int×List Int×PUnit→Option ((List Nat×List (Option (List Int)))×List Int×Int ×
  Int×PUnit)) (x_1:Int×List Int×PUnit)=>bif decide (x_1.1<(↑(List.length v12.1):Int)) then bif inB x_1.1 (List.length v12.1) then bif inB x_1.1 (List.length
  x_1.2.1) then bif Nat.ble (Nat.succ (Int.toNat x_1.1)) (List.length x_1.2.1) then again_1 (IntKind.wrap .i64 (x_1.1+(1:Int)),List.set x_1.2.1 (Int.toNat
  x_1.1) (List.getD v12.1 (Int.toNat x_1.1) (0:Int)),PUnit.unit) else none else none else none else bif v10 then jn (List Int×PUnit) ((List Nat×List (Option (List Int))) ×
  List Int×Int×Int×PUnit) (fun (x_2:List Int×PUnit)=>bif v10 then jn (List Int×PUnit) ((List Nat×List (Option (List Int)))×List Int×Int×Int×PUnit) (fun (x_3:List
  Int×PUnit) =>
 let v19:List Int×PUnit:=(List.set x_3.1 (Int.toNat v4) v12.2.2,PUnit.unit);bif v10 then bif inB v4 (List.length x_3.1) then bif Nat.ble (Nat.succ (Int.toNat v4))
  (List.length x_3.1) then bif v10 then jn (List Int×PUnit) ((List Nat×List (Option (List Int)))×List Int×Int×Int×PUnit) (fun (x_4:List Int×PUnit)=>lp (Int×List Int
  × PUnit) ((List Nat×List (Option (List Int)))×List Int×Int×Int×PUnit) (fun (again_2:Int×List Int×PUnit→Option ((List Nat×List (Option (List Int)))×List Int×Int ×
  Int×PUnit)) (x_5:Int×List Int×PUnit) =>
 let v23:Bool:=inB x_5.1 (List.length x_5.2.1);
 let v24:Bool:=Nat.ble (Nat.succ (Int.toNat x_5.1)) (List.length x_5.2.1);bif decide (x_5.1<(↑(List.length x_4.1):Int)) then bif v23 then bif v24 then bif inB x_5.1
  (List.length x_4.1) then bif Nat.ble (Nat.succ (Int.toNat x_5.1)) (List.length x_4.1) then bif v23 then bif v24 then again_2 (IntKind.wrap .i64 (x_5.1+(1:Int)),
  List.set x_5.2.1 (Int.toNat x_5.1) (IntKind.wrap .i64 (List.getD x_5.2.1 (Int.toNat x_5.1) (0:Int) - List.getD x_4.1 (Int.toNat x_5.1) (0:Int))),PUnit.unit)
  else none else none else none else none else none else none else bif inB v9 (List.length x_4.1) then bif Nat.ble (Nat.succ (Int.toNat v9)) (List.length x_4.1) then bif v13 then bif
  fitB (List.length x.2.2.1+(1:Nat)) (8:Nat) then again (IntKind.wrap .i64 (x.1+(1:Int)),(v14,x.2.1.2++[some (List.set x_4.1 (Int.toNat v9) (1 :
  Int))]),x.2.2.1++[v9],x.2.2.2.1,x.2.2.2.2.1,x_5.2.1,PUnit.unit) else none else none else none else none) ((0:Int),x.2.2.2.2.2.1,
  PUnit.unit)) fun (j:List Int×PUnit→Option ((List Nat×List (Option (List Int)))×List Int×Int×Int×PUnit))=>bif decide (v12.2.2<(0:Int)) then lp (Int×List Int ×
  PUnit) ((List Nat×List (Option (List Int)))×List Int×Int×Int×PUnit) (fun (again:Int×List Int×PUnit→Option ((List Nat×List (Option (List Int)))×List Int×Int×Int
  × PUnit)) (x:Int×List Int×PUnit) =>
 let v23:Bool:=inB x.1 (List.length x.2.1);
 let v24:Bool:=Nat.ble (Nat.succ (Int.toNat x.1)) (List.length x.2.1);bif decide (x.1<(↑(List.length x.2.1):Int)) then bif v23 then bif v24 then bif v23 then bif v24
  then again (IntKind.wrap .i64 (x.1+(1:Int)),List.set x.2.1 (Int.toNat x.1) (IntKind.wrap .i64 ((0:Int) - List.getD x.2.1 (Int.toNat x.1) (0:Int))),
  PUnit.unit) else none else none else none else none else j (x.2.1,PUnit.unit)) ((0:Int),v19) else j v19 else none else none else none else none) fun (j:List Int×PUnit →
  Option ((List Nat×List (Option (List Int)))×List Int×Int×Int×PUnit))=>bif decide (v12.2.1=(2:Int)) then bif inB v11 (List.length x_2.1) then bif Nat.ble (Nat.succ
  (Int.toNat v11)) (List.length x_2.1) then j (List.set x_2.1 (Int.toNat v11) (-1:Int),PUnit.unit) else none else none else j (x_2.1,PUnit.unit) else none) fun (j:List Int ×
  PUnit→Option ((List Nat×List (Option (List Int)))×List Int×Int×Int×PUnit))=>bif decide (v12.2.1=(1:Int)) then bif inB v11 (List.length x_1.2.1) then bif
  Nat.ble (Nat.succ (Int.toNat v11)) (List.length x_1.2.1) then j (List.set x_1.2.1 (Int.toNat v11) (1:Int),PUnit.unit) else none else none else j (x_1.2.1,PUnit.unit)
  else none) ((0:Int),v5) else none else none else bif v13 then some ((v14,x.2.1.2++[some x.2.2.2.2.2.1]),x.2.2.1,x.2.2.2.1,x.2.2.2.2.1,
  PUnit.unit) else none) ((0:Int),([],[]),[],(1:Int),v3,v5) else none
noncomputable def ref05_begin (x0:(List Int)×List ((List Int)×Int×Int)):Option ((List Nat×List (Option (List Int)))×(List Int)×Int×Int×Unit):=ref05_begin_b lpK jnK x0
noncomputable def ref05_out_b (lp:Lp) (_:Jn) (ref05_pivot:(List Nat×List (Option (List Int)))→(List Int)→(Int)→(Int)→(Int)→(Int)→Option ((List Nat×List (Option (List Int)))×(List Int)×Int×Int×Unit)) (x0:List Nat×List (Option (List Int))) (x1:List Int) (x2:Int) (x3:Int):Option ((List Nat×List (Option (List Int)))×(List Int)×Int×Int×Unit) :=
 lp (Int×(List Nat×List (Option (List Int)))×List Int×Int×Int×PUnit) ((List Nat×List (Option (List Int)))×List Int×Int×Int×PUnit) (fun (again:Int×(List Nat×List
  (Option (List Int)))×List Int×Int×Int×PUnit→Option ((List Nat×List (Option (List Int)))×List Int×Int×Int×PUnit)) (x:Int×(List Nat×List (Option (List Int))) ×
  List Int×Int×Int×PUnit) =>
 let v8:Int:=IntKind.wrap .i64 (x.1+(1:Int));
 let v9:Bool:=inB x.1 (List.length x.2.1.1);
 let v10:Bool:=Nat.ble (Nat.succ (Int.toNat x.1)) (List.length x.2.1.1);
 let v11:(List Nat×List (Option (List Int)))×List Int×Int×Int×PUnit:=(x.2.1,x.2.2.1,x.2.2.2.1,x.2.2.2.2.1,PUnit.unit);bif decide (x.1 <
  (↑(List.length x.2.2.1):Int)) then bif inB x.1 (List.length x.2.2.1) then bif Nat.ble (Nat.succ (Int.toNat x.1)) (List.length x.2.2.1) then bif decide (List.getD
  x.2.2.1 (Int.toNat x.1) (0:Int)<x.2.2.2.2.1) then again (v8,v11) else lp (Int×PUnit) ((List Nat×List (Option (List Int)))×List Int×Int×Int×PUnit) (fun
  (again_1:Int×PUnit→Option ((List Nat×List (Option (List Int)))×List Int×Int×Int×PUnit)) (x_1:Int×PUnit) =>
 let v14:Bool:=decide (x_1.1<x.2.2.2.2.1);
 let v15:Bool:=!v14;
 let v16:Bool:=v15||v14;bif v16 then bif v16&&(v16&&(v15||v9)) then bif v16&&(v15||v10) then bif v16&&(v16&&(v15||inB x_1.1 (List.length (rowD x.2.1.2
  (List.getD x.2.1.1 (Int.toNat x.1) (0:Nat)))))) then bif v16&&(v15||Nat.ble (Nat.succ (Int.toNat x_1.1)) (List.length (rowD x.2.1.2 (List.getD x.2.1.1
  (Int.toNat x.1) (0:Nat))))) then bif v16 then bif v16 then bif bif v14 then decide (List.getD (rowD x.2.1.2 (List.getD x.2.1.1 (Int.toNat x.1) (0:Nat))) (Int.toNat
  x_1.1) (0:Int)=(0:Int)) else false then again_1 (IntKind.wrap .i64 (x_1.1+(1:Int)),PUnit.unit) else bif decide (x_1.1=x.2.2.2.2.1) then again (v8,
  v11) else bif v9 then bif v10 then bif inB x_1.1 (List.length (rowD x.2.1.2 (List.getD x.2.1.1 (Int.toNat x.1) (0:Nat)))) then bif Nat.ble (Nat.succ (Int.toNat
  x_1.1)) (List.length (rowD x.2.1.2 (List.getD x.2.1.1 (Int.toNat x.1) (0:Nat)))) then bif decide (List.getD (rowD x.2.1.2 (List.getD x.2.1.1 (Int.toNat
  x.1) (0:Nat))) (Int.toNat x_1.1) (0:Int)<(0:Int)) then lp (Int×(List Nat×List (Option (List Int)))×PUnit) ((List Nat×List (Option (List Int)))×List Int×Int×Int
  × PUnit) (fun (again_2:Int×(List Nat×List (Option (List Int)))×PUnit→Option ((List Nat×List (Option (List Int)))×List Int×Int×Int×PUnit)) (x_2:Int×(List Nat ×
  List (Option (List Int)))×PUnit) =>
 let v19:Bool:=inB x.1 (List.length x_2.2.1.1);
 let v20:Bool:=Nat.ble (Nat.succ (Int.toNat x.1)) (List.length x_2.2.1.1);bif v19 then bif v20 then bif liveB x_2.2.1.2 (List.getD x_2.2.1.1 (Int.toNat x.1) (0 :
  Nat)) then bif decide (x_2.1<(↑(List.length (rowD x_2.2.1.2 (List.getD x_2.2.1.1 (Int.toNat x.1) (0:Nat)))):Int)) then bif v19 then bif v20 then bif v19 then bif
  v20 then bif inB x_2.1 (List.length (rowD x_2.2.1.2 (List.getD x_2.2.1.1 (Int.toNat x.1) (0:Nat)))) then bif Nat.ble (Nat.succ (Int.toNat x_2.1)) (List.length (rowD
  x_2.2.1.2 (List.getD x_2.2.1.1 (Int.toNat x.1) (0:Nat)))) then bif inB x_2.1 (List.length (rowD x_2.2.1.2 (List.getD x_2.2.1.1 (Int.toNat x.1) (0 :
  Nat)))) then bif Nat.ble (Nat.succ (Int.toNat x_2.1)) (List.length (rowD x_2.2.1.2 (List.getD x_2.2.1.1 (Int.toNat x.1) (0:Nat)))) then again_2 (IntKind.wrap
  IntKind.i64 (x_2.1+(1:Int)),(x_2.2.1.1,List.set x_2.2.1.2 (List.getD x_2.2.1.1 (Int.toNat x.1) (0:Nat)) (some (List.set (rowD x_2.2.1.2 (List.getD
  x_2.2.1.1 (Int.toNat x.1) (0:Nat))) (Int.toNat x_2.1) (IntKind.wrap .i64 ((0:Int) - List.getD (rowD x_2.2.1.2 (List.getD x_2.2.1.1 (Int.toNat x.1) (0
  : Nat))) (Int.toNat x_2.1) (0:Int)))))),PUnit.unit) else none else none else none else none else none else none else none else none else obind (ref05_pivot x_2.2.1
  x.2.2.1 x.2.2.2.1 x.2.2.2.2.1 x.1 x_1.1) fun (y:(List Nat×List (Option (List Int)))×List Int×Int×Int×PUnit)=>again (v8,y.1,y.2.1,
  y.2.2.1,y.2.2.2.1,PUnit.unit) else none else none else none) ((0:Int),x.2.1,PUnit.unit) else obind (ref05_pivot x.2.1 x.2.2.1 x.2.2.2.1
  x.2.2.2.2.1 x.1 x_1.1) fun (y:(List Nat×List (Option (List Int)))×List Int×Int×Int×PUnit)=>again (v8,y.1,y.2.1,y.2.2.1,y.2.2.2.1,
  PUnit.unit) else none else none else none else none else none else none else none else none else none else none else none) ((0:Int),PUnit.unit) else none else none else some v11) ((0
  : Int),x0,x1,x2,x3,PUnit.unit)
noncomputable def ref05_out (x0:List Nat×List (Option (List Int))) (x1:List Int) (x2:Int) (x3:Int):Option ((List Nat×List (Option (List Int)))×(List Int)×Int×Int×Unit):=ref05_out_b lpK jnK ref05_pivot x0 x1 x2 x3
noncomputable def ref02_Make_b (_:Lp) (_:Jn) (ref02_Size:(Int)→Option (Int)) (ref02_Made:(Int×Int)→(Bool)→(Int×Int)→Option ((Int×Int)×Int×Unit)) (x0:Int) (x1:Int):Option ((Int×Int)×Int×Unit) :=
 obind (ref02_Size x0) fun (t:Int)=>obind (ref02_Size x1) fun (t_1:Int)=>obind (ref02_Made ((0:Int),t) (!decide (decide (x0<(0:Int))=decide (x1<(0:Int)))) ((0:Int),
  t_1)) fun (t:(Int×Int)×Int×PUnit)=>some (t.1,t.2.1,PUnit.unit)
noncomputable def ref02_Make (x0:Int) (x1:Int):Option ((Int×Int)×Int×Unit):=ref02_Make_b lpK jnK ref02_Size ref02_Made x0 x1
noncomputable def ref05_Least_b (lp:Lp) (_:Jn) (ref02_Make:(Int)→(Int)→Option ((Int×Int)×Int×Unit)) (ref05_run:(List Nat×List (Option (List Int)))→(List Int)→(Int)→(Int)→Option ((List Nat×List (Option (List Int)))×(List Int)×Int×Int×Bool×Unit)) (ref05_begin:((List Int)×List ((List Int)×Int×Int))→Option ((List Nat×List (Option (List Int)))×(List Int)×Int×Int×Unit)) (ref05_out:(List Nat×List (Option (List Int)))→(List Int)→(Int)→(Int)→Option ((List Nat×List (Option (List Int)))×(List Int)×Int×Int×Unit)) (x0:(List Int)×List ((List Int)×Int×Int)):Option ((Int×Int)×Int×Unit) :=
 obind (ref05_begin x0) fun (y:(List Nat×List (Option (List Int)))×List Int×Int×Int×PUnit)=>obind (ref05_run y.1 y.2.1 y.2.2.1 y.2.2.2.1) fun (y:(List Nat
  × List (Option (List Int)))×List Int×Int×Int×Bool×PUnit) =>
 let v5:Int:=IntKind.wrap .i64 ((↑(List.length y.1.1):Int) - (1:Int));bif inB (0:Int) (List.length y.1.1) then bif Nat.ble (1:Nat) (List.length y.1.1) then
  bif liveB y.1.2 (List.getD y.1.1 (0:Nat) (0:Nat)) then bif inB v5 (List.length y.1.1) then bif Nat.ble (Nat.succ (Int.toNat v5)) (List.length y.1.1) then bif inB
  (IntKind.wrap .i64 ((↑(List.length (rowD y.1.2 (List.getD y.1.1 (0:Nat) (0:Nat)))):Int) - (1:Int))) (List.length (rowD y.1.2 (List.getD y.1.1 (Int.toNat
  v5) (0:Nat)))) then bif Nat.ble (Nat.succ (Int.toNat (IntKind.wrap .i64 ((↑(List.length (rowD y.1.2 (List.getD y.1.1 (0:Nat) (0:Nat)))):Int) - (1:Int)))))
  (List.length (rowD y.1.2 (List.getD y.1.1 (Int.toNat v5) (0:Nat)))) then bif decide (List.getD (rowD y.1.2 (List.getD y.1.1 (Int.toNat v5) (0:Nat))) (Int.toNat
  (IntKind.wrap .i64 ((↑(List.length (rowD y.1.2 (List.getD y.1.1 (0:Nat) (0:Nat)))):Int) - (1:Int)))) (0:Int)<(0:Int)) then some (((0:Int),(0:Int)),(22
  : Int),PUnit.unit) else obind (ref05_out y.1 y.2.1 y.2.2.1 y.2.2.2.1) fun (y_1:(List Nat×List (Option (List Int)))×List Int×Int×Int×PUnit)=>bif decide
  ((0:Int)≤IntKind.wrap .i64 (IntKind.wrap .i64 ((↑(List.length (rowD y.1.2 (List.getD y.1.1 (0:Nat) (0:Nat)))):Int) - (1:Int))+(1:Int)))&&fitB
  (Int.toNat (IntKind.wrap .i64 (IntKind.wrap .i64 ((↑(List.length (rowD y.1.2 (List.getD y.1.1 (0:Nat) (0:Nat)))):Int) - (1:Int))+(1:Int)))) (8:Nat)
  then lp (Int×List Int×PUnit) ((Int×Int)×Int×PUnit) (fun (again:Int×List Int×PUnit→Option ((Int×Int)×Int×PUnit)) (x:Int×List Int×PUnit)=>bif decide (x.1
  < (↑(List.length x0.1):Int)) then bif inB x.1 (List.length x0.1) then bif inB x.1 (List.length x.2.1) then bif Nat.ble (Nat.succ (Int.toNat x.1)) (List.length x.2.1)
  then again (IntKind.wrap .i64 (x.1+(1:Int)),List.set x.2.1 (Int.toNat x.1) (List.getD x0.1 (Int.toNat x.1) (0:Int)),PUnit.unit) else none else none else none
  else lp (Int×(List Nat×List (Option (List Int)))×PUnit) ((Int×Int)×Int×PUnit) (fun (again:Int×(List Nat×List (Option (List Int)))×PUnit→Option ((Int×Int)×Int ×
  PUnit)) (x_1:Int×(List Nat×List (Option (List Int)))×PUnit)=>bif decide (x_1.1≤IntKind.wrap .i64 ((↑(List.length (rowD y.1.2 (List.getD y.1.1 (0:Nat) (0 :
  Nat)))):Int) - (1:Int))) then bif inB x_1.1 (List.length x.2.1) then bif Nat.ble (Nat.succ (Int.toNat x_1.1)) (List.length x.2.1) then lp (Int×Int×PUnit) ((Int ×
  Int)×Int×PUnit) (fun (again_1:Int×Int×PUnit→Option ((Int×Int)×Int×PUnit)) (x_2:Int×Int×PUnit) =>
 let v13:Int:=List.getD y_1.2.1 (Int.toNat x_2.2.1) (0:Int);bif decide (x_2.2.1<v5) then bif inB x_2.2.1 (List.length y_1.2.1) then bif Nat.ble (Nat.succ
  (Int.toNat x_2.2.1)) (List.length y_1.2.1) then bif inB v13 (List.length x.2.1) then bif Nat.ble (Nat.succ (Int.toNat v13)) (List.length x.2.1) then bif inB x_2.2.1
  (List.length x_1.2.1.1) then bif Nat.ble (Nat.succ (Int.toNat x_2.2.1)) (List.length x_1.2.1.1) then bif inB x_1.1 (List.length (rowD x_1.2.1.2 (List.getD
  x_1.2.1.1 (Int.toNat x_2.2.1) (0:Nat)))) then bif Nat.ble (Nat.succ (Int.toNat x_1.1)) (List.length (rowD x_1.2.1.2 (List.getD x_1.2.1.1 (Int.toNat
  x_2.2.1) (0:Nat)))) then again_1 (IntKind.wrap .i64 (x_2.1 - IntKind.wrap .i64 (List.getD x.2.1 (Int.toNat v13) (0:Int)*List.getD (rowD x_1.2.1.2
  (List.getD x_1.2.1.1 (Int.toNat x_2.2.1) (0:Nat))) (Int.toNat x_1.1) (0:Int))),IntKind.wrap .i64 (x_2.2.1+(1:Int)),PUnit.unit) else none else none else
  none else none else none else none else none else none else bif inB v5 (List.length x_1.2.1.1) then bif Nat.ble (Nat.succ (Int.toNat v5)) (List.length x_1.2.1.1) then bif
  inB x_1.1 (List.length (rowD x_1.2.1.2 (List.getD x_1.2.1.1 (Int.toNat v5) (0:Nat)))) then bif Nat.ble (Nat.succ (Int.toNat x_1.1)) (List.length (rowD x_1.2.1.2
  (List.getD x_1.2.1.1 (Int.toNat v5) (0:Nat)))) then again (IntKind.wrap .i64 (x_1.1+(1:Int)),(x_1.2.1.1,List.set x_1.2.1.2 (List.getD x_1.2.1.1
  (Int.toNat v5) (0:Nat)) (some (List.set (rowD x_1.2.1.2 (List.getD x_1.2.1.1 (Int.toNat v5) (0:Nat))) (Int.toNat x_1.1) x_2.1))),PUnit.unit) else none else none
  else none else none) (IntKind.wrap .i64 (List.getD x.2.1 (Int.toNat x_1.1) (0:Int)*y_1.2.2.1),(0:Int),PUnit.unit) else none else none else obind (ref05_run
  x_1.2.1 y_1.2.1 y_1.2.2.1 y_1.2.2.2.1) fun (y_2:(List Nat×List (Option (List Int)))×List Int×Int×Int×Bool×PUnit)=>bif !y_2.2.2.2.2.1 then
  some (((0:Int),(0:Int)),(21:Int),PUnit.unit) else bif inB v5 (List.length y_2.1.1) then bif Nat.ble (Nat.succ (Int.toNat v5)) (List.length y_2.1.1) then bif inB
  (IntKind.wrap .i64 ((↑(List.length (rowD y.1.2 (List.getD y.1.1 (0:Nat) (0:Nat)))):Int) - (1:Int))) (List.length (rowD y_2.1.2 (List.getD y_2.1.1
  (Int.toNat v5) (0:Nat)))) then bif Nat.ble (Nat.succ (Int.toNat (IntKind.wrap .i64 ((↑(List.length (rowD y.1.2 (List.getD y.1.1 (0:Nat) (0:Nat)))):Int) - (1 :
  Int))))) (List.length (rowD y_2.1.2 (List.getD y_2.1.1 (Int.toNat v5) (0:Nat)))) then obind (ref02_Make (IntKind.wrap .i64 ((0:Int) - List.getD (rowD y_2.1.2
  (List.getD y_2.1.1 (Int.toNat v5) (0:Nat))) (Int.toNat (IntKind.wrap .i64 ((↑(List.length (rowD y.1.2 (List.getD y.1.1 (0:Nat) (0:Nat)))):Int) - (1:Int))))
  (0:Int))) y_2.2.2.1) fun (t:(Int×Int)×Int×PUnit)=>some (t.1,t.2.1,PUnit.unit) else none else none else none else none) ((0:Int),y_1.1,PUnit.unit)) ((0 :
  Int),List.replicate (Int.toNat (IntKind.wrap .i64 (IntKind.wrap .i64 ((↑(List.length (rowD y.1.2 (List.getD y.1.1 (0:Nat) (0:Nat)))):Int) - (1:Int))+(1
  : Int)))) (0:Int),PUnit.unit) else none else none else none else none else none else none else none else none
noncomputable def ref05_Least (x0:(List Int)×List ((List Int)×Int×Int)):Option ((Int×Int)×Int×Unit):=ref05_Least_b lpK jnK ref02_Make ref05_run ref05_begin ref05_out x0
noncomputable def law05_ProgramSolves_b (_:Lp) (_:Jn) (program_Solve:((List Int)×List ((List Int)×Int×Int))→Option (((Int×Int)×(List (Int×Int))×List (Int×Int))×Int×Unit)) (law05_awake:Option (Bool)) (law05_few:((List Int)×List ((List Int)×Int×Int))→Option (Bool)) (ref05_Valid:((List Int)×List ((List Int)×Int×Int))→Option (Bool)) (law05_empty:((Int×Int)×(List (Int×Int))×List (Int×Int))→Option (Bool)) (ref05_Fits:((List Int)×List ((List Int)×Int×Int))→Option (Bool)) (ref05_Small:((List Int)×List ((List Int)×Int×Int))→Option (Bool)) (program_Farkas:((List Int)×List ((List Int)×Int×Int))→Option ((List (Int×Int))×Int×Unit)) (ref05_Least:((List Int)×List ((List Int)×Int×Int))→Option ((Int×Int)×Int×Unit)) (x0:(List Int)×List ((List Int)×Int×Int)):Option Bool :=
 obind law05_awake fun (t:Bool)=>bif !t then some false else obind (law05_few x0) fun (t:Bool)=>bif !t then some true else obind (ref05_Valid x0) fun (t:Bool) =>
 let v6:Bool:=!t||t;bif v6 then obind (bif t then ref05_Fits x0 else some false) fun (t_1:Bool) =>
 let v8:Bool:=bif t then t_1 else false;
 let v9:Bool:=!v8||v8;bif v6 then bif v9 then obind (bif v8 then ref05_Small x0 else some false) fun (t:Bool)=>bif v9 then bif v9 then bif bif v8 then !t else false then some
  true else obind (program_Solve x0) fun (t:((Int×Int)×List (Int×Int)×List (Int×Int))×Int×PUnit) =>
 let v12:Bool:=!decide (t.2.1=(0:Int));obind (program_Farkas x0) fun (t_2:List (Int×Int)×Int×PUnit) =>
 let v14:Bool:=decide (t_2.2.1=(0:Int));
 let v15:Bool:=decide (t_2.2.1=(12:Int));
 let v16:Bool:=decide ((↑(List.length t_2.1):Int)=(0:Int));
 let v17:Bool:=!v14||v14;
 let v18:Bool:=!v15||v15;obind (ref05_Valid x0) fun (t_3:Bool)=>bif !t_3 then obind (law05_empty t.1) fun (t_4:Bool) =>
 let v21:Bool:=!t_4||t_4;
 let v22:Bool:=bif t_4 then decide (t.2.1=(1:Int)) else false;
 let v23:Bool:=bif v22 then v16 else false;
 let v24:Bool:=!v22||v22;
 let v25:Bool:=!v23||v23;bif v21 then bif v21 then bif v24 then bif v24 then bif v24 then bif v25 then bif v25 then some (bif v23 then decide (t_2.2.1=(1:Int)) else false)
  else none else none else none else none else none else none else none else obind (ref05_Fits x0) fun (t_4:Bool)=>bif !t_4 then obind (law05_empty t.1) fun (t_5:Bool) =>
 let v22:Bool:=!t_5||t_5;
 let v23:Bool:=bif t_5 then decide (t.2.1=(5:Int)) else false;
 let v24:Bool:=bif v23 then v16 else false;
 let v25:Bool:=!v23||v23;
 let v26:Bool:=!v24||v24;bif v22 then bif v22 then bif v25 then bif v25 then bif v25 then bif v26 then bif v26 then some (bif v24 then decide (t_2.2.1=(5:Int)) else false)
  else none else none else none else none else none else none else none else obind (ref05_Least x0) fun (t_5:(Int×Int)×Int×PUnit) =>
 let v22:Bool:=!decide (t.2.1=t_5.2.1);
 let v23:Bool:=!v22;
 let v24:Bool:=!v23||v23;
 let v25:Bool:=bif v22 then true else !(decide (t.1.1.1=t_5.1.1)&&(decide (t.1.1.2=t_5.1.2)&&true));
 let v26:Bool:=!v25;
 let v27:Bool:=!v26;
 let v28:Bool:=v26&&v12;
 let v29:Bool:=v27||v26;
 let v30:Bool:=!v28||v28;bif v24 then bif v24&&v24 then bif v22||v23 then bif v29 then bif v29 then bif v30 then obind (bif v28 then law05_empty t.1 else some false) fun (t_6
  : Bool)=>bif v30 then bif (v27||v29)&&(v27||(!v12||(v27||v28))) then bif v25||v26 then bif bif v25 then true else bif v12 then !t_6 else false then some false else bif
  decide (t.2.1=(22:Int)) then bif v17 then bif v17 then bif v17 then bif v17&&v17 then bif v17 then some (bif v14 then decide ((↑(List.length t_2.1):Int)=(↑(List.length
  x0.2):Int)) else false) else none else none else none else none else none else bif v18 then bif v18 then bif v18 then some (bif v15 then v16 else false) else none else none else
  none else none else none else none else none else none else none else none else none else none else none else none else none else none else none
noncomputable def law05_ProgramSolves (x0:(List Int)×List ((List Int)×Int×Int)):Option Bool:=law05_ProgramSolves_b lpK jnK program_Solve law05_awake law05_few ref05_Valid law05_empty ref05_Fits ref05_Small program_Farkas ref05_Least x0
noncomputable def c5:Ctr:=⟨[T25],[],[],.one .bool,fun x _ _=>law05_ProgramSolves x.1⟩
theorem e5 (lp:Lp) (jn:Jn) (program_Solve:((List Int)×List ((List Int)×Int×Int))→Option (((Int×Int)×(List (Int×Int))×List (Int×Int))×Int×Unit)) (law05_awake:Option (Bool)) (law05_few:((List Int)×List ((List Int)×Int×Int))→Option (Bool)) (ref05_Valid:((List Int)×List ((List Int)×Int×Int))→Option (Bool)) (law05_empty:((Int×Int)×(List (Int×Int))×List (Int×Int))→Option (Bool)) (ref05_Fits:((List Int)×List ((List Int)×Int×Int))→Option (Bool)) (ref05_Small:((List Int)×List ((List Int)×Int×Int))→Option (Bool)) (program_Farkas:((List Int)×List ((List Int)×Int×Int))→Option ((List (Int×Int))×Int×Unit)) (ref05_Least:((List Int)×List ((List Int)×Int×Int))→Option ((Int×Int)×Int×Unit)):∀(x:TsS c5.as) (F:TsF c5.fs) (y:TsS c5.cs),law05_ProgramSolves_b lp jn program_Solve law05_awake law05_few ref05_Valid law05_empty ref05_Fits ref05_Small program_Farkas ref05_Least x.1=runC lp jn (ctxT tabs lits (ctxOf prog shs inls its [(30,⟨[T25],[],[],.tup [T27,i64],fun x _ _=>ref05_Least x.1⟩),(29,⟨[T25],[],[],.tup [(.sl T27),i64],fun x _ _=>program_Farkas x.1⟩),(28,⟨[T25],[],[],.one .bool,fun x _ _=>ref05_Small x.1⟩),(27,⟨[T25],[],[],.one .bool,fun x _ _=>ref05_Fits x.1⟩),(25,⟨[T30],[],[],.one .bool,fun x _ _=>law05_empty x.1⟩),(16,⟨[T25],[],[],.one .bool,fun x _ _=>ref05_Valid x.1⟩),(12,⟨[T25],[],[],.one .bool,fun x _ _=>law05_few x.1⟩),(11,⟨[],[],[],.one .bool,fun _ _ _=>law05_awake⟩),(21,⟨[T25],[],[],.tup [T30,i64],fun x _ _=>program_Solve x.1⟩)] [(24,r24),(22,r22)])) hints 4 5 f5 c5 x F y:=fun x F y=>by kernel_rfl
noncomputable def program_Feasible_b (_:Lp) (_:Jn) (program_Valid:((List Int)×List ((List Int)×Int×Int))→Option (Bool)) (program_right:(List (Int×Int))→Option (Bool)) (program_sums_feasible:(Int)→((List Int)×List ((List Int)×Int×Int))→(List (Int×Int))→Option (Int×Bool)) (x0:(List Int)×List ((List Int)×Int×Int)) (x1:List (Int×Int)):Option (Bool×Int×Unit) :=
 obind (program_Valid x0) fun (t:Bool) =>
 let v5:Bool:=!t;
 let v6:Bool:=!v5;
 let v7:Bool:=!v6||v6;bif v7 then obind (bif v6 then program_right x1 else some false) fun (t:Bool)=>bif v7 then bif v5||v6 then bif bif v5 then true else !t then some (false,
  (1:Int),PUnit.unit) else bif !decide ((↑(List.length x1):Int)=(↑(List.length x0.1):Int)) then some (false,(3:Int),PUnit.unit) else obind (program_sums_feasible (0:Int)
  x0 x1) fun (t:Int×Bool) =>
 let v10:Bool:=!t.2||t.2;bif v10 then bif v10 then bif v10 then some (bif t.2 then decide (t.1=(0:Int)) else false,t.1,PUnit.unit) else none else none else none else
  none else none else none
noncomputable def program_Feasible (x0:(List Int)×List ((List Int)×Int×Int)) (x1:List (Int×Int)):Option (Bool×Int×Unit):=program_Feasible_b lpK jnK program_Valid program_right program_sums_feasible x0 x1
noncomputable def program_Value_b (_:Lp) (_:Jn) (program_Valid:((List Int)×List ((List Int)×Int×Int))→Option (Bool)) (program_right:(List (Int×Int))→Option (Bool)) (program_sums_of:(Int)→(List Int)→(List (Int×Int))→Option (Int×(Int×Int))) (x0:(List Int)×List ((List Int)×Int×Int)) (x1:List (Int×Int)):Option ((Int×Int)×Int×Unit) :=
 obind (program_Valid x0) fun (t:Bool) =>
 let v5:Bool:=!t;
 let v6:Bool:=!v5;
 let v7:Bool:=!v6||v6;bif v7 then obind (bif v6 then program_right x1 else some false) fun (t:Bool)=>bif v7 then bif v5||v6 then bif bif v5 then true else !t then some (((0 :
  Int),(0:Int)),(1:Int),PUnit.unit) else bif !decide ((↑(List.length x1):Int)=(↑(List.length x0.1):Int)) then some (((0:Int),(0:Int)),(3:Int),PUnit.unit) else
  obind (program_sums_of (0:Int) x0.1 x1) fun (t:Int×Int×Int)=>bif !decide (t.1=(0:Int)) then some (((0:Int),(0:Int)),t.1,PUnit.unit) else some (t.2,(0 :
  Int),PUnit.unit) else none else none else none
noncomputable def program_Value (x0:(List Int)×List ((List Int)×Int×Int)) (x1:List (Int×Int)):Option ((Int×Int)×Int×Unit):=program_Value_b lpK jnK program_Valid program_right program_sums_of x0 x1
noncomputable def law05_ProgramForms_b (_:Lp) (_:Jn) (program_Valid:((List Int)×List ((List Int)×Int×Int))→Option (Bool)) (law05_awake:Option (Bool)) (law05_few:((List Int)×List ((List Int)×Int×Int))→Option (Bool)) (law05_short:(List (List (Int×Int)))→Option (Bool)) (ref05_Valid:((List Int)×List ((List Int)×Int×Int))→Option (Bool)) (ref02_All:(List (Int×Int))→Option (Bool)) (ref05_Sum:(List Int)→(List (Int×Int))→Option ((Int×Int)×Int×Unit)) (ref05_Feasible:((List Int)×List ((List Int)×Int×Int))→(List (Int×Int))→Option (Bool×Int×Unit)) (program_Feasible:((List Int)×List ((List Int)×Int×Int))→(List (Int×Int))→Option (Bool×Int×Unit)) (program_Value:((List Int)×List ((List Int)×Int×Int))→(List (Int×Int))→Option ((Int×Int)×Int×Unit)) (x0:(List Int)×List ((List Int)×Int×Int)) (x1:List (Int×Int)):Option Bool :=
 obind law05_awake fun (t:Bool)=>bif !t then some false else obind (law05_few x0) fun (t:Bool) =>
 let v6:Bool:=!t;
 let v7:Bool:=!v6;
 let v8:Bool:=!v7||v7;bif v8 then bif v8 then obind (bif v7 then law05_short [x1] else some false) fun (t:Bool)=>bif v8 then bif v6||v7 then bif bif v6 then true else !t then
  some true else obind (ref05_Valid x0) fun (t:Bool) =>
 let v11:Bool:=!t;
 let v12:Bool:=!v11;
 let v13:Bool:=!v12||v12;obind (program_Feasible x0 x1) fun (t_1:Bool×Int×PUnit) =>
 let v15:Bool:=!t_1.1;
 let v16:Bool:=!v15||v15;
 let v17:Bool:=bif v15 then decide (t_1.2.1=(1:Int)) else false;
 let v18:Bool:=bif v15 then decide (t_1.2.1=(3:Int)) else false;
 let v19:Bool:=!v17||v17;
 let v20:Bool:=!v18||v18;obind (program_Value x0 x1) fun (t_2:(Int×Int)×Int×PUnit) =>
 let v22:Bool:=decide (t_2.1.1=(0:Int))&&(decide (t_2.1.2=(0:Int))&&true);
 let v23:Bool:=bif v17 then v22 else false;
 let v24:Bool:=bif v18 then v22 else false;
 let v25:Bool:=!v23||v23;
 let v26:Bool:=!v24||v24;obind (program_Valid x0) fun (t_3:Bool)=>bif !decide (t_3=t) then some false else bif v13 then obind (bif v12 then ref02_All x1 else some false) fun
  (t:Bool)=>bif v13 then bif v11||v12 then bif bif v11 then true else !t then bif v16 then bif v16 then bif v19&&v19 then bif v19 then bif v25 then bif v25 then some (bif v23 then
  decide (t_2.2.1=(1:Int)) else false) else none else none else none else none else none else none else bif !decide ((↑(List.length x1):Int)=(↑(List.length x0.1):Int))
  then bif v16 then bif v16 then bif v20&&v20 then bif v20 then bif v26 then bif v26 then some (bif v24 then decide (t_2.2.1=(3:Int)) else false) else none else none else none
  else none else none else none else obind (ref05_Feasible x0 x1) fun (t:Bool×Int×PUnit) =>
 let v30:Bool:=decide (t_1.1=t.1);
 let v31:Bool:=!v30||v30;
 let v32:Bool:=bif v30 then decide (t_1.2.1=t.2.1) else false;
 let v33:Bool:=!v32||v32;obind (ref05_Sum x0.1 x1) fun (t:(Int×Int)×Int×PUnit) =>
 let v35:Bool:=bif v32 then decide (t_2.1.1=t.1.1)&&(decide (t_2.1.2=t.1.2)&&true) else false;
 let v36:Bool:=!v35||v35;bif v31&&v31 then bif v31 then bif v33&&v33 then bif v33 then bif v36&&v36 then bif v36 then some (bif v35 then decide (t_2.2.1=t.2.1) else
  false) else none else none else none else none else none else none else none else none else none else none else none else none else none
noncomputable def law05_ProgramForms (x0:(List Int)×List ((List Int)×Int×Int)) (x1:List (Int×Int)):Option Bool:=law05_ProgramForms_b lpK jnK program_Valid law05_awake law05_few law05_short ref05_Valid ref02_All ref05_Sum ref05_Feasible program_Feasible program_Value x0 x1
noncomputable def c6:Ctr:=⟨[T25,(.sl T27)],[],[],.one .bool,fun x _ _=>law05_ProgramForms x.1 x.2.1⟩
theorem e6 (lp:Lp) (jn:Jn) (program_Valid:((List Int)×List ((List Int)×Int×Int))→Option (Bool)) (law05_awake:Option (Bool)) (law05_few:((List Int)×List ((List Int)×Int×Int))→Option (Bool)) (law05_short:(List (List (Int×Int)))→Option (Bool)) (ref05_Valid:((List Int)×List ((List Int)×Int×Int))→Option (Bool)) (ref02_All:(List (Int×Int))→Option (Bool)) (ref05_Sum:(List Int)→(List (Int×Int))→Option ((Int×Int)×Int×Unit)) (ref05_Feasible:((List Int)×List ((List Int)×Int×Int))→(List (Int×Int))→Option (Bool×Int×Unit)) (program_Feasible:((List Int)×List ((List Int)×Int×Int))→(List (Int×Int))→Option (Bool×Int×Unit)) (program_Value:((List Int)×List ((List Int)×Int×Int))→(List (Int×Int))→Option ((Int×Int)×Int×Unit)):∀(x:TsS c6.as) (F:TsF c6.fs) (y:TsS c6.cs),law05_ProgramForms_b lp jn program_Valid law05_awake law05_few law05_short ref05_Valid ref02_All ref05_Sum ref05_Feasible program_Feasible program_Value x.1 x.2.1=runC lp jn (ctxT tabs lits (ctxOf prog shs inls its [(32,⟨[T25,(.sl T27)],[],[],.tup [T27,i64],fun x _ _=>program_Value x.1 x.2.1⟩),(31,⟨[T25,(.sl T27)],[],[],.tup [.bool,i64],fun x _ _=>program_Feasible x.1 x.2.1⟩),(34,⟨[T25,(.sl T27)],[],[],.tup [.bool,i64],fun x _ _=>ref05_Feasible x.1 x.2.1⟩),(35,⟨[(.sl i64),(.sl T27)],[],[],.tup [T27,i64],fun x _ _=>ref05_Sum x.1 x.2.1⟩),(18,⟨[(.sl T27)],[],[],.one .bool,fun x _ _=>ref02_All x.1⟩),(16,⟨[T25],[],[],.one .bool,fun x _ _=>ref05_Valid x.1⟩),(13,⟨[(.sl (.sl T27))],[],[],.one .bool,fun x _ _=>law05_short x.1⟩),(12,⟨[T25],[],[],.one .bool,fun x _ _=>law05_few x.1⟩),(11,⟨[],[],[],.one .bool,fun _ _ _=>law05_awake⟩),(33,⟨[T25],[],[],.one .bool,fun x _ _=>program_Valid x.1⟩)] [(24,r24),(22,r22)])) hints 4 6 f6 c6 x F y:=fun x F y=>by kernel_rfl
noncomputable def program_Dual_b (lp:Lp) (_:Jn) (program_Valid:((List Int)×List ((List Int)×Int×Int))→Option (Bool)) (x0:(List Int)×List ((List Int)×Int×Int)):Option (((List Int)×List ((List Int)×Int×Int))×Int×Unit) :=
 
 let v3:Int:=IntKind.wrap .i64 ((0:Int) - (1:Int));
 let v4:Int:=IntKind.wrap .i64 ((0:Int) - (-1:Int));obind (program_Valid x0) fun (t:Bool)=>bif !t then some (([],[]),(1:Int),PUnit.unit) else bif decide
  ((↑(List.length x0.2):Int)=(0:Int)) then some (([],[]),(14:Int),PUnit.unit) else bif decide ((0:Int)≤(↑(List.length x0.1):Int))&&fitB (Int.toNat (↑(List.length
  x0.1):Int)) (40:Nat) then lp (Int×(List (Nat×Int×Int)×List (Option (List Int)))×PUnit) ((List Int×List (List Int×Int×Int))×Int×PUnit) (fun (again:Int×(List
  (Nat×Int×Int)×List (Option (List Int)))×PUnit→Option ((List Int×List (List Int×Int×Int))×Int×PUnit)) (x:Int×(List (Nat×Int×Int)×List (Option (List Int))) ×
  PUnit)=>bif decide (x.1<(↑(List.length x0.1):Int)) then bif inB x.1 (List.length x0.1) then bif inB x.1 (List.length x.2.1.1) then bif Nat.ble (Nat.succ (Int.toNat
  x.1)) (List.length x.2.1.1) then again (IntKind.wrap .i64 (x.1+(1:Int)),(List.set x.2.1.1 (Int.toNat x.1) (List.length x.2.1.2,(1:Int),List.getD
  x0.1 (Int.toNat x.1) (0:Int)),x.2.1.2++[some []]),PUnit.unit) else none else none else none else lp (Bool×Int×List Int×(List (Nat×Int×Int)×List (Option (List
  Int)))×PUnit) ((List Int×List (List Int×Int×Int))×Int×PUnit) (fun (again:Bool×Int×List Int×(List (Nat×Int×Int)×List (Option (List Int)))×PUnit→Option
  ((List Int×List (List Int×Int×Int))×Int×PUnit)) (x:Bool×Int×List Int×(List (Nat×Int×Int)×List (Option (List Int)))×PUnit) =>
 let v10:Bool:=!x.1;
 let v11:Bool:=!v10||v10;
 let v12:Int:=IntKind.wrap .i64 (x.2.1+(1:Int));
 let v13:Bool:=fitB (List.length x.2.2.1+(1:Nat)) (8:Nat);
 let v14:List Int×Int×Int:=List.getD x0.2 (Int.toNat x.2.1) ([],(0:Int),(0:Int));
 let v15:(List (Nat×Int×Int)×List (Option (List Int)))×PUnit:=(x.2.2.2.1,PUnit.unit);
 let v16:List Int:=[IntKind.wrap .i64 (v4*v14.2.2)];
 let v17:Int×(List (Nat×Int×Int)×List (Option (List Int)))×PUnit:=((0:Int),v15);
 let v18:List Int:=x.2.2.1++[IntKind.wrap .i64 (v3*v14.2.2)];
 let v19:Bool:=!decide (v14.2.1=(2:Int));
 let v20:Bool:=decide ((↑(List.length x.2.2.2.1.1):Int)>(6:Int));
 let v21:Bool:=!v20;
 let v22:Bool:=bif x.1 then true else decide (v14.2.2<(-1048576:Int));
 let v23:Bool:=!v22;
 let v24:Bool:=!v21||v21;
 let v25:Bool:=bif v22 then true else decide (v14.2.2>(1048576:Int));
 let v26:Bool:=!v23||v23;bif decide (x.2.1<(↑(List.length x0.2):Int)) then bif inB x.2.1 (List.length x0.2) then bif v11 then bif v11 then bif x.1||v10 then bif
  v26 then bif v26 then bif v22||v23 then bif !decide (v14.2.1=(1:Int)) then bif v13 then lp (Int×(List (Nat×Int×Int)×List (Option (List Int)))×PUnit) ((List Int ×
  List (List Int×Int×Int))×Int×PUnit) (fun (again_1:Int×(List (Nat×Int×Int)×List (Option (List Int)))×PUnit→Option ((List Int×List (List Int×Int×Int))×Int ×
  PUnit)) (x_1:Int×(List (Nat×Int×Int)×List (Option (List Int)))×PUnit) =>
 let v29:(List (Nat×Int×Int)×List (Option (List Int)))×PUnit:=(x_1.2.1,PUnit.unit);
 let v30:Bool:=inB x_1.1 (List.length x_1.2.1.1);
 let v31:Bool:=Nat.ble (Nat.succ (Int.toNat x_1.1)) (List.length x_1.2.1.1);
 let v32:Nat×Int×Int:=List.getD x_1.2.1.1 (Int.toNat x_1.1) ((0:Nat),(0:Int),(0:Int));bif decide (x_1.1<(↑(List.length x.2.2.2.1.1):Int)) then bif
  v30 then bif v31 then bif inB x_1.1 (List.length v14.1) then bif liveB x_1.2.1.2 v32.1&&fitB (List.length (rowD x_1.2.1.2 v32.1)+(1:Nat)) (8:Nat) then bif
  v30 then bif v31 then again_1 (IntKind.wrap .i64 (x_1.1+(1:Int)),(List.set x_1.2.1.1 (Int.toNat x_1.1) (List.length x_1.2.1.2,v32.2),List.set
  x_1.2.1.2 v32.1 none++[some (rowD x_1.2.1.2 v32.1++[IntKind.wrap .i64 ((1:Int)*List.getD v14.1 (Int.toNat x_1.1) (0:Int))])]++[]),PUnit.unit)
  else none else none else none else none else none else none else bif v19 then bif fitB (List.length v18+(1:Nat)) (8:Nat) then lp (Int×(List (Nat×Int×Int)×List (Option
  (List Int)))×PUnit) ((List Int×List (List Int×Int×Int))×Int×PUnit) (fun (again_2:Int×(List (Nat×Int×Int)×List (Option (List Int)))×PUnit→Option ((List Int ×
  List (List Int×Int×Int))×Int×PUnit)) (x:Int×(List (Nat×Int×Int)×List (Option (List Int)))×PUnit) =>
 let v35:Bool:=inB x.1 (List.length x.2.1.1);
 let v36:Bool:=Nat.ble (Nat.succ (Int.toNat x.1)) (List.length x.2.1.1);
 let v37:Nat×Int×Int:=List.getD x.2.1.1 (Int.toNat x.1) ((0:Nat),(0:Int),(0:Int));bif decide (x.1<(↑(List.length x_1.2.1.1):Int)) then bif v35 then bif
  v36 then bif inB x.1 (List.length v14.1) then bif liveB x.2.1.2 v37.1&&fitB (List.length (rowD x.2.1.2 v37.1)+(1:Nat)) (8:Nat) then bif v35 then bif v36 then
  again_2 (IntKind.wrap .i64 (x.1+(1:Int)),(List.set x.2.1.1 (Int.toNat x.1) (List.length x.2.1.2,v37.2),List.set x.2.1.2 v37.1 none++[some (rowD
  x.2.1.2 v37.1++[IntKind.wrap .i64 ((-1:Int)*List.getD v14.1 (Int.toNat x.1) (0:Int))])]++[]),PUnit.unit) else none else none else none else none else none
  else none else again (v25,v12,v18++v16,x.2.1,PUnit.unit)) ((0:Int),v29) else none else again (v25,v12,v18,v29)) v17 else none else bif v19 then bif v13 then lp (Int ×
  (List (Nat×Int×Int)×List (Option (List Int)))×PUnit) ((List Int×List (List Int×Int×Int))×Int×PUnit) (fun (again_1:Int×(List (Nat×Int×Int)×List (Option (List
  Int)))×PUnit→Option ((List Int×List (List Int×Int×Int))×Int×PUnit)) (x_1:Int×(List (Nat×Int×Int)×List (Option (List Int)))×PUnit) =>
 let v29:Bool:=inB x_1.1 (List.length x_1.2.1.1);
 let v30:Bool:=Nat.ble (Nat.succ (Int.toNat x_1.1)) (List.length x_1.2.1.1);
 let v31:Nat×Int×Int:=List.getD x_1.2.1.1 (Int.toNat x_1.1) ((0:Nat),(0:Int),(0:Int));bif decide (x_1.1<(↑(List.length x.2.2.2.1.1):Int)) then bif
  v29 then bif v30 then bif inB x_1.1 (List.length v14.1) then bif liveB x_1.2.1.2 v31.1&&fitB (List.length (rowD x_1.2.1.2 v31.1)+(1:Nat)) (8:Nat) then bif
  v29 then bif v30 then again_1 (IntKind.wrap .i64 (x_1.1+(1:Int)),(List.set x_1.2.1.1 (Int.toNat x_1.1) (List.length x_1.2.1.2,v31.2),List.set
  x_1.2.1.2 v31.1 none++[some (rowD x_1.2.1.2 v31.1++[IntKind.wrap .i64 ((-1:Int)*List.getD v14.1 (Int.toNat x_1.1) (0:Int))])]++[]),PUnit.unit)
  else none else none else none else none else none else none else again (v25,v12,x.2.2.1++v16,x_1.2.1,PUnit.unit)) v17 else none else again (v25,v12,x.2.2.1,v15)
  else none else none else none else none else none else none else none else bif v24 then bif v24 then bif v24 then bif v20||v21 then bif bif v20 then true else decide ((↑(List.length
  x.2.2.1):Int)>(12:Int)) then some (([],[]),(4:Int),PUnit.unit) else bif x.1 then some (([],[]),(5:Int),PUnit.unit) else bif List.all x.2.2.2.1.1 fun
  (x_1:Nat×Int×Int)=>liveB x.2.2.2.1.2 x_1.1&&true then some ((x.2.2.1,List.map (fun (x_1:Nat×Int×Int)=>(rowD x.2.2.2.1.2 x_1.1,x_1.2))
  x.2.2.2.1.1),(0:Int),PUnit.unit) else none else none else none else none else none) (false,(0:Int),[],x.2.1,PUnit.unit)) ((0:Int),(Nat.brecOn (motive:=fun
  (x:Nat)=>Nat→List (Nat×Int×Int)) (Int.toNat (↑(List.length x0.1):Int)) (fun (x:Nat) (f:Nat.below (motive:=fun (x:Nat)=>Nat→List (T (agg (pair ref (pair i64
  i64))))) x) (x_1:Nat)=>(match (motive:=(x:Nat)→Nat→Nat.below (motive:=fun (x:Nat)=>Nat→List (T (agg (pair ref (pair i64 i64))))) x→List (Nat×Int×Int)) x,x_1
  with | (0:Nat),x=>fun (_:PUnit)=>[] | Nat.succ n,k=>fun (x:(Nat→List (Nat×Int×Int)) ×' Nat.rec PUnit (fun (n:Nat) (n_ih:Type)=>(fun (x:Nat)=>Nat→List (T
  (agg (pair ref (pair i64 i64))))) n ×' n_ih) n)=>(k+(0:Nat),(0:Int),(0:Int)) ::x.1 (k+(1:Nat))) f) (0:Nat),List.replicate (Int.toNat (↑(List.length x0.1):Int))
  (some [])),PUnit.unit) else none
noncomputable def program_Dual (x0:(List Int)×List ((List Int)×Int×Int)):Option (((List Int)×List ((List Int)×Int×Int))×Int×Unit):=program_Dual_b lpK jnK program_Valid x0
noncomputable def c36:Ctr:=⟨[T25],[],[],.tup [T25,i64],fun x _ _=>program_Dual x.1⟩
theorem e36 (lp:Lp) (jn:Jn) (program_Valid:((List Int)×List ((List Int)×Int×Int))→Option (Bool)):∀(x:TsS c36.as) (F:TsF c36.fs) (y:TsS c36.cs),program_Dual_b lp jn program_Valid x.1=runC lp jn (ctxT tabs36 lits (ctxOf prog shs inls its [(33,⟨[T25],[],[],.one .bool,fun x _ _=>program_Valid x.1⟩)] [(24,r24),(22,r22)])) hints 4 36 f36 c36 x F y:=fun x F y=>by kernel_rfl
theorem l36:(ctxT tabs36 lits (ctxOf prog shs inls its [(33,c33)] [(24,r24),(22,r22)])).ok:=ctxT_ok (ctxOf_cons (q24) (by kernel_rfl) ok33)
theorem ok36:c36.ok prog 36:=Ctr.of_den l36 hmix (hl:=hints) (d:=4) func36 rfl (by decide) (e36 lpK jnK program_Valid)
noncomputable def ref05_Same_b (lp:Lp) (_:Jn) (x0:(List Int)×List ((List Int)×Int×Int)) (x1:(List Int)×List ((List Int)×Int×Int)):Option Bool :=
 
 let v4:Bool:=!decide ((↑(List.length x0.1):Int)=(↑(List.length x1.1):Int));
 let v5:Bool:=!v4;
 let v6:Bool:=!v5||v5;bif v6 then bif v6 then bif v6 then bif v6 then bif v6&&v6 then bif v4||v5 then bif bif v4 then true else !decide ((↑(List.length x0.2):Int) =
  (↑(List.length x1.2):Int)) then some false else lp (Int×PUnit) Bool (fun (again:Int×PUnit→Option Bool) (x:Int×PUnit)=>bif decide (x.1<(↑(List.length x0.1) :
  Int)) then bif inB x.1 (List.length x0.1) then bif inB x.1 (List.length x1.1) then bif !decide (List.getD x0.1 (Int.toNat x.1) (0:Int)=List.getD x1.1 (Int.toNat x.1)
  (0:Int)) then some false else again (IntKind.wrap .i64 (x.1+(1:Int)),PUnit.unit) else none else none else lp (Int×PUnit) Bool (fun (again:Int×PUnit→Option Bool)
  (x:Int×PUnit) =>
 let v11:Bool:=!decide ((List.getD x0.2 (Int.toNat x.1) ([],(0:Int),(0:Int))).2.1=(List.getD x1.2 (Int.toNat x.1) ([],(0:Int),(0:Int))).2.1);
 let v12:Bool:=!v11;
 let v13:Bool:=bif v11 then true else !decide ((List.getD x0.2 (Int.toNat x.1) ([],(0:Int),(0:Int))).2.2=(List.getD x1.2 (Int.toNat x.1) ([],(0:Int),(0 :
  Int))).2.2);
 let v14:Bool:=!v12||v12;
 let v15:Bool:=!v13;
 let v16:Bool:=!v15||v15;bif decide (x.1<(↑(List.length x0.2):Int)) then bif inB x.1 (List.length x0.2) then bif inB x.1 (List.length x1.2) then bif v14 then bif v14
  then bif v14&&v14 then bif v11||v12 then bif v16 then bif v16 then bif v16 then bif v16 then bif v16&&v16 then bif v13||v15 then bif bif v13 then true else !decide
  ((↑(List.length (List.getD x0.2 (Int.toNat x.1) ([],(0:Int),(0:Int))).1):Int)=(↑(List.length (List.getD x1.2 (Int.toNat x.1) ([],(0:Int),(0:Int))).1):Int))
  then some false else lp (Int×PUnit) Bool (fun (again_1:Int×PUnit→Option Bool) (x_1:Int×PUnit)=>bif decide (x_1.1<(↑(List.length (List.getD x0.2 (Int.toNat x.1)
  ([],(0:Int),(0:Int))).1):Int)) then bif inB x_1.1 (List.length (List.getD x0.2 (Int.toNat x.1) ([],(0:Int),(0:Int))).1) then bif inB x_1.1 (List.length
  (List.getD x1.2 (Int.toNat x.1) ([],(0:Int),(0:Int))).1) then bif !decide (List.getD (List.getD x0.2 (Int.toNat x.1) ([],(0:Int),(0:Int))).1 (Int.toNat x_1.1)
  (0:Int)=List.getD (List.getD x1.2 (Int.toNat x.1) ([],(0:Int),(0:Int))).1 (Int.toNat x_1.1) (0:Int)) then some false else again_1 (IntKind.wrap .i64 (x_1.1
  + (1:Int)),PUnit.unit) else none else none else again (IntKind.wrap .i64 (x.1+(1:Int)),PUnit.unit)) ((0:Int),PUnit.unit) else none else none else none else none else
  none else none else none else none else none else none else none else none else some true) ((0:Int),PUnit.unit)) ((0:Int),PUnit.unit) else none else none else none else none else
  none else none
noncomputable def ref05_Same (x0:(List Int)×List ((List Int)×Int×Int)) (x1:(List Int)×List ((List Int)×Int×Int)):Option Bool:=ref05_Same_b lpK jnK x0 x1
noncomputable def c37:Ctr:=⟨[T25,T25],[],[],.one .bool,fun x _ _=>ref05_Same x.1 x.2.1⟩
theorem e37 (lp:Lp) (jn:Jn):∀(x:TsS c37.as) (F:TsF c37.fs) (y:TsS c37.cs),ref05_Same_b lp jn x.1 x.2.1=runC lp jn (ctxT tabs lits (ctxOf prog shs inls its [] [(24,r24),(22,r22)])) hints 4 37 f37 c37 x F y:=fun x F y=>by kernel_rfl
theorem l37:(ctxT tabs lits (ctxOf prog shs inls its [] [(24,r24),(22,r22)])).ok:=ctxT_ok (q24)
theorem ok37:c37.ok prog 37:=Ctr.of_den l37 hmix (hl:=hints) (d:=4) func37 rfl (by decide) (e37 lpK jnK)
noncomputable def ref05_Dual_b (lp:Lp) (jn:Jn) (ref05_within:(Int)→(Int)→Option (Bool)) (x0:(List Int)×List ((List Int)×Int×Int)):Option (((List Int)×List ((List Int)×Int×Int))×Int×Unit) :=
 
 let v3:Bool:=decide ((↑(List.length x0.1):Int)>(6:Int));
 let v4:Bool:=!v3;
 let v5:Bool:=!v4||v4;bif decide ((↑(List.length x0.2):Int)=(0:Int)) then some (([],[]),(14:Int),PUnit.unit) else lp (List Int×List Int×Int×PUnit) ((List Int ×
  List (List Int×Int×Int))×Int×PUnit) (fun (again:List Int×List Int×Int×PUnit→Option ((List Int×List (List Int×Int×Int))×Int×PUnit)) (x:List Int×List Int ×
  Int×PUnit) =>
 let v8:List Int:=[x.2.2.1];
 let v9:Int×PUnit:=(IntKind.wrap .i64 (x.2.2.1+(1:Int)),PUnit.unit);
 let v10:Bool:=inB x.2.2.1 (List.length x0.2);
 let v11:List Int:=x.2.1++v8;bif decide (x.2.2.1<(↑(List.length x0.2):Int)) then bif v10 then jn (Int×PUnit) ((List Int×List (List Int×Int×Int))×Int ×
  PUnit) (fun (x_1:Int×PUnit) =>
 let v13:List Int:=x.1++[x_1.1];bif fitB (List.length x.1+(1:Nat)) (8:Nat) then bif fitB (List.length x.2.1+(1:Nat)) (8:Nat) then bif v10 then bif decide
  ((List.getD x0.2 (Int.toNat x.2.2.1) ([],(0:Int),(0:Int))).2.1=(3:Int)) then bif fitB (List.length v13+(1:Nat)) (8:Nat) then bif fitB (List.length v11+(1 :
  Nat)) (8:Nat) then again (v13++[(-1:Int)],v11++v8,v9) else none else none else again (v13,v11,v9) else none else none else none) fun (j:Int×PUnit→Option ((List Int ×
  List (List Int×Int×Int))×Int×PUnit))=>bif decide ((List.getD x0.2 (Int.toNat x.2.2.1) ([],(0:Int),(0:Int))).2.1=(1:Int)) then j ((-1:Int),PUnit.unit)
  else j ((1:Int),PUnit.unit) else none else bif v5 then bif v5 then bif v3||v4 then bif bif v3 then true else decide ((↑(List.length x.2.1):Int)>(12:Int)) then some (([],
  []),(4:Int),PUnit.unit) else lp (Int×(List Int×List (List Int×Int×Int))×List Int×List (List Int×Int×Int)×PUnit) ((List Int×List (List Int×Int×Int))×Int ×
  PUnit) (fun (again:Int×(List Int×List (List Int×Int×Int))×List Int×List (List Int×Int×Int)×PUnit→Option ((List Int×List (List Int×Int×Int))×Int×PUnit))
  (x_1:Int×(List Int×List (List Int×Int×Int))×List Int×List (List Int×Int×Int)×PUnit) =>
 let v14:Bool:=inB x_1.1 (List.length x.2.1);
 let v15:Bool:=Nat.ble (Nat.succ (Int.toNat x_1.1)) (List.length x.2.1);
 let v16:Int:=List.getD x.2.1 (Int.toNat x_1.1) (0:Int);
 let v17:Bool:=inB v16 (List.length x0.2);
 let v18:List (List Int×Int×Int)×PUnit:=(x_1.2.2.2.1,PUnit.unit);bif decide (x_1.1<(↑(List.length x.2.1):Int)) then bif v14 then bif v15 then bif v17 then
  obind (ref05_within (List.getD x0.2 (Int.toNat v16) ([],(0:Int),(0:Int))).2.2 (1048576:Int)) fun (t:Bool)=>bif !t then some (([],[]),(5:Int),PUnit.unit) else bif
  inB x_1.1 (List.length x.1) then bif Nat.ble (Nat.succ (Int.toNat x_1.1)) (List.length x.1) then bif v14 then bif v15 then bif v17 then bif fitB (List.length x_1.2.2.1 +
  (1:Nat)) (8:Nat) then again (IntKind.wrap .i64 (x_1.1+(1:Int)),x_1.2.1,x_1.2.2.1++[IntKind.wrap .i64 ((0:Int) - IntKind.wrap .i64
  (List.getD x.1 (Int.toNat x_1.1) (0:Int)*(List.getD x0.2 (Int.toNat v16) ([],(0:Int),(0:Int))).2.2))],v18) else none else none else none else none else none else
  none else none else none else none else lp (Int×List Int×List (List Int×Int×Int)×PUnit) ((List Int×List (List Int×Int×Int))×Int×PUnit) (fun (again:Int×List Int ×
  List (List Int×Int×Int)×PUnit→Option ((List Int×List (List Int×Int×Int))×Int×PUnit)) (x_2:Int×List Int×List (List Int×Int×Int)×PUnit)=>bif decide
  (x_2.1<(↑(List.length x0.1):Int)) then bif inB x_2.1 (List.length x0.1) then lp (Int×List Int×Int×Int×PUnit) ((List Int×List (List Int×Int×Int))×Int×PUnit)
  (fun (again_1:Int×List Int×Int×Int×PUnit→Option ((List Int×List (List Int×Int×Int))×Int×PUnit)) (x_3:Int×List Int×Int×Int×PUnit) =>
 let v23:Int:=List.getD x.2.1 (Int.toNat x_3.1) (0:Int);bif decide (x_3.1<(↑(List.length x.2.1):Int)) then bif inB x_3.1 (List.length x.1) then bif Nat.ble
  (Nat.succ (Int.toNat x_3.1)) (List.length x.1) then bif inB x_3.1 (List.length x.2.1) then bif Nat.ble (Nat.succ (Int.toNat x_3.1)) (List.length x.2.1) then bif inB v23
  (List.length x0.2) then bif inB x_2.1 (List.length (List.getD x0.2 (Int.toNat v23) ([],(0:Int),(0:Int))).1) then bif fitB (List.length x_3.2.1+(1:Nat)) (8:Nat)
  then again_1 (IntKind.wrap .i64 (x_3.1+(1:Int)),x_3.2.1++[IntKind.wrap .i64 (List.getD x.1 (Int.toNat x_3.1) (0:Int)*List.getD (List.getD x0.2
  (Int.toNat v23) ([],(0:Int),(0:Int))).1 (Int.toNat x_2.1) (0:Int))],x_3.2.2.1,x_3.2.2.2.1,PUnit.unit) else none else none else none else none else none else
  none else none else bif fitB (List.length x_2.2.2.1+(1:Nat)) (40:Nat) then again (IntKind.wrap .i64 (x_2.1+(1:Int)),x_2.2.1,x_2.2.2.1 ++
  [(x_3.2.1,x_3.2.2.1,x_3.2.2.2.1)],PUnit.unit) else none) ((0:Int),[],(1:Int),List.getD x0.1 (Int.toNat x_2.1) (0:Int),PUnit.unit) else none else some
  ((x_2.2.1,x_2.2.2.1),(0:Int),PUnit.unit)) ((0:Int),x_1.2.2.1,v18)) ((0:Int),([],[]),[],[],PUnit.unit) else none else none else none) ([],[],(0:Int),
  PUnit.unit)
noncomputable def ref05_Dual (x0:(List Int)×List ((List Int)×Int×Int)):Option (((List Int)×List ((List Int)×Int×Int))×Int×Unit):=ref05_Dual_b lpK jnK ref05_within x0
noncomputable def c38:Ctr:=⟨[T25],[],[],.tup [T25,i64],fun x _ _=>ref05_Dual x.1⟩
theorem e38 (lp:Lp) (jn:Jn) (ref05_within:(Int)→(Int)→Option (Bool)):∀(x:TsS c38.as) (F:TsF c38.fs) (y:TsS c38.cs),ref05_Dual_b lp jn ref05_within x.1=runC lp jn (ctxT tabs lits (ctxOf prog shs inls its [(54,⟨[i64,i64],[],[],.one .bool,fun x _ _=>ref05_within x.1 x.2.1⟩)] [(24,r24),(22,r22)])) hints 4 38 f38 c38 x F y:=fun x F y=>by kernel_rfl
theorem l38:(ctxT tabs lits (ctxOf prog shs inls its [(54,c54)] [(24,r24),(22,r22)])).ok:=ctxT_ok (ctxOf_cons (q24) (by kernel_rfl) ok54)
theorem ok38:c38.ok prog 38:=Ctr.of_den l38 hmix (hl:=hints) (d:=4) func38 rfl (by decide) (e38 lpK jnK ref05_within)
noncomputable def law05_ProgramDuals_b (_:Lp) (_:Jn) (law05_awake:Option (Bool)) (law05_few:((List Int)×List ((List Int)×Int×Int))→Option (Bool)) (ref05_Valid:((List Int)×List ((List Int)×Int×Int))→Option (Bool)) (program_Dual:((List Int)×List ((List Int)×Int×Int))→Option (((List Int)×List ((List Int)×Int×Int))×Int×Unit)) (ref05_Same:((List Int)×List ((List Int)×Int×Int))→((List Int)×List ((List Int)×Int×Int))→Option (Bool)) (ref05_Dual:((List Int)×List ((List Int)×Int×Int))→Option (((List Int)×List ((List Int)×Int×Int))×Int×Unit)) (x0:(List Int)×List ((List Int)×Int×Int)):Option Bool :=
 obind law05_awake fun (t:Bool)=>bif !t then some false else obind (law05_few x0) fun (t:Bool)=>bif !t then some true else obind (program_Dual x0) fun (t:(List Int×List (List Int
  × Int×Int))×Int×PUnit)=>obind (ref05_Valid x0) fun (t_1:Bool)=>bif !t_1 then obind (ref05_Same t.1 ([],[])) fun (t_2:Bool) =>
 let v8:Bool:=!t_2||t_2;bif v8 then bif v8 then some (bif t_2 then decide (t.2.1=(1:Int)) else false) else none else none else obind (ref05_Dual x0) fun (t_2:(List Int ×
  List (List Int×Int×Int))×Int×PUnit)=>obind (ref05_Same t.1 t_2.1) fun (t_3:Bool) =>
 let v9:Bool:=!t_3||t_3;bif v9&&v9 then bif v9 then some (bif t_3 then decide (t.2.1=t_2.2.1) else false) else none else none
noncomputable def law05_ProgramDuals (x0:(List Int)×List ((List Int)×Int×Int)):Option Bool:=law05_ProgramDuals_b lpK jnK law05_awake law05_few ref05_Valid program_Dual ref05_Same ref05_Dual x0
noncomputable def c8:Ctr:=⟨[T25],[],[],.one .bool,fun x _ _=>law05_ProgramDuals x.1⟩
theorem e8 (lp:Lp) (jn:Jn) (law05_awake:Option (Bool)) (law05_few:((List Int)×List ((List Int)×Int×Int))→Option (Bool)) (ref05_Valid:((List Int)×List ((List Int)×Int×Int))→Option (Bool)) (program_Dual:((List Int)×List ((List Int)×Int×Int))→Option (((List Int)×List ((List Int)×Int×Int))×Int×Unit)) (ref05_Same:((List Int)×List ((List Int)×Int×Int))→((List Int)×List ((List Int)×Int×Int))→Option (Bool)) (ref05_Dual:((List Int)×List ((List Int)×Int×Int))→Option (((List Int)×List ((List Int)×Int×Int))×Int×Unit)):∀(x:TsS c8.as) (F:TsF c8.fs) (y:TsS c8.cs),law05_ProgramDuals_b lp jn law05_awake law05_few ref05_Valid program_Dual ref05_Same ref05_Dual x.1=runC lp jn (ctxT tabs lits (ctxOf prog shs inls its [(38,⟨[T25],[],[],.tup [T25,i64],fun x _ _=>ref05_Dual x.1⟩),(37,⟨[T25,T25],[],[],.one .bool,fun x _ _=>ref05_Same x.1 x.2.1⟩),(36,⟨[T25],[],[],.tup [T25,i64],fun x _ _=>program_Dual x.1⟩),(16,⟨[T25],[],[],.one .bool,fun x _ _=>ref05_Valid x.1⟩),(12,⟨[T25],[],[],.one .bool,fun x _ _=>law05_few x.1⟩),(11,⟨[],[],[],.one .bool,fun _ _ _=>law05_awake⟩)] [(24,r24),(22,r22)])) hints 4 8 f8 c8 x F y:=fun x F y=>by kernel_rfl
theorem l8:(ctxT tabs lits (ctxOf prog shs inls its [(38,c38),(37,c37),(36,c36),(16,c16),(12,c12),(11,c11)] [(24,r24),(22,r22)])).ok:=ctxT_ok (ctxOf_cons (ctxOf_cons (ctxOf_cons (ctxOf_cons (ctxOf_cons (ctxOf_cons (q24) (by kernel_rfl) ok11) (by kernel_rfl) ok12) (by kernel_rfl) ok16) (by kernel_rfl) ok36) (by kernel_rfl) ok37) (by kernel_rfl) ok38)
theorem ok8:c8.ok prog 8:=Ctr.of_den l8 hmix (hl:=hints) (d:=4) func8 rfl (by decide) (e8 lpK jnK law05_awake law05_few ref05_Valid program_Dual ref05_Same ref05_Dual)
end Go.Proofs.Ytnbbackjofgcfaa

namespace Go.Proofs.Ytnbbackjofgcfaa
namespace Dn
section
variable {T R α σ:Type}
theorem obind_some' {t:T} {k:T→Option R}:obind (some t) k=k t:=rfl
theorem loopF_eq {F:(α→Option R)→α→Option R} {g:α→Option R} (I:α→Prop) (μ:α→Nat)
  (h:∀x rec,I x→(∀y,I y→μ y<μ x→rec y=g y)→F rec x=g x):∀{n:Nat} {x:α},I x→μ x<n→loopF F n x=g x
 | 0,x,_,hn=>by omega
 | n+1,x,hx,hn=>by
  rw[loopF_succ]
  exact h x _ hx fun y hy hlt=>loopF_eq I μ h hy (by omega)
theorem lpK_loop {F:(α→Option R)→α→Option R} {g:α→Option R} (I:α→Prop) (μ:α→Nat)
  (h:∀x rec,I x→(∀y,I y→μ y<μ x→rec y=g y)→F rec x=g x) {x:α} (hx:I x) (hn:μ x<1180591620717411303424):lpK α R F x=g x:=loopF_eq I μ h hx hn
theorem jnK_eq' {j:α→Option R} {f:(α→Option R)→Option R}:jnK α R j f=f j:=rfl
theorem wrap_id {x:Int} (h1: -9223372036854775808≤x) (h2:x<9223372036854775808):IntKind.wrap .i64 x=x:=by
 rw[IntKind.wrap_i64];omega
def upF (b:Nat→σ→(σ→Option R)→Option R) (f:σ→Option R):Nat→Nat→σ→Option R
 | 0,_,s=>f s
 | k+1,i,s=>b i s (upF b f k (i+1))
theorem loopF_up {F:(α→Option R)→α→Option R} (n:Nat) (hn:n≤1180591620717411303423) (enc:Nat→σ→α) (b:Nat→σ→(σ→Option R)→Option R) (f:σ→Option R)
  (hb:∀again (i:Nat) s,i<n→F again (enc i s)=b i s (fun s'=>again (enc (i+1) s'))) (hf:∀again s,F again (enc n s)=f s) (s:σ) :
  loopF F K0 (enc 0 s)=upF b f n 0 s:=by
 have key:∀(k:Nat) (i:Nat) (m:Nat) (s:σ),i+k=n→k<m→loopF F m (enc i s)=upF b f k i s:=by
  intro k
  induction k with
  | zero =>
   intro i m s h1 h2
   obtain ⟨m,rfl⟩:∃m',m=m'+1:=⟨m - 1,by omega⟩
   have:i=n:=by omega
   subst this
   simp only[loopF_succ,hf,upF]
  | succ k ih =>
   intro i m s h1 h2
   obtain ⟨m,rfl⟩:∃m',m=m'+1:=⟨m - 1,by omega⟩
   simp only[loopF_succ,upF]
   rw[hb _ _ _ (by omega)]
   congr 1
   funext s'
   exact ih (i+1) m s' (by omega) (by omega)
 exact key n 0 K0 s (by omega) (by unfold K0;omega)
theorem inB_nat {i n:Nat}:inB (i:Int) n=decide (i<n):=by
 rw[Bool.eq_iff_iff,inB_iff,decide_eq_true_iff];omega
theorem inB_of {i:Int} {n:Nat} (h1:0≤i) (h2:i<n):inB i n=true:=inB_iff.2 ⟨h1,h2⟩
theorem fitB_of {n k:Nat} (h:n*k≤140737488355328):fitB n k=true:=fitB_iff.2 h
theorem ble_of {n m:Nat} (h:n≤m):Nat.ble n m=true:=by rw[Nat.ble_eq];exact h
theorem cT0 {α:Sort _} {c:Bool} (h:c=true) (a b:α):cond c a b=a:=by subst h;rfl
theorem cT {α:Sort _} (a b:α):cond true a b=a:=cT0 (Eq.trans rfl rfl) a b
theorem cF0 {α:Sort _} {c:Bool} (h:c=false) (a b:α):cond c a b=b:=by subst h;rfl
theorem cF {α:Sort _} (a b:α):cond false a b=b:=cF0 (Eq.trans rfl rfl) a b
theorem or_self_not {b:Bool}:(b||!b)=true:=by cases b<;>rfl
theorem not_or_self' {b:Bool}:(!b||b)=true:=by cases b<;>rfl
theorem getD_nat {l:List α} {d:α} {i:Nat} (h:i<l.length):l.getD i d=l[i]:=by simp[List.getD,h]
theorem lget_set_self {l:List α} {d a:α} {i:Nat} (h:i<l.length):(l.set i a).getD i d=a:=by simp[List.getD,h]
theorem lget_set_ne {l:List α} {d a:α} {i j:Nat} (h:i≠j):(l.set i a).getD j d=l.getD j d:=by simp[List.getD,List.getElem?_set_ne h]
end
end Dn
end Go.Proofs.Ytnbbackjofgcfaa

namespace Go.Proofs.Ytnbbackjofgcfaa
namespace Dn
abbrev Fq:=Int×Int
def okF (a:Fq):Prop:=(1≤a.2∧a.2≤1152921504606846976)∧(-1152921504606846976≤a.1∧a.1≤1152921504606846976)∧Nat.gcd a.1.natAbs a.2.natAbs=1
instance (a:Fq):Decidable (okF a):=by unfold okF;infer_instance
def fitsQ (q:Rat):Prop:=q.num.natAbs≤1152921504606846976∧q.den≤1152921504606846976
instance (q:Rat):Decidable (fitsQ q):=by unfold fitsQ;infer_instance
end Dn
end Go.Proofs.Ytnbbackjofgcfaa

namespace Go.Proofs.Ytnbbackjofgcfaa
open Try Dn Dn.Sh
end Go.Proofs.Ytnbbackjofgcfaa

namespace Go.Proofs.Ytnbbackjofgcfaa
open Try Dn Dn.Sh
def hl (n:Nat):Int×Int:=(((n / 18446744073709551616:Nat):Int),((n % 18446744073709551616:Nat):Int))
end Go.Proofs.Ytnbbackjofgcfaa

namespace Go.Proofs.Ytnbbackjofgcfaa
open Try Dn Dn.Sh
end Go.Proofs.Ytnbbackjofgcfaa

namespace Go.Proofs.Ytnbbackjofgcfaa
open Try Dn Dn.Sh
end Go.Proofs.Ytnbbackjofgcfaa

namespace Go.Proofs.Ytnbbackjofgcfaa
open Try Dn Dn.Sh
end Go.Proofs.Ytnbbackjofgcfaa

namespace Go.Proofs.Ytnbbackjofgcfaa
open Try Dn Dn.Sh
end Go.Proofs.Ytnbbackjofgcfaa

namespace Go.Proofs.Ytnbbackjofgcfaa
open Try Dn Dn.Sh
end Go.Proofs.Ytnbbackjofgcfaa

namespace Go.Proofs.Ytnbbackjofgcfaa
namespace Dn
theorem lpK_up {σ α R:Type} {F:(α→Option R)→α→Option R} (n:Nat) (hn:n≤1180591620717411303423) (enc:Nat→σ→α) (b:Nat→σ→(σ→Option R)→Option R) (f:σ→Option R)
  (hb:∀again (i:Nat) s,i<n→F again (enc i s)=b i s (fun s'=>again (enc (i+1) s'))) (hf:∀again s,F again (enc n s)=f s) (s:σ) :
  lpK α R F (enc 0 s)=upF b f n 0 s:=loopF_up n hn enc b f hb hf s
def idxI {α:Type} (p:α→Bool):List α→Int→Int
 | [],_=> -1
 | a ::l,i=>bif p a then i else idxI p l (i+1)
theorem idxI_neg {α:Type} {p:α→Bool}:∀{l:List α} {i:Int},0≤i→(idxI p l i<0↔∀a ∈ l,p a=false)
 | [],i,h=>by simp[idxI]
 | a ::l,i,h=>by
  unfold idxI
  cases hp:p a with
  | true=>simp only[cond_true,List.mem_cons,forall_eq_or_imp,hp];simp;omega
  | false=>simp only[cond_false,List.mem_cons,forall_eq_or_imp,hp,true_and];exact idxI_neg (by omega)
theorem idxI_drop {α:Type} {p:α→Bool} {l:List α} {d:α} {i:Nat} (h:i<l.length):idxI p (l.drop i) i=bif p (l.getD i d) then (i:Int) else idxI p (l.drop (i+1)) ((i:Int)+1):=by
 rw[List.drop_eq_getElem_cons h,getD_nat h]
 rfl
theorem index_loop {α:Type} {f:(α×Unit)→Option Bool} {d:α} {p:α→Bool} {l:List α} (hl:l.length≤1000000) (h:∀a,a ∈ l→f (a,())=some (p a)) :
  lpK (Int×PUnit) Int (fun (again:Int×PUnit→Option Int) (x:Int×PUnit)=>bif decide (x.1<(↑(List.length l):Int)) then bif inB x.1 (List.length l) then obind (f
   (List.getD l (Int.toNat x.1) d,PUnit.unit)) fun (t:Bool)=>bif t then some x.1 else again
   (IntKind.wrap .i64 (x.1+(1:Int)),PUnit.unit) else none else some (-1:Int)) ((0:Int),PUnit.unit)=some (idxI p l 0):=by
 refine lpK_loop (g:=fun _=>some (idxI p l 0)) (I:=fun (x:Int×PUnit)=>0≤x.1∧x.1≤l.length∧idxI p (l.drop x.1.toNat) x.1=idxI p l 0) (μ:=fun (x:Int×PUnit)=>((l.length:Int) - x.1).toNat) ?_ ⟨by simp,by simp only;omega,rfl⟩ (by simp only;omega)
 rintro ⟨i,_⟩ rec ⟨h0,h1,h2⟩ hrec
 simp only at h0 h1 h2 ⊢
 by_cases hi:i<l.length
 ·obtain ⟨n,rfl⟩:∃n:Nat,i=n:=⟨i.toNat,by omega⟩
  rw[decide_eq_true hi,cond_true,inB_of h0 hi,cond_true,Int.toNat_natCast,h _ (by rw[getD_nat (by omega)];exact List.getElem_mem (by omega)),obind_some',wrap_id (by omega) (by omega)]
  rw[Int.toNat_natCast,idxI_drop (d:=d) (by omega)] at h2
  cases hp:p (l.getD n d) with
  | true=>rw[hp,cond_true] at h2;rw[cond_true,h2]
  | false=>rw[hp,cond_false] at h2;rw[cond_false];exact hrec _ ⟨by simp only;omega,by simp only;omega,h2⟩ (by simp only;omega)
 ·rw[decide_eq_false hi,cond_false]
  have e:i.toNat=l.length:=by omega
  rw[e,List.drop_length] at h2
  rw[←h2]
  rfl
theorem upF_all {R σ:Type} {b:Nat→σ→(σ→Option R)→Option R} {f:σ→Option R} {p:Nat→Bool} {r:Option R} {s:σ} (n:Nat) (hb:∀i (k:σ→Option R),i<n→b i s k=bif p i then k s else r) :
  ∀(k i:Nat),i+k≤n→upF b f k i s=bif (List.range' i k).all p then f s else r
 | 0,i,_=>rfl
 | k+1,i,h=>by
  simp only[upF,hb i _ (by omega),List.range'_succ,List.all_cons]
  cases hp:p i with
  | true=>exact upF_all n hb k (i+1) (by omega)
  | false=>rfl
end Dn
end Go.Proofs.Ytnbbackjofgcfaa

namespace Go.Proofs.Ytnbbackjofgcfaa
open Try Dn Dn.Sh
end Go.Proofs.Ytnbbackjofgcfaa

namespace Go.Proofs.Ytnbbackjofgcfaa
open Try Dn Dn.Sh
end Go.Proofs.Ytnbbackjofgcfaa

namespace Go.Proofs.Ytnbbackjofgcfaa
namespace Dn
end Dn
end Go.Proofs.Ytnbbackjofgcfaa

namespace Go.Proofs.Ytnbbackjofgcfaa
open Try Dn Dn.Sh
abbrev Rw:=List Int×Int×Int
abbrev Pg:=List Int×List Rw
abbrev rw0:Rw:=([],(0:Int),(0:Int))
def inC (n:Int):Bool:=decide (-1048576≤n∧n≤1048576)
def inR (n:Int):Bool:=decide (-1073741824≤n∧n≤1073741824)
def rowOk (n:Nat) (r:Rw):Bool:=decide (r.1.length=n)&&(decide (1≤r.2.1∧r.2.1≤3)&&(inR r.2.2&&r.1.all inC))
def sizeP (p:Pg):Bool:=decide (1≤p.1.length∧p.1.length≤12∧p.2.length≤6)
def validP (p:Pg):Bool:=sizeP p&&(p.1.all inC&&p.2.all (rowOk p.1.length))
theorem any_idx {α:Type} {p:α→Bool} {l:List α}:decide (idxI p l 0≥0)=l.any p:=by
 have:=idxI_neg (p:=p) (l:=l) (i:=0) (by omega)
 rw[Bool.eq_iff_iff,decide_eq_true_iff,List.any_eq_true]
 constructor
 ·intro h1
  by_cases h2:∃a ∈ l,p a=true
  ·exact h2
  ·have:idxI p l 0<0:=this.2 fun a ha=>by
    cases e:p a with
    | false=>rfl
    | true=>exact (h2 ⟨a,ha,e⟩).elim
   omega
 ·rintro ⟨a,ha,h3⟩
  by_cases h2:idxI p l 0<0
  ·rw[this.1 h2 a ha] at h3;cases h3
  ·omega
theorem any_not {α:Type} {p:α→Bool} {l:List α}:(l.any fun a=>!p a)=!l.all p:=by
 induction l with
 | nil=>rfl
 | cons a l ih=>simp[ih,Bool.not_and]
theorem all_range {α:Type} {p:α→Bool} {l:List α} (d:α):(List.range' 0 l.length).all (fun i=>p (l.getD i d))=l.all p:=by
 rw[Bool.eq_iff_iff,List.all_eq_true,List.all_eq_true]
 constructor
 ·intro h a ha
  obtain ⟨i,hi,rfl⟩:=List.getElem_of_mem ha
  have:=h i (List.mem_range'.2 ⟨i,hi,by omega⟩)
  rwa [getD_nat hi] at this
 ·intro h i hi
  obtain ⟨k,hk,rfl⟩:=List.mem_range'.1 hi
  rw[getD_nat (by omega)]
  exact h _ (List.getElem_mem _)
theorem contains81 {f:(Int×Unit)→Option Bool} {p:Int→Bool} {l:List Int} (hl:l.length≤1000000) (h:∀a,a ∈ l→f (a,())=some (p a)):slices_ContainsFunc_81 l f=some (l.any p):=by
 have h1:slices_IndexFunc_117 l f=some (idxI p l 0):=by
  unfold slices_IndexFunc_117 slices_IndexFunc_117_b
  exact index_loop (f:=f) (d:=(0:Int)) hl h
 simp only[slices_ContainsFunc_81,slices_ContainsFunc_81_b,h1,obind_some',any_idx]
theorem containsR {f:(Rw×Unit)→Option Bool} {p:Rw→Bool} {l:List Rw} (hl:l.length≤1000000) (h:∀a,a ∈ l→f (a,())=some (p a)):slices_ContainsFunc_41 l f=some (l.any p):=by
 have h1:slices_IndexFunc_93 l f=some (idxI p l 0):=by
  unfold slices_IndexFunc_93 slices_IndexFunc_93_b
  exact index_loop (f:=f) (d:=rw0) hl h
 simp only[slices_ContainsFunc_41,slices_ContainsFunc_41_b,h1,obind_some',any_idx]
theorem far_ok (n m:Int) (h0:0≤m) (h1:m≤1099511627776):program_Valid_1_1 n m=some (!decide (-m≤n∧n≤m)):=by
 have hw:IntKind.wrap .i64 (0 - m)= -m:=by rw[wrap_id (by omega) (by omega)];omega
 simp only[program_Valid_1_1,program_Valid_1_1_b,hw,not_or_self',or_self_not,Bool.and_self,cT]
 by_cases g1:n< -m
 ·rw[decide_eq_true g1,decide_eq_false (show ¬ (-m≤n∧n≤m) by omega)];rfl
 ·rw[decide_eq_false g1]
  by_cases g2:n>m
  ·rw[decide_eq_true g2,decide_eq_false (show ¬ (-m≤n∧n≤m) by omega)];rfl
  ·rw[decide_eq_false g2,decide_eq_true (show (-m≤n∧n≤m) by omega)];rfl
theorem rwithin_ok (n m:Int) (h0:0≤m) (h1:m≤1099511627776):ref05_within n m=some (decide (-m≤n∧n≤m)):=by
 have hw:IntKind.wrap .i64 (0 - m)= -m:=by rw[wrap_id (by omega) (by omega)];omega
 simp only[ref05_within,ref05_within_b,hw,not_or_self',Bool.and_self,cT]
 by_cases g1:n≥ -m
 ·rw[decide_eq_true g1]
  by_cases g2:n≤m
  ·rw[decide_eq_true g2,decide_eq_true (show (-m≤n∧n≤m) by omega)];rfl
  ·rw[decide_eq_false g2,decide_eq_false (show ¬ (-m≤n∧n≤m) by omega)];rfl
 ·rw[decide_eq_false g1,decide_eq_false (show ¬ (-m≤n∧n≤m) by omega)];rfl
theorem farC (n:Int):program_Valid_1_1 n 1048576=some (!inC n):=far_ok n _ (by omega) (by omega)
theorem farR (n:Int):program_Valid_1_1 n 1073741824=some (!inR n):=far_ok n _ (by omega) (by omega)
theorem rinC (n:Int):ref05_within n 1048576=some (inC n):=rwithin_ok n _ (by omega) (by omega)
theorem rinR (n:Int):ref05_within n 1073741824=some (inR n):=rwithin_ok n _ (by omega) (by omega)
theorem allC_loop {R:Type} {l:List Int} (hl:l.length≤1000000) {yes no:Option R} :
  lpK (Int×PUnit) R (fun (again:Int×PUnit→Option R) (x:Int×PUnit)=>bif decide (x.1<(↑(List.length l):Int)) then bif inB x.1 (List.length l) then obind (ref05_within (List.getD l (Int.toNat x.1) (0:Int)) (1048576:Int)) fun (t:Bool)=>bif !t then no else again
   (IntKind.wrap .i64 (x.1+(1:Int)),PUnit.unit) else none else yes) ((0:Int),PUnit.unit)=bif l.all inC then yes else no:=by
 refine (lpK_up (α:=Int×PUnit) l.length (by omega) (fun i (_:Unit)=>((i:Int),PUnit.unit)) (fun i s k=>bif inC (l.getD i 0) then k s else no) (fun _=>yes) ?_ ?_ ()).trans ?_
 ·intro again i _ hi
  have hw:IntKind.wrap .i64 ((i:Int)+1)=((i+1:Nat):Int):=by rw[wrap_id (by omega) (by omega)];rfl
  simp only[inB_nat,decide_eq_true hi,decide_eq_true (show (i:Int)<l.length by omega),cT,Int.toNat_natCast,hw,rinC,obind_some']
  cases inC (l.getD i 0)<;>rfl
 ·intro again _
  simp only[decide_eq_false (show ¬ (l.length:Int)<l.length by omega),cF]
 ·refine (upF_all (p:=fun i=>inC (l.getD i 0)) (r:=no) l.length (fun _ _ _=>rfl) l.length 0 (by omega)).trans ?_
  rw[all_range (p:=inC) (l:=l) 0]
theorem pValid_ok (p:Pg):program_Valid p=some (validP p):=by
 obtain ⟨c,rs⟩:=p
 simp only[program_Valid,program_Valid_b,program_Valid_1,program_Valid_1_b,not_or_self',or_self_not,Bool.and_self,cT,validP,sizeP]
 by_cases g1:(c.length:Int)<1
 ·rw[decide_eq_true g1,decide_eq_false (show ¬ (1≤c.length∧c.length≤12∧rs.length≤6) by omega)]
  rfl
 ·rw[decide_eq_false g1]
  by_cases g2:(c.length:Int)>12
  ·rw[decide_eq_true g2,decide_eq_false (show ¬ (1≤c.length∧c.length≤12∧rs.length≤6) by omega)]
   rfl
  ·rw[decide_eq_false g2]
   by_cases g3:(rs.length:Int)>6
   ·rw[decide_eq_true g3,decide_eq_false (show ¬ (1≤c.length∧c.length≤12∧rs.length≤6) by omega)]
    rfl
   ·rw[decide_eq_false g3,decide_eq_true (show (1≤c.length∧c.length≤12∧rs.length≤6) by omega)]
    have hc:∀l:List Int,l.length≤1000000→slices_ContainsFunc_81 l (fun x=>program_Valid_1_1 x.1 1048576)=some (!l.all inC):=fun l hl=>by
     rw[←any_not]
     exact contains81 hl fun a _=>farC a
    simp only[cF,cT,Bool.not_false,obind_some',hc c (by omega),Bool.true_and]
    cases hcc:c.all inC with
    | false=>rfl
    | true =>
     simp only[Bool.not_true,cF,Bool.true_and]
     refine (lpK_up (α:=Int×PUnit) rs.length (by omega) (fun i (_:Unit)=>((i:Int),PUnit.unit)) (fun i s k=>bif rowOk c.length (rs.getD i rw0) then k s else some false) (fun _=>some true) ?_ ?_ ()).trans ?_
     ·intro again i _ hi
      have hw:IntKind.wrap .i64 ((i:Int)+1)=((i+1:Nat):Int):=by rw[wrap_id (by omega) (by omega)];rfl
      simp only[inB_nat,decide_eq_true hi,decide_eq_true (show (i:Int)<rs.length by omega),cT,Int.toNat_natCast,hw]
      obtain ⟨a,k,b,e⟩:∃a k b,List.getD rs i rw0=(a,k,b):=⟨_,_,_,rfl⟩
      simp only[e,rowOk,farR,decide_eq_true (show (i:Int)≥0 by omega)]
      by_cases q1:a.length=c.length
      ·have hca:=hc a (by omega)
       simp only[decide_eq_true (show (a.length:Int)=c.length by omega),decide_eq_true q1,Bool.not_true,Bool.not_false,cT,cF,obind_some',hca,Bool.true_and]
       by_cases q2:k<1
       ·simp only[decide_eq_true q2,decide_eq_false (show ¬ (1≤k∧k≤3) by omega)]
        cases a.all inC<;>simp[obind_some']
       ·by_cases q3:k>3
        ·simp only[decide_eq_false q2,decide_eq_true q3,decide_eq_false (show ¬ (1≤k∧k≤3) by omega)]
         cases a.all inC<;>simp[obind_some']
        ·simp only[decide_eq_false q2,decide_eq_false q3,decide_eq_true (show (1≤k∧k≤3) by omega)]
         cases h1:a.all inC<;>cases h2:inR b<;>simp[obind_some',h2]
      ·simp only[decide_eq_false (show ¬ (a.length:Int)=c.length by omega),decide_eq_false q1]
       simp[obind_some']
     ·intro again _
      simp
     ·refine (upF_all (p:=fun i=>rowOk c.length (rs.getD i rw0)) (r:=some false) rs.length (fun _ _ _=>rfl) rs.length 0 (by omega)).trans ?_
      rw[all_range (p:=rowOk c.length) (l:=rs) rw0]
      cases rs.all (rowOk c.length)<;>rfl
theorem rValid_ok (p:Pg):ref05_Valid p=some (validP p):=by
 obtain ⟨c,rs⟩:=p
 simp only[ref05_Valid,ref05_Valid_b,not_or_self',or_self_not,cT,validP,sizeP]
 by_cases g1:(c.length:Int)<1
 ·rw[decide_eq_true g1,decide_eq_false (show ¬ (1≤c.length∧c.length≤12∧rs.length≤6) by omega)]
  rfl
 ·rw[decide_eq_false g1]
  by_cases g2:(c.length:Int)>12
  ·rw[decide_eq_true g2,decide_eq_false (show ¬ (1≤c.length∧c.length≤12∧rs.length≤6) by omega)]
   rfl
  ·rw[decide_eq_false g2]
   by_cases g3:(rs.length:Int)>6
   ·rw[decide_eq_true g3,decide_eq_false (show ¬ (1≤c.length∧c.length≤12∧rs.length≤6) by omega)]
    rfl
   ·rw[decide_eq_false g3,decide_eq_true (show (1≤c.length∧c.length≤12∧rs.length≤6) by omega)]
    simp only[cF,Bool.true_and]
    rw[allC_loop (l:=c) (by omega)]
    cases hcc:c.all inC with
    | false=>rfl
    | true =>
     simp only[cT,Bool.true_and]
     refine (lpK_up (α:=Int×PUnit) rs.length (by omega) (fun i (_:Unit)=>((i:Int),PUnit.unit)) (fun i s k=>bif rowOk c.length (rs.getD i rw0) then k s else some false) (fun _=>some true) ?_ ?_ ()).trans ?_
     ·intro again i _ hi
      have hw:IntKind.wrap .i64 ((i:Int)+1)=((i+1:Nat):Int):=by rw[wrap_id (by omega) (by omega)];rfl
      simp only[inB_nat,decide_eq_true hi,decide_eq_true (show (i:Int)<rs.length by omega),cT,Int.toNat_natCast,hw]
      obtain ⟨a,k,b,e⟩:∃a k b,List.getD rs i rw0=(a,k,b):=⟨_,_,_,rfl⟩
      simp only[e,rowOk,rinR]
      by_cases q1:a.length=c.length
      ·have hca:=fun (y n:Option Bool)=>allC_loop (l:=a) (by omega) (yes:=y) (no:=n)
       simp only[decide_eq_true (show (a.length:Int)=c.length by omega),decide_eq_true q1,Bool.not_true,cF,Bool.true_and]
       rw[hca]
       by_cases q2:k<1
       ·simp only[decide_eq_true q2,decide_eq_false (show ¬ (1≤k∧k≤3) by omega)]
        simp[obind_some']
       ·by_cases q3:k>3
        ·simp only[decide_eq_false q2,decide_eq_true q3,decide_eq_false (show ¬ (1≤k∧k≤3) by omega)]
         simp[obind_some']
        ·simp only[decide_eq_false q2,decide_eq_false q3,decide_eq_true (show (1≤k∧k≤3) by omega)]
         cases h1:a.all inC<;>cases h2:inR b<;>simp[obind_some']
      ·simp only[decide_eq_false (show ¬ (a.length:Int)=c.length by omega),decide_eq_false q1]
       simp[obind_some']
     ·intro again _
      simp
     ·refine (upF_all (p:=fun i=>rowOk c.length (rs.getD i rw0)) (r:=some false) rs.length (fun _ _ _=>rfl) rs.length 0 (by omega)).trans ?_
      rw[all_range (p:=rowOk c.length) (l:=rs) rw0]
      cases rs.all (rowOk c.length)<;>rfl
end Go.Proofs.Ytnbbackjofgcfaa

namespace Go.Proofs.Ytnbbackjofgcfaa
open Try Dn Dn.Sh
theorem obN {T R:Type} {t:T} {k:T→Option R}:obind (some t) k=k t:=id rfl
end Go.Proofs.Ytnbbackjofgcfaa

namespace Go.Proofs.Ytnbbackjofgcfaa
open Try Dn Dn.Sh
structure ValidP (p:Pg):Prop where
 cost:1≤p.1.length∧p.1.length≤12
 rows:p.2.length≤6
 cs:∀n ∈ p.1,inC n=true
 len:∀r ∈ p.2,r.1.length=p.1.length
 kind:∀r ∈ p.2,1≤r.2.1∧r.2.1≤3
 right:∀r ∈ p.2,inR r.2.2=true
 coefs:∀r ∈ p.2,∀n ∈ r.1,inC n=true
theorem validP_iff {p:Pg}:validP p=true↔ValidP p:=by
 unfold validP sizeP
 rw[Bool.and_eq_true,Bool.and_eq_true,decide_eq_true_iff,List.all_eq_true,List.all_eq_true]
 constructor
 ·rintro ⟨⟨h1,h2,h3⟩,h4,h5⟩
  have h6:∀r ∈ p.2,r.1.length=p.1.length∧(1≤r.2.1∧r.2.1≤3)∧inR r.2.2=true∧∀n ∈ r.1,inC n=true:=fun r hr=>by
   have:=h5 r hr
   unfold rowOk at this
   rw[Bool.and_eq_true,Bool.and_eq_true,Bool.and_eq_true,decide_eq_true_iff,decide_eq_true_iff,List.all_eq_true] at this
   exact this
  exact ⟨⟨h1,h2⟩,h3,h4,fun r hr=>(h6 r hr).1,fun r hr=>(h6 r hr).2.1,fun r hr=>(h6 r hr).2.2.1,fun r hr=>(h6 r hr).2.2.2⟩
 ·rintro ⟨h1,h2,h3,h4,h5,h6,h7⟩
  refine ⟨⟨h1.1,h1.2,h2⟩,h3,fun r hr=>?_⟩
  unfold rowOk
  rw[Bool.and_eq_true,Bool.and_eq_true,Bool.and_eq_true,decide_eq_true_iff,decide_eq_true_iff,List.all_eq_true]
  exact ⟨h4 r hr,h5 r hr,h6 r hr,h7 r hr⟩
end Go.Proofs.Ytnbbackjofgcfaa

namespace Go.Proofs.Ytnbbackjofgcfaa
open Try Dn Dn.Sh
theorem awakeP_ok:law05_awake=some true:=by kernel_rfl
def fewB (p:Pg):Bool:=decide (p.1.length≤14∧p.2.length≤8)&&p.2.all fun r=>decide (r.1.length≤14)
theorem fewP_ok (p:Pg):law05_few p=some (fewB p):=by
 obtain ⟨c,rs⟩:=p
 simp only[law05_few,law05_few_b,not_or_self',cT,fewB]
 by_cases h1:(c.length:Int)≤14
 ·by_cases h2:(rs.length:Int)≤8
  ·have hc:slices_ContainsFunc_41 rs (fun x=>law05_few_1 x.1)=some (!rs.all fun r=>decide (r.1.length≤14)):=by
    rw[←any_not]
    refine containsR (p:=fun r:Rw=>!decide (r.1.length≤14)) (by omega) fun a _=>?_
    simp only[law05_few_1,law05_few_1_b]
    congr 1
    rw[Bool.eq_iff_iff]
    simp
    omega
   rw[decide_eq_true h1,decide_eq_true h2,decide_eq_true (show c.length≤14∧rs.length≤8 by omega)]
   simp only[cT,hc,obind_some',Bool.not_not,Bool.true_and]
  ·rw[decide_eq_true h1,decide_eq_false h2,decide_eq_false (show ¬ (c.length≤14∧rs.length≤8) by omega)]
   rfl
 ·rw[decide_eq_false h1,decide_eq_false (show ¬ (c.length≤14∧rs.length≤8) by omega)]
  rfl
end Go.Proofs.Ytnbbackjofgcfaa

namespace Go.Proofs.Ytnbbackjofgcfaa
namespace Dn
def ab (x:Int):Int:=(x.natAbs:Int)
theorem ab_nonneg (x:Int):0≤ab x:=by unfold ab;omega
theorem ab_add (x y:Int):ab (x+y)≤ab x+ab y:=by unfold ab;omega
theorem ab_le {x b:Int}:ab x≤b↔ -b≤x∧x≤b:=by unfold ab;omega
theorem ab_mul (x y:Int):ab (x*y)=ab x*ab y:=by
 unfold ab
 rw[Int.natAbs_mul]
 rfl
def sz:Nat→(Nat→Int)→Int
 | 0,_=>0
 | n+1,f=>sz n f+f n
theorem sz_congr:∀{n:Nat} {f g:Nat→Int},(∀i,i<n→f i=g i)→sz n f=sz n g
 | 0,_,_,_=>rfl
 | n+1,f,g,h=>by
  simp only[sz]
  rw[sz_congr (n:=n) fun i hi=>h i (by omega),h n (by omega)]
theorem sz_add:∀{n:Nat} {f g:Nat→Int},sz n (fun i=>f i+g i)=sz n f+sz n g
 | 0,_,_=>rfl
 | n+1,f,g=>by
  simp only[sz]
  rw[sz_add]
  omega
theorem sz_mul:∀{n:Nat} {c:Int} {f:Nat→Int},sz n (fun i=>c*f i)=c*sz n f
 | 0,c,_=>by simp[sz]
 | n+1,c,f=>by
  simp only[sz]
  rw[sz_mul,Int.mul_add]
theorem sz_mulr {n:Nat} {c:Int} {f:Nat→Int}:sz n (fun i=>f i*c)=sz n f*c:=by
 rw[Int.mul_comm,←sz_mul]
 exact sz_congr fun i _=>Int.mul_comm _ _
theorem sz_zero:∀{n:Nat} {f:Nat→Int},(∀i,i<n→f i=0)→sz n f=0
 | 0,_,_=>rfl
 | n+1,f,h=>by
  simp only[sz]
  rw[sz_zero fun i hi=>h i (by omega),h n (by omega)]
  rfl
theorem sz_neg {n:Nat} {f:Nat→Int}:sz n (fun i=> - f i)= - sz n f:=by
 have:sz n (fun i=> - f i)=sz n (fun i=>(-1)*f i):=sz_congr fun i _=>by omega
 rw[this,sz_mul]
 omega
theorem sz_sub {n:Nat} {f g:Nat→Int}:sz n (fun i=>f i - g i)=sz n f - sz n g:=by
 have:sz n (fun i=>f i - g i)=sz n (fun i=>f i+ - g i):=sz_congr fun i _=>by omega
 rw[this,sz_add,sz_neg]
 omega
theorem sz_one:∀{n:Nat} {f:Nat→Int} {k:Nat},k<n→(∀i,i<n→i≠k→f i=0)→sz n f=f k
 | n+1,f,k,hk,h=>by
  simp only[sz]
  by_cases e:k=n
  ·subst e
   rw[sz_zero fun i hi=>h i (by omega) (by omega)]
   omega
  ·rw[sz_one (k:=k) (by omega) fun i hi hne=>h i (by omega) hne,h n (by omega) (fun e'=>e e'.symm)]
   omega
theorem sz_two {n:Nat} {f:Nat→Int} {k l:Nat} (hk:k<n) (hl:l<n) (hkl:k≠l) (h:∀i,i<n→i≠k→i≠l→f i=0):sz n f=f k+f l:=by
 have e:sz n f=sz n (fun i=>(if i=k then f k else 0)+(if i=l then f l else 0)):=sz_congr fun i hi=>by
  by_cases h1:i=k
  ·subst h1;rw[if_pos rfl,if_neg hkl];omega
  ·by_cases h2:i=l
   ·subst h2;rw[if_neg h1,if_pos rfl];omega
   ·rw[if_neg h1,if_neg h2,h i hi h1 h2];rfl
 rw[e,sz_add,sz_one hk (f:=fun i=>if i=k then f k else 0) (fun i _ hne=>if_neg hne),sz_one hl (f:=fun i=>if i=l then f l else 0) (fun i _ hne=>if_neg hne)]
 simp
theorem sz_swap:∀{m n:Nat} {f:Nat→Nat→Int},sz m (fun i=>sz n (fun j=>f i j))=sz n (fun j=>sz m (fun i=>f i j))
 | 0,n,f=>by
  simp only[sz]
  exact (sz_zero fun _ _=>rfl).symm
 | m+1,n,f=>by
  simp only[sz]
  rw[sz_swap,sz_add]
theorem sz_le:∀{n:Nat} {f g:Nat→Int},(∀i,i<n→f i≤g i)→sz n f≤sz n g
 | 0,_,_,_=>Int.le_refl _
 | n+1,f,g,h=>by
  simp only[sz]
  have:=sz_le (n:=n) fun i hi=>h i (by omega)
  have:=h n (by omega)
  omega
theorem sz_nonneg {n:Nat} {f:Nat→Int} (h:∀i,i<n→0≤f i):0≤sz n f:=by
 have:=sz_le (n:=n) (f:=fun _=>0) (g:=f) h
 rwa [sz_zero fun _ _=>rfl] at this
theorem sz_abs:∀{n:Nat} {f:Nat→Int},ab (sz n f)≤sz n (fun i=>ab (f i))
 | 0,_=>by simp[sz,ab]
 | n+1,f=>by
  simp only[sz]
  have:=sz_abs (n:=n) (f:=f)
  have:=ab_add (sz n f) (f n)
  omega
def skip (k j:Nat):Nat:=if j<k then j else j+1
def sgd (k:Nat):Int:=if k % 2=0 then 1 else -1
theorem sgd_succ (k:Nat):sgd (k+1)= - sgd k:=by
 unfold sgd
 split<;>split<;>omega
theorem sgd_abs (k:Nat) (x:Int):ab (sgd k*x)=ab x:=by
 unfold sgd ab
 split<;>omega
def minor (A:Nat→Nat→Int) (k:Nat):Nat→Nat→Int:=fun i j=>A (i+1) (skip k j)
def det:Nat→(Nat→Nat→Int)→Int
 | 0,_=>1
 | n+1,A=>sz (n+1) fun k=>sgd k*A 0 k*det n (minor A k)
def setC (A:Nat→Nat→Int) (c:Nat) (v:Nat→Int):Nat→Nat→Int:=fun i j=>if j=c then v i else A i j
theorem det_congr:∀{n:Nat} {A B:Nat→Nat→Int},(∀i j,i<n→j<n→A i j=B i j)→det n A=det n B
 | 0,_,_,_=>rfl
 | n+1,A,B,h=>by
  simp only[det]
  refine sz_congr fun k hk=>?_
  rw[h 0 k (by omega) hk,det_congr (A:=minor A k) (B:=minor B k) fun i j hi hj=>h (i+1) (skip k j) (by omega) (by unfold skip;split<;>omega)]
theorem minor_setC_same {A:Nat→Nat→Int} {k:Nat} {v:Nat→Int}:minor (setC A k v) k=minor A k:=by
 funext i j
 unfold minor setC
 rw[if_neg]
 unfold skip
 split<;>omega
def pos' (k c:Nat):Nat:=if c<k then c else c - 1
theorem minor_setC {A:Nat→Nat→Int} {k c:Nat} {v:Nat→Int} (h:k≠c):minor (setC A c v) k=setC (minor A k) (pos' k c) (fun i=>v (i+1)):=by
 funext i j
 unfold minor setC skip pos'
 by_cases h1:j<k<;>by_cases h2:c<k
 ·simp only[h1,h2,if_true]
 ·simp only[h1,h2,if_true,if_false]
  rw[if_neg (by omega),if_neg (by omega)]
 ·simp only[h1,h2,if_true,if_false]
  rw[if_neg (by omega),if_neg (by omega)]
 ·simp only[h1,h2,if_false]
  by_cases h3:j+1=c
  ·rw[if_pos h3,if_pos (by omega)]
  ·rw[if_neg h3,if_neg (by omega)]
theorem det_add:∀{n:Nat} {A:Nat→Nat→Int} {c:Nat} {u v:Nat→Int},c<n→det n (setC A c fun i=>u i+v i)=det n (setC A c u)+det n (setC A c v)
 | n+1,A,c,u,v,hc=>by
  simp only[det]
  rw[←sz_add]
  refine sz_congr fun k hk=>?_
  by_cases h:k=c
  ·subst h
   simp only[minor_setC_same]
   have e:∀v:Nat→Int,setC A k v 0 k=v 0:=fun v=>by simp[setC]
   rw[e,e,e,Int.mul_add,Int.add_mul]
  ·have e:∀v:Nat→Int,setC A c v 0 k=A 0 k:=fun v=>by simp[setC,h]
   rw[minor_setC h,minor_setC h,minor_setC h,e,e,e,det_add (u:=fun i=>u (i+1)) (v:=fun i=>v (i+1)) (by unfold pos';split<;>omega),Int.mul_add]
theorem det_smul:∀{n:Nat} {A:Nat→Nat→Int} {c:Nat} {x:Int} {u:Nat→Int},c<n→det n (setC A c fun i=>x*u i)=x*det n (setC A c u)
 | n+1,A,c,x,u,hc=>by
  simp only[det]
  rw[←sz_mul]
  refine sz_congr fun k hk=>?_
  by_cases h:k=c
  ·subst h
   simp only[minor_setC_same]
   have e:∀v:Nat→Int,setC A k v 0 k=v 0:=fun v=>by simp[setC]
   rw[e,e]
   simp only[Int.mul_assoc,Int.mul_left_comm]
  ·have e:∀v:Nat→Int,setC A c v 0 k=A 0 k:=fun v=>by simp[setC,h]
   rw[minor_setC h,minor_setC h,e,e,det_smul (u:=fun i=>u (i+1)) (by unfold pos';split<;>omega)]
   simp only[Int.mul_assoc,Int.mul_left_comm]
theorem det_zero {n:Nat} {A:Nat→Nat→Int} {c:Nat} (hc:c<n):det n (setC A c fun _=>0)=0:=by
 have:=det_smul (n:=n) (A:=A) (x:=0) (u:=fun _=>0) hc
 simpa using this
theorem det_sum {n:Nat} {A:Nat→Nat→Int} {c:Nat} (hc:c<n):∀{m:Nat} {x:Nat→Int} {u:Nat→Nat→Int},det n (setC A c fun i=>sz m fun l=>x l*u l i)=sz m fun l=>x l*det n (setC A c (u l))
 | 0,x,u=>by simp only[sz];exact det_zero hc
 | m+1,x,u=>by
  simp only[sz]
  rw[det_add hc,det_smul hc,det_sum hc]
theorem det_adj:∀{n:Nat} {A:Nat→Nat→Int} {c:Nat},c+1<n→(∀i,i<n→A i c=A i (c+1))→det n A=0
 | n+1,A,c,hc,h=>by
  simp only[det]
  rw[sz_two (k:=c) (l:=c+1) (by omega) hc (by omega) fun k hk h1 h2=>?_]
  ·have e:det n (minor A c)=det n (minor A (c+1)):=by
    refine det_congr fun i j hi hj=>?_
    unfold minor skip
    by_cases h1:j<c
    ·rw[if_pos h1,if_pos (by omega)]
    ·by_cases h2:j=c
     ·subst h2
      rw[if_neg h1,if_pos (by omega)]
      exact (h (i+1) (by omega)).symm
     ·rw[if_neg h1,if_neg (by omega)]
   rw[e,sgd_succ,h 0 (by omega)]
   simp only[Int.neg_mul]
   omega
  ·have e:det n (minor A k)=0:=by
    refine det_adj (c:=pos' k c) ?_ fun i hi=>?_
    ·unfold pos';split<;>omega
    ·unfold minor skip pos'
     by_cases h3:c<k
     ·simp only[h3,if_true]
      rw[if_pos (by omega)]
      exact h (i+1) (by omega)
     ·simp only[h3,if_false]
      rw[if_neg (by omega),if_neg (by omega),show c - 1+1=c by omega]
      exact h (i+1) (by omega)
   rw[e,Int.mul_zero]
theorem setC_self (A:Nat→Nat→Int) (c:Nat):setC A c (fun i=>A i c)=A:=by
 funext i j
 unfold setC
 split
 ·rename_i h;rw[h]
 ·rfl
theorem setC_comm {A:Nat→Nat→Int} {c e:Nat} {u v:Nat→Int} (h:c≠e):setC (setC A c u) e v=setC (setC A e v) c u:=by
 funext i j
 unfold setC
 by_cases h1:j=c<;>by_cases h2:j=e
 ·omega
 ·simp[h1,h]
 ·simp[h2,Ne.symm h]
 ·simp[h1,h2]
theorem det_swap_adj {n:Nat} {A:Nat→Nat→Int} {c:Nat} {u v:Nat→Int} (hc:c+1<n):det n (setC (setC A c u) (c+1) v)= - det n (setC (setC A c v) (c+1) u):=by
 have h0:∀w:Nat→Int,det n (setC (setC A c w) (c+1) w)=0:=fun w=>det_adj hc fun i _=>by simp[setC]
 have h1:=h0 fun i=>u i+v i
 rw[det_add hc,setC_comm (by omega),setC_comm (u:=fun i=>u i+v i) (by omega),det_add (by omega),det_add (by omega),setC_comm (c:=c+1) (by omega),setC_comm (c:=c+1) (v:=v) (by omega),setC_comm (c:=c+1) (u:=v) (v:=u) (by omega),setC_comm (c:=c+1) (u:=v) (v:=v) (by omega),h0,h0] at h1
 omega
theorem det_eq:∀{k:Nat} {n:Nat} {A:Nat→Nat→Int} {c:Nat},c+k+1<n→(∀i,i<n→A i c=A i (c+k+1))→det n A=0
 | 0,n,A,c,hc,h=>det_adj hc h
 | k+1,n,A,c,hc,h=>by
  have e:A=setC (setC A (c+k+1) fun i=>A i (c+k+1)) (c+k+1+1) fun i=>A i (c+k+1+1):=by
   rw[setC_self,setC_self]
  rw[e,det_swap_adj (by omega)]
  have:det n (setC (setC A (c+k+1) fun i=>A i (c+k+1+1)) (c+k+1+1) fun i=>A i (c+k+1))=0:=by
   refine det_eq (k:=k) (c:=c) (by omega) fun i hi=>?_
   simp only[setC]
   rw[if_neg (by omega),if_neg (by omega),if_neg (by omega)]
   simp only[if_true]
   exact h i hi
  rw[this]
  rfl
theorem det_alt {n:Nat} {A:Nat→Nat→Int} {a b:Nat} (ha:a<n) (hb:b<n) (hab:a≠b) (h:∀i,i<n→A i a=A i b):det n A=0:=by
 by_cases hlt:a<b
 ·obtain ⟨k,rfl⟩:∃k,b=a+k+1:=⟨b - a - 1,by omega⟩
  exact det_eq hb h
 ·obtain ⟨k,rfl⟩:∃k,a=b+k+1:=⟨a - b - 1,by omega⟩
  exact det_eq ha fun i hi=>(h i hi).symm
theorem det_swap {n:Nat} {A:Nat→Nat→Int} {a b:Nat} {u v:Nat→Int} (ha:a<n) (hb:b<n) (hab:a≠b):det n (setC (setC A a u) b v)= - det n (setC (setC A a v) b u):=by
 have h0:∀w:Nat→Int,det n (setC (setC A a w) b w)=0:=fun w=>det_alt ha hb hab fun i _=>by simp[setC]
 have h1:=h0 fun i=>u i+v i
 rw[det_add hb,setC_comm hab,setC_comm (u:=fun i=>u i+v i) hab,det_add ha,det_add ha,setC_comm (c:=b) (Ne.symm hab),setC_comm (c:=b) (v:=v) (Ne.symm hab),setC_comm (c:=b) (u:=v) (v:=u) (Ne.symm hab),setC_comm (c:=b) (u:=v) (v:=v) (Ne.symm hab),h0,h0] at h1
 omega
def pz:Nat→(Nat→Int)→Int
 | 0,_=>1
 | n+1,f=>f 0*pz n fun i=>f (i+1)
theorem pz_nonneg:∀{n:Nat} {f:Nat→Int},(∀i,i<n→0≤f i)→0≤pz n f
 | 0,_,_=>by simp[pz]
 | n+1,f,h=>Int.mul_nonneg (h 0 (by omega)) (pz_nonneg fun i hi=>h (i+1) (by omega))
theorem pz_le:∀{n:Nat} {f g:Nat→Int},(∀i,i<n→0≤f i∧f i≤g i)→pz n f≤pz n g
 | 0,_,_,_=>Int.le_refl _
 | n+1,f,g,h=>by
  simp only[pz]
  have h1:=pz_le (n:=n) (f:=fun i=>f (i+1)) (g:=fun i=>g (i+1)) fun i hi=>h (i+1) (by omega)
  have h2:=h 0 (by omega)
  have h3:=pz_nonneg (n:=n) (f:=fun i=>f (i+1)) fun i hi=>(h (i+1) (by omega)).1
  exact Int.mul_le_mul h2.2 h1 h3 (Int.le_trans h2.1 h2.2)
theorem sz_skip:∀{n k:Nat} {f:Nat→Int},k≤n→sz n (fun j=>f (skip k j))+f k=sz (n+1) f
 | 0,k,f,hk=>by
  have:k=0:=by omega
  subst this
  simp[sz]
 | n+1,k,f,hk=>by
  by_cases h:k=n+1
  ·subst h
   have e:=sz_congr (n:=n+1) (f:=fun j=>f (skip (n+1) j)) (g:=f) fun j hj=>by simp[skip,hj]
   rw[e]
   rfl
  ·have:=sz_skip (n:=n) (k:=k) (f:=f) (by omega)
   simp only[sz] at this ⊢
   have e:f (skip k n)=f (n+1):=by unfold skip;rw[if_neg (by omega)]
   rw[e]
   omega
theorem det_bound:∀{n:Nat} {A:Nat→Nat→Int},ab (det n A)≤pz n fun i=>sz n fun j=>ab (A i j)
 | 0,A=>by simp[det,pz,ab]
 | n+1,A=>by
  simp only[det,pz]
  refine Int.le_trans sz_abs ?_
  have hP:0≤pz n fun i=>sz (n+1) fun j=>ab (A (i+1) j):=pz_nonneg fun i _=>sz_nonneg fun j _=>ab_nonneg _
  refine Int.le_trans (sz_le (g:=fun k=>ab (A 0 k)*pz n fun i=>sz (n+1) fun j=>ab (A (i+1) j)) fun k hk=>?_) (by rw[sz_mulr];exact Int.le_refl _)
  rw[Int.mul_assoc,sgd_abs,ab_mul]
  refine Int.mul_le_mul_of_nonneg_left (Int.le_trans det_bound (pz_le fun i hi=>⟨sz_nonneg fun j _=>ab_nonneg _,?_⟩)) (ab_nonneg _)
  have:=sz_skip (n:=n) (k:=k) (f:=fun j=>ab (A (i+1) j)) (by omega)
  have h0:=ab_nonneg (A (i+1) k)
  simp only[minor]
  omega
end Dn
end Go.Proofs.Ytnbbackjofgcfaa

namespace Go.Proofs.Ytnbbackjofgcfaa
namespace Dn
def upd (β:Nat→Nat) (r c:Nat):Nat→Nat:=fun k=>if k=r then c else β k
def colsOf (M:Nat→Nat→Int) (γ:Nat→Nat):Nat→Nat→Int:=fun i k=>M i (γ k)
def dc (m:Nat) (M:Nat→Nat→Int) (γ:Nat→Nat):Int:=det m (colsOf M γ)
theorem colsOf_upd (M:Nat→Nat→Int) (β:Nat→Nat) (r c:Nat):colsOf M (upd β r c)=setC (colsOf M β) r (fun i=>M i c):=by
 funext i k
 unfold colsOf upd setC
 split<;>rfl
theorem upd_upd (β:Nat→Nat) (r c e:Nat):upd (upd β r c) r e=upd β r e:=by
 funext k
 unfold upd
 split<;>rfl
theorem upd_self (β:Nat→Nat) (r:Nat):upd β r (β r)=β:=by
 funext k
 unfold upd
 split
 ·rename_i h;rw[h]
 ·rfl
structure Tb (m w:Nat) (M T:Nat→Nat→Int) (d:Int) (β:Nat→Nat):Prop where
 dpos:0<d
 lt:∀i,i<m→β i<w
 co:∀k,k<m→∀j,j<w→d*M k j=sz m fun i=>T i j*M k (β i)
 cr:∃σ:Int,σ*σ=1∧d=σ*dc m M β∧∀i,i<m→∀j,j<w→T i j=σ*dc m M (upd β i j)
section
variable {m w:Nat} {M T:Nat→Nat→Int} {d:Int} {β:Nat→Nat}
theorem dc_upd_other {i k:Nat} (hi:i<m) (hk:k<m) (h:i≠k):dc m M (upd β i (β k))=0:=by
 refine det_alt hi hk h fun l _=>?_
 unfold colsOf upd
 rw[if_pos rfl,if_neg (Ne.symm h)]
theorem Tb.basis (h:Tb m w M T d β) {i:Nat} (hi:i<m):T i (β i)=d:=by
 obtain ⟨σ,_,h2,h3⟩:=h.cr
 rw[h3 i hi _ (h.lt i hi),upd_self,←h2]
theorem Tb.other (h:Tb m w M T d β) {i k:Nat} (hi:i<m) (hk:k<m) (hik:i≠k):T i (β k)=0:=by
 obtain ⟨σ,_,h2,h3⟩:=h.cr
 rw[h3 i hi _ (h.lt k hk),dc_upd_other hi hk hik,Int.mul_zero]
theorem Tb.inj (h:Tb m w M T d β) {i k:Nat} (hi:i<m) (hk:k<m) (hb:β i=β k):i=k:=by
 by_cases e:i=k
 ·exact e
 ·have h1:=h.other hi hk e
  rw[←hb,h.basis hi] at h1
  have:=h.dpos
  omega
theorem dc_two (h:Tb m w M T d β) {r i c j:Nat} (hr:r<m) (hi:i<m) (hri:r≠i) (hc:c<w) (hj:j<w) :
  d*d*dc m M (upd (upd β r c) i j)=(T r c*T i j - T i c*T r j)*dc m M β:=by
 obtain ⟨B,hB⟩:∃B,B=colsOf M β:=⟨_,rfl⟩
 have e1:d*d*dc m M (upd (upd β r c) i j)=det m (setC (setC B r fun q=>d*M q c) i fun q=>d*M q j):=by
  have a1:=det_smul (n:=m) (A:=setC B r fun q=>d*M q c) (c:=i) (x:=d) (u:=fun q=>M q j) hi
  have a2:=det_smul (n:=m) (A:=setC B i fun q=>M q j) (c:=r) (x:=d) (u:=fun q=>M q c) hr
  unfold dc
  rw[colsOf_upd,colsOf_upd,←hB,a1,setC_comm (u:=fun q=>d*M q c) hri,a2,setC_comm (u:=fun q=>M q c) hri,Int.mul_assoc]
 have e2:det m (setC (setC B r fun q=>d*M q c) i fun q=>d*M q j)=det m (setC (setC B r fun q=>sz m fun k=>T k c*B q k) i fun q=>sz m fun l=>T l j*B q l):=by
  refine det_congr fun p q hp hq=>?_
  unfold setC
  rw[hB]
  split
  ·exact h.co p hp j hj
  ·split
   ·exact h.co p hp c hc
   ·rfl
 rw[e1,e2,det_sum hi (x:=fun l=>T l j) (u:=fun l q=>B q l)]
 have e3:∀l,det m (setC (setC B r fun q=>sz m fun k=>T k c*B q k) i fun q=>B q l)=sz m fun k=>T k c*det m (setC (setC B i fun q=>B q l) r fun q=>B q k):=fun l=>by
  rw[setC_comm hri,det_sum hr (x:=fun k=>T k c) (u:=fun k q=>B q k)]
 have z1:∀k l,k<m→k≠r→k≠i→det m (setC (setC B i fun q=>B q l) r fun q=>B q k)=0:=fun k l hk h1 h2 =>
  det_alt hr hk h1.symm fun q _=>by simp[setC,h1,h2]
 have z2:∀k l,l<m→l≠r→l≠i→det m (setC (setC B i fun q=>B q l) r fun q=>B q k)=0:=fun k l hl h1 h2 =>
  det_alt hi hl h2.symm fun q _=>by simp[setC,h1,h2,hri.symm]
 have z3:det m (setC (setC B i fun q=>B q r) r fun q=>B q r)=0:=det_alt hi hr hri.symm fun q _=>by simp[setC,hri.symm]
 have z4:det m (setC (setC B i fun q=>B q i) r fun q=>B q i)=0:=det_alt hi hr hri.symm fun q _=>by simp[setC,hri.symm]
 have z5:det m (setC (setC B i fun q=>B q i) r fun q=>B q r)=det m B:=by
  rw[setC_self,setC_self]
 have z6:det m (setC (setC B i fun q=>B q r) r fun q=>B q i)= - det m B:=by
  rw[det_swap hi hr hri.symm,z5]
 have e4:∀l,l<m→(sz m fun k=>T k c*det m (setC (setC B i fun q=>B q l) r fun q=>B q k))=T r c*det m (setC (setC B i fun q=>B q l) r fun q=>B q r)+T i c*det m (setC (setC B i fun q=>B q l) r fun q=>B q i):=fun l _ =>
  sz_two hr hi hri fun k hk h1 h2=>by rw[z1 k l hk h1 h2,Int.mul_zero]
 rw[sz_congr (g:=fun l=>T l j*(T r c*det m (setC (setC B i fun q=>B q l) r fun q=>B q r)+T i c*det m (setC (setC B i fun q=>B q l) r fun q=>B q i))) fun l hl=>by rw[e3 l,e4 l hl]]
 rw[sz_two hr hi hri fun l hl h1 h2=>by rw[z2 r l hl h1 h2,z2 i l hl h1 h2];simp]
 rw[z3,z4,z5,z6]
 have:dc m M β=det m B:=by rw[hB];rfl
 rw[this]
 grind
def piv (T:Nat→Nat→Int) (d:Int) (r c i j:Nat):Int:=(T r c*T i j - T i c*T r j) / d
theorem piv_exact (h:Tb m w M T d β) {r i c j:Nat} (hr:r<m) (hi:i<m) (hri:r≠i) (hc:c<w) (hj:j<w):d*piv T d r c i j=T r c*T i j - T i c*T r j:=by
 obtain ⟨σ,h1,h2,_⟩:=h.cr
 have h3:=dc_two h hr hi hri hc hj
 have hd:=h.dpos
 have h4:dc m M β=σ*d:=by rw[h2,←Int.mul_assoc,h1,Int.one_mul]
 rw[h4] at h3
 have h5:d*(d*dc m M (upd (upd β r c) i j))=d*((T r c*T i j - T i c*T r j)*σ):=by
  rw[←Int.mul_assoc,h3]
  grind
 have h6:=Int.eq_of_mul_eq_mul_left (by omega) h5
 have h7:T r c*T i j - T i c*T r j=d*(σ*dc m M (upd (upd β r c) i j)):=by
  have:(T r c*T i j - T i c*T r j)*σ*σ=d*dc m M (upd (upd β r c) i j)*σ:=by rw[h6]
  rw[Int.mul_assoc,h1,Int.mul_one] at this
  rw[this]
  grind
 unfold piv
 rw[h7,Int.mul_ediv_cancel_left _ (by omega)]
theorem piv_eq (h:Tb m w M T d β) {σ:Int} (h1:σ*σ=1) (h2:d=σ*dc m M β) {r i c j:Nat} (hr:r<m) (hi:i<m) (hri:r≠i) (hc:c<w) (hj:j<w):piv T d r c i j=σ*dc m M (upd (upd β r c) i j):=by
 have h3:=dc_two h hr hi hri hc hj
 have hd:=h.dpos
 have h4:dc m M β=σ*d:=by rw[h2,←Int.mul_assoc,h1,Int.one_mul]
 have h5:=piv_exact h hr hi hri hc hj
 rw[h4,←h5] at h3
 have h6:(d*d)*dc m M (upd (upd β r c) i j)=(d*d)*(piv T d r c i j*σ):=by rw[h3];grind
 have h7:=Int.eq_of_mul_eq_mul_left (Int.ne_of_gt (Int.mul_pos hd hd)) h6
 rw[h7]
 grind
def sg (x:Int):Int:=if x<0 then -1 else 1
theorem sg_mul (x:Int):sg x*sg x=1:=by unfold sg;split<;>rfl
theorem sg_pos {x:Int} (h:x≠0):0<sg x*x:=by unfold sg;split<;>omega
def pivT (T:Nat→Nat→Int) (d:Int) (r c:Nat):Nat→Nat→Int:=fun i j=>sg (T r c)*(if i=r then T r j else piv T d r c i j)
theorem Tb.step (h:Tb m w M T d β) {r c:Nat} (hr:r<m) (hc:c<w) (he:T r c≠0):Tb m w M (pivT T d r c) (sg (T r c)*T r c) (upd β r c):=by
 have hd:=h.dpos
 refine ⟨sg_pos he,fun i hi=>?_,fun k hk j hj=>?_,?_⟩
 ·unfold upd
  split
  ·exact hc
  ·exact h.lt i hi
 ·have h1:∀i,i<m→d*((if i=r then T r j else piv T d r c i j)*M k (upd β r c i))=(T r c*(T i j*M k (β i)) - T r j*(T i c*M k (β i)))+(if i=r then d*(T r j*M k c) else 0):=fun i hi=>by
   unfold upd
   by_cases e:i=r
   ·subst e
    simp only[if_true]
    grind
   ·simp only[e,if_false,Int.add_zero]
    rw[←Int.mul_assoc,piv_exact h hr hi (Ne.symm e) hc hj]
    grind
  have h2:d*(sz m fun i=>(if i=r then T r j else piv T d r c i j)*M k (upd β r c i))=d*(T r c*M k j):=by
   rw[←sz_mul,sz_congr h1,sz_add,sz_sub,sz_mul,sz_mul,←h.co k hk j hj,←h.co k hk c hc,sz_one hr fun i _ hne=>if_neg hne,if_pos rfl]
   grind
  have h3:=Int.eq_of_mul_eq_mul_left (by omega) h2
  have h4:(sz m fun i=>pivT T d r c i j*M k (upd β r c i))=sg (T r c)*sz m fun i=>(if i=r then T r j else piv T d r c i j)*M k (upd β r c i):=by
   rw[←sz_mul]
   exact sz_congr fun i _=>by unfold pivT;rw[Int.mul_assoc]
  rw[h4,h3,Int.mul_assoc]
 ·obtain ⟨σ,h1,h2,h3⟩:=h.cr
  refine ⟨sg (T r c)*σ,?_,?_,fun i hi j hj=>?_⟩
  ·have:=sg_mul (T r c)
   grind
  ·rw[h3 r hr c hc]
   grind
  ·unfold pivT
   by_cases e:i=r
   ·subst e
    rw[if_pos rfl,h3 i hi j hj,upd_upd]
    grind
   ·rw[if_neg e,piv_eq h h1 h2 hr hi (Ne.symm e) hc hj]
    grind
theorem det_one:∀n:Nat,det n (fun i k=>if i=k then 1 else 0)=1
 | 0=>rfl
 | n+1=>by
  simp only[det]
  rw[sz_one (k:=0) (by omega) fun k _ hk=>by rw[if_neg (Ne.symm hk)];simp]
  have:det n (minor (fun i k=>if i=k then 1 else 0) 0)=det n (fun i k=>if i=k then 1 else 0):=det_congr fun i j _ _=>by
   unfold minor skip
   simp
  rw[this,det_one n]
  simp[sgd]
theorem Tb.first {a:Nat→Nat} (ha:∀i,i<m→a i<w) (hM:∀k,k<m→∀i,i<m→M k (a i)=if k=i then 1 else 0):Tb m w M M 1 a:=by
 have h1:dc m M a=1:=by
  unfold dc
  rw[←det_one m]
  exact det_congr fun i j hi hj=>hM i hi j hj
 refine ⟨by omega,ha,fun k hk j hj=>?_,1,by omega,by rw[h1];rfl,fun i hi j hj=>?_⟩
 ·rw[sz_one hk fun i hi hne=>by rw[hM k hk i hi,if_neg (Ne.symm hne),Int.mul_zero],hM k hk k hk,if_pos rfl]
  omega
 ·unfold dc
  rw[colsOf_upd]
  have e:det m (setC (colsOf M a) i fun q=>M q j)=det m (setC (colsOf M a) i fun q=>sz m fun k=>M k j*colsOf M a q k):=by
   refine det_congr fun p q hp hq=>?_
   unfold setC
   split
   ·show M p j=sz m fun k=>M k j*colsOf M a p k
    rw[sz_one hp fun k hk hne=>by unfold colsOf;rw[hM p hp k hk,if_neg (Ne.symm hne),Int.mul_zero]]
    unfold colsOf
    rw[hM p hp p hp,if_pos rfl]
    omega
   ·rfl
  rw[e,det_sum hi (x:=fun k=>M k j) (u:=fun k q=>colsOf M a q k),sz_one hi fun k hk hne=>by
   rw[det_alt hi hk (Ne.symm hne) fun q _=>by simp[setC,hne],Int.mul_zero],setC_self]
  have:det m (colsOf M a)=1:=h1
  rw[this]
  omega
theorem Tb.rows (h:Tb m w M T d β) {a:Nat→Nat} (ha:∀i,i<m→a i<w) (hM:∀k,k<m→∀i,i<m→M k (a i)=if k=i then 1 else 0) {i j:Nat} (hi:i<m) (hj:j<w):T i j=sz m fun k=>T i (a k)*M k j:=by
 obtain ⟨σ,h1,h2,h3⟩:=h.cr
 rw[h3 i hi j hj]
 have e:dc m M (upd β i j)=sz m fun k=>M k j*dc m M (upd β i (a k)):=by
  unfold dc
  rw[colsOf_upd]
  have e:det m (setC (colsOf M β) i fun q=>M q j)=det m (setC (colsOf M β) i fun q=>sz m fun k=>M k j*M q (a k)):=by
   refine det_congr fun p q hp hq=>?_
   unfold setC
   split
   ·show M p j=sz m fun k=>M k j*M p (a k)
    rw[sz_one hp fun k hk hne=>by rw[hM p hp k hk,if_neg (Ne.symm hne),Int.mul_zero],hM p hp p hp,if_pos rfl]
    omega
   ·rfl
  rw[e,det_sum hi (x:=fun k=>M k j) (u:=fun k q=>M q (a k))]
  exact sz_congr fun k _=>by rw[colsOf_upd]
 rw[e,←sz_mul]
 exact sz_congr fun k hk=>by rw[h3 i hi _ (ha k hk)];grind
theorem Tb.bound (h:Tb m w M T d β) {i j:Nat} (hi:i<m) (hj:j<w):ab (T i j)=ab (dc m M (upd β i j)):=by
 obtain ⟨σ,h1,_,h3⟩:=h.cr
 rw[h3 i hi j hj,ab_mul]
 have h4:ab σ*ab σ=1:=by rw[←ab_mul,h1];rfl
 have h5:ab σ=1:=by
  have h6:=ab_nonneg σ
  by_cases h7:ab σ≤1
  ·have:ab σ≠0:=fun e=>by rw[e] at h4;simp at h4
   omega
  ·exfalso
   have:2*2≤ab σ*ab σ:=Int.mul_le_mul (by omega) (by omega) (by omega) h6
   omega
 rw[h5,Int.one_mul]
end
end Dn
end Go.Proofs.Ytnbbackjofgcfaa

namespace Go.Proofs.Ytnbbackjofgcfaa
namespace Dn
structure Sx where
 T:Nat→Nat→Int
 d:Int
 β:Nat→Nat
def zr (m:Nat) (wc:Nat→Int) (S:Sx) (j:Nat):Int:=wc j*S.d - sz m fun i=>wc (S.β i)*S.T i j
structure Leaves (m R:Nat) (S:Sx) (c r:Nat):Prop where
 lt:r<m
 pos:0<S.T r c
 le:∀i,i<m→0<S.T i c→S.T r R*S.T i c≤S.T i R*S.T r c
 tie:∀i,i<m→0<S.T i c→S.T r R*S.T i c=S.T i R*S.T r c→S.β r≤S.β i
structure Enters (m N:Nat) (wc:Nat→Int) (S:Sx) (c:Nat):Prop where
 lt:c<N
 neg:zr m wc S c<0
 least:∀j,j<c→0≤zr m wc S j
structure StepAt (m w:Nat) (S S':Sx) (r c:Nat):Prop where
 T:∀i j,i<m→j<w→S'.T i j=if i=r then S.T r j else piv S.T S.d r c i j
 d:S'.d=S.T r c
 β:∀i,i<m→S'.β i=upd S.β r c i
structure Step (m w N R:Nat) (wc:Nat→Int) (S S':Sx) (r c:Nat):Prop where
 enters:Enters m N wc S c
 leaves:Leaves m R S c r
 at':StepAt m w S S' r c
structure Val (m w N R:Nat) (M:Nat→Nat→Int) (S:Sx):Prop where
 tb:Tb m w M S.T S.d S.β
 feas:∀i,i<m→0≤S.T i R
 ne:∀i,i<m→S.β i≠R
section
variable {m w N R:Nat} {M:Nat→Nat→Int} {wc:Nat→Int}
theorem dc_congr {β β':Nat→Nat} (h:∀i,i<m→β' i=β i):dc m M β'=dc m M β:=det_congr fun i j _ hj=>by unfold colsOf;rw[h j hj]
theorem Tb.congr {T T':Nat→Nat→Int} {d:Int} {β β':Nat→Nat} (h:Tb m w M T d β) (hT:∀i j,i<m→j<w→T' i j=T i j) (hβ:∀i,i<m→β' i=β i):Tb m w M T' d β':=by
 refine ⟨h.dpos,fun i hi=>by rw[hβ i hi];exact h.lt i hi,fun k hk j hj=>?_,?_⟩
 ·rw[h.co k hk j hj]
  exact sz_congr fun i hi=>by rw[hT i j hi hj,hβ i hi]
 ·obtain ⟨σ,h1,h2,h3⟩:=h.cr
  refine ⟨σ,h1,by rw[dc_congr hβ];exact h2,fun i hi j hj=>?_⟩
  rw[hT i j hi hj,h3 i hi j hj]
  congr 1
  exact (dc_congr fun k hk=>by unfold upd;rw[hβ k hk]).symm
theorem Val.stepAt {S S':Sx} (h:Val m w N R M S) (hR:R<w) {r c:Nat} (hc:c<w) (hcR:c≠R) (hl:Leaves m R S c r) (hs:StepAt m w S S' r c):Val m w N R M S':=by
 have hr:=hl.lt
 have e1:sg (S.T r c)=1:=by unfold sg;rw[if_neg (by have:=hl.pos;omega)]
 have h1:=h.tb.step hr hc (by have:=hl.pos;omega)
 have h2:=h1.congr (T':=S'.T) (β':=S'.β) (fun i j hi hj=>by rw[hs.T i j hi hj];unfold pivT;rw[e1,Int.one_mul]) hs.β
 rw[e1,Int.one_mul,←hs.d] at h2
 refine ⟨h2,fun i hi=>?_,fun i hi=>?_⟩
 ·rw[hs.T i R hi hR]
  split
  ·exact h.feas r hr
  ·rename_i hne
   have h3:=piv_exact h.tb hr hi (Ne.symm hne) hc hR
   have h4:=h.tb.dpos
   have h5:=hl.pos
   have h6:0≤S.T r c*S.T i R - S.T i c*S.T r R:=by
    by_cases h7:0<S.T i c
    ·have:=hl.le i hi h7
     have e1:=Int.mul_comm (S.T r R) (S.T i c)
     have e2:=Int.mul_comm (S.T i R) (S.T r c)
     omega
    ·have h8:0≤S.T r c*S.T i R:=Int.mul_nonneg (by omega) (h.feas i hi)
     have h9:0≤ -S.T i c*S.T r R:=Int.mul_nonneg (by omega) (h.feas r hr)
     rw[Int.neg_mul] at h9
     omega
   rw[←h3] at h6
   exact Int.nonneg_of_mul_nonneg_right h6 h4
 ·rw[hs.β i hi]
  unfold upd
  split
  ·exact hcR
  ·exact h.ne i hi
theorem zr_basis {S:Sx} (h:Tb m w M S.T S.d S.β) {i:Nat} (hi:i<m):zr m wc S (S.β i)=0:=by
 unfold zr
 rw[sz_one hi fun k hk hne=>by rw[h.other hk hi hne,Int.mul_zero],h.basis hi]
 omega
theorem zr_rows {S:Sx} (h:Tb m w M S.T S.d S.β) {a:Nat→Nat} (ha:∀i,i<m→a i<w) (hM:∀k,k<m→∀i,i<m→M k (a i)=if k=i then 1 else 0) {j:Nat} (hj:j<w) :
  zr m wc S j=wc j*S.d - sz m fun k=>(sz m fun i=>wc (S.β i)*S.T i (a k))*M k j:=by
 unfold zr
 congr 1
 rw[sz_congr (g:=fun i=>sz m fun k=>wc (S.β i)*S.T i (a k)*M k j) fun i hi=>by
  rw[h.rows ha hM hi hj,←sz_mul]
  exact sz_congr fun k _=>by rw[Int.mul_assoc]]
 rw[sz_swap]
 exact sz_congr fun k _=>sz_mulr
theorem zr_step {S S':Sx} (h:Tb m w M S.T S.d S.β) {r c j:Nat} (hr:r<m) (hc:c<w) (hj:j<w) (hs:StepAt m w S S' r c):S.d*zr m wc S' j=S.T r c*zr m wc S j - zr m wc S c*S.T r j:=by
 have h1:∀i,i<m→S.d*(wc (S'.β i)*S'.T i j)=(S.T r c*(wc (S.β i)*S.T i j) - S.T r j*(wc (S.β i)*S.T i c))+(if i=r then S.d*(wc c*S.T r j) else 0):=fun i hi=>by
  rw[hs.β i hi,hs.T i j hi hj]
  unfold upd
  by_cases e:i=r
  ·subst e
   simp only[if_true]
   grind
  ·simp only[e,if_false,Int.add_zero]
   have:=piv_exact h hr hi (Ne.symm e) hc hj
   grind
 have h2:S.d*(sz m fun i=>wc (S'.β i)*S'.T i j)=S.T r c*(sz m fun i=>wc (S.β i)*S.T i j) - S.T r j*(sz m fun i=>wc (S.β i)*S.T i c)+S.d*(wc c*S.T r j):=by
  rw[←sz_mul,sz_congr h1,sz_add,sz_sub,sz_mul,sz_mul,sz_one hr fun i _ hne=>if_neg hne,if_pos rfl]
 unfold zr
 rw[Int.mul_sub,h2,hs.d]
 grind
theorem zr_two {S S':Sx} (h:Tb m w M S.T S.d S.β) (h':Tb m w M S'.T S'.d S'.β) {a:Nat→Nat} (ha:∀i,i<m→a i<w) (hM:∀k,k<m→∀i,i<m→M k (a i)=if k=i then 1 else 0) {s:Nat} (hs:s<w) :
  S.d*zr m wc S' s=S'.d*zr m wc S s+sz m fun i=>S.T i s*zr m wc S' (S.β i):=by
 have e1:=zr_rows (wc:=wc) h' ha hM hs
 have e2:∀i,i<m→S.T i s*zr m wc S' (S.β i)=S'.d*(wc (S.β i)*S.T i s) - sz m fun k=>(sz m fun i=>wc (S'.β i)*S'.T i (a k))*(S.T i s*M k (S.β i)):=fun i hi=>by
  rw[zr_rows (wc:=wc) h' ha hM (h.lt i hi),Int.mul_sub,←sz_mul]
  congr 1
  ·grind
  ·exact sz_congr fun k _=>by grind
 rw[sz_congr e2,sz_sub,sz_mul,sz_swap]
 have e3:(sz m fun k=>sz m fun i=>(sz m fun i=>wc (S'.β i)*S'.T i (a k))*(S.T i s*M k (S.β i)))=S.d*sz m fun k=>(sz m fun i=>wc (S'.β i)*S'.T i (a k))*M k s:=by
  rw[←sz_mul]
  refine sz_congr fun k hk=>?_
  rw[sz_mul,←h.co k hk s hs]
  grind
 rw[e3,e1]
 unfold zr
 grind
theorem left_between {β:Nat→Nat→Nat} {q:Nat}:∀{k i:Nat},(∃p,p<m∧β i p=q)→(¬ ∃p,p<m∧β (i+k) p=q)→∃n,i≤n∧n<i+k∧(∃p,p<m∧β n p=q)∧¬ ∃p,p<m∧β (n+1) p=q
 | 0,i,h1,h2=>(h2 h1).elim
 | k+1,i,h1,h2=>by
  by_cases h:∃p,p<m∧β (i+k) p=q
  ·exact ⟨i+k,by omega,by omega,h,h2⟩
  ·obtain ⟨n,h3,h4,h5,h6⟩:=left_between h1 h
   exact ⟨n,h3,by omega,h5,h6⟩
theorem come_between {β:Nat→Nat→Nat} {q:Nat}:∀{k i:Nat},(¬ ∃p,p<m∧β i p=q)→(∃p,p<m∧β (i+k) p=q)→∃n,i≤n∧n<i+k∧(¬ ∃p,p<m∧β n p=q)∧∃p,p<m∧β (n+1) p=q
 | 0,i,h1,h2=>(h1 h2).elim
 | k+1,i,h1,h2=>by
  by_cases h:∃p,p<m∧β (i+k) p=q
  ·obtain ⟨n,h3,h4,h5,h6⟩:=come_between h1 h
   exact ⟨n,h3,by omega,h5,h6⟩
  ·exact ⟨i+k,by omega,by omega,h,h2⟩
theorem max_of {k:Nat} {f:Nat→Nat}:0<k→∃n,n<k∧∀i,i<k→f i≤f n:=by
 induction k with
 | zero=>intro h;omega
 | succ k ih =>
  intro _
  by_cases hk:k=0
  ·subst hk
   exact ⟨0,by omega,fun i hi=>by rw[show i=0 by omega];exact Nat.le_refl _⟩
  ·obtain ⟨n,h1,h2⟩:=ih (by omega)
   by_cases h3:f k≤f n
   ·refine ⟨n,by omega,fun i hi=>?_⟩
    by_cases h4:i=k
    ·rw[h4];exact h3
    ·exact h2 i (by omega)
   ·refine ⟨k,by omega,fun i hi=>?_⟩
    by_cases h4:i=k
    ·rw[h4];exact Nat.le_refl _
    ·have:=h2 i (by omega);omega
theorem le_cancel {e x y:Int} (he:0<e) (h:e*x≤e*y):x≤y:=Int.le_of_mul_le_mul_left h he
structure Run (m w N R:Nat) (M:Nat→Nat→Int) (wc:Nat→Int) (k:Nat) (S:Nat→Sx) (r c:Nat→Nat):Prop where
 val:∀n,n≤k→Val m w N R M (S n)
 step:∀n,n<k→Step m w N R wc (S n) (S (n+1)) (r n) (c n)
theorem Run.of {k:Nat} {S:Nat→Sx} {r c:Nat→Nat} (hN:N≤R) (hR:R<w) (h0:Val m w N R M (S 0)) (hs:∀n,n<k→Step m w N R wc (S n) (S (n+1)) (r n) (c n)):Run m w N R M wc k S r c:=by
 refine ⟨fun n=>?_,hs⟩
 induction n with
 | zero=>intro _;exact h0
 | succ n ih =>
  intro hn
  have h1:=hs n (by omega)
  have:=h1.enters.lt
  exact (ih (by omega)).stepAt hR (by omega) (by omega) h1.leaves h1.at'
theorem Run.nocycle {k:Nat} {S:Nat→Sx} {r c:Nat→Nat} {a:Nat→Nat} (ha:∀i,i<m→a i<w) (hM:∀k,k<m→∀i,i<m→M k (a i)=if k=i then 1 else 0) (hN:N≤R) (hR:R<w)
  (h:Run m w N R M wc k S r c) (hk:0<k):¬ ∀i,i<m→(S k).β i=(S 0).β i:=by
 intro hcyc
 have cw:∀n,n<k→c n<w:=fun n hn=>by have:=(h.step n hn).enters.lt;omega
 have dp:∀n,n≤k→0<(S n).d:=fun n hn=>(h.val n hn).tb.dpos
 have vstep:∀n,n<k→zr m wc (S n) R*(S (n+1)).d≤zr m wc (S (n+1)) R*(S n).d∧((S n).T (r n) R≠0→zr m wc (S n) R*(S (n+1)).d<zr m wc (S (n+1)) R*(S n).d):=fun n hn=>by
  have hs:=h.step n hn
  have h1:=zr_step (wc:=wc) (h.val n (by omega)).tb hs.leaves.lt (cw n hn) hR hs.at'
  have h2:=hs.enters.neg
  have h3:=(h.val n (by omega)).feas (r n) hs.leaves.lt
  have h4:0≤ -zr m wc (S n) (c n)*(S n).T (r n) R:=Int.mul_nonneg (by omega) h3
  rw[Int.neg_mul] at h4
  rw[hs.at'.d,Int.mul_comm (zr m wc (S (n+1)) R),h1,Int.mul_comm (zr m wc (S n) R)]
  refine ⟨by omega,fun hne=>?_⟩
  have h5:0< -zr m wc (S n) (c n)*(S n).T (r n) R:=Int.mul_pos (by omega) (by omega)
  rw[Int.neg_mul] at h5
  omega
 have vle:∀i j,i+j≤k→zr m wc (S i) R*(S (i+j)).d≤zr m wc (S (i+j)) R*(S i).d:=by
  intro i j
  induction j with
  | zero=>intro _;exact Int.le_refl _
  | succ j ih =>
   intro hj
   have h1:=ih (by omega)
   have h2:=(vstep (i+j) (by omega)).1
   have d1:=dp i (by omega)
   have d2:=dp (i+j) (by omega)
   have d3:=dp (i+j+1) (by omega)
   refine le_cancel d2 ?_
   have h3:=Int.mul_le_mul_of_nonneg_right h1 (Int.le_of_lt d3)
   have h4:=Int.mul_le_mul_of_nonneg_right h2 (Int.le_of_lt d1)
   rw[show i+(j+1)=i+j+1 by omega]
   calc (S (i+j)).d*(zr m wc (S i) R*(S (i+j+1)).d)=zr m wc (S i) R*(S (i+j)).d*(S (i+j+1)).d:=by grind
    _≤zr m wc (S (i+j)) R*(S i).d*(S (i+j+1)).d:=h3
    _=zr m wc (S (i+j)) R*(S (i+j+1)).d*(S i).d:=by grind
    _≤zr m wc (S (i+j+1)) R*(S (i+j)).d*(S i).d:=h4
    _=(S (i+j)).d*(zr m wc (S (i+j+1)) R*(S i).d):=by grind
 have same:(S k).d=(S 0).d∧∀i j,i<m→j<w→(S k).T i j=(S 0).T i j:=by
  obtain ⟨σ,s1,s2,s3⟩:=(h.val k (Nat.le_refl _)).tb.cr
  obtain ⟨τ,t1,t2,t3⟩:=(h.val 0 (by omega)).tb.cr
  rw[dc_congr hcyc] at s2
  have p1:=dp k (Nat.le_refl _)
  have p2:=dp 0 (by omega)
  have e:σ=τ:=by
   have h1:σ*(S k).d=dc m M (S 0).β:=by rw[s2,←Int.mul_assoc,s1,Int.one_mul]
   have h2:τ*(S 0).d=dc m M (S 0).β:=by rw[t2,←Int.mul_assoc,t1,Int.one_mul]
   have pm:∀x:Int,x*x=1→x=1∨x= -1:=fun x hx=>by
    have h4:x.natAbs*x.natAbs=1:=by
     have:=congrArg Int.natAbs hx
     rwa [Int.natAbs_mul] at this
    have h5:x.natAbs=1:=Nat.eq_one_of_mul_eq_one_left h4
    omega
   rcases pm σ s1 with rfl | rfl<;>rcases pm τ t1 with rfl | rfl<;>omega
  refine ⟨by rw[s2,e];exact t2.symm,fun i j hi hj=>?_⟩
  rw[s3 i hi j hj,t3 i hi j hj,e]
  congr 1
  exact dc_congr fun l hl=>by unfold upd;rw[hcyc l hl]
 have vend:zr m wc (S k) R=zr m wc (S 0) R:=by
  unfold zr
  rw[same.1]
  congr 1
  exact sz_congr fun i hi=>by rw[hcyc i hi,same.2 i R hi hR]
 have flat:∀n,n<k→(S n).T (r n) R=0:=fun n hn=>by
  by_cases e:(S n).T (r n) R=0
  ·exact e
  ·exfalso
   have h1:=(vstep n hn).2 e
   have h2:=vle 0 n (by omega)
   have h3:=vle (n+1) (k - (n+1)) (by omega)
   rw[Nat.zero_add] at h2
   rw[show n+1+(k - (n+1))=k by omega,vend,same.1] at h3
   have d0:=dp 0 (by omega)
   have d1:=dp n (by omega)
   have d2:=dp (n+1) (by omega)
   have h4:=Int.mul_lt_mul_of_pos_right h1 d0
   have h5:=Int.mul_le_mul_of_nonneg_right h2 (Int.le_of_lt d2)
   have h6:=Int.mul_le_mul_of_nonneg_right h3 (Int.le_of_lt d1)
   have:zr m wc (S 0) R*(S n).d*(S (n+1)).d<zr m wc (S 0) R*(S n).d*(S (n+1)).d:=by
    calc zr m wc (S 0) R*(S n).d*(S (n+1)).d≤zr m wc (S n) R*(S 0).d*(S (n+1)).d:=h5
     _=zr m wc (S n) R*(S (n+1)).d*(S 0).d:=by grind
     _<zr m wc (S (n+1)) R*(S n).d*(S 0).d:=h4
     _=zr m wc (S (n+1)) R*(S 0).d*(S n).d:=by grind
     _≤zr m wc (S 0) R*(S (n+1)).d*(S n).d:=h6
     _=zr m wc (S 0) R*(S n).d*(S (n+1)).d:=by grind
   omega
 have zeroStep:∀n q,n<k→((∀i,i<m→(S n).β i=q→(S n).T i R=0)↔(∀i,i<m→(S (n+1)).β i=q→(S (n+1)).T i R=0)):=fun n q hn=>by
  have hs:=h.step n hn
  have hf:=flat n hn
  have htb:=(h.val n (by omega)).tb
  have key:∀i,i<m→i≠r n→((S (n+1)).T i R=0↔(S n).T i R=0):=fun i hi hne=>by
   rw[hs.at'.T i R hi hR,if_neg hne]
   have h1:=piv_exact htb hs.leaves.lt hi (Ne.symm hne) (cw n hn) hR
   rw[hf,Int.mul_zero,Int.sub_zero] at h1
   have h2:=hs.leaves.pos
   have h3:=dp n (by omega)
   constructor
   ·intro e
    rw[e,Int.mul_zero] at h1
    rcases Int.mul_eq_zero.1 h1.symm with h4 | h4
    ·omega
    ·exact h4
   ·intro e
    rw[e,Int.mul_zero] at h1
    rcases Int.mul_eq_zero.1 h1 with h4 | h4
    ·omega
    ·exact h4
  constructor
  ·intro hz i hi hb
   by_cases e:i=r n
   ·rw[e,hs.at'.T _ R hs.leaves.lt hR,if_pos rfl];exact hf
   ·rw[hs.at'.β i hi] at hb
    unfold upd at hb
    rw[if_neg e] at hb
    exact (key i hi e).2 (hz i hi hb)
  ·intro hz i hi hb
   by_cases e:i=r n
   ·rw[e];exact hf
   ·refine (key i hi e).1 (hz i hi ?_)
    rw[hs.at'.β i hi]
    unfold upd
    rw[if_neg e]
    exact hb
 have zeroAll:∀q n,n≤k→((∀i,i<m→(S 0).β i=q→(S 0).T i R=0)↔(∀i,i<m→(S n).β i=q→(S n).T i R=0)):=fun q n=>by
  induction n with
  | zero=>intro _;exact Iff.rfl
  | succ n ih=>intro hn;exact (ih (by omega)).trans (zeroStep n q (by omega))
 have comes:∀n q,n<k→(¬ ∃p,p<m∧(S n).β p=q)→(∃p,p<m∧(S (n+1)).β p=q)→q=c n:=fun n q hn h1 ⟨p,hp,hq⟩=>by
  have hs:=h.step n hn
  rw[hs.at'.β p hp] at hq
  unfold upd at hq
  split at hq
  ·exact hq.symm
  ·exact (h1 ⟨p,hp,hq⟩).elim
 have goes:∀n q,n<k→(∃p,p<m∧(S n).β p=q)→(¬ ∃p,p<m∧(S (n+1)).β p=q)→q=(S n).β (r n):=fun n q hn ⟨p,hp,hq⟩ h1=>by
  have hs:=h.step n hn
  by_cases e:p=r n
  ·rw[←e];exact hq.symm
  ·refine (h1 ⟨p,hp,?_⟩).elim
   rw[hs.at'.β p hp]
   unfold upd
   rw[if_neg e]
   exact hq
 have notIn:∀n,n<k→¬ ∃p,p<m∧(S n).β p=c n:=fun n hn ⟨p,hp,hq⟩=>by
  have hs:=h.step n hn
  have h1:=hs.enters.neg
  rw[←hq,zr_basis (h.val n (by omega)).tb hp] at h1
  omega
 have isIn:∀n,n<k→∃p,p<m∧(S (n+1)).β p=c n:=fun n hn=>by
  have hs:=h.step n hn
  refine ⟨r n,hs.leaves.lt,?_⟩
  rw[hs.at'.β _ hs.leaves.lt]
  unfold upd
  rw[if_pos rfl]
 have ends:∀q,(∃p,p<m∧(S k).β p=q)↔∃p,p<m∧(S 0).β p=q:=fun q=>by
  constructor
  ·rintro ⟨p,hp,hq⟩;exact ⟨p,hp,by rw[←hcyc p hp];exact hq⟩
  ·rintro ⟨p,hp,hq⟩;exact ⟨p,hp,by rw[hcyc p hp];exact hq⟩
 obtain ⟨ns,hns,hmax⟩:=max_of (f:=c) hk
 have leaves:∃n,n<k∧(S n).β (r n)=c ns:=by
  by_cases h0:∃p,p<m∧(S 0).β p=c ns
  ·obtain ⟨n,h1,h2,h3,h4⟩:=left_between (β:=fun n=>(S n).β) (k:=ns) (i:=0) h0 (by rw[Nat.zero_add];exact notIn ns hns)
   exact ⟨n,by omega,(goes n _ (by omega) h3 h4).symm⟩
  ·have h1:¬ ∃p,p<m∧(S k).β p=c ns:=fun e=>h0 ((ends _).1 e)
   obtain ⟨n,h2,h3,h4,h5⟩:=left_between (β:=fun n=>(S n).β) (k:=k - (ns+1)) (i:=ns+1) (isIn ns hns) (by rw[show ns+1+(k - (ns+1))=k by omega];exact h1)
   exact ⟨n,by omega,(goes n _ (by omega) h4 h5).symm⟩
 obtain ⟨n,hn,hleave⟩:=leaves
 have hs:=h.step n hn
 have hst:=h.step ns hns
 have vn:=h.val n (by omega)
 have vs:=h.val ns (by omega)
 have hcn:=hmax n hn
 have hne:c n≠c ns:=fun e=>notIn n hn ⟨r n,hs.leaves.lt,by rw[hleave];exact e.symm⟩
 have id:=zr_two (wc:=wc) vn.tb vs.tb ha hM (cw n hn)
 have z1:0≤zr m wc (S ns) (c n):=hst.enters.least (c n) (by omega)
 have z2:=hs.enters.neg
 have d1:=dp n (by omega)
 have d2:=dp ns (by omega)
 have hsum:0<sz m fun i=>(S n).T i (c n)*zr m wc (S ns) ((S n).β i):=by
  have h1:0≤(S n).d*zr m wc (S ns) (c n):=Int.mul_nonneg (by omega) z1
  have h2:0<(S ns).d* -zr m wc (S n) (c n):=Int.mul_pos d2 (by omega)
  rw[Int.mul_neg] at h2
  omega
 have hex:∃i,i<m∧0<(S n).T i (c n)*zr m wc (S ns) ((S n).β i):=by
  by_cases e:∃i,i<m∧0<(S n).T i (c n)*zr m wc (S ns) ((S n).β i)
  ·exact e
  ·exfalso
   have:=sz_le (n:=m) (f:=fun i=>(S n).T i (c n)*zr m wc (S ns) ((S n).β i)) (g:=fun _=>0) fun i hi=>Int.not_lt.1 fun h'=>e ⟨i,hi,h'⟩
   rw[sz_zero (f:=fun _=>0) fun _ _=>rfl] at this
   omega
 obtain ⟨i,hi,hpos⟩:=hex
 have hq0:zr m wc (S ns) ((S n).β i)≠0:=fun e=>by rw[e,Int.mul_zero] at hpos;omega
 have hq1:¬ ∃p,p<m∧(S ns).β p=(S n).β i:=fun ⟨p,hp,hq⟩=>hq0 (by rw[←hq];exact zr_basis vs.tb hp)
 have hq2:∃p,p<m∧(S n).β p=(S n).β i:=⟨i,hi,rfl⟩
 have hq3:∃n',n'<k∧(S n).β i=c n':=by
  by_cases hlt:ns<n
  ·obtain ⟨n',h1,h2,h3,h4⟩:=come_between (β:=fun n=>(S n).β) (k:=n - ns) (i:=ns) hq1 (by rw[show ns+(n - ns)=n by omega];exact hq2)
   exact ⟨n',by omega,comes n' _ (by omega) h3 h4⟩
  ·by_cases h0:∃p,p<m∧(S 0).β p=(S n).β i
   ·obtain ⟨n',h1,h2,h3,h4⟩:=come_between (β:=fun n=>(S n).β) (k:=k - ns) (i:=ns) hq1 (by rw[show ns+(k - ns)=k by omega];exact (ends _).2 h0)
    exact ⟨n',by omega,comes n' _ (by omega) h3 h4⟩
   ·obtain ⟨n',h1,h2,h3,h4⟩:=come_between (β:=fun n=>(S n).β) (k:=n) (i:=0) h0 (by rw[Nat.zero_add];exact hq2)
    exact ⟨n',by omega,comes n' _ (by omega) h3 h4⟩
 obtain ⟨n',hn',hq4⟩:=hq3
 have hq5:(S n).β i≤c ns:=by rw[hq4];exact hmax n' hn'
 by_cases hqt:(S n).β i=c ns
 ·have:i=r n:=vn.tb.inj hi hs.leaves.lt (by rw[hqt,hleave])
  rw[this,hleave] at hpos
  have h1:=hs.leaves.pos
  have h2:=hst.enters.neg
  have h3:0<(S n).T (r n) (c n)* -zr m wc (S ns) (c ns):=Int.mul_pos h1 (by omega)
  rw[Int.mul_neg] at h3
  omega
 ·have z3:0≤zr m wc (S ns) ((S n).β i):=hst.enters.least _ (by omega)
  have hTi:0<(S n).T i (c n):=by
   by_cases e:0<(S n).T i (c n)
   ·exact e
   ·exfalso
    have:0≤ -(S n).T i (c n)*zr m wc (S ns) ((S n).β i):=Int.mul_nonneg (by omega) z3
    rw[Int.neg_mul] at this
    omega
  have hiR:(S n).T i R=0:=((zeroAll _ n (by omega)).1 ((zeroAll _ ns (by omega)).2 fun p hp hq=>(hq1 ⟨p,hp,hq⟩).elim)) i hi rfl
  have:=hs.leaves.tie i hi hTi (by rw[flat n hn,hiR,Int.zero_mul,Int.zero_mul])
  rw[hleave] at this
  omega
end
end Dn
end Go.Proofs.Ytnbbackjofgcfaa

namespace Go.Proofs.Ytnbbackjofgcfaa
namespace Dn
theorem pigeon:∀(K:Nat) (f:Nat→Nat),(∀i,i≤K→f i<K)→∃i j,i<j∧j≤K∧f i=f j
 | 0,f,h=>by have:=h 0 (by omega);omega
 | K+1,f,h=>by
  by_cases e:∃i,i≤K∧f i=f (K+1)
  ·obtain ⟨i,h1,h2⟩:=e
   exact ⟨i,K+1,by omega,by omega,h2⟩
  ·
   obtain ⟨i,j,h1,h2,h3⟩:=pigeon K (fun i=>if f i<f (K+1) then f i else f i - 1) fun i hi=>by
    have h4:=h i (by omega)
    have h5:=h (K+1) (by omega)
    have h6:f i≠f (K+1):=fun e'=>e ⟨i,hi,e'⟩
    show (if f i<f (K+1) then f i else f i - 1)<K
    split<;>omega
   refine ⟨i,j,h1,by omega,?_⟩
   have h6:f i≠f (K+1):=fun e'=>e ⟨i,by omega,e'⟩
   have h7:f j≠f (K+1):=fun e'=>e ⟨j,by omega,e'⟩
   have h3:(if f i<f (K+1) then f i else f i - 1)=(if f j<f (K+1) then f j else f j - 1):=h3
   split at h3<;>split at h3<;>omega
def code (w:Nat) (β:Nat→Nat):Nat→Nat
 | 0=>0
 | m+1=>code w β m*w+β m
theorem code_lt {w:Nat} {β:Nat→Nat}:∀{m:Nat},(∀i,i<m→β i<w)→code w β m<w ^ m
 | 0,_=>by simp[code]
 | m+1,h=>by
  simp only[code]
  have h1:=code_lt (m:=m) fun i hi=>h i (by omega)
  have h2:=h m (by omega)
  have h3:(code w β m+1)*w≤w ^ m*w:=Nat.mul_le_mul_right _ h1
  rw[Nat.pow_succ]
  rw[Nat.add_mul,Nat.one_mul] at h3
  omega
theorem code_inj {w:Nat} {β γ:Nat→Nat}:∀{m:Nat},(∀i,i<m→β i<w)→(∀i,i<m→γ i<w)→code w β m=code w γ m→∀i,i<m→β i=γ i
 | 0,_,_,_,i,hi=>by omega
 | m+1,hβ,hγ,h,i,hi=>by
  simp only[code] at h
  have h1:=hβ m (by omega)
  have h2:=hγ m (by omega)
  have e1:(code w β m*w+β m) % w=β m:=by rw[Nat.mul_comm,Nat.mul_add_mod,Nat.mod_eq_of_lt h1]
  have e2:(code w γ m*w+γ m) % w=γ m:=by rw[Nat.mul_comm,Nat.mul_add_mod,Nat.mod_eq_of_lt h2]
  have e3:β m=γ m:=by rw[←e1,←e2,h]
  have e4:code w β m=code w γ m:=by
   have:code w β m*w=code w γ m*w:=by omega
   exact Nat.eq_of_mul_eq_mul_right (by omega) this
  by_cases e:i=m
  ·rw[e];exact e3
  ·exact code_inj (fun i hi=>hβ i (by omega)) (fun i hi=>hγ i (by omega)) e4 i (by omega)
open Classical in
noncomputable def greatest (p:Nat→Prop):Nat→Nat
 | 0=>0
 | k+1=>if p k then k else greatest p k
section
variable {m w N R:Nat} {M:Nat→Nat→Int} {wc:Nat→Int}
theorem Run.short {k:Nat} {S:Nat→Sx} {r c:Nat→Nat} {a:Nat→Nat} (ha:∀i,i<m→a i<w) (hM:∀k,k<m→∀i,i<m→M k (a i)=if k=i then 1 else 0) (hN:N≤R) (hR:R<w)
  (h:Run m w N R M wc k S r c):k<w ^ m:=by
 by_cases hk:k<w ^ m
 ·exact hk
 ·exfalso
  obtain ⟨i,j,h1,h2,h3⟩:=pigeon (w ^ m) (fun n=>code w (S n).β m) fun n hn=>code_lt (h.val n (by omega)).tb.lt
  have h4:=code_inj (h.val i (by omega)).tb.lt (h.val j (by omega)).tb.lt h3
  have h5:Run m w N R M wc (j - i) (fun n=>S (i+n)) (fun n=>r (i+n)) (fun n=>c (i+n)):=⟨fun n hn=>h.val (i+n) (by omega),fun n hn=>h.step (i+n) (by omega)⟩
  refine h5.nocycle ha hM hN hR (by omega) fun p hp=>?_
  show (S (i+(j - i))).β p=(S (i+0)).β p
  rw[show i+(j - i)=j by omega,Nat.add_zero]
  exact (h4 p hp).symm
noncomputable def left (m w N R:Nat) (M:Nat→Nat→Int) (wc:Nat→Int) (s:Sx):Nat:=greatest (fun k=>∃S r c,S 0=s∧Run m w N R M wc k S r c) (w ^ m)
end
end Dn
end Go.Proofs.Ytnbbackjofgcfaa
