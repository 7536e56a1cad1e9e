/- r30: what its functions answer (printed by a program), and that they do; part 3. Plain lemmas for what functions answer: loops, machine numbers, lists. Names: both programs know the same ones. Loops over lists: searches and tests of all elements. Loops over the elements of a list, as recursions over it. Line sets: both programs know the same valid items and bricks. Line sets: bricks, lines, and valid sets. Line sets: lines, and valid sets. Beams and loads: both programs know the same valid ones. Houses: small ones, the sets' names, valid ones. Houses: what the sets load. Beams over a depth: how many, which. Fractions: rational numbers, and the pairs of numbers that stand for them. Fractions: what 'Make', 'Valid', 'Mul', 'Floor', 'Ceil' of package ratio answer. Fractions: products of two words, 'Mul', 'Floor', 'Ceil' of package ratio. Fractions of the reference: numbers of two words, their greatest common divisors and quotients. -/
import Derived.Laws.StructEq
import Derived.Test.YtmoiiokmfanlgaaGreatMgM

namespace Go.Proofs.YtmoiiokmfanlgaaGreat
open Tryz Dn Dn.Sh

set_option maxRecDepth 100000
/-- slices.ContainsFunc[[]loftblock api.Set,loftblock api.Set] -/
noncomputable def slices_ContainsFunc_19_b (_ : Lp) (_ : Jn) (slices_IndexFunc_50 : (List (ByteArray × Int × Int × Int × Int × (List Int) × Int × Int × Int × Int × Int × (List (ByteArray × Int × Int × Int × Int × Int × Int)) × List (ByteArray × Int × Int))) → ((((ByteArray × Int × Int × Int × Int × (List Int) × Int × Int × Int × Int × Int × (List (ByteArray × Int × Int × Int × Int × Int × Int)) × List (ByteArray × Int × Int)) × Unit) → Option Bool)) → Option (Int)) (x0 : List (ByteArray × Int × Int × Int × Int × (List Int) × Int × Int × Int × Int × Int × (List (ByteArray × Int × Int × Int × Int × Int × Int)) × List (ByteArray × Int × Int))) (f0 : (((ByteArray × Int × Int × Int × Int × (List Int) × Int × Int × Int × Int × Int × (List (ByteArray × Int × Int × Int × Int × Int × Int)) × List (ByteArray × Int × Int)) × Unit) → Option Bool)) : Option Bool :=
  obind (slices_IndexFunc_50 x0 f0) fun (t : Int) => some (decide (t ≥ (0 : Int)))
noncomputable def slices_ContainsFunc_19 (x0 : List (ByteArray × Int × Int × Int × Int × (List Int) × Int × Int × Int × Int × Int × (List (ByteArray × Int × Int × Int × Int × Int × Int)) × List (ByteArray × Int × Int))) (f0 : (((ByteArray × Int × Int × Int × Int × (List Int) × Int × Int × Int × Int × Int × (List (ByteArray × Int × Int × Int × Int × Int × Int)) × List (ByteArray × Int × Int)) × Unit) → Option Bool)) : Option Bool := slices_ContainsFunc_19_b lpK jnK slices_IndexFunc_50 x0 f0
noncomputable def c19 : Ctr := ⟨[(.sl T44)], [([T44], .bool)], [], .one .bool, fun x F _ => slices_ContainsFunc_19 x.1 F.1⟩
theorem e19 (lp : Lp) (jn : Jn) (slices_IndexFunc_50 : (List (ByteArray × Int × Int × Int × Int × (List Int) × Int × Int × Int × Int × Int × (List (ByteArray × Int × Int × Int × Int × Int × Int)) × List (ByteArray × Int × Int))) → ((((ByteArray × Int × Int × Int × Int × (List Int) × Int × Int × Int × Int × Int × (List (ByteArray × Int × Int × Int × Int × Int × Int)) × List (ByteArray × Int × Int)) × Unit) → Option Bool)) → Option (Int)) : ∀ (x : TsS c19.as) (F : TsF c19.fs) (y : TsS c19.cs), slices_ContainsFunc_19_b lp jn slices_IndexFunc_50 x.1 F.1 = runC lp jn (ctxOf prog shs inls its [(50, ⟨[(.sl T44)], [([T44], .bool)], [], .one i64, fun x F _ => slices_IndexFunc_50 x.1 F.1⟩)] [(116, r116), (115, r115), (114, r114), (69, r69), (119, r119)]) hints 4 19 f19 c19 x F y := fun x F y => by kernel_rfl
theorem l19 : (ctxOf prog shs inls its [(50, c50)] [(116, r116), (115, r115), (114, r114), (69, r69), (119, r119)]).ok := ctxOf_cons (q116) (by kernel_rfl) ok50
theorem ok19 : c19.ok prog 19 := Ctr.of_den l19 hmix (hl := hints) (d := 4) func19 rfl (by decide) (e19 lpK jnK slices_IndexFunc_50)

/-- loftblock loftblocklaw30.HouseMoved$1 -/
noncomputable def law30_HouseMoved_1_b (_ : Lp) (_ : Jn) (x0 : ByteArray × Int × Int × Int × Int × (List Int) × Int × Int × Int × Int × Int × (List (ByteArray × Int × Int × Int × Int × Int × Int)) × List (ByteArray × Int × Int)) (y0 : ByteArray × Int × Int × Int × Int × (List Int) × Int × Int × Int × Int × Int × (List (ByteArray × Int × Int × Int × Int × Int × Int)) × List (ByteArray × Int × Int)) : Option Bool :=
  some (decide (x0.snd.fst = y0.snd.fst))
noncomputable def law30_HouseMoved_1 (x0 : ByteArray × Int × Int × Int × Int × (List Int) × Int × Int × Int × Int × Int × (List (ByteArray × Int × Int × Int × Int × Int × Int)) × List (ByteArray × Int × Int)) (y0 : ByteArray × Int × Int × Int × Int × (List Int) × Int × Int × Int × Int × Int × (List (ByteArray × Int × Int × Int × Int × Int × Int)) × List (ByteArray × Int × Int)) : Option Bool := law30_HouseMoved_1_b lpK jnK x0 y0
noncomputable def c20 : Ctr := ⟨[T44], [], [T44], .one .bool, fun x _ y => law30_HouseMoved_1 x.1 y.1⟩
theorem e20 (lp : Lp) (jn : Jn) : ∀ (x : TsS c20.as) (F : TsF c20.fs) (y : TsS c20.cs), law30_HouseMoved_1_b lp jn x.1 y.1 = runC lp jn (ctxOf prog shs inls its [] [(116, r116), (115, r115), (114, r114), (69, r69), (119, r119)]) hints 4 20 f20 c20 x F y := fun x F y => by kernel_rfl
theorem l20 : (ctxOf prog shs inls its [] [(116, r116), (115, r115), (114, r114), (69, r69), (119, r119)]).ok := q116
theorem ok20 : c20.ok prog 20 := Ctr.of_den l20 hmix (hl := hints) (d := 4) func20 rfl (by decide) (e20 lpK jnK)

/-- loftblock loftblockref21.Copy -/
noncomputable def ref21_Copy_b (_ : Lp) (_ : Jn) (x0 : ByteArray × Int × Int × Int × Int × (List Int) × Int × Int × Int × Int × Int × (List (ByteArray × Int × Int × Int × Int × Int × Int)) × List (ByteArray × Int × Int)) : Option (ByteArray × Int × Int × Int × Int × (List Int) × Int × Int × Int × Int × Int × (List (ByteArray × Int × Int × Int × Int × Int × Int)) × List (ByteArray × Int × Int)) :=
  bif fitB ((0 : Nat) + List.length x0.snd.snd.snd.snd.snd.fst) (8 : Nat) then bif fitB ((0 : Nat) + List.length x0.snd.snd.snd.snd.snd.snd.snd.snd.snd.snd.snd.fst) (64 : Nat) then bif fitB
    ((0 : Nat) + List.length x0.snd.snd.snd.snd.snd.snd.snd.snd.snd.snd.snd.snd) (32 : Nat) then some x0 else none else none else none
noncomputable def ref21_Copy (x0 : ByteArray × Int × Int × Int × Int × (List Int) × Int × Int × Int × Int × Int × (List (ByteArray × Int × Int × Int × Int × Int × Int)) × List (ByteArray × Int × Int)) : Option (ByteArray × Int × Int × Int × Int × (List Int) × Int × Int × Int × Int × Int × (List (ByteArray × Int × Int × Int × Int × Int × Int)) × List (ByteArray × Int × Int)) := ref21_Copy_b lpK jnK x0
noncomputable def c51 : Ctr := ⟨[T44], [], [], .one T44, fun x _ _ => ref21_Copy x.1⟩
theorem e51 (lp : Lp) (jn : Jn) : ∀ (x : TsS c51.as) (F : TsF c51.fs) (y : TsS c51.cs), ref21_Copy_b lp jn x.1 = runC lp jn (ctxOf prog shs inls its [] [(116, r116), (115, r115), (114, r114), (69, r69), (119, r119)]) hints 4 51 f51 c51 x F y := fun x F y => by kernel_rfl
theorem l51 : (ctxOf prog shs inls its [] [(116, r116), (115, r115), (114, r114), (69, r69), (119, r119)]).ok := q116
theorem ok51 : c51.ok prog 51 := Ctr.of_den l51 hmix (hl := hints) (d := 4) func51 rfl (by decide) (e51 lpK jnK)

/-- loftblock loftblocklaw30.HouseMoved -/
noncomputable def law30_HouseMoved_b (lp : Lp) (_ : Jn) (house_Loads : (ByteArray × Int × (List (ByteArray × Int × Int × Int × Int × (List Int) × Int × Int × Int × Int × Int × (List (ByteArray × Int × Int × Int × Int × Int × Int)) × List (ByteArray × Int × Int))) × List (ByteArray × Int × Int × Int)) → Option ((List (Int × Int)) × Int × Unit)) (slices_Equal_14 : (List (Int × Int)) → (List (Int × Int)) → Option (Bool)) (house_Gap : (ByteArray × Int × (List (ByteArray × Int × Int × Int × Int × (List Int) × Int × Int × Int × Int × Int × (List (ByteArray × Int × Int × Int × Int × Int × Int)) × List (ByteArray × Int × Int))) × List (ByteArray × Int × Int × Int)) → (ByteArray) → (ByteArray) → Option (Int × Int × Unit)) (law30_awake : Option (Bool)) (law30_ready : (ByteArray × Int × (List (ByteArray × Int × Int × Int × Int × (List Int) × Int × Int × Int × Int × Int × (List (ByteArray × Int × Int × Int × Int × Int × Int)) × List (ByteArray × Int × Int))) × List (ByteArray × Int × Int × Int)) → Option (Bool)) (slices_ContainsFunc_19 : (List (ByteArray × Int × Int × Int × Int × (List Int) × Int × Int × Int × Int × Int × (List (ByteArray × Int × Int × Int × Int × Int × Int)) × List (ByteArray × Int × Int))) → ((((ByteArray × Int × Int × Int × Int × (List Int) × Int × Int × Int × Int × Int × (List (ByteArray × Int × Int × Int × Int × Int × Int)) × List (ByteArray × Int × Int)) × Unit) → Option Bool)) → Option (Bool)) (law30_HouseMoved_1 : (ByteArray × Int × Int × Int × Int × (List Int) × Int × Int × Int × Int × Int × (List (ByteArray × Int × Int × Int × Int × Int × Int)) × List (ByteArray × Int × Int)) → (ByteArray × Int × Int × Int × Int × (List Int) × Int × Int × Int × Int × Int × (List (ByteArray × Int × Int × Int × Int × Int × Int)) × List (ByteArray × Int × Int)) → Option (Bool)) (ref21_Copy : (ByteArray × Int × Int × Int × Int × (List Int) × Int × Int × Int × Int × Int × (List (ByteArray × Int × Int × Int × Int × Int × Int)) × List (ByteArray × Int × Int)) → Option (ByteArray × Int × Int × Int × Int × (List Int) × Int × Int × Int × Int × Int × (List (ByteArray × Int × Int × Int × Int × Int × Int)) × List (ByteArray × Int × Int))) (x0 : ByteArray × Int × (List (ByteArray × Int × Int × Int × Int × (List Int) × Int × Int × Int × Int × Int × (List (ByteArray × Int × Int × Int × Int × Int × Int)) × List (ByteArray × Int × Int))) × List (ByteArray × Int × Int × Int)) : Option Bool :=
  
  let v3 : List (ByteArray × Int × Int × Int × Int × List Int × Int × Int × Int × Int × Int × List (ByteArray × Int × Int × Int × Int × Int × Int) × List (ByteArray × Int × Int)) := [];
  let v4 : Bool := inB (0 : Int) (List.length x0.snd.snd.fst); obind law30_awake fun (t : Bool) => bif !t then some false else obind (law30_ready x0) fun (t : Bool) => bif !t then some true
    else lp (Int × PUnit) Bool (fun (again : Int × PUnit → Option Bool) (x : Int × PUnit) => bif decide (x.fst < (↑(List.length x0.snd.snd.fst) : Int)) then bif inB x.fst (List.length
    x0.snd.snd.fst) then bif slB (0 : Int) x.fst (List.length x0.snd.snd.fst) then obind (slices_ContainsFunc_19 (List.drop (0 : Nat) (List.take (Int.toNat x.fst) x0.snd.snd.fst)) fun (x_1
    : (ByteArray × Int × Int × Int × Int × List Int × Int × Int × Int × Int × Int × List (ByteArray × Int × Int × Int × Int × Int × Int) × List (ByteArray × Int × Int)) × PUnit) =>
    law30_HouseMoved_1 x_1.fst (List.getD x0.snd.snd.fst (Int.toNat x.fst) ({ data := { toList := [] } }, (0 : Int), (0 : Int), (0 : Int), (0 : Int), [], (0 : Int), (0 : Int), (0 : Int), (0
    : Int), (0 : Int), [], []))) fun (t : Bool) => bif t then some true else again (IntKind.wrap IntKind.i64 (x.fst + (1 : Int)), PUnit.unit) else none else none else bif fitB ((0 : Nat) +
    List.length x0.snd.snd.snd) (40 : Nat) then lp (Int × ByteArray × Int × List (ByteArray × Int × Int × Int × Int × List Int × Int × Int × Int × Int × Int × List (ByteArray × Int × Int ×
    Int × Int × Int × Int) × List (ByteArray × Int × Int)) × List (ByteArray × Int × Int × Int) × PUnit) Bool (fun (again : Int × ByteArray × Int × List (ByteArray × Int × Int × Int × Int ×
    List Int × Int × Int × Int × Int × Int × List (ByteArray × Int × Int × Int × Int × Int × Int) × List (ByteArray × Int × Int)) × List (ByteArray × Int × Int × Int) × PUnit → Option Bool)
    (x : Int × ByteArray × Int × List (ByteArray × Int × Int × Int × Int × List Int × Int × Int × Int × Int × Int × List (ByteArray × Int × Int × Int × Int × Int × Int) × List (ByteArray ×
    Int × Int)) × List (ByteArray × Int × Int × Int) × PUnit) => bif decide (x.fst < (↑(List.length x0.snd.snd.fst) : Int)) then bif inB x.fst (List.length x0.snd.snd.fst) then obind
    (ref21_Copy (List.getD x0.snd.snd.fst (Int.toNat x.fst) ({ data := { toList := [] } }, (0 : Int), (0 : Int), (0 : Int), (0 : Int), [], (0 : Int), (0 : Int), (0 : Int), (0 : Int), (0 :
    Int), [], []))) fun (t : ByteArray × Int × Int × Int × Int × List Int × Int × Int × Int × Int × Int × List (ByteArray × Int × Int × Int × Int × Int × Int) × List (ByteArray × Int ×
    Int)) => bif fitB (List.length x.snd.snd.snd.fst + (1 : Nat)) (160 : Nat) then again (IntKind.wrap IntKind.i64 (x.fst + (1 : Int)), x.snd.fst, x.snd.snd.fst, x.snd.snd.snd.fst ++ t ::
    v3, x.snd.snd.snd.snd.fst, PUnit.unit) else none else none else lp (Int × Int × List (ByteArray × Int × Int × Int × Int × List Int × Int × Int × Int × Int × Int × List (ByteArray × Int
    × Int × Int × Int × Int × Int) × List (ByteArray × Int × Int)) × PUnit) Bool (fun (again : Int × Int × List (ByteArray × Int × Int × Int × Int × List Int × Int × Int × Int × Int × Int ×
    List (ByteArray × Int × Int × Int × Int × Int × Int) × List (ByteArray × Int × Int)) × PUnit → Option Bool) (x_1 : Int × Int × List (ByteArray × Int × Int × Int × Int × List Int × Int ×
    Int × Int × Int × Int × List (ByteArray × Int × Int × Int × Int × Int × Int) × List (ByteArray × Int × Int)) × PUnit) =>
  let v13 : Bool := inB x_1.fst (List.length x_1.snd.snd.fst);
  let v14 : Bool := Nat.ble (Nat.succ (Int.toNat x_1.fst)) (List.length x_1.snd.snd.fst);
  let v15 : Bool := inB x_1.snd.fst (List.length x_1.snd.snd.fst);
  let v16 : Bool := Nat.ble (Nat.succ (Int.toNat x_1.snd.fst)) (List.length x_1.snd.snd.fst); bif decide (x_1.fst < x_1.snd.fst) then bif v15 then bif v16 then bif v13 then bif v14 then bif
    v13 then bif v14 then bif v15 then bif v16 then again (IntKind.wrap IntKind.i64 (x_1.fst + (1 : Int)), IntKind.wrap IntKind.i64 (x_1.snd.fst - (1 : Int)), List.set (List.set
    x_1.snd.snd.fst (Int.toNat x_1.fst) (List.getD x_1.snd.snd.fst (Int.toNat x_1.snd.fst) ({ data := { toList := [] } }, (0 : Int), (0 : Int), (0 : Int), (0 : Int), [], (0 : Int), (0 :
    Int), (0 : Int), (0 : Int), (0 : Int), [], []))) (Int.toNat x_1.snd.fst) (List.getD x_1.snd.snd.fst (Int.toNat x_1.fst) ({ data := { toList := [] } }, (0 : Int), (0 : Int), (0 : Int),
    (0 : Int), [], (0 : Int), (0 : Int), (0 : Int), (0 : Int), (0 : Int), [], [])), PUnit.unit) else none else none else none else none else none else none else none else none else obind
    (house_Loads x0) fun (t : List (Int × Int) × Int × PUnit) =>
  let v18 : Bool := !decide (t.snd.fst = (5 : Int));
  let v19 : Bool := !v18 || v18; obind (house_Loads (x.snd.fst, x.snd.snd.fst, x_1.snd.snd.fst, x.snd.snd.snd.snd.fst)) fun (t_1 : List (Int × Int) × Int × PUnit) =>
  let v21 : Bool := bif v18 then !decide (t_1.snd.fst = (5 : Int)) else false;
  let v22 : Bool := !v21;
  let v23 : Bool := !decide (t.snd.fst = t_1.snd.fst);
  let v24 : Bool := v22 || v21;
  let v25 : Bool := v21 && !v23;
  let v26 : Bool := !v25 || v25; bif v19 then bif v19 then bif v24 && v24 then bif v24 then bif v26 && v26 then obind (bif v25 then slices_Equal_14 t.fst t_1.fst else some false) fun (t :
    Bool) => bif v26 then bif (v22 || v24) && (v22 || (v23 || (v22 || v25))) then bif v24 then bif bif v21 then bif v23 then true else !t else false then some false else lp (Int × PUnit)
    Bool (fun (again : Int × PUnit → Option Bool) (x : Int × PUnit) =>
  let v30 : Bool := inB x.fst (List.length x0.snd.snd.fst); bif decide (x.fst < (↑(List.length x0.snd.snd.fst) : Int)) then bif v4 then bif v30 then obind (house_Gap x0 (List.getD
    x0.snd.snd.fst (0 : Nat) ({ data := { toList := [] } }, (0 : Int), (0 : Int), (0 : Int), (0 : Int), [], (0 : Int), (0 : Int), (0 : Int), (0 : Int), (0 : Int), [], [])).fst (List.getD
    x0.snd.snd.fst (Int.toNat x.fst) ({ data := { toList := [] } }, (0 : Int), (0 : Int), (0 : Int), (0 : Int), [], (0 : Int), (0 : Int), (0 : Int), (0 : Int), (0 : Int), [], [])).fst) fun
    (t : Int × Int × PUnit) => bif v4 then bif v30 then none else none else none else none else none else some true) ((1 : Int), PUnit.unit) else none else none else none else none else
    none else none else none else none) ((0 : Int), IntKind.wrap IntKind.i64 ((↑(List.length x.snd.snd.snd.fst) : Int) - (1 : Int)), x.snd.snd.snd.fst, PUnit.unit)) ((0 : Int), x0.fst,
    x0.snd.fst, v3, x0.snd.snd.snd, PUnit.unit) else none) ((0 : Int), PUnit.unit)
noncomputable def law30_HouseMoved (x0 : ByteArray × Int × (List (ByteArray × Int × Int × Int × Int × (List Int) × Int × Int × Int × Int × Int × (List (ByteArray × Int × Int × Int × Int × Int × Int)) × List (ByteArray × Int × Int))) × List (ByteArray × Int × Int × Int)) : Option Bool := law30_HouseMoved_b lpK jnK house_Loads slices_Equal_14 house_Gap law30_awake law30_ready slices_ContainsFunc_19 law30_HouseMoved_1 ref21_Copy x0
noncomputable def c5 : Ctr := ⟨[T25], [], [], .one .bool, fun x _ _ => law30_HouseMoved x.1⟩
theorem e5 (lp : Lp) (jn : Jn) (house_Loads : (ByteArray × Int × (List (ByteArray × Int × Int × Int × Int × (List Int) × Int × Int × Int × Int × Int × (List (ByteArray × Int × Int × Int × Int × Int × Int)) × List (ByteArray × Int × Int))) × List (ByteArray × Int × Int × Int)) → Option ((List (Int × Int)) × Int × Unit)) (slices_Equal_14 : (List (Int × Int)) → (List (Int × Int)) → Option (Bool)) (house_Gap : (ByteArray × Int × (List (ByteArray × Int × Int × Int × Int × (List Int) × Int × Int × Int × Int × Int × (List (ByteArray × Int × Int × Int × Int × Int × Int)) × List (ByteArray × Int × Int))) × List (ByteArray × Int × Int × Int)) → (ByteArray) → (ByteArray) → Option (Int × Int × Unit)) (law30_awake : Option (Bool)) (law30_ready : (ByteArray × Int × (List (ByteArray × Int × Int × Int × Int × (List Int) × Int × Int × Int × Int × Int × (List (ByteArray × Int × Int × Int × Int × Int × Int)) × List (ByteArray × Int × Int))) × List (ByteArray × Int × Int × Int)) → Option (Bool)) (slices_ContainsFunc_19 : (List (ByteArray × Int × Int × Int × Int × (List Int) × Int × Int × Int × Int × Int × (List (ByteArray × Int × Int × Int × Int × Int × Int)) × List (ByteArray × Int × Int))) → ((((ByteArray × Int × Int × Int × Int × (List Int) × Int × Int × Int × Int × Int × (List (ByteArray × Int × Int × Int × Int × Int × Int)) × List (ByteArray × Int × Int)) × Unit) → Option Bool)) → Option (Bool)) (law30_HouseMoved_1 : (ByteArray × Int × Int × Int × Int × (List Int) × Int × Int × Int × Int × Int × (List (ByteArray × Int × Int × Int × Int × Int × Int)) × List (ByteArray × Int × Int)) → (ByteArray × Int × Int × Int × Int × (List Int) × Int × Int × Int × Int × Int × (List (ByteArray × Int × Int × Int × Int × Int × Int)) × List (ByteArray × Int × Int)) → Option (Bool)) (ref21_Copy : (ByteArray × Int × Int × Int × Int × (List Int) × Int × Int × Int × Int × Int × (List (ByteArray × Int × Int × Int × Int × Int × Int)) × List (ByteArray × Int × Int)) → Option (ByteArray × Int × Int × Int × Int × (List Int) × Int × Int × Int × Int × Int × (List (ByteArray × Int × Int × Int × Int × Int × Int)) × List (ByteArray × Int × Int))) : ∀ (x : TsS c5.as) (F : TsF c5.fs) (y : TsS c5.cs), law30_HouseMoved_b lp jn house_Loads slices_Equal_14 house_Gap law30_awake law30_ready slices_ContainsFunc_19 law30_HouseMoved_1 ref21_Copy x.1 = runC lp jn (ctxOf prog shs inls its [(51, ⟨[T44], [], [], .one T44, fun x _ _ => ref21_Copy x.1⟩), (20, ⟨[T44], [], [T44], .one .bool, fun x _ y => law30_HouseMoved_1 x.1 y.1⟩), (19, ⟨[(.sl T44)], [([T44], .bool)], [], .one .bool, fun x F _ => slices_ContainsFunc_19 x.1 F.1⟩), (15, ⟨[T25], [], [], .one .bool, fun x _ _ => law30_ready x.1⟩), (10, ⟨[], [], [], .one .bool, fun _ _ _ => law30_awake⟩), (18, ⟨[T25, .str, .str], [], [], .tup [i64, i64], fun x _ _ => house_Gap x.1 x.2.1 x.2.2.1⟩), (14, ⟨[(.sl T36), (.sl T36)], [], [], .one .bool, fun x _ _ => slices_Equal_14 x.1 x.2.1⟩), (12, ⟨[T25], [], [], .tup [(.sl T36), i64], fun x _ _ => house_Loads x.1⟩)] [(116, r116), (115, r115), (114, r114), (69, r69), (119, r119)]) hints 4 5 f5 c5 x F y := fun x F y => by kernel_rfl
theorem l5 : (ctxOf prog shs inls its [(51, c51), (20, c20), (19, c19), (15, c15), (10, c10), (18, c18), (14, c14), (12, c12)] [(116, r116), (115, r115), (114, r114), (69, r69), (119, r119)]).ok := ctxOf_cons (ctxOf_cons (ctxOf_cons (ctxOf_cons (ctxOf_cons (ctxOf_cons (ctxOf_cons (ctxOf_cons (q116) (by kernel_rfl) ok12) (by kernel_rfl) ok14) (by kernel_rfl) ok18) (by kernel_rfl) ok10) (by kernel_rfl) ok15) (by kernel_rfl) ok19) (by kernel_rfl) ok20) (by kernel_rfl) ok51
theorem ok5 : c5.ok prog 5 := Ctr.of_den l5 hmix (hl := hints) (d := 4) func5 rfl (by decide) (e5 lpK jnK house_Loads slices_Equal_14 house_Gap law30_awake law30_ready slices_ContainsFunc_19 law30_HouseMoved_1 ref21_Copy)

/-- slices.IndexFunc[[]loftblock api.Frac,loftblock api.Frac] -/
noncomputable def slices_IndexFunc_90_b (lp : Lp) (_ : Jn) (x0 : List (Int × Int)) (f0 : (((Int × Int) × Unit) → Option Bool)) : Option Int :=
  lp (Int × PUnit) Int (fun (again : Int × PUnit → Option Int) (x : Int × PUnit) => bif decide (x.fst < (↑(List.length x0) : Int)) then bif inB x.fst (List.length x0) then obind (f0
    (List.getD x0 (Int.toNat x.fst) ((0 : Int), (0 : Int)), PUnit.unit)) fun (t : Bool) => bif t then some x.fst else again (IntKind.wrap IntKind.i64 (x.fst + (1 : Int)), PUnit.unit) else
    none else some (-1 : Int)) ((0 : Int), PUnit.unit)
noncomputable def slices_IndexFunc_90 (x0 : List (Int × Int)) (f0 : (((Int × Int) × Unit) → Option Bool)) : Option Int := slices_IndexFunc_90_b lpK jnK x0 f0
noncomputable def c90 : Ctr := ⟨[(.sl T36)], [([T36], .bool)], [], .one i64, fun x F _ => slices_IndexFunc_90 x.1 F.1⟩
theorem e90 (lp : Lp) (jn : Jn) : ∀ (x : TsS c90.as) (F : TsF c90.fs) (y : TsS c90.cs), slices_IndexFunc_90_b lp jn x.1 F.1 = runC lp jn (ctxOf prog shs inls its [] [(116, r116), (115, r115), (114, r114), (69, r69), (119, r119)]) hints 4 90 f90 c90 x F y := fun x F y => by kernel_rfl
theorem l90 : (ctxOf prog shs inls its [] [(116, r116), (115, r115), (114, r114), (69, r69), (119, r119)]).ok := q116
theorem ok90 : c90.ok prog 90 := Ctr.of_den l90 hmix (hl := hints) (d := 4) func90 rfl (by decide) (e90 lpK jnK)

/-- slices.ContainsFunc[[]loftblock api.Frac,loftblock api.Frac] -/
noncomputable def slices_ContainsFunc_57_b (_ : Lp) (_ : Jn) (slices_IndexFunc_90 : (List (Int × Int)) → ((((Int × Int) × Unit) → Option Bool)) → Option (Int)) (x0 : List (Int × Int)) (f0 : (((Int × Int) × Unit) → Option Bool)) : Option Bool :=
  obind (slices_IndexFunc_90 x0 f0) fun (t : Int) => some (decide (t ≥ (0 : Int)))
noncomputable def slices_ContainsFunc_57 (x0 : List (Int × Int)) (f0 : (((Int × Int) × Unit) → Option Bool)) : Option Bool := slices_ContainsFunc_57_b lpK jnK slices_IndexFunc_90 x0 f0
noncomputable def c57 : Ctr := ⟨[(.sl T36)], [([T36], .bool)], [], .one .bool, fun x F _ => slices_ContainsFunc_57 x.1 F.1⟩
theorem e57 (lp : Lp) (jn : Jn) (slices_IndexFunc_90 : (List (Int × Int)) → ((((Int × Int) × Unit) → Option Bool)) → Option (Int)) : ∀ (x : TsS c57.as) (F : TsF c57.fs) (y : TsS c57.cs), slices_ContainsFunc_57_b lp jn slices_IndexFunc_90 x.1 F.1 = runC lp jn (ctxOf prog shs inls its [(90, ⟨[(.sl T36)], [([T36], .bool)], [], .one i64, fun x F _ => slices_IndexFunc_90 x.1 F.1⟩)] [(116, r116), (115, r115), (114, r114), (69, r69), (119, r119)]) hints 4 57 f57 c57 x F y := fun x F y => by kernel_rfl
theorem l57 : (ctxOf prog shs inls its [(90, c90)] [(116, r116), (115, r115), (114, r114), (69, r69), (119, r119)]).ok := ctxOf_cons (q116) (by kernel_rfl) ok90
theorem ok57 : c57.ok prog 57 := Ctr.of_den l57 hmix (hl := hints) (d := 4) func57 rfl (by decide) (e57 lpK jnK slices_IndexFunc_90)

/-- loftblock ratio.Sum$1 -/
noncomputable def ratio_Sum_1_b (_ : Lp) (_ : Jn) (ratio_Valid : (Int × Int) → Option (Bool)) (x0 : Int × Int) : Option Bool :=
  obind (ratio_Valid x0) fun (t : Bool) => some !t
noncomputable def ratio_Sum_1 (x0 : Int × Int) : Option Bool := ratio_Sum_1_b lpK jnK ratio_Valid x0
noncomputable def c58 : Ctr := ⟨[T36], [], [], .one .bool, fun x _ _ => ratio_Sum_1 x.1⟩
theorem e58 (lp : Lp) (jn : Jn) (ratio_Valid : (Int × Int) → Option (Bool)) : ∀ (x : TsS c58.as) (F : TsF c58.fs) (y : TsS c58.cs), ratio_Sum_1_b lp jn ratio_Valid x.1 = runC lp jn (ctxOf prog shs inls its [(59, ⟨[T36], [], [], .one .bool, fun x _ _ => ratio_Valid x.1⟩)] [(116, r116), (115, r115), (114, r114), (69, r69), (119, r119)]) hints 4 58 f58 c58 x F y := fun x F y => by kernel_rfl
theorem l58 : (ctxOf prog shs inls its [(59, c59)] [(116, r116), (115, r115), (114, r114), (69, r69), (119, r119)]).ok := ctxOf_cons (q116) (by kernel_rfl) ok59
theorem ok58 : c58.ok prog 58 := Ctr.of_den l58 hmix (hl := hints) (d := 4) func58 rfl (by decide) (e58 lpK jnK ratio_Valid)

/-- loftblock ratio.Sum -/
noncomputable def ratio_Sum_b (lp : Lp) (_ : Jn) (ratio_Add : (Int × Int) → (Int × Int) → Option ((Int × Int) × Int × Unit)) (slices_ContainsFunc_57 : (List (Int × Int)) → ((((Int × Int) × Unit) → Option Bool)) → Option (Bool)) (ratio_Sum_1 : (Int × Int) → Option (Bool)) (x0 : List (Int × Int)) : Option ((Int × Int) × Int × Unit) :=
  obind (slices_ContainsFunc_57 x0 fun (x : (Int × Int) × PUnit) => ratio_Sum_1 x.fst) fun (t : Bool) => bif t then some (((0 : Int), (0 : Int)), (1 : Int), PUnit.unit) else bif decide
    ((↑(List.length x0) : Int) > (1000 : Int)) then some (((0 : Int), (0 : Int)), (4 : Int), PUnit.unit) else lp (Int × (Int × Int) × (Int × Int) × PUnit) ((Int × Int) × Int × PUnit) (fun
    (again : Int × (Int × Int) × (Int × Int) × PUnit → Option ((Int × Int) × Int × PUnit)) (x : Int × (Int × Int) × (Int × Int) × PUnit) => bif decide (x.fst < (↑(List.length x0) : Int))
    then bif inB x.fst (List.length x0) then obind (ratio_Add x.snd.snd.fst (List.getD x0 (Int.toNat x.fst) ((0 : Int), (0 : Int)))) fun (t : (Int × Int) × Int × PUnit) => bif !decide
    (t.snd.fst = (0 : Int)) then some (((0 : Int), (0 : Int)), t.snd.fst, PUnit.unit) else again (IntKind.wrap IntKind.i64 (x.fst + (1 : Int)), x.snd.fst, t.fst, PUnit.unit) else none else
    some (x.snd.snd.fst, (0 : Int), PUnit.unit)) ((0 : Int), ((0 : Int), (0 : Int)), ((0 : Int), (1 : Int)), PUnit.unit)
noncomputable def ratio_Sum (x0 : List (Int × Int)) : Option ((Int × Int) × Int × Unit) := ratio_Sum_b lpK jnK ratio_Add slices_ContainsFunc_57 ratio_Sum_1 x0
noncomputable def c29 : Ctr := ⟨[(.sl T36)], [], [], .tup [T36, i64], fun x _ _ => ratio_Sum x.1⟩
theorem e29 (lp : Lp) (jn : Jn) (ratio_Add : (Int × Int) → (Int × Int) → Option ((Int × Int) × Int × Unit)) (slices_ContainsFunc_57 : (List (Int × Int)) → ((((Int × Int) × Unit) → Option Bool)) → Option (Bool)) (ratio_Sum_1 : (Int × Int) → Option (Bool)) : ∀ (x : TsS c29.as) (F : TsF c29.fs) (y : TsS c29.cs), ratio_Sum_b lp jn ratio_Add slices_ContainsFunc_57 ratio_Sum_1 x.1 = runC lp jn (ctxOf prog shs inls its [(58, ⟨[T36], [], [], .one .bool, fun x _ _ => ratio_Sum_1 x.1⟩), (57, ⟨[(.sl T36)], [([T36], .bool)], [], .one .bool, fun x F _ => slices_ContainsFunc_57 x.1 F.1⟩), (60, ⟨[T36, T36], [], [], .tup [T36, i64], fun x _ _ => ratio_Add x.1 x.2.1⟩)] [(116, r116), (115, r115), (114, r114), (69, r69), (119, r119)]) hints 4 29 f29 c29 x F y := fun x F y => by kernel_rfl
theorem l29 : (ctxOf prog shs inls its [(58, c58), (57, c57), (60, c60)] [(116, r116), (115, r115), (114, r114), (69, r69), (119, r119)]).ok := ctxOf_cons (ctxOf_cons (ctxOf_cons (q116) (by kernel_rfl) ok60) (by kernel_rfl) ok57) (by kernel_rfl) ok58
theorem ok29 : c29.ok prog 29 := Ctr.of_den l29 hmix (hl := hints) (d := 4) func29 rfl (by decide) (e29 lpK jnK ratio_Add slices_ContainsFunc_57 ratio_Sum_1)

/-- loftblock loftblocklaw30.HouseBears -/
noncomputable def law30_HouseBears_b (lp : Lp) (_ : Jn) (batten_Weight : (ByteArray × Int × Int × Int × Int × (List Int) × Int × Int × Int × Int × Int × (List (ByteArray × Int × Int × Int × Int × Int × Int)) × List (ByteArray × Int × Int)) → Option (Int × Int × Unit)) (arbor_Weight : (List (ByteArray × Int × Int)) → (List Int) → Option (Int × Int × Unit)) (house_Loads : (ByteArray × Int × (List (ByteArray × Int × Int × Int × Int × (List Int) × Int × Int × Int × Int × Int × (List (ByteArray × Int × Int × Int × Int × Int × Int)) × List (ByteArray × Int × Int))) × List (ByteArray × Int × Int × Int)) → Option ((List (Int × Int)) × Int × Unit)) (law30_awake : Option (Bool)) (law30_ready : (ByteArray × Int × (List (ByteArray × Int × Int × Int × Int × (List Int) × Int × Int × Int × Int × Int × (List (ByteArray × Int × Int × Int × Int × Int × Int)) × List (ByteArray × Int × Int))) × List (ByteArray × Int × Int × Int)) → Option (Bool)) (ratio_Sum : (List (Int × Int)) → Option ((Int × Int) × Int × Unit)) (x0 : ByteArray × Int × (List (ByteArray × Int × Int × Int × Int × (List Int) × Int × Int × Int × Int × Int × (List (ByteArray × Int × Int × Int × Int × Int × Int)) × List (ByteArray × Int × Int))) × List (ByteArray × Int × Int × Int)) : Option Bool :=
  obind law30_awake fun (t : Bool) => bif !t then some false else obind (law30_ready x0) fun (t : Bool) => bif !t then some true else obind (house_Loads x0) fun (t : List (Int × Int) × Int ×
    PUnit) =>
  let v6 : Bool := decide ((↑(List.length t.fst) : Int) = (↑(List.length x0.snd.snd.snd) : Int));
  let v7 : Bool := !v6 || v6; bif !decide (t.snd.fst = (0 : Int)) then some (decide ((↑(List.length t.fst) : Int) = (0 : Int))) else obind (ratio_Sum t.fst) fun (t : (Int × Int) × Int ×
    PUnit) => bif !decide (t.snd.fst = (0 : Int)) then some (decide (t.snd.fst = (5 : Int))) else lp (Int × Int × PUnit) Bool (fun (again : Int × Int × PUnit → Option Bool) (x : Int × Int ×
    PUnit) =>
  let v11 : ByteArray × Int × Int × Int × Int × List Int × Int × Int × Int × Int × Int × List (ByteArray × Int × Int × Int × Int × Int × Int) × List (ByteArray × Int × Int) := List.getD
    x0.snd.snd.fst (Int.toNat x.snd.fst) ({ data := { toList := [] } }, (0 : Int), (0 : Int), (0 : Int), (0 : Int), [], (0 : Int), (0 : Int), (0 : Int), (0 : Int), (0 : Int), [], []); bif
    decide (x.snd.fst < (↑(List.length x0.snd.snd.fst) : Int)) then bif inB x.snd.fst (List.length x0.snd.snd.fst) then obind (batten_Weight v11) fun (t : Int × Int × PUnit) =>
  let v13 : Bool := !decide (t.snd.fst = (0 : Int));
  let v14 : Bool := !v13; lp (List Int × Int × PUnit) Bool (fun (again_1 : List Int × Int × PUnit → Option Bool) (x_1 : List Int × Int × PUnit) => bif decide (x_1.snd.fst < (↑(List.length
    v11.snd.snd.snd.snd.snd.snd.snd.snd.snd.snd.snd.snd) : Int)) then bif inB x_1.snd.fst (List.length v11.snd.snd.snd.snd.snd.snd.snd.snd.snd.snd.snd.snd) then bif fitB (List.length
    x_1.fst + (1 : Nat)) (8 : Nat) then again_1 (x_1.fst ++ [(List.getD v11.snd.snd.snd.snd.snd.snd.snd.snd.snd.snd.snd.snd (Int.toNat x_1.snd.fst) ({ data := { toList := [] } }, (0 : Int),
    (0 : Int))).snd.snd], IntKind.wrap IntKind.i64 (x_1.snd.fst + (1 : Int)), PUnit.unit) else none else none else obind (arbor_Weight v11.snd.snd.snd.snd.snd.snd.snd.snd.snd.snd.snd.snd
    x_1.fst) fun (t_1 : Int × Int × PUnit) => bif !v14 || v14 then bif v13 || v14 then bif bif v13 then true else !decide (t_1.snd.fst = (0 : Int)) then some false else again (IntKind.wrap
    IntKind.i64 (x.fst + IntKind.wrap IntKind.i64 (IntKind.wrap IntKind.i64 (t.fst + t_1.fst) + v11.snd.snd.snd.snd.snd.snd.snd.fst)), IntKind.wrap IntKind.i64 (x.snd.fst + (1 : Int)),
    PUnit.unit) else none else none) ([], (0 : Int), PUnit.unit) else none else bif v7 then bif v7 && v7 then bif v7 then some (bif v6 then decide (t.fst.fst = x.fst) && (decide (t.fst.snd
    = (1 : Int)) && true) else false) else none else none else none) ((0 : Int), (0 : Int), PUnit.unit)
noncomputable def law30_HouseBears (x0 : ByteArray × Int × (List (ByteArray × Int × Int × Int × Int × (List Int) × Int × Int × Int × Int × Int × (List (ByteArray × Int × Int × Int × Int × Int × Int)) × List (ByteArray × Int × Int))) × List (ByteArray × Int × Int × Int)) : Option Bool := law30_HouseBears_b lpK jnK batten_Weight arbor_Weight house_Loads law30_awake law30_ready ratio_Sum x0
noncomputable def c7 : Ctr := ⟨[T25], [], [], .one .bool, fun x _ _ => law30_HouseBears x.1⟩
theorem e7 (lp : Lp) (jn : Jn) (batten_Weight : (ByteArray × Int × Int × Int × Int × (List Int) × Int × Int × Int × Int × Int × (List (ByteArray × Int × Int × Int × Int × Int × Int)) × List (ByteArray × Int × Int)) → Option (Int × Int × Unit)) (arbor_Weight : (List (ByteArray × Int × Int)) → (List Int) → Option (Int × Int × Unit)) (house_Loads : (ByteArray × Int × (List (ByteArray × Int × Int × Int × Int × (List Int) × Int × Int × Int × Int × Int × (List (ByteArray × Int × Int × Int × Int × Int × Int)) × List (ByteArray × Int × Int))) × List (ByteArray × Int × Int × Int)) → Option ((List (Int × Int)) × Int × Unit)) (law30_awake : Option (Bool)) (law30_ready : (ByteArray × Int × (List (ByteArray × Int × Int × Int × Int × (List Int) × Int × Int × Int × Int × Int × (List (ByteArray × Int × Int × Int × Int × Int × Int)) × List (ByteArray × Int × Int))) × List (ByteArray × Int × Int × Int)) → Option (Bool)) (ratio_Sum : (List (Int × Int)) → Option ((Int × Int) × Int × Unit)) : ∀ (x : TsS c7.as) (F : TsF c7.fs) (y : TsS c7.cs), law30_HouseBears_b lp jn batten_Weight arbor_Weight house_Loads law30_awake law30_ready ratio_Sum x.1 = runC lp jn (ctxOf prog shs inls its [(29, ⟨[(.sl T36)], [], [], .tup [T36, i64], fun x _ _ => ratio_Sum x.1⟩), (15, ⟨[T25], [], [], .one .bool, fun x _ _ => law30_ready x.1⟩), (10, ⟨[], [], [], .one .bool, fun _ _ _ => law30_awake⟩), (12, ⟨[T25], [], [], .tup [(.sl T36), i64], fun x _ _ => house_Loads x.1⟩), (31, ⟨[(.sl T64), (.sl i64)], [], [], .tup [i64, i64], fun x _ _ => arbor_Weight x.1 x.2.1⟩), (30, ⟨[T44], [], [], .tup [i64, i64], fun x _ _ => batten_Weight x.1⟩)] [(116, r116), (115, r115), (114, r114), (69, r69), (119, r119)]) hints 4 7 f7 c7 x F y := fun x F y => by kernel_rfl
theorem l7 : (ctxOf prog shs inls its [(29, c29), (15, c15), (10, c10), (12, c12), (31, c31), (30, c30)] [(116, r116), (115, r115), (114, r114), (69, r69), (119, r119)]).ok := ctxOf_cons (ctxOf_cons (ctxOf_cons (ctxOf_cons (ctxOf_cons (ctxOf_cons (q116) (by kernel_rfl) ok30) (by kernel_rfl) ok31) (by kernel_rfl) ok12) (by kernel_rfl) ok10) (by kernel_rfl) ok15) (by kernel_rfl) ok29
theorem ok7 : c7.ok prog 7 := Ctr.of_den l7 hmix (hl := hints) (d := 4) func7 rfl (by decide) (e7 lpK jnK batten_Weight arbor_Weight house_Loads law30_awake law30_ready ratio_Sum)

/-- slices.Equal[[]loftblock api.Roof,loftblock api.Roof] -/
noncomputable def slices_Equal_66_b (lp : Lp) (_ : Jn) (x0 : List (ByteArray × Int × Int × Int)) (x1 : List (ByteArray × Int × Int × Int)) : Option Bool :=
  bif !decide ((↑(List.length x0) : Int) = (↑(List.length x1) : Int)) then some false else lp (Int × PUnit) Bool (fun (again : Int × PUnit → Option Bool) (x : Int × PUnit) => bif decide
    (x.fst < (↑(List.length x0) : Int)) then bif inB x.fst (List.length x0) then bif inB x.fst (List.length x1) then bif !((Array.isEqv (List.getD x0 (Int.toNat x.fst) ({ data := { toList
    := [] } }, (0 : Int), (0 : Int), (0 : Int))).fst.data (List.getD x1 (Int.toNat x.fst) ({ data := { toList := [] } }, (0 : Int), (0 : Int), (0 : Int))).fst.data fun (a b : UInt8) =>
    decide (a = b)) && (decide ((List.getD x0 (Int.toNat x.fst) ({ data := { toList := [] } }, (0 : Int), (0 : Int), (0 : Int))).snd.fst = (List.getD x1 (Int.toNat x.fst) ({ data := {
    toList := [] } }, (0 : Int), (0 : Int), (0 : Int))).snd.fst) && (decide ((List.getD x0 (Int.toNat x.fst) ({ data := { toList := [] } }, (0 : Int), (0 : Int), (0 : Int))).snd.snd.fst =
    (List.getD x1 (Int.toNat x.fst) ({ data := { toList := [] } }, (0 : Int), (0 : Int), (0 : Int))).snd.snd.fst) && (decide ((List.getD x0 (Int.toNat x.fst) ({ data := { toList := [] } },
    (0 : Int), (0 : Int), (0 : Int))).snd.snd.snd = (List.getD x1 (Int.toNat x.fst) ({ data := { toList := [] } }, (0 : Int), (0 : Int), (0 : Int))).snd.snd.snd) && true)))) then some false
    else again (IntKind.wrap IntKind.i64 (x.fst + (1 : Int)), PUnit.unit) else none else none else some true) ((0 : Int), PUnit.unit)
noncomputable def slices_Equal_66 (x0 : List (ByteArray × Int × Int × Int)) (x1 : List (ByteArray × Int × Int × Int)) : Option Bool := slices_Equal_66_b lpK jnK x0 x1
noncomputable def c66 : Ctr := ⟨[(.sl T96), (.sl T96)], [], [], .one .bool, fun x _ _ => slices_Equal_66 x.1 x.2.1⟩
theorem e66 (lp : Lp) (jn : Jn) : ∀ (x : TsS c66.as) (F : TsF c66.fs) (y : TsS c66.cs), slices_Equal_66_b lp jn x.1 x.2.1 = runC lp jn (ctxOf prog shs inls its [] [(116, r116), (115, r115), (114, r114), (69, r69), (119, r119)]) hints 4 66 f66 c66 x F y := fun x F y => by kernel_rfl
theorem l66 : (ctxOf prog shs inls its [] [(116, r116), (115, r115), (114, r114), (69, r69), (119, r119)]).ok := q116
theorem ok66 : c66.ok prog 66 := Ctr.of_den l66 hmix (hl := hints) (d := 4) func66 rfl (by decide) (e66 lpK jnK)

/-- slices.EqualFunc[[]loftblock api.Set,[]loftblock api.Set,loftblock api.Set,loftblock api.Set] -/
noncomputable def slices_EqualFunc_67_b (lp : Lp) (_ : Jn) (x0 : List (ByteArray × Int × Int × Int × Int × (List Int) × Int × Int × Int × Int × Int × (List (ByteArray × Int × Int × Int × Int × Int × Int)) × List (ByteArray × Int × Int))) (x1 : List (ByteArray × Int × Int × Int × Int × (List Int) × Int × Int × Int × Int × Int × (List (ByteArray × Int × Int × Int × Int × Int × Int)) × List (ByteArray × Int × Int))) (f0 : (((ByteArray × Int × Int × Int × Int × (List Int) × Int × Int × Int × Int × Int × (List (ByteArray × Int × Int × Int × Int × Int × Int)) × List (ByteArray × Int × Int)) × (ByteArray × Int × Int × Int × Int × (List Int) × Int × Int × Int × Int × Int × (List (ByteArray × Int × Int × Int × Int × Int × Int)) × List (ByteArray × Int × Int)) × Unit) → Option Bool)) : Option Bool :=
  bif !decide ((↑(List.length x0) : Int) = (↑(List.length x1) : Int)) then some false else lp (Int × PUnit) Bool (fun (again : Int × PUnit → Option Bool) (x : Int × PUnit) => bif decide
    (x.fst < (↑(List.length x0) : Int)) then bif inB x.fst (List.length x0) then bif inB x.fst (List.length x1) then obind (f0 (List.getD x0 (Int.toNat x.fst) ({ data := { toList := [] } },
    (0 : Int), (0 : Int), (0 : Int), (0 : Int), [], (0 : Int), (0 : Int), (0 : Int), (0 : Int), (0 : Int), [], []), List.getD x1 (Int.toNat x.fst) ({ data := { toList := [] } }, (0 : Int),
    (0 : Int), (0 : Int), (0 : Int), [], (0 : Int), (0 : Int), (0 : Int), (0 : Int), (0 : Int), [], []), PUnit.unit)) fun (t : Bool) => bif !t then some false else again (IntKind.wrap
    IntKind.i64 (x.fst + (1 : Int)), PUnit.unit) else none else none else some true) ((0 : Int), PUnit.unit)
noncomputable def slices_EqualFunc_67 (x0 : List (ByteArray × Int × Int × Int × Int × (List Int) × Int × Int × Int × Int × Int × (List (ByteArray × Int × Int × Int × Int × Int × Int)) × List (ByteArray × Int × Int))) (x1 : List (ByteArray × Int × Int × Int × Int × (List Int) × Int × Int × Int × Int × Int × (List (ByteArray × Int × Int × Int × Int × Int × Int)) × List (ByteArray × Int × Int))) (f0 : (((ByteArray × Int × Int × Int × Int × (List Int) × Int × Int × Int × Int × Int × (List (ByteArray × Int × Int × Int × Int × Int × Int)) × List (ByteArray × Int × Int)) × (ByteArray × Int × Int × Int × Int × (List Int) × Int × Int × Int × Int × Int × (List (ByteArray × Int × Int × Int × Int × Int × Int)) × List (ByteArray × Int × Int)) × Unit) → Option Bool)) : Option Bool := slices_EqualFunc_67_b lpK jnK x0 x1 f0
noncomputable def c67 : Ctr := ⟨[(.sl T44), (.sl T44)], [([T44, T44], .bool)], [], .one .bool, fun x F _ => slices_EqualFunc_67 x.1 x.2.1 F.1⟩
theorem e67 (lp : Lp) (jn : Jn) : ∀ (x : TsS c67.as) (F : TsF c67.fs) (y : TsS c67.cs), slices_EqualFunc_67_b lp jn x.1 x.2.1 F.1 = runC lp jn (ctxOf prog shs inls its [] [(116, r116), (115, r115), (114, r114), (69, r69), (119, r119)]) hints 4 67 f67 c67 x F y := fun x F y => by kernel_rfl
theorem l67 : (ctxOf prog shs inls its [] [(116, r116), (115, r115), (114, r114), (69, r69), (119, r119)]).ok := q116
theorem ok67 : c67.ok prog 67 := Ctr.of_den l67 hmix (hl := hints) (d := 4) func67 rfl (by decide) (e67 lpK jnK)

/-- slices.Equal[[]loftblock api.Item,loftblock api.Item] -/
noncomputable def slices_Equal_112_b (lp : Lp) (_ : Jn) (x0 : List (ByteArray × Int × Int × Int × Int × Int × Int)) (x1 : List (ByteArray × Int × Int × Int × Int × Int × Int)) : Option Bool :=
  bif !decide ((↑(List.length x0) : Int) = (↑(List.length x1) : Int)) then some false else lp (Int × PUnit) Bool (fun (again : Int × PUnit → Option Bool) (x : Int × PUnit) => bif decide
    (x.fst < (↑(List.length x0) : Int)) then bif inB x.fst (List.length x0) then bif inB x.fst (List.length x1) then bif !((Array.isEqv (List.getD x0 (Int.toNat x.fst) ({ data := { toList
    := [] } }, (0 : Int), (0 : Int), (0 : Int), (0 : Int), (0 : Int), (0 : Int))).fst.data (List.getD x1 (Int.toNat x.fst) ({ data := { toList := [] } }, (0 : Int), (0 : Int), (0 : Int), (0
    : Int), (0 : Int), (0 : Int))).fst.data fun (a b : UInt8) => decide (a = b)) && (decide ((List.getD x0 (Int.toNat x.fst) ({ data := { toList := [] } }, (0 : Int), (0 : Int), (0 : Int),
    (0 : Int), (0 : Int), (0 : Int))).snd.fst = (List.getD x1 (Int.toNat x.fst) ({ data := { toList := [] } }, (0 : Int), (0 : Int), (0 : Int), (0 : Int), (0 : Int), (0 : Int))).snd.fst) &&
    (decide ((List.getD x0 (Int.toNat x.fst) ({ data := { toList := [] } }, (0 : Int), (0 : Int), (0 : Int), (0 : Int), (0 : Int), (0 : Int))).snd.snd.fst = (List.getD x1 (Int.toNat x.fst)
    ({ data := { toList := [] } }, (0 : Int), (0 : Int), (0 : Int), (0 : Int), (0 : Int), (0 : Int))).snd.snd.fst) && (decide ((List.getD x0 (Int.toNat x.fst) ({ data := { toList := [] } },
    (0 : Int), (0 : Int), (0 : Int), (0 : Int), (0 : Int), (0 : Int))).snd.snd.snd.fst = (List.getD x1 (Int.toNat x.fst) ({ data := { toList := [] } }, (0 : Int), (0 : Int), (0 : Int), (0 :
    Int), (0 : Int), (0 : Int))).snd.snd.snd.fst) && (decide ((List.getD x0 (Int.toNat x.fst) ({ data := { toList := [] } }, (0 : Int), (0 : Int), (0 : Int), (0 : Int), (0 : Int), (0 :
    Int))).snd.snd.snd.snd.fst = (List.getD x1 (Int.toNat x.fst) ({ data := { toList := [] } }, (0 : Int), (0 : Int), (0 : Int), (0 : Int), (0 : Int), (0 : Int))).snd.snd.snd.snd.fst) &&
    (decide ((List.getD x0 (Int.toNat x.fst) ({ data := { toList := [] } }, (0 : Int), (0 : Int), (0 : Int), (0 : Int), (0 : Int), (0 : Int))).snd.snd.snd.snd.snd.fst = (List.getD x1
    (Int.toNat x.fst) ({ data := { toList := [] } }, (0 : Int), (0 : Int), (0 : Int), (0 : Int), (0 : Int), (0 : Int))).snd.snd.snd.snd.snd.fst) && (decide ((List.getD x0 (Int.toNat x.fst)
    ({ data := { toList := [] } }, (0 : Int), (0 : Int), (0 : Int), (0 : Int), (0 : Int), (0 : Int))).snd.snd.snd.snd.snd.snd = (List.getD x1 (Int.toNat x.fst) ({ data := { toList := [] }
    }, (0 : Int), (0 : Int), (0 : Int), (0 : Int), (0 : Int), (0 : Int))).snd.snd.snd.snd.snd.snd) && true))))))) then some false else again (IntKind.wrap IntKind.i64 (x.fst + (1 : Int)),
    PUnit.unit) else none else none else some true) ((0 : Int), PUnit.unit)
noncomputable def slices_Equal_112 (x0 : List (ByteArray × Int × Int × Int × Int × Int × Int)) (x1 : List (ByteArray × Int × Int × Int × Int × Int × Int)) : Option Bool := slices_Equal_112_b lpK jnK x0 x1
noncomputable def c112 : Ctr := ⟨[(.sl T48), (.sl T48)], [], [], .one .bool, fun x _ _ => slices_Equal_112 x.1 x.2.1⟩
theorem e112 (lp : Lp) (jn : Jn) : ∀ (x : TsS c112.as) (F : TsF c112.fs) (y : TsS c112.cs), slices_Equal_112_b lp jn x.1 x.2.1 = runC lp jn (ctxOf prog shs inls its [] [(116, r116), (115, r115), (114, r114), (69, r69), (119, r119)]) hints 4 112 f112 c112 x F y := fun x F y => by kernel_rfl
theorem l112 : (ctxOf prog shs inls its [] [(116, r116), (115, r115), (114, r114), (69, r69), (119, r119)]).ok := q116
theorem ok112 : c112.ok prog 112 := Ctr.of_den l112 hmix (hl := hints) (d := 4) func112 rfl (by decide) (e112 lpK jnK)

/-- slices.Equal[[]loftblock api.Brick,loftblock api.Brick] -/
noncomputable def slices_Equal_113_b (lp : Lp) (_ : Jn) (x0 : List (ByteArray × Int × Int)) (x1 : List (ByteArray × Int × Int)) : Option Bool :=
  bif !decide ((↑(List.length x0) : Int) = (↑(List.length x1) : Int)) then some false else lp (Int × PUnit) Bool (fun (again : Int × PUnit → Option Bool) (x : Int × PUnit) => bif decide
    (x.fst < (↑(List.length x0) : Int)) then bif inB x.fst (List.length x0) then bif inB x.fst (List.length x1) then bif !((Array.isEqv (List.getD x0 (Int.toNat x.fst) ({ data := { toList
    := [] } }, (0 : Int), (0 : Int))).fst.data (List.getD x1 (Int.toNat x.fst) ({ data := { toList := [] } }, (0 : Int), (0 : Int))).fst.data fun (a b : UInt8) => decide (a = b)) && (decide
    ((List.getD x0 (Int.toNat x.fst) ({ data := { toList := [] } }, (0 : Int), (0 : Int))).snd.fst = (List.getD x1 (Int.toNat x.fst) ({ data := { toList := [] } }, (0 : Int), (0 :
    Int))).snd.fst) && (decide ((List.getD x0 (Int.toNat x.fst) ({ data := { toList := [] } }, (0 : Int), (0 : Int))).snd.snd = (List.getD x1 (Int.toNat x.fst) ({ data := { toList := [] }
    }, (0 : Int), (0 : Int))).snd.snd) && true))) then some false else again (IntKind.wrap IntKind.i64 (x.fst + (1 : Int)), PUnit.unit) else none else none else some true) ((0 : Int),
    PUnit.unit)
noncomputable def slices_Equal_113 (x0 : List (ByteArray × Int × Int)) (x1 : List (ByteArray × Int × Int)) : Option Bool := slices_Equal_113_b lpK jnK x0 x1
noncomputable def c113 : Ctr := ⟨[(.sl T64), (.sl T64)], [], [], .one .bool, fun x _ _ => slices_Equal_113 x.1 x.2.1⟩
theorem e113 (lp : Lp) (jn : Jn) : ∀ (x : TsS c113.as) (F : TsF c113.fs) (y : TsS c113.cs), slices_Equal_113_b lp jn x.1 x.2.1 = runC lp jn (ctxOf prog shs inls its [] [(116, r116), (115, r115), (114, r114), (69, r69), (119, r119)]) hints 4 113 f113 c113 x F y := fun x F y => by kernel_rfl
theorem l113 : (ctxOf prog shs inls its [] [(116, r116), (115, r115), (114, r114), (69, r69), (119, r119)]).ok := q116
theorem ok113 : c113.ok prog 113 := Ctr.of_den l113 hmix (hl := hints) (d := 4) func113 rfl (by decide) (e113 lpK jnK)

/-- loftblock house.sameSet -/
noncomputable def house_sameSet_b (_ : Lp) (_ : Jn) (slices_Equal_26 : (List Int) → (List Int) → Option (Bool)) (slices_Equal_112 : (List (ByteArray × Int × Int × Int × Int × Int × Int)) → (List (ByteArray × Int × Int × Int × Int × Int × Int)) → Option (Bool)) (slices_Equal_113 : (List (ByteArray × Int × Int)) → (List (ByteArray × Int × Int)) → Option (Bool)) (x0 : ByteArray × Int × Int × Int × Int × (List Int) × Int × Int × Int × Int × Int × (List (ByteArray × Int × Int × Int × Int × Int × Int)) × List (ByteArray × Int × Int)) (x1 : ByteArray × Int × Int × Int × Int × (List Int) × Int × Int × Int × Int × Int × (List (ByteArray × Int × Int × Int × Int × Int × Int)) × List (ByteArray × Int × Int)) : Option Bool :=
  
  let v4 : Bool := List.beq (ByteArray.toList x0.fst) (ByteArray.toList x1.fst);
  let v5 : Bool := !v4 || v4;
  let v6 : Bool := bif v4 then decide (x0.snd.fst = x1.snd.fst) else false;
  let v7 : Bool := !v6 || v6;
  let v8 : Bool := bif v6 then decide (x0.snd.snd.fst = x1.snd.snd.fst) else false;
  let v9 : Bool := bif v8 then decide (x0.snd.snd.snd.fst = x1.snd.snd.snd.fst) else false;
  let v10 : Bool := !v8 || v8;
  let v11 : Bool := bif v9 then decide (x0.snd.snd.snd.snd.fst = x1.snd.snd.snd.snd.fst) else false;
  let v12 : Bool := !v9 || v9;
  let v13 : Bool := bif v11 then decide (x0.snd.snd.snd.snd.snd.snd.fst = x1.snd.snd.snd.snd.snd.snd.fst) else false;
  let v14 : Bool := bif v13 then decide (x0.snd.snd.snd.snd.snd.snd.snd.fst = x1.snd.snd.snd.snd.snd.snd.snd.fst) else false;
  let v15 : Bool := !v11 || v11;
  let v16 : Bool := bif v14 then decide (x0.snd.snd.snd.snd.snd.snd.snd.snd.fst = x1.snd.snd.snd.snd.snd.snd.snd.snd.fst) else false;
  let v17 : Bool := !v13 || v13;
  let v18 : Bool := bif v16 then decide (x0.snd.snd.snd.snd.snd.snd.snd.snd.snd.fst = x1.snd.snd.snd.snd.snd.snd.snd.snd.snd.fst) else false;
  let v19 : Bool := bif v18 then decide (x0.snd.snd.snd.snd.snd.snd.snd.snd.snd.snd.fst = x1.snd.snd.snd.snd.snd.snd.snd.snd.snd.snd.fst) else false;
  let v20 : Bool := !v14 || v14;
  let v21 : Bool := !v16 || v16;
  let v22 : Bool := !v18 || v18;
  let v23 : Bool := !v19 || v19; bif v5 then bif v5 then bif v5 && v5 then bif v5 then bif v7 then bif v7 then bif v7 && v7 then bif v7 then bif v10 then bif v10 then bif v10 && v10 then
    bif v10 then bif v12 then bif v12 then bif v12 && v12 then bif v12 then bif v15 then bif v15 then bif v15 && v15 then bif v15 then bif v17 then bif v17 then bif v17 && v17 then bif v17
    then bif v20 then bif v20 then bif v20 && v20 then bif v20 then bif v21 then bif v21 then bif v21 && v21 then bif v21 then bif v22 then bif v22 then bif v22 && v22 then bif v22 then bif
    v23 then bif v23 then bif v23 && v23 then obind (bif v19 then slices_Equal_26 x0.snd.snd.snd.snd.snd.fst x1.snd.snd.snd.snd.snd.fst else some false) fun (t : Bool) =>
  let v25 : Bool := bif v19 then t else false;
  let v26 : Bool := !v25 || v25; bif v23 then bif v26 then bif v26 then bif v26 && v26 then obind (bif v25 then slices_Equal_112 x0.snd.snd.snd.snd.snd.snd.snd.snd.snd.snd.snd.fst
    x1.snd.snd.snd.snd.snd.snd.snd.snd.snd.snd.snd.fst else some false) fun (t : Bool) =>
  let v28 : Bool := bif v25 then t else false;
  let v29 : Bool := !v28 || v28; bif v26 then bif v29 then bif v29 then bif v29 && v29 then obind (bif v28 then slices_Equal_113 x0.snd.snd.snd.snd.snd.snd.snd.snd.snd.snd.snd.snd
    x1.snd.snd.snd.snd.snd.snd.snd.snd.snd.snd.snd.snd else some false) fun (t : Bool) => bif v29 then some (bif v28 then t else false) else none else none else none else none else none
    else none else none else none else none else none else none else none else none else none else none else none else none else none else none else none else none else none else none else
    none else none else none else none else none else none else none else none else none else none else none else none else none else none else none else none else none else none else none
    else none else none else none else none else none else none
noncomputable def house_sameSet (x0 : ByteArray × Int × Int × Int × Int × (List Int) × Int × Int × Int × Int × Int × (List (ByteArray × Int × Int × Int × Int × Int × Int)) × List (ByteArray × Int × Int)) (x1 : ByteArray × Int × Int × Int × Int × (List Int) × Int × Int × Int × Int × Int × (List (ByteArray × Int × Int × Int × Int × Int × Int)) × List (ByteArray × Int × Int)) : Option Bool := house_sameSet_b lpK jnK slices_Equal_26 slices_Equal_112 slices_Equal_113 x0 x1
noncomputable def c68 : Ctr := ⟨[T44, T44], [], [], .one .bool, fun x _ _ => house_sameSet x.1 x.2.1⟩
theorem e68 (lp : Lp) (jn : Jn) (slices_Equal_26 : (List Int) → (List Int) → Option (Bool)) (slices_Equal_112 : (List (ByteArray × Int × Int × Int × Int × Int × Int)) → (List (ByteArray × Int × Int × Int × Int × Int × Int)) → Option (Bool)) (slices_Equal_113 : (List (ByteArray × Int × Int)) → (List (ByteArray × Int × Int)) → Option (Bool)) : ∀ (x : TsS c68.as) (F : TsF c68.fs) (y : TsS c68.cs), house_sameSet_b lp jn slices_Equal_26 slices_Equal_112 slices_Equal_113 x.1 x.2.1 = runC lp jn (ctxOf prog shs inls its [(113, ⟨[(.sl T64), (.sl T64)], [], [], .one .bool, fun x _ _ => slices_Equal_113 x.1 x.2.1⟩), (112, ⟨[(.sl T48), (.sl T48)], [], [], .one .bool, fun x _ _ => slices_Equal_112 x.1 x.2.1⟩), (26, ⟨[(.sl i64), (.sl i64)], [], [], .one .bool, fun x _ _ => slices_Equal_26 x.1 x.2.1⟩)] [(116, r116), (115, r115), (114, r114), (69, r69), (119, r119)]) hints 4 68 f68 c68 x F y := fun x F y => by kernel_rfl
theorem l68 : (ctxOf prog shs inls its [(113, c113), (112, c112), (26, c26)] [(116, r116), (115, r115), (114, r114), (69, r69), (119, r119)]).ok := ctxOf_cons (ctxOf_cons (ctxOf_cons (q116) (by kernel_rfl) ok26) (by kernel_rfl) ok112) (by kernel_rfl) ok113
theorem ok68 : c68.ok prog 68 := Ctr.of_den l68 hmix (hl := hints) (d := 4) func68 rfl (by decide) (e68 lpK jnK slices_Equal_26 slices_Equal_112 slices_Equal_113)

/-- loftblock house.Same -/
noncomputable def house_Same_b (_ : Lp) (_ : Jn) (slices_Equal_66 : (List (ByteArray × Int × Int × Int)) → (List (ByteArray × Int × Int × Int)) → Option (Bool)) (slices_EqualFunc_67 : (List (ByteArray × Int × Int × Int × Int × (List Int) × Int × Int × Int × Int × Int × (List (ByteArray × Int × Int × Int × Int × Int × Int)) × List (ByteArray × Int × Int))) → (List (ByteArray × Int × Int × Int × Int × (List Int) × Int × Int × Int × Int × Int × (List (ByteArray × Int × Int × Int × Int × Int × Int)) × List (ByteArray × Int × Int))) → ((((ByteArray × Int × Int × Int × Int × (List Int) × Int × Int × Int × Int × Int × (List (ByteArray × Int × Int × Int × Int × Int × Int)) × List (ByteArray × Int × Int)) × (ByteArray × Int × Int × Int × Int × (List Int) × Int × Int × Int × Int × Int × (List (ByteArray × Int × Int × Int × Int × Int × Int)) × List (ByteArray × Int × Int)) × Unit) → Option Bool)) → Option (Bool)) (house_sameSet : (ByteArray × Int × Int × Int × Int × (List Int) × Int × Int × Int × Int × Int × (List (ByteArray × Int × Int × Int × Int × Int × Int)) × List (ByteArray × Int × Int)) → (ByteArray × Int × Int × Int × Int × (List Int) × Int × Int × Int × Int × Int × (List (ByteArray × Int × Int × Int × Int × Int × Int)) × List (ByteArray × Int × Int)) → Option (Bool)) (x0 : ByteArray × Int × (List (ByteArray × Int × Int × Int × Int × (List Int) × Int × Int × Int × Int × Int × (List (ByteArray × Int × Int × Int × Int × Int × Int)) × List (ByteArray × Int × Int))) × List (ByteArray × Int × Int × Int)) (x1 : ByteArray × Int × (List (ByteArray × Int × Int × Int × Int × (List Int) × Int × Int × Int × Int × Int × (List (ByteArray × Int × Int × Int × Int × Int × Int)) × List (ByteArray × Int × Int))) × List (ByteArray × Int × Int × Int)) : Option Bool :=
  
  let v4 : Bool := List.beq (ByteArray.toList x0.fst) (ByteArray.toList x1.fst);
  let v5 : Bool := !v4 || v4;
  let v6 : Bool := bif v4 then decide (x0.snd.fst = x1.snd.fst) else false;
  let v7 : Bool := !v6 || v6; bif v5 then bif v5 then bif v5 && v5 then bif v5 then bif v7 then bif v7 then bif v7 && v7 then obind (bif v6 then slices_Equal_66 x0.snd.snd.snd
    x1.snd.snd.snd else some false) fun (t : Bool) =>
  let v9 : Bool := bif v6 then t else false;
  let v10 : Bool := !v9 || v9; bif v7 then bif v10 then bif v10 then bif v10 && v10 then obind (bif v9 then slices_EqualFunc_67 x0.snd.snd.fst x1.snd.snd.fst fun (x : (ByteArray × Int × Int
    × Int × Int × List Int × Int × Int × Int × Int × Int × List (ByteArray × Int × Int × Int × Int × Int × Int) × List (ByteArray × Int × Int)) × (ByteArray × Int × Int × Int × Int × List
    Int × Int × Int × Int × Int × Int × List (ByteArray × Int × Int × Int × Int × Int × Int) × List (ByteArray × Int × Int)) × PUnit) => house_sameSet x.fst x.snd.fst else some false) fun
    (t : Bool) => bif v10 then some (bif v9 then t else false) else none else none else none else none else none else none else none else none else none else none else none else none
noncomputable def house_Same (x0 : ByteArray × Int × (List (ByteArray × Int × Int × Int × Int × (List Int) × Int × Int × Int × Int × Int × (List (ByteArray × Int × Int × Int × Int × Int × Int)) × List (ByteArray × Int × Int))) × List (ByteArray × Int × Int × Int)) (x1 : ByteArray × Int × (List (ByteArray × Int × Int × Int × Int × (List Int) × Int × Int × Int × Int × Int × (List (ByteArray × Int × Int × Int × Int × Int × Int)) × List (ByteArray × Int × Int))) × List (ByteArray × Int × Int × Int)) : Option Bool := house_Same_b lpK jnK slices_Equal_66 slices_EqualFunc_67 house_sameSet x0 x1
noncomputable def c33 : Ctr := ⟨[T25, T25], [], [], .one .bool, fun x _ _ => house_Same x.1 x.2.1⟩
theorem e33 (lp : Lp) (jn : Jn) (slices_Equal_66 : (List (ByteArray × Int × Int × Int)) → (List (ByteArray × Int × Int × Int)) → Option (Bool)) (slices_EqualFunc_67 : (List (ByteArray × Int × Int × Int × Int × (List Int) × Int × Int × Int × Int × Int × (List (ByteArray × Int × Int × Int × Int × Int × Int)) × List (ByteArray × Int × Int))) → (List (ByteArray × Int × Int × Int × Int × (List Int) × Int × Int × Int × Int × Int × (List (ByteArray × Int × Int × Int × Int × Int × Int)) × List (ByteArray × Int × Int))) → ((((ByteArray × Int × Int × Int × Int × (List Int) × Int × Int × Int × Int × Int × (List (ByteArray × Int × Int × Int × Int × Int × Int)) × List (ByteArray × Int × Int)) × (ByteArray × Int × Int × Int × Int × (List Int) × Int × Int × Int × Int × Int × (List (ByteArray × Int × Int × Int × Int × Int × Int)) × List (ByteArray × Int × Int)) × Unit) → Option Bool)) → Option (Bool)) (house_sameSet : (ByteArray × Int × Int × Int × Int × (List Int) × Int × Int × Int × Int × Int × (List (ByteArray × Int × Int × Int × Int × Int × Int)) × List (ByteArray × Int × Int)) → (ByteArray × Int × Int × Int × Int × (List Int) × Int × Int × Int × Int × Int × (List (ByteArray × Int × Int × Int × Int × Int × Int)) × List (ByteArray × Int × Int)) → Option (Bool)) : ∀ (x : TsS c33.as) (F : TsF c33.fs) (y : TsS c33.cs), house_Same_b lp jn slices_Equal_66 slices_EqualFunc_67 house_sameSet x.1 x.2.1 = runC lp jn (ctxOf prog shs inls its [(68, ⟨[T44, T44], [], [], .one .bool, fun x _ _ => house_sameSet x.1 x.2.1⟩), (67, ⟨[(.sl T44), (.sl T44)], [([T44, T44], .bool)], [], .one .bool, fun x F _ => slices_EqualFunc_67 x.1 x.2.1 F.1⟩), (66, ⟨[(.sl T96), (.sl T96)], [], [], .one .bool, fun x _ _ => slices_Equal_66 x.1 x.2.1⟩)] [(116, r116), (115, r115), (114, r114), (69, r69), (119, r119)]) hints 4 33 f33 c33 x F y := fun x F y => by kernel_rfl
theorem l33 : (ctxOf prog shs inls its [(68, c68), (67, c67), (66, c66)] [(116, r116), (115, r115), (114, r114), (69, r69), (119, r119)]).ok := ctxOf_cons (ctxOf_cons (ctxOf_cons (q116) (by kernel_rfl) ok66) (by kernel_rfl) ok67) (by kernel_rfl) ok68
theorem ok33 : c33.ok prog 33 := Ctr.of_den l33 hmix (hl := hints) (d := 4) func33 rfl (by decide) (e33 lpK jnK slices_Equal_66 slices_EqualFunc_67 house_sameSet)

/-- loftblock loftblockref21.Same -/
noncomputable def ref21_Same_b (lp : Lp) (_ : Jn) (x0 : ByteArray × Int × Int × Int × Int × (List Int) × Int × Int × Int × Int × Int × (List (ByteArray × Int × Int × Int × Int × Int × Int)) × List (ByteArray × Int × Int)) (x1 : ByteArray × Int × Int × Int × Int × (List Int) × Int × Int × Int × Int × Int × (List (ByteArray × Int × Int × Int × Int × Int × Int)) × List (ByteArray × Int × Int)) : Option Bool :=
  
  let v4 : Bool := !List.beq (ByteArray.toList x0.fst) (ByteArray.toList x1.fst);
  let v5 : Bool := !v4;
  let v6 : Bool := !v5 || v5;
  let v7 : Bool := bif v4 then true else !decide (x0.snd.fst = x1.snd.fst);
  let v8 : Bool := !v7;
  let v9 : Bool := !v8 || v8;
  let v10 : Bool := !decide ((↑(List.length x0.snd.snd.snd.snd.snd.fst) : Int) = (↑(List.length x1.snd.snd.snd.snd.snd.fst) : Int));
  let v11 : Bool := !v10;
  let v12 : Bool := bif v7 then true else !decide (x0.snd.snd.fst = x1.snd.snd.fst);
  let v13 : Bool := !v12;
  let v14 : Bool := bif v12 then true else !decide (x0.snd.snd.snd.fst = x1.snd.snd.snd.fst);
  let v15 : Bool := !v14;
  let v16 : Bool := !v11 || v11;
  let v17 : Bool := !v13 || v13;
  let v18 : Bool := bif v14 then true else !decide (x0.snd.snd.snd.snd.fst = x1.snd.snd.snd.snd.fst);
  let v19 : Bool := !v18;
  let v20 : Bool := bif v10 then true else !decide ((↑(List.length x0.snd.snd.snd.snd.snd.snd.snd.snd.snd.snd.snd.fst) : Int) = (↑(List.length
    x1.snd.snd.snd.snd.snd.snd.snd.snd.snd.snd.snd.fst) : Int));
  let v21 : Bool := !v20;
  let v22 : Bool := !v15 || v15;
  let v23 : Bool := bif v18 then true else !decide (x0.snd.snd.snd.snd.snd.snd.fst = x1.snd.snd.snd.snd.snd.snd.fst);
  let v24 : Bool := !v23;
  let v25 : Bool := bif v23 then true else !decide (x0.snd.snd.snd.snd.snd.snd.snd.fst = x1.snd.snd.snd.snd.snd.snd.snd.fst);
  let v26 : Bool := !v25;
  let v27 : Bool := !v19 || v19;
  let v28 : Bool := !v21 || v21;
  let v29 : Bool := bif v25 then true else !decide (x0.snd.snd.snd.snd.snd.snd.snd.snd.fst = x1.snd.snd.snd.snd.snd.snd.snd.snd.fst);
  let v30 : Bool := !v29;
  let v31 : Bool := !v24 || v24;
  let v32 : Bool := bif v29 then true else !decide (x0.snd.snd.snd.snd.snd.snd.snd.snd.snd.fst = x1.snd.snd.snd.snd.snd.snd.snd.snd.snd.fst);
  let v33 : Bool := !v32;
  let v34 : Bool := !v26 || v26;
  let v35 : Bool := !v30 || v30;
  let v36 : Bool := !v33 || v33; bif v6 then bif v6 then bif v6 && v6 then bif v4 || v5 then bif v9 then bif v9 then bif v9 && v9 then bif v7 || v8 then bif v17 then bif v17 then bif v17 &&
    v17 then bif v12 || v13 then bif v22 then bif v22 then bif v22 && v22 then bif v14 || v15 then bif v27 then bif v27 then bif v27 && v27 then bif v18 || v19 then bif v31 then bif v31
    then bif v31 && v31 then bif v23 || v24 then bif v34 then bif v34 then bif v34 && v34 then bif v25 || v26 then bif v35 then bif v35 then bif v35 && v35 then bif v29 || v30 then bif v36
    then bif v36 then bif v36 && v36 then bif v32 || v33 then bif bif v32 then true else !decide (x0.snd.snd.snd.snd.snd.snd.snd.snd.snd.snd.fst =
    x1.snd.snd.snd.snd.snd.snd.snd.snd.snd.snd.fst) then some false else bif v16 then bif v16 then bif v16 then bif v16 then bif v16 && v16 then bif v10 || v11 then bif v28 then bif v28
    then bif v28 then bif v28 then bif v28 && v28 then bif v20 || v21 then bif bif v20 then true else !decide ((↑(List.length x0.snd.snd.snd.snd.snd.snd.snd.snd.snd.snd.snd.snd) : Int) =
    (↑(List.length x1.snd.snd.snd.snd.snd.snd.snd.snd.snd.snd.snd.snd) : Int)) then some false else lp (Int × PUnit) Bool (fun (again : Int × PUnit → Option Bool) (x : Int × PUnit) => bif
    decide (x.fst < (↑(List.length x0.snd.snd.snd.snd.snd.fst) : Int)) then bif inB x.fst (List.length x0.snd.snd.snd.snd.snd.fst) then bif inB x.fst (List.length
    x1.snd.snd.snd.snd.snd.fst) then bif !decide (List.getD x0.snd.snd.snd.snd.snd.fst (Int.toNat x.fst) (0 : Int) = List.getD x1.snd.snd.snd.snd.snd.fst (Int.toNat x.fst) (0 : Int)) then
    some false else again (IntKind.wrap IntKind.i64 (x.fst + (1 : Int)), PUnit.unit) else none else none else lp (Int × PUnit) Bool (fun (again : Int × PUnit → Option Bool) (x : Int ×
    PUnit) => bif decide (x.fst < (↑(List.length x0.snd.snd.snd.snd.snd.snd.snd.snd.snd.snd.snd.fst) : Int)) then bif inB x.fst (List.length
    x0.snd.snd.snd.snd.snd.snd.snd.snd.snd.snd.snd.fst) then bif inB x.fst (List.length x1.snd.snd.snd.snd.snd.snd.snd.snd.snd.snd.snd.fst) then bif !((Array.isEqv (List.getD
    x0.snd.snd.snd.snd.snd.snd.snd.snd.snd.snd.snd.fst (Int.toNat x.fst) ({ data := { toList := [] } }, (0 : Int), (0 : Int), (0 : Int), (0 : Int), (0 : Int), (0 : Int))).fst.data
    (List.getD x1.snd.snd.snd.snd.snd.snd.snd.snd.snd.snd.snd.fst (Int.toNat x.fst) ({ data := { toList := [] } }, (0 : Int), (0 : Int), (0 : Int), (0 : Int), (0 : Int), (0 :
    Int))).fst.data fun (a b : UInt8) => decide (a = b)) && (decide ((List.getD x0.snd.snd.snd.snd.snd.snd.snd.snd.snd.snd.snd.fst (Int.toNat x.fst) ({ data := { toList := [] } }, (0 :
    Int), (0 : Int), (0 : Int), (0 : Int), (0 : Int), (0 : Int))).snd.fst = (List.getD x1.snd.snd.snd.snd.snd.snd.snd.snd.snd.snd.snd.fst (Int.toNat x.fst) ({ data := { toList := [] } }, (0
    : Int), (0 : Int), (0 : Int), (0 : Int), (0 : Int), (0 : Int))).snd.fst) && (decide ((List.getD x0.snd.snd.snd.snd.snd.snd.snd.snd.snd.snd.snd.fst (Int.toNat x.fst) ({ data := { toList
    := [] } }, (0 : Int), (0 : Int), (0 : Int), (0 : Int), (0 : Int), (0 : Int))).snd.snd.fst = (List.getD x1.snd.snd.snd.snd.snd.snd.snd.snd.snd.snd.snd.fst (Int.toNat x.fst) ({ data := {
    toList := [] } }, (0 : Int), (0 : Int), (0 : Int), (0 : Int), (0 : Int), (0 : Int))).snd.snd.fst) && (decide ((List.getD x0.snd.snd.snd.snd.snd.snd.snd.snd.snd.snd.snd.fst (Int.toNat
    x.fst) ({ data := { toList := [] } }, (0 : Int), (0 : Int), (0 : Int), (0 : Int), (0 : Int), (0 : Int))).snd.snd.snd.fst = (List.getD x1.snd.snd.snd.snd.snd.snd.snd.snd.snd.snd.snd.fst
    (Int.toNat x.fst) ({ data := { toList := [] } }, (0 : Int), (0 : Int), (0 : Int), (0 : Int), (0 : Int), (0 : Int))).snd.snd.snd.fst) && (decide ((List.getD
    x0.snd.snd.snd.snd.snd.snd.snd.snd.snd.snd.snd.fst (Int.toNat x.fst) ({ data := { toList := [] } }, (0 : Int), (0 : Int), (0 : Int), (0 : Int), (0 : Int), (0 :
    Int))).snd.snd.snd.snd.fst = (List.getD x1.snd.snd.snd.snd.snd.snd.snd.snd.snd.snd.snd.fst (Int.toNat x.fst) ({ data := { toList := [] } }, (0 : Int), (0 : Int), (0 : Int), (0 : Int),
    (0 : Int), (0 : Int))).snd.snd.snd.snd.fst) && (decide ((List.getD x0.snd.snd.snd.snd.snd.snd.snd.snd.snd.snd.snd.fst (Int.toNat x.fst) ({ data := { toList := [] } }, (0 : Int), (0 :
    Int), (0 : Int), (0 : Int), (0 : Int), (0 : Int))).snd.snd.snd.snd.snd.fst = (List.getD x1.snd.snd.snd.snd.snd.snd.snd.snd.snd.snd.snd.fst (Int.toNat x.fst) ({ data := { toList := [] }
    }, (0 : Int), (0 : Int), (0 : Int), (0 : Int), (0 : Int), (0 : Int))).snd.snd.snd.snd.snd.fst) && (decide ((List.getD x0.snd.snd.snd.snd.snd.snd.snd.snd.snd.snd.snd.fst (Int.toNat
    x.fst) ({ data := { toList := [] } }, (0 : Int), (0 : Int), (0 : Int), (0 : Int), (0 : Int), (0 : Int))).snd.snd.snd.snd.snd.snd = (List.getD
    x1.snd.snd.snd.snd.snd.snd.snd.snd.snd.snd.snd.fst (Int.toNat x.fst) ({ data := { toList := [] } }, (0 : Int), (0 : Int), (0 : Int), (0 : Int), (0 : Int), (0 :
    Int))).snd.snd.snd.snd.snd.snd) && true))))))) then some false else again (IntKind.wrap IntKind.i64 (x.fst + (1 : Int)), PUnit.unit) else none else none else lp (Int × PUnit) Bool (fun
    (again : Int × PUnit → Option Bool) (x : Int × PUnit) => bif decide (x.fst < (↑(List.length x0.snd.snd.snd.snd.snd.snd.snd.snd.snd.snd.snd.snd) : Int)) then bif inB x.fst (List.length
    x0.snd.snd.snd.snd.snd.snd.snd.snd.snd.snd.snd.snd) then bif inB x.fst (List.length x1.snd.snd.snd.snd.snd.snd.snd.snd.snd.snd.snd.snd) then bif !((Array.isEqv (List.getD
    x0.snd.snd.snd.snd.snd.snd.snd.snd.snd.snd.snd.snd (Int.toNat x.fst) ({ data := { toList := [] } }, (0 : Int), (0 : Int))).fst.data (List.getD
    x1.snd.snd.snd.snd.snd.snd.snd.snd.snd.snd.snd.snd (Int.toNat x.fst) ({ data := { toList := [] } }, (0 : Int), (0 : Int))).fst.data fun (a b : UInt8) => decide (a = b)) && (decide
    ((List.getD x0.snd.snd.snd.snd.snd.snd.snd.snd.snd.snd.snd.snd (Int.toNat x.fst) ({ data := { toList := [] } }, (0 : Int), (0 : Int))).snd.fst = (List.getD
    x1.snd.snd.snd.snd.snd.snd.snd.snd.snd.snd.snd.snd (Int.toNat x.fst) ({ data := { toList := [] } }, (0 : Int), (0 : Int))).snd.fst) && (decide ((List.getD
    x0.snd.snd.snd.snd.snd.snd.snd.snd.snd.snd.snd.snd (Int.toNat x.fst) ({ data := { toList := [] } }, (0 : Int), (0 : Int))).snd.snd = (List.getD
    x1.snd.snd.snd.snd.snd.snd.snd.snd.snd.snd.snd.snd (Int.toNat x.fst) ({ data := { toList := [] } }, (0 : Int), (0 : Int))).snd.snd) && true))) then some false else again (IntKind.wrap
    IntKind.i64 (x.fst + (1 : Int)), PUnit.unit) else none else none else some true) ((0 : Int), PUnit.unit)) ((0 : Int), PUnit.unit)) ((0 : Int), PUnit.unit) else none else none else none
    else none else none else none else none else none else none else none else none else none else none else none else none else none else none else none else none else none else none else
    none else none else none else none else none else none else none else none else none else none else none else none else none else none else none else none else none else none else none
    else none else none else none else none else none else none else none else none
noncomputable def ref21_Same (x0 : ByteArray × Int × Int × Int × Int × (List Int) × Int × Int × Int × Int × Int × (List (ByteArray × Int × Int × Int × Int × Int × Int)) × List (ByteArray × Int × Int)) (x1 : ByteArray × Int × Int × Int × Int × (List Int) × Int × Int × Int × Int × Int × (List (ByteArray × Int × Int × Int × Int × Int × Int)) × List (ByteArray × Int × Int)) : Option Bool := ref21_Same_b lpK jnK x0 x1
noncomputable def c38 : Ctr := ⟨[T44, T44], [], [], .one .bool, fun x _ _ => ref21_Same x.1 x.2.1⟩
theorem e38 (lp : Lp) (jn : Jn) : ∀ (x : TsS c38.as) (F : TsF c38.fs) (y : TsS c38.cs), ref21_Same_b lp jn x.1 x.2.1 = runC lp jn (ctxOf prog shs inls its [] [(116, r116), (115, r115), (114, r114), (69, r69), (119, r119)]) hints 4 38 f38 c38 x F y := fun x F y => by kernel_rfl
theorem l38 : (ctxOf prog shs inls its [] [(116, r116), (115, r115), (114, r114), (69, r69), (119, r119)]).ok := q116
theorem ok38 : c38.ok prog 38 := Ctr.of_den l38 hmix (hl := hints) (d := 4) func38 rfl (by decide) (e38 lpK jnK)

/-- loftblock loftblockref30.Same -/
noncomputable def ref30_Same_b (lp : Lp) (_ : Jn) (ref21_Same : (ByteArray × Int × Int × Int × Int × (List Int) × Int × Int × Int × Int × Int × (List (ByteArray × Int × Int × Int × Int × Int × Int)) × List (ByteArray × Int × Int)) → (ByteArray × Int × Int × Int × Int × (List Int) × Int × Int × Int × Int × Int × (List (ByteArray × Int × Int × Int × Int × Int × Int)) × List (ByteArray × Int × Int)) → Option (Bool)) (x0 : ByteArray × Int × (List (ByteArray × Int × Int × Int × Int × (List Int) × Int × Int × Int × Int × Int × (List (ByteArray × Int × Int × Int × Int × Int × Int)) × List (ByteArray × Int × Int))) × List (ByteArray × Int × Int × Int)) (x1 : ByteArray × Int × (List (ByteArray × Int × Int × Int × Int × (List Int) × Int × Int × Int × Int × Int × (List (ByteArray × Int × Int × Int × Int × Int × Int)) × List (ByteArray × Int × Int))) × List (ByteArray × Int × Int × Int)) : Option Bool :=
  
  let v4 : Bool := !List.beq (ByteArray.toList x0.fst) (ByteArray.toList x1.fst);
  let v5 : Bool := !v4;
  let v6 : Bool := !v5 || v5;
  let v7 : Bool := bif v4 then true else !decide (x0.snd.fst = x1.snd.fst);
  let v8 : Bool := !v7;
  let v9 : Bool := !v8 || v8;
  let v10 : Bool := bif v7 then true else !decide ((↑(List.length x0.snd.snd.fst) : Int) = (↑(List.length x1.snd.snd.fst) : Int));
  let v11 : Bool := !v10;
  let v12 : Bool := !v11 || v11; bif v6 then bif v6 then bif v6 && v6 then bif v4 || v5 then bif v9 then bif v9 then bif v9 then bif v9 then bif v9 && v9 then bif v7 || v8 then bif v12 then
    bif v12 then bif v12 then bif v12 then bif v12 && v12 then bif v10 || v11 then bif bif v10 then true else !decide ((↑(List.length x0.snd.snd.snd) : Int) = (↑(List.length x1.snd.snd.snd)
    : Int)) then some false else lp (Int × PUnit) Bool (fun (again : Int × PUnit → Option Bool) (x : Int × PUnit) => bif decide (x.fst < (↑(List.length x0.snd.snd.fst) : Int)) then bif inB
    x.fst (List.length x0.snd.snd.fst) then bif inB x.fst (List.length x1.snd.snd.fst) then obind (ref21_Same (List.getD x0.snd.snd.fst (Int.toNat x.fst) ({ data := { toList := [] } }, (0 :
    Int), (0 : Int), (0 : Int), (0 : Int), [], (0 : Int), (0 : Int), (0 : Int), (0 : Int), (0 : Int), [], [])) (List.getD x1.snd.snd.fst (Int.toNat x.fst) ({ data := { toList := [] } }, (0
    : Int), (0 : Int), (0 : Int), (0 : Int), [], (0 : Int), (0 : Int), (0 : Int), (0 : Int), (0 : Int), [], []))) fun (t : Bool) => bif !t then some false else again (IntKind.wrap
    IntKind.i64 (x.fst + (1 : Int)), PUnit.unit) else none else none else lp (Int × PUnit) Bool (fun (again : Int × PUnit → Option Bool) (x : Int × PUnit) => bif decide (x.fst <
    (↑(List.length x0.snd.snd.snd) : Int)) then bif inB x.fst (List.length x0.snd.snd.snd) then bif inB x.fst (List.length x1.snd.snd.snd) then bif !((Array.isEqv (List.getD x0.snd.snd.snd
    (Int.toNat x.fst) ({ data := { toList := [] } }, (0 : Int), (0 : Int), (0 : Int))).fst.data (List.getD x1.snd.snd.snd (Int.toNat x.fst) ({ data := { toList := [] } }, (0 : Int), (0 :
    Int), (0 : Int))).fst.data fun (a b : UInt8) => decide (a = b)) && (decide ((List.getD x0.snd.snd.snd (Int.toNat x.fst) ({ data := { toList := [] } }, (0 : Int), (0 : Int), (0 :
    Int))).snd.fst = (List.getD x1.snd.snd.snd (Int.toNat x.fst) ({ data := { toList := [] } }, (0 : Int), (0 : Int), (0 : Int))).snd.fst) && (decide ((List.getD x0.snd.snd.snd (Int.toNat
    x.fst) ({ data := { toList := [] } }, (0 : Int), (0 : Int), (0 : Int))).snd.snd.fst = (List.getD x1.snd.snd.snd (Int.toNat x.fst) ({ data := { toList := [] } }, (0 : Int), (0 : Int), (0
    : Int))).snd.snd.fst) && (decide ((List.getD x0.snd.snd.snd (Int.toNat x.fst) ({ data := { toList := [] } }, (0 : Int), (0 : Int), (0 : Int))).snd.snd.snd = (List.getD x1.snd.snd.snd
    (Int.toNat x.fst) ({ data := { toList := [] } }, (0 : Int), (0 : Int), (0 : Int))).snd.snd.snd) && true)))) then some false else again (IntKind.wrap IntKind.i64 (x.fst + (1 : Int)),
    PUnit.unit) else none else none else some true) ((0 : Int), PUnit.unit)) ((0 : Int), PUnit.unit) else none else none else none else none else none else none else none else none else
    none else none else none else none else none else none else none else none
noncomputable def ref30_Same (x0 : ByteArray × Int × (List (ByteArray × Int × Int × Int × Int × (List Int) × Int × Int × Int × Int × Int × (List (ByteArray × Int × Int × Int × Int × Int × Int)) × List (ByteArray × Int × Int))) × List (ByteArray × Int × Int × Int)) (x1 : ByteArray × Int × (List (ByteArray × Int × Int × Int × Int × (List Int) × Int × Int × Int × Int × Int × (List (ByteArray × Int × Int × Int × Int × Int × Int)) × List (ByteArray × Int × Int))) × List (ByteArray × Int × Int × Int)) : Option Bool := ref30_Same_b lpK jnK ref21_Same x0 x1
noncomputable def c34 : Ctr := ⟨[T25, T25], [], [], .one .bool, fun x _ _ => ref30_Same x.1 x.2.1⟩
theorem e34 (lp : Lp) (jn : Jn) (ref21_Same : (ByteArray × Int × Int × Int × Int × (List Int) × Int × Int × Int × Int × Int × (List (ByteArray × Int × Int × Int × Int × Int × Int)) × List (ByteArray × Int × Int)) → (ByteArray × Int × Int × Int × Int × (List Int) × Int × Int × Int × Int × Int × (List (ByteArray × Int × Int × Int × Int × Int × Int)) × List (ByteArray × Int × Int)) → Option (Bool)) : ∀ (x : TsS c34.as) (F : TsF c34.fs) (y : TsS c34.cs), ref30_Same_b lp jn ref21_Same x.1 x.2.1 = runC lp jn (ctxOf prog shs inls its [(38, ⟨[T44, T44], [], [], .one .bool, fun x _ _ => ref21_Same x.1 x.2.1⟩)] [(116, r116), (115, r115), (114, r114), (69, r69), (119, r119)]) hints 4 34 f34 c34 x F y := fun x F y => by kernel_rfl
theorem l34 : (ctxOf prog shs inls its [(38, c38)] [(116, r116), (115, r115), (114, r114), (69, r69), (119, r119)]).ok := ctxOf_cons (q116) (by kernel_rfl) ok38
theorem ok34 : c34.ok prog 34 := Ctr.of_den l34 hmix (hl := hints) (d := 4) func34 rfl (by decide) (e34 lpK jnK ref21_Same)

/-- loftblock loftblocklaw30.HouseForms -/
noncomputable def law30_HouseForms_b (_ : Lp) (_ : Jn) (house_Valid : (ByteArray × Int × (List (ByteArray × Int × Int × Int × Int × (List Int) × Int × Int × Int × Int × Int × (List (ByteArray × Int × Int × Int × Int × Int × Int)) × List (ByteArray × Int × Int))) × List (ByteArray × Int × Int × Int)) → Option (Bool)) (law30_awake : Option (Bool)) (law30_small : (ByteArray × Int × (List (ByteArray × Int × Int × Int × Int × (List Int) × Int × Int × Int × Int × Int × (List (ByteArray × Int × Int × Int × Int × Int × Int)) × List (ByteArray × Int × Int))) × List (ByteArray × Int × Int × Int)) → Option (Bool)) (ref30_Valid : (ByteArray × Int × (List (ByteArray × Int × Int × Int × Int × (List Int) × Int × Int × Int × Int × Int × (List (ByteArray × Int × Int × Int × Int × Int × Int)) × List (ByteArray × Int × Int))) × List (ByteArray × Int × Int × Int)) → Option (Bool)) (house_Same : (ByteArray × Int × (List (ByteArray × Int × Int × Int × Int × (List Int) × Int × Int × Int × Int × Int × (List (ByteArray × Int × Int × Int × Int × Int × Int)) × List (ByteArray × Int × Int))) × List (ByteArray × Int × Int × Int)) → (ByteArray × Int × (List (ByteArray × Int × Int × Int × Int × (List Int) × Int × Int × Int × Int × Int × (List (ByteArray × Int × Int × Int × Int × Int × Int)) × List (ByteArray × Int × Int))) × List (ByteArray × Int × Int × Int)) → Option (Bool)) (ref30_Same : (ByteArray × Int × (List (ByteArray × Int × Int × Int × Int × (List Int) × Int × Int × Int × Int × Int × (List (ByteArray × Int × Int × Int × Int × Int × Int)) × List (ByteArray × Int × Int))) × List (ByteArray × Int × Int × Int)) → (ByteArray × Int × (List (ByteArray × Int × Int × Int × Int × (List Int) × Int × Int × Int × Int × Int × (List (ByteArray × Int × Int × Int × Int × Int × Int)) × List (ByteArray × Int × Int))) × List (ByteArray × Int × Int × Int)) → Option (Bool)) (x0 : ByteArray × Int × (List (ByteArray × Int × Int × Int × Int × (List Int) × Int × Int × Int × Int × Int × (List (ByteArray × Int × Int × Int × Int × Int × Int)) × List (ByteArray × Int × Int))) × List (ByteArray × Int × Int × Int)) (x1 : ByteArray × Int × (List (ByteArray × Int × Int × Int × Int × (List Int) × Int × Int × Int × Int × Int × (List (ByteArray × Int × Int × Int × Int × Int × Int)) × List (ByteArray × Int × Int))) × List (ByteArray × Int × Int × Int)) : Option Bool :=
  obind law30_awake fun (t : Bool) => bif !t then some false else obind (law30_small x0) fun (t : Bool) =>
  let v6 : Bool := !t;
  let v7 : Bool := !v6;
  let v8 : Bool := !v7 || v7; bif v8 then obind (bif v7 then law30_small x1 else some false) fun (t : Bool) => bif v8 then bif v6 || v7 then bif bif v6 then true else !t then some true else
    obind (house_Valid x0) fun (t : Bool) => obind (ref30_Valid x0) fun (t_1 : Bool) =>
  let v12 : Bool := decide (t = t_1);
  let v13 : Bool := !v12 || v12;
  let v14 : Bool := v13 && v13; bif v14 then obind (bif v12 then house_Same x0 x1 else some false) fun (t : Bool) => bif v14 then obind (bif v12 then ref30_Same x0 x1 else some false) fun
    (t_2 : Bool) =>
  let v17 : Bool := bif v12 then decide (t = t_2) else false;
  let v18 : Bool := !v17 || v17; bif v14 then bif v13 then bif v18 && v18 then obind (bif v17 then house_Same x0 x0 else some false) fun (t : Bool) => bif v18 then some (bif v17 then t else
    false) else none else none else none else none else none else none else none else none else none
noncomputable def law30_HouseForms (x0 : ByteArray × Int × (List (ByteArray × Int × Int × Int × Int × (List Int) × Int × Int × Int × Int × Int × (List (ByteArray × Int × Int × Int × Int × Int × Int)) × List (ByteArray × Int × Int))) × List (ByteArray × Int × Int × Int)) (x1 : ByteArray × Int × (List (ByteArray × Int × Int × Int × Int × (List Int) × Int × Int × Int × Int × Int × (List (ByteArray × Int × Int × Int × Int × Int × Int)) × List (ByteArray × Int × Int))) × List (ByteArray × Int × Int × Int)) : Option Bool := law30_HouseForms_b lpK jnK house_Valid law30_awake law30_small ref30_Valid house_Same ref30_Same x0 x1
noncomputable def c8 : Ctr := ⟨[T25, T25], [], [], .one .bool, fun x _ _ => law30_HouseForms x.1 x.2.1⟩
theorem e8 (lp : Lp) (jn : Jn) (house_Valid : (ByteArray × Int × (List (ByteArray × Int × Int × Int × Int × (List Int) × Int × Int × Int × Int × Int × (List (ByteArray × Int × Int × Int × Int × Int × Int)) × List (ByteArray × Int × Int))) × List (ByteArray × Int × Int × Int)) → Option (Bool)) (law30_awake : Option (Bool)) (law30_small : (ByteArray × Int × (List (ByteArray × Int × Int × Int × Int × (List Int) × Int × Int × Int × Int × Int × (List (ByteArray × Int × Int × Int × Int × Int × Int)) × List (ByteArray × Int × Int))) × List (ByteArray × Int × Int × Int)) → Option (Bool)) (ref30_Valid : (ByteArray × Int × (List (ByteArray × Int × Int × Int × Int × (List Int) × Int × Int × Int × Int × Int × (List (ByteArray × Int × Int × Int × Int × Int × Int)) × List (ByteArray × Int × Int))) × List (ByteArray × Int × Int × Int)) → Option (Bool)) (house_Same : (ByteArray × Int × (List (ByteArray × Int × Int × Int × Int × (List Int) × Int × Int × Int × Int × Int × (List (ByteArray × Int × Int × Int × Int × Int × Int)) × List (ByteArray × Int × Int))) × List (ByteArray × Int × Int × Int)) → (ByteArray × Int × (List (ByteArray × Int × Int × Int × Int × (List Int) × Int × Int × Int × Int × Int × (List (ByteArray × Int × Int × Int × Int × Int × Int)) × List (ByteArray × Int × Int))) × List (ByteArray × Int × Int × Int)) → Option (Bool)) (ref30_Same : (ByteArray × Int × (List (ByteArray × Int × Int × Int × Int × (List Int) × Int × Int × Int × Int × Int × (List (ByteArray × Int × Int × Int × Int × Int × Int)) × List (ByteArray × Int × Int))) × List (ByteArray × Int × Int × Int)) → (ByteArray × Int × (List (ByteArray × Int × Int × Int × Int × (List Int) × Int × Int × Int × Int × Int × (List (ByteArray × Int × Int × Int × Int × Int × Int)) × List (ByteArray × Int × Int))) × List (ByteArray × Int × Int × Int)) → Option (Bool)) : ∀ (x : TsS c8.as) (F : TsF c8.fs) (y : TsS c8.cs), law30_HouseForms_b lp jn house_Valid law30_awake law30_small ref30_Valid house_Same ref30_Same x.1 x.2.1 = runC lp jn (ctxOf prog shs inls its [(34, ⟨[T25, T25], [], [], .one .bool, fun x _ _ => ref30_Same x.1 x.2.1⟩), (33, ⟨[T25, T25], [], [], .one .bool, fun x _ _ => house_Same x.1 x.2.1⟩), (25, ⟨[T25], [], [], .one .bool, fun x _ _ => ref30_Valid x.1⟩), (11, ⟨[T25], [], [], .one .bool, fun x _ _ => law30_small x.1⟩), (10, ⟨[], [], [], .one .bool, fun _ _ _ => law30_awake⟩), (32, ⟨[T25], [], [], .one .bool, fun x _ _ => house_Valid x.1⟩)] [(116, r116), (115, r115), (114, r114), (69, r69), (119, r119)]) hints 4 8 f8 c8 x F y := fun x F y => by kernel_rfl
theorem l8 : (ctxOf prog shs inls its [(34, c34), (33, c33), (25, c25), (11, c11), (10, c10), (32, c32)] [(116, r116), (115, r115), (114, r114), (69, r69), (119, r119)]).ok := ctxOf_cons (ctxOf_cons (ctxOf_cons (ctxOf_cons (ctxOf_cons (ctxOf_cons (q116) (by kernel_rfl) ok32) (by kernel_rfl) ok10) (by kernel_rfl) ok11) (by kernel_rfl) ok25) (by kernel_rfl) ok33) (by kernel_rfl) ok34
theorem ok8 : c8.ok prog 8 := Ctr.of_den l8 hmix (hl := hints) (d := 4) func8 rfl (by decide) (e8 lpK jnK house_Valid law30_awake law30_small ref30_Valid house_Same ref30_Same)

/-- loftblock house.Find -/
noncomputable def house_Find_b (_ : Lp) (_ : Jn) (house_find : (ByteArray × Int × (List (ByteArray × Int × Int × Int × Int × (List Int) × Int × Int × Int × Int × Int × (List (ByteArray × Int × Int × Int × Int × Int × Int)) × List (ByteArray × Int × Int))) × List (ByteArray × Int × Int × Int)) → (ByteArray) → Option (Int)) (house_Valid : (ByteArray × Int × (List (ByteArray × Int × Int × Int × Int × (List Int) × Int × Int × Int × Int × Int × (List (ByteArray × Int × Int × Int × Int × Int × Int)) × List (ByteArray × Int × Int))) × List (ByteArray × Int × Int × Int)) → Option (Bool)) (x0 : ByteArray × Int × (List (ByteArray × Int × Int × Int × Int × (List Int) × Int × Int × Int × Int × Int × (List (ByteArray × Int × Int × Int × Int × Int × Int)) × List (ByteArray × Int × Int))) × List (ByteArray × Int × Int × Int)) (x1 : ByteArray) : Option (Int × Int × Unit) :=
  obind (house_Valid x0) fun (t : Bool) => bif !t then some ((0 : Int), (1 : Int), PUnit.unit) else obind (house_find x0 x1) fun (t : Int) => bif decide (t < (0 : Int)) then some ((0 : Int),
    (9 : Int), PUnit.unit) else some (t, (0 : Int), PUnit.unit)
noncomputable def house_Find (x0 : ByteArray × Int × (List (ByteArray × Int × Int × Int × Int × (List Int) × Int × Int × Int × Int × Int × (List (ByteArray × Int × Int × Int × Int × Int × Int)) × List (ByteArray × Int × Int))) × List (ByteArray × Int × Int × Int)) (x1 : ByteArray) : Option (Int × Int × Unit) := house_Find_b lpK jnK house_find house_Valid x0 x1
noncomputable def c23 : Ctr := ⟨[T25, .str], [], [], .tup [i64, i64], fun x _ _ => house_Find x.1 x.2.1⟩
theorem e23 (lp : Lp) (jn : Jn) (house_find : (ByteArray × Int × (List (ByteArray × Int × Int × Int × Int × (List Int) × Int × Int × Int × Int × Int × (List (ByteArray × Int × Int × Int × Int × Int × Int)) × List (ByteArray × Int × Int))) × List (ByteArray × Int × Int × Int)) → (ByteArray) → Option (Int)) (house_Valid : (ByteArray × Int × (List (ByteArray × Int × Int × Int × Int × (List Int) × Int × Int × Int × Int × Int × (List (ByteArray × Int × Int × Int × Int × Int × Int)) × List (ByteArray × Int × Int))) × List (ByteArray × Int × Int × Int)) → Option (Bool)) : ∀ (x : TsS c23.as) (F : TsF c23.fs) (y : TsS c23.cs), house_Find_b lp jn house_find house_Valid x.1 x.2.1 = runC lp jn (ctxOf prog shs inls its [(32, ⟨[T25], [], [], .one .bool, fun x _ _ => house_Valid x.1⟩), (47, ⟨[T25, .str], [], [], .one i64, fun x _ _ => house_find x.1 x.2.1⟩)] [(116, r116), (115, r115), (114, r114), (69, r69), (119, r119)]) hints 4 23 f23 c23 x F y := fun x F y => by kernel_rfl
theorem l23 : (ctxOf prog shs inls its [(32, c32), (47, c47)] [(116, r116), (115, r115), (114, r114), (69, r69), (119, r119)]).ok := ctxOf_cons (ctxOf_cons (q116) (by kernel_rfl) ok47) (by kernel_rfl) ok32
theorem ok23 : c23.ok prog 23 := Ctr.of_den l23 hmix (hl := hints) (d := 4) func23 rfl (by decide) (e23 lpK jnK house_find house_Valid)

/-- loftblock house.copied -/
noncomputable def house_copied_b (_ : Lp) (_ : Jn) (slices_Clone_114 : (List Int) → Option (List Int)) (slices_Clone_115 : (List (ByteArray × Int × Int × Int × Int × Int × Int)) → Option (List (ByteArray × Int × Int × Int × Int × Int × Int))) (slices_Clone_116 : (List (ByteArray × Int × Int)) → Option (List (ByteArray × Int × Int))) (x0 : ByteArray × Int × Int × Int × Int × (List Int) × Int × Int × Int × Int × Int × (List (ByteArray × Int × Int × Int × Int × Int × Int)) × List (ByteArray × Int × Int)) : Option (ByteArray × Int × Int × Int × Int × (List Int) × Int × Int × Int × Int × Int × (List (ByteArray × Int × Int × Int × Int × Int × Int)) × List (ByteArray × Int × Int)) :=
  obind (slices_Clone_114 x0.snd.snd.snd.snd.snd.fst) fun (t : List Int) => obind (slices_Clone_115 x0.snd.snd.snd.snd.snd.snd.snd.snd.snd.snd.snd.fst) fun (t_1 : List (ByteArray × Int × Int
    × Int × Int × Int × Int)) => obind (slices_Clone_116 x0.snd.snd.snd.snd.snd.snd.snd.snd.snd.snd.snd.snd) fun (t_2 : List (ByteArray × Int × Int)) => some (x0.fst, x0.snd.fst,
    x0.snd.snd.fst, x0.snd.snd.snd.fst, x0.snd.snd.snd.snd.fst, t, x0.snd.snd.snd.snd.snd.snd.fst, x0.snd.snd.snd.snd.snd.snd.snd.fst, x0.snd.snd.snd.snd.snd.snd.snd.snd.fst,
    x0.snd.snd.snd.snd.snd.snd.snd.snd.snd.fst, x0.snd.snd.snd.snd.snd.snd.snd.snd.snd.snd.fst, t_1, t_2)
noncomputable def house_copied (x0 : ByteArray × Int × Int × Int × Int × (List Int) × Int × Int × Int × Int × Int × (List (ByteArray × Int × Int × Int × Int × Int × Int)) × List (ByteArray × Int × Int)) : Option (ByteArray × Int × Int × Int × Int × (List Int) × Int × Int × Int × Int × Int × (List (ByteArray × Int × Int × Int × Int × Int × Int)) × List (ByteArray × Int × Int)) := house_copied_b lpK jnK slices_Clone_114 slices_Clone_115 slices_Clone_116 x0
noncomputable def c70 : Ctr := ⟨[T44], [], [], .one T44, fun x _ _ => house_copied x.1⟩
theorem e70 (lp : Lp) (jn : Jn) (slices_Clone_114 : (List Int) → Option (List Int)) (slices_Clone_115 : (List (ByteArray × Int × Int × Int × Int × Int × Int)) → Option (List (ByteArray × Int × Int × Int × Int × Int × Int))) (slices_Clone_116 : (List (ByteArray × Int × Int)) → Option (List (ByteArray × Int × Int))) : ∀ (x : TsS c70.as) (F : TsF c70.fs) (y : TsS c70.cs), house_copied_b lp jn slices_Clone_114 slices_Clone_115 slices_Clone_116 x.1 = runC lp jn (ctxOf prog shs inls its [] [(116, ⟨[(.sl T64)], 64, T64, fun x => slices_Clone_116 x.1⟩), (115, ⟨[(.sl T48)], 48, T48, fun x => slices_Clone_115 x.1⟩), (114, ⟨[(.sl i64)], 3, i64, fun x => slices_Clone_114 x.1⟩), (69, r69), (119, r119)]) hints 4 70 f70 c70 x F y := fun x F y => by kernel_rfl
theorem l70 : (ctxOf prog shs inls its [] [(116, r116), (115, r115), (114, r114), (69, r69), (119, r119)]).ok := q116
theorem ok70 : c70.ok prog 70 := Ctr.of_den l70 hmix (hl := hints) (d := 4) func70 rfl (by decide) (e70 lpK jnK slices_Clone_114 slices_Clone_115 slices_Clone_116)

/-- loftblock house.Put -/
noncomputable def house_Put_b (lp : Lp) (_ : Jn) (batten_Valid : (ByteArray × Int × Int × Int × Int × (List Int) × Int × Int × Int × Int × Int × (List (ByteArray × Int × Int × Int × Int × Int × Int)) × List (ByteArray × Int × Int)) → Option (Bool)) (house_find : (ByteArray × Int × (List (ByteArray × Int × Int × Int × Int × (List Int) × Int × Int × Int × Int × Int × (List (ByteArray × Int × Int × Int × Int × Int × Int)) × List (ByteArray × Int × Int))) × List (ByteArray × Int × Int × Int)) → (ByteArray) → Option (Int)) (house_Valid : (ByteArray × Int × (List (ByteArray × Int × Int × Int × Int × (List Int) × Int × Int × Int × Int × Int × (List (ByteArray × Int × Int × Int × Int × Int × Int)) × List (ByteArray × Int × Int))) × List (ByteArray × Int × Int × Int)) → Option (Bool)) (house_copied : (ByteArray × Int × Int × Int × Int × (List Int) × Int × Int × Int × Int × Int × (List (ByteArray × Int × Int × Int × Int × Int × Int)) × List (ByteArray × Int × Int)) → Option (ByteArray × Int × Int × Int × Int × (List Int) × Int × Int × Int × Int × Int × (List (ByteArray × Int × Int × Int × Int × Int × Int)) × List (ByteArray × Int × Int))) (slices_Clone_69 : (List (ByteArray × Int × Int × Int)) → Option (List (ByteArray × Int × Int × Int))) (x0 : ByteArray × Int × (List (ByteArray × Int × Int × Int × Int × (List Int) × Int × Int × Int × Int × Int × (List (ByteArray × Int × Int × Int × Int × Int × Int)) × List (ByteArray × Int × Int))) × List (ByteArray × Int × Int × Int)) (x1 : ByteArray × Int × Int × Int × Int × (List Int) × Int × Int × Int × Int × Int × (List (ByteArray × Int × Int × Int × Int × Int × Int)) × List (ByteArray × Int × Int)) : Option ((ByteArray × Int × (List (ByteArray × Int × Int × Int × Int × (List Int) × Int × Int × Int × Int × Int × (List (ByteArray × Int × Int × Int × Int × Int × Int)) × List (ByteArray × Int × Int))) × List (ByteArray × Int × Int × Int)) × Int × Unit) :=
  
  let v4 : List (ByteArray × Int × Int × Int × Int × List Int × Int × Int × Int × Int × Int × List (ByteArray × Int × Int × Int × Int × Int × Int) × List (ByteArray × Int × Int)) := [];
    obind (house_Valid x0) fun (t : Bool) =>
  let v6 : Bool := !t;
  let v7 : Bool := !v6;
  let v8 : Bool := !v7 || v7;
  let v9 : ByteArray × Int × List (ByteArray × Int × Int × Int × Int × List Int × Int × Int × Int × Int × Int × List (ByteArray × Int × Int × Int × Int × Int × Int) × List (ByteArray × Int
    × Int)) × List (ByteArray × Int × Int × Int) := ({ data := #[] }, (0 : Int), v4, []); bif v8 then obind (bif v7 then batten_Valid x1 else some false) fun (t : Bool) =>
  let v11 : Bool := bif v6 then true else !t;
  let v12 : Bool := !v11;
  let v13 : Bool := !v12 || v12; bif v8 then bif v6 || v7 then bif v13 then bif v13 then bif v13 && v13 then bif v11 || v12 then bif bif v11 then true else decide (x1.snd.snd.snd.fst >
    x0.snd.fst) then some (v9, (1 : Int), PUnit.unit) else obind (house_find x0 x1.fst) fun (t : Int) =>
  let v15 : Bool := decide (t < (0 : Int));
  let v16 : Bool := !v15 || v15; bif v16 then bif v16 then bif v16 then bif v16 then bif bif v15 then decide ((↑(List.length x0.snd.snd.fst) : Int) = (60 : Int)) else false then some (v9,
    (4 : Int), PUnit.unit) else obind (slices_Clone_69 x0.snd.snd.snd) fun (t_1 : List (ByteArray × Int × Int × Int)) => lp (Int × ByteArray × Int × List (ByteArray × Int × Int × Int × Int
    × List Int × Int × Int × Int × Int × Int × List (ByteArray × Int × Int × Int × Int × Int × Int) × List (ByteArray × Int × Int)) × List (ByteArray × Int × Int × Int) × PUnit) ((ByteArray
    × Int × List (ByteArray × Int × Int × Int × Int × List Int × Int × Int × Int × Int × Int × List (ByteArray × Int × Int × Int × Int × Int × Int) × List (ByteArray × Int × Int)) × List
    (ByteArray × Int × Int × Int)) × Int × PUnit) (fun (again : Int × ByteArray × Int × List (ByteArray × Int × Int × Int × Int × List Int × Int × Int × Int × Int × Int × List (ByteArray ×
    Int × Int × Int × Int × Int × Int) × List (ByteArray × Int × Int)) × List (ByteArray × Int × Int × Int) × PUnit → Option ((ByteArray × Int × List (ByteArray × Int × Int × Int × Int ×
    List Int × Int × Int × Int × Int × Int × List (ByteArray × Int × Int × Int × Int × Int × Int) × List (ByteArray × Int × Int)) × List (ByteArray × Int × Int × Int)) × Int × PUnit)) (x :
    Int × ByteArray × Int × List (ByteArray × Int × Int × Int × Int × List Int × Int × Int × Int × Int × Int × List (ByteArray × Int × Int × Int × Int × Int × Int) × List (ByteArray × Int ×
    Int)) × List (ByteArray × Int × Int × Int) × PUnit) =>
  let v20 : Bool := fitB (List.length x.snd.snd.snd.fst + (1 : Nat)) (160 : Nat); bif decide (x.fst < (↑(List.length x0.snd.snd.fst) : Int)) then bif inB x.fst (List.length x0.snd.snd.fst)
    then obind (house_copied (List.getD x0.snd.snd.fst (Int.toNat x.fst) ({ data := { toList := [] } }, (0 : Int), (0 : Int), (0 : Int), (0 : Int), [], (0 : Int), (0 : Int), (0 : Int), (0 :
    Int), (0 : Int), [], []))) fun (t : ByteArray × Int × Int × Int × Int × List Int × Int × Int × Int × Int × Int × List (ByteArray × Int × Int × Int × Int × Int × Int) × List (ByteArray ×
    Int × Int)) => bif v20 then again (IntKind.wrap IntKind.i64 (x.fst + (1 : Int)), x.snd.fst, x.snd.snd.fst, x.snd.snd.snd.fst ++ t :: v4, x.snd.snd.snd.snd.fst, PUnit.unit) else none
    else none else bif v15 then obind (house_copied x1) fun (t : ByteArray × Int × Int × Int × Int × List Int × Int × Int × Int × Int × Int × List (ByteArray × Int × Int × Int × Int × Int ×
    Int) × List (ByteArray × Int × Int)) => bif v20 then some ((x.snd.fst, x.snd.snd.fst, x.snd.snd.snd.fst ++ t :: v4, x.snd.snd.snd.snd.fst), (0 : Int), PUnit.unit) else none else obind
    (house_copied x1) fun (t_2 : ByteArray × Int × Int × Int × Int × List Int × Int × Int × Int × Int × Int × List (ByteArray × Int × Int × Int × Int × Int × Int) × List (ByteArray × Int ×
    Int)) => bif inB t (List.length x.snd.snd.snd.fst) then bif Nat.ble (Nat.succ (Int.toNat t)) (List.length x.snd.snd.snd.fst) then some ((x.snd.fst, x.snd.snd.fst, List.set
    x.snd.snd.snd.fst (Int.toNat t) t_2, x.snd.snd.snd.snd.fst), (0 : Int), PUnit.unit) else none else none) ((0 : Int), x0.fst, x0.snd.fst, v4, t_1, PUnit.unit) else none else none else
    none else none else none else none else none else none else none else none else none
noncomputable def house_Put (x0 : ByteArray × Int × (List (ByteArray × Int × Int × Int × Int × (List Int) × Int × Int × Int × Int × Int × (List (ByteArray × Int × Int × Int × Int × Int × Int)) × List (ByteArray × Int × Int))) × List (ByteArray × Int × Int × Int)) (x1 : ByteArray × Int × Int × Int × Int × (List Int) × Int × Int × Int × Int × Int × (List (ByteArray × Int × Int × Int × Int × Int × Int)) × List (ByteArray × Int × Int)) : Option ((ByteArray × Int × (List (ByteArray × Int × Int × Int × Int × (List Int) × Int × Int × Int × Int × Int × (List (ByteArray × Int × Int × Int × Int × Int × Int)) × List (ByteArray × Int × Int))) × List (ByteArray × Int × Int × Int)) × Int × Unit) := house_Put_b lpK jnK batten_Valid house_find house_Valid house_copied slices_Clone_69 x0 x1
noncomputable def c36 : Ctr := ⟨[T25, T44], [], [], .tup [T25, i64], fun x _ _ => house_Put x.1 x.2.1⟩
theorem e36 (lp : Lp) (jn : Jn) (batten_Valid : (ByteArray × Int × Int × Int × Int × (List Int) × Int × Int × Int × Int × Int × (List (ByteArray × Int × Int × Int × Int × Int × Int)) × List (ByteArray × Int × Int)) → Option (Bool)) (house_find : (ByteArray × Int × (List (ByteArray × Int × Int × Int × Int × (List Int) × Int × Int × Int × Int × Int × (List (ByteArray × Int × Int × Int × Int × Int × Int)) × List (ByteArray × Int × Int))) × List (ByteArray × Int × Int × Int)) → (ByteArray) → Option (Int)) (house_Valid : (ByteArray × Int × (List (ByteArray × Int × Int × Int × Int × (List Int) × Int × Int × Int × Int × Int × (List (ByteArray × Int × Int × Int × Int × Int × Int)) × List (ByteArray × Int × Int))) × List (ByteArray × Int × Int × Int)) → Option (Bool)) (house_copied : (ByteArray × Int × Int × Int × Int × (List Int) × Int × Int × Int × Int × Int × (List (ByteArray × Int × Int × Int × Int × Int × Int)) × List (ByteArray × Int × Int)) → Option (ByteArray × Int × Int × Int × Int × (List Int) × Int × Int × Int × Int × Int × (List (ByteArray × Int × Int × Int × Int × Int × Int)) × List (ByteArray × Int × Int))) (slices_Clone_69 : (List (ByteArray × Int × Int × Int)) → Option (List (ByteArray × Int × Int × Int))) : ∀ (x : TsS c36.as) (F : TsF c36.fs) (y : TsS c36.cs), house_Put_b lp jn batten_Valid house_find house_Valid house_copied slices_Clone_69 x.1 x.2.1 = runC lp jn (ctxOf prog shs inls its [(70, ⟨[T44], [], [], .one T44, fun x _ _ => house_copied x.1⟩), (32, ⟨[T25], [], [], .one .bool, fun x _ _ => house_Valid x.1⟩), (47, ⟨[T25, .str], [], [], .one i64, fun x _ _ => house_find x.1 x.2.1⟩), (61, ⟨[T44], [], [], .one .bool, fun x _ _ => batten_Valid x.1⟩)] [(116, r116), (115, r115), (114, r114), (69, ⟨[(.sl T96)], 96, T96, fun x => slices_Clone_69 x.1⟩), (119, r119)]) hints 4 36 f36 c36 x F y := fun x F y => by kernel_rfl
theorem l36 : (ctxOf prog shs inls its [(70, c70), (32, c32), (47, c47), (61, c61)] [(116, r116), (115, r115), (114, r114), (69, r69), (119, r119)]).ok := ctxOf_cons (ctxOf_cons (ctxOf_cons (ctxOf_cons (q116) (by kernel_rfl) ok61) (by kernel_rfl) ok47) (by kernel_rfl) ok32) (by kernel_rfl) ok70
theorem ok36 : c36.ok prog 36 := Ctr.of_den l36 hmix (hl := hints) (d := 4) func36 rfl (by decide) (e36 lpK jnK batten_Valid house_find house_Valid house_copied slices_Clone_69)

/-- loftblock loftblockref30.Put -/
noncomputable def ref30_Put_b (lp : Lp) (_ : Jn) (ref30_FindSet : (ByteArray × Int × (List (ByteArray × Int × Int × Int × Int × (List Int) × Int × Int × Int × Int × Int × (List (ByteArray × Int × Int × Int × Int × Int × Int)) × List (ByteArray × Int × Int))) × List (ByteArray × Int × Int × Int)) → (ByteArray) → Option (Int)) (ref21_Valid : (ByteArray × Int × Int × Int × Int × (List Int) × Int × Int × Int × Int × Int × (List (ByteArray × Int × Int × Int × Int × Int × Int)) × List (ByteArray × Int × Int)) → Option (Bool)) (ref30_Valid : (ByteArray × Int × (List (ByteArray × Int × Int × Int × Int × (List Int) × Int × Int × Int × Int × Int × (List (ByteArray × Int × Int × Int × Int × Int × Int)) × List (ByteArray × Int × Int))) × List (ByteArray × Int × Int × Int)) → Option (Bool)) (ref21_Copy : (ByteArray × Int × Int × Int × Int × (List Int) × Int × Int × Int × Int × Int × (List (ByteArray × Int × Int × Int × Int × Int × Int)) × List (ByteArray × Int × Int)) → Option (ByteArray × Int × Int × Int × Int × (List Int) × Int × Int × Int × Int × Int × (List (ByteArray × Int × Int × Int × Int × Int × Int)) × List (ByteArray × Int × Int))) (x0 : ByteArray × Int × (List (ByteArray × Int × Int × Int × Int × (List Int) × Int × Int × Int × Int × Int × (List (ByteArray × Int × Int × Int × Int × Int × Int)) × List (ByteArray × Int × Int))) × List (ByteArray × Int × Int × Int)) (x1 : ByteArray × Int × Int × Int × Int × (List Int) × Int × Int × Int × Int × Int × (List (ByteArray × Int × Int × Int × Int × Int × Int)) × List (ByteArray × Int × Int)) : Option ((ByteArray × Int × (List (ByteArray × Int × Int × Int × Int × (List Int) × Int × Int × Int × Int × Int × (List (ByteArray × Int × Int × Int × Int × Int × Int)) × List (ByteArray × Int × Int))) × List (ByteArray × Int × Int × Int)) × Int × Unit) :=
  
  let v4 : List (ByteArray × Int × Int × Int × Int × List Int × Int × Int × Int × Int × Int × List (ByteArray × Int × Int × Int × Int × Int × Int) × List (ByteArray × Int × Int)) := [];
    obind (ref30_Valid x0) fun (t : Bool) =>
  let v6 : Bool := !t;
  let v7 : Bool := !v6;
  let v8 : Bool := !v7 || v7;
  let v9 : ByteArray × Int × List (ByteArray × Int × Int × Int × Int × List Int × Int × Int × Int × Int × Int × List (ByteArray × Int × Int × Int × Int × Int × Int) × List (ByteArray × Int
    × Int)) × List (ByteArray × Int × Int × Int) := ({ data := #[] }, (0 : Int), v4, []); bif v8 then obind (bif v7 then ref21_Valid x1 else some false) fun (t : Bool) => bif v8 then bif v6
    || v7 then bif bif v6 then true else !t then some (v9, (1 : Int), PUnit.unit) else bif fitB ((0 : Nat) + List.length x0.snd.snd.snd) (40 : Nat) then lp (Int × ByteArray × Int × List
    (ByteArray × Int × Int × Int × Int × List Int × Int × Int × Int × Int × Int × List (ByteArray × Int × Int × Int × Int × Int × Int) × List (ByteArray × Int × Int)) × List (ByteArray ×
    Int × Int × Int) × PUnit) ((ByteArray × Int × List (ByteArray × Int × Int × Int × Int × List Int × Int × Int × Int × Int × Int × List (ByteArray × Int × Int × Int × Int × Int × Int) ×
    List (ByteArray × Int × Int)) × List (ByteArray × Int × Int × Int)) × Int × PUnit) (fun (again : Int × ByteArray × Int × List (ByteArray × Int × Int × Int × Int × List Int × Int × Int ×
    Int × Int × Int × List (ByteArray × Int × Int × Int × Int × Int × Int) × List (ByteArray × Int × Int)) × List (ByteArray × Int × Int × Int) × PUnit → Option ((ByteArray × Int × List
    (ByteArray × Int × Int × Int × Int × List Int × Int × Int × Int × Int × Int × List (ByteArray × Int × Int × Int × Int × Int × Int) × List (ByteArray × Int × Int)) × List (ByteArray ×
    Int × Int × Int)) × Int × PUnit)) (x : Int × ByteArray × Int × List (ByteArray × Int × Int × Int × Int × List Int × Int × Int × Int × Int × Int × List (ByteArray × Int × Int × Int × Int
    × Int × Int) × List (ByteArray × Int × Int)) × List (ByteArray × Int × Int × Int) × PUnit) =>
  let v13 : Bool := fitB (List.length x.snd.snd.snd.fst + (1 : Nat)) (160 : Nat); bif decide (x.fst < (↑(List.length x0.snd.snd.fst) : Int)) then bif inB x.fst (List.length x0.snd.snd.fst)
    then obind (ref21_Copy (List.getD x0.snd.snd.fst (Int.toNat x.fst) ({ data := { toList := [] } }, (0 : Int), (0 : Int), (0 : Int), (0 : Int), [], (0 : Int), (0 : Int), (0 : Int), (0 :
    Int), (0 : Int), [], []))) fun (t : ByteArray × Int × Int × Int × Int × List Int × Int × Int × Int × Int × Int × List (ByteArray × Int × Int × Int × Int × Int × Int) × List (ByteArray ×
    Int × Int)) => bif v13 then again (IntKind.wrap IntKind.i64 (x.fst + (1 : Int)), x.snd.fst, x.snd.snd.fst, x.snd.snd.snd.fst ++ t :: v4, x.snd.snd.snd.snd.fst, PUnit.unit) else none
    else none else obind (ref30_FindSet x0 x1.fst) fun (t : Int) => bif decide (t ≥ (0 : Int)) then obind (ref21_Copy x1) fun (t_1 : ByteArray × Int × Int × Int × Int × List Int × Int × Int
    × Int × Int × Int × List (ByteArray × Int × Int × Int × Int × Int × Int) × List (ByteArray × Int × Int)) =>
  let v16 : ByteArray × Int × List (ByteArray × Int × Int × Int × Int × List Int × Int × Int × Int × Int × Int × List (ByteArray × Int × Int × Int × Int × Int × Int) × List (ByteArray × Int
    × Int)) × List (ByteArray × Int × Int × Int) := (x.snd.fst, x.snd.snd.fst, List.set x.snd.snd.snd.fst (Int.toNat t) t_1, x.snd.snd.snd.snd.fst); bif inB t (List.length
    x.snd.snd.snd.fst) then bif Nat.ble (Nat.succ (Int.toNat t)) (List.length x.snd.snd.snd.fst) then obind (ref30_Valid v16) fun (t : Bool) => bif !t then some (v9, (1 : Int), PUnit.unit)
    else some (v16, (0 : Int), PUnit.unit) else none else none else bif decide ((↑(List.length x0.snd.snd.fst) : Int) = (60 : Int)) then some (v9, (4 : Int), PUnit.unit) else obind
    (ref21_Copy x1) fun (t : ByteArray × Int × Int × Int × Int × List Int × Int × Int × Int × Int × Int × List (ByteArray × Int × Int × Int × Int × Int × Int) × List (ByteArray × Int ×
    Int)) => bif v13 then obind (ref30_Valid (x.snd.fst, x.snd.snd.fst, x.snd.snd.snd.fst ++ t :: v4, x.snd.snd.snd.snd.fst)) fun (t_1 : Bool) => bif !t_1 then some (v9, (1 : Int),
    PUnit.unit) else some ((x.snd.fst, x.snd.snd.fst, x.snd.snd.snd.fst ++ t :: v4, x.snd.snd.snd.snd.fst), (0 : Int), PUnit.unit) else none) ((0 : Int), x0.fst, x0.snd.fst, v4,
    x0.snd.snd.snd, PUnit.unit) else none else none else none else none
noncomputable def ref30_Put (x0 : ByteArray × Int × (List (ByteArray × Int × Int × Int × Int × (List Int) × Int × Int × Int × Int × Int × (List (ByteArray × Int × Int × Int × Int × Int × Int)) × List (ByteArray × Int × Int))) × List (ByteArray × Int × Int × Int)) (x1 : ByteArray × Int × Int × Int × Int × (List Int) × Int × Int × Int × Int × Int × (List (ByteArray × Int × Int × Int × Int × Int × Int)) × List (ByteArray × Int × Int)) : Option ((ByteArray × Int × (List (ByteArray × Int × Int × Int × Int × (List Int) × Int × Int × Int × Int × Int × (List (ByteArray × Int × Int × Int × Int × Int × Int)) × List (ByteArray × Int × Int))) × List (ByteArray × Int × Int × Int)) × Int × Unit) := ref30_Put_b lpK jnK ref30_FindSet ref21_Valid ref30_Valid ref21_Copy x0 x1
noncomputable def c37 : Ctr := ⟨[T25, T44], [], [], .tup [T25, i64], fun x _ _ => ref30_Put x.1 x.2.1⟩
theorem e37 (lp : Lp) (jn : Jn) (ref30_FindSet : (ByteArray × Int × (List (ByteArray × Int × Int × Int × Int × (List Int) × Int × Int × Int × Int × Int × (List (ByteArray × Int × Int × Int × Int × Int × Int)) × List (ByteArray × Int × Int))) × List (ByteArray × Int × Int × Int)) → (ByteArray) → Option (Int)) (ref21_Valid : (ByteArray × Int × Int × Int × Int × (List Int) × Int × Int × Int × Int × Int × (List (ByteArray × Int × Int × Int × Int × Int × Int)) × List (ByteArray × Int × Int)) → Option (Bool)) (ref30_Valid : (ByteArray × Int × (List (ByteArray × Int × Int × Int × Int × (List Int) × Int × Int × Int × Int × Int × (List (ByteArray × Int × Int × Int × Int × Int × Int)) × List (ByteArray × Int × Int))) × List (ByteArray × Int × Int × Int)) → Option (Bool)) (ref21_Copy : (ByteArray × Int × Int × Int × Int × (List Int) × Int × Int × Int × Int × Int × (List (ByteArray × Int × Int × Int × Int × Int × Int)) × List (ByteArray × Int × Int)) → Option (ByteArray × Int × Int × Int × Int × (List Int) × Int × Int × Int × Int × Int × (List (ByteArray × Int × Int × Int × Int × Int × Int)) × List (ByteArray × Int × Int))) : ∀ (x : TsS c37.as) (F : TsF c37.fs) (y : TsS c37.cs), ref30_Put_b lp jn ref30_FindSet ref21_Valid ref30_Valid ref21_Copy x.1 x.2.1 = runC lp jn (ctxOf prog shs inls its [(51, ⟨[T44], [], [], .one T44, fun x _ _ => ref21_Copy x.1⟩), (25, ⟨[T25], [], [], .one .bool, fun x _ _ => ref30_Valid x.1⟩), (56, ⟨[T44], [], [], .one .bool, fun x _ _ => ref21_Valid x.1⟩), (28, ⟨[T25, .str], [], [], .one i64, fun x _ _ => ref30_FindSet x.1 x.2.1⟩)] [(116, r116), (115, r115), (114, r114), (69, r69), (119, r119)]) hints 4 37 f37 c37 x F y := fun x F y => by kernel_rfl
theorem l37 : (ctxOf prog shs inls its [(51, c51), (25, c25), (56, c56), (28, c28)] [(116, r116), (115, r115), (114, r114), (69, r69), (119, r119)]).ok := ctxOf_cons (ctxOf_cons (ctxOf_cons (ctxOf_cons (q116) (by kernel_rfl) ok28) (by kernel_rfl) ok56) (by kernel_rfl) ok25) (by kernel_rfl) ok51
theorem ok37 : c37.ok prog 37 := Ctr.of_den l37 hmix (hl := hints) (d := 4) func37 rfl (by decide) (e37 lpK jnK ref30_FindSet ref21_Valid ref30_Valid ref21_Copy)

/-- loftblock loftblocklaw30.HousePuts -/
noncomputable def law30_HousePuts_b (_ : Lp) (_ : Jn) (law30_awake : Option (Bool)) (ref21_Small : (ByteArray × Int × Int × Int × Int × (List Int) × Int × Int × Int × Int × Int × (List (ByteArray × Int × Int × Int × Int × Int × Int)) × List (ByteArray × Int × Int)) → (Int) → Option (Bool)) (law30_small : (ByteArray × Int × (List (ByteArray × Int × Int × Int × Int × (List Int) × Int × Int × Int × Int × Int × (List (ByteArray × Int × Int × Int × Int × Int × Int)) × List (ByteArray × Int × Int))) × List (ByteArray × Int × Int × Int)) → Option (Bool)) (house_Same : (ByteArray × Int × (List (ByteArray × Int × Int × Int × Int × (List Int) × Int × Int × Int × Int × Int × (List (ByteArray × Int × Int × Int × Int × Int × Int)) × List (ByteArray × Int × Int))) × List (ByteArray × Int × Int × Int)) → (ByteArray × Int × (List (ByteArray × Int × Int × Int × Int × (List Int) × Int × Int × Int × Int × Int × (List (ByteArray × Int × Int × Int × Int × Int × Int)) × List (ByteArray × Int × Int))) × List (ByteArray × Int × Int × Int)) → Option (Bool)) (ref21_Same : (ByteArray × Int × Int × Int × Int × (List Int) × Int × Int × Int × Int × Int × (List (ByteArray × Int × Int × Int × Int × Int × Int)) × List (ByteArray × Int × Int)) → (ByteArray × Int × Int × Int × Int × (List Int) × Int × Int × Int × Int × Int × (List (ByteArray × Int × Int × Int × Int × Int × Int)) × List (ByteArray × Int × Int)) → Option (Bool)) (ref30_Same : (ByteArray × Int × (List (ByteArray × Int × Int × Int × Int × (List Int) × Int × Int × Int × Int × Int × (List (ByteArray × Int × Int × Int × Int × Int × Int)) × List (ByteArray × Int × Int))) × List (ByteArray × Int × Int × Int)) → (ByteArray × Int × (List (ByteArray × Int × Int × Int × Int × (List Int) × Int × Int × Int × Int × Int × (List (ByteArray × Int × Int × Int × Int × Int × Int)) × List (ByteArray × Int × Int))) × List (ByteArray × Int × Int × Int)) → Option (Bool)) (house_Find : (ByteArray × Int × (List (ByteArray × Int × Int × Int × Int × (List Int) × Int × Int × Int × Int × Int × (List (ByteArray × Int × Int × Int × Int × Int × Int)) × List (ByteArray × Int × Int))) × List (ByteArray × Int × Int × Int)) → (ByteArray) → Option (Int × Int × Unit)) (house_Put : (ByteArray × Int × (List (ByteArray × Int × Int × Int × Int × (List Int) × Int × Int × Int × Int × Int × (List (ByteArray × Int × Int × Int × Int × Int × Int)) × List (ByteArray × Int × Int))) × List (ByteArray × Int × Int × Int)) → (ByteArray × Int × Int × Int × Int × (List Int) × Int × Int × Int × Int × Int × (List (ByteArray × Int × Int × Int × Int × Int × Int)) × List (ByteArray × Int × Int)) → Option ((ByteArray × Int × (List (ByteArray × Int × Int × Int × Int × (List Int) × Int × Int × Int × Int × Int × (List (ByteArray × Int × Int × Int × Int × Int × Int)) × List (ByteArray × Int × Int))) × List (ByteArray × Int × Int × Int)) × Int × Unit)) (ref30_Put : (ByteArray × Int × (List (ByteArray × Int × Int × Int × Int × (List Int) × Int × Int × Int × Int × Int × (List (ByteArray × Int × Int × Int × Int × Int × Int)) × List (ByteArray × Int × Int))) × List (ByteArray × Int × Int × Int)) → (ByteArray × Int × Int × Int × Int × (List Int) × Int × Int × Int × Int × Int × (List (ByteArray × Int × Int × Int × Int × Int × Int)) × List (ByteArray × Int × Int)) → Option ((ByteArray × Int × (List (ByteArray × Int × Int × Int × Int × (List Int) × Int × Int × Int × Int × Int × (List (ByteArray × Int × Int × Int × Int × Int × Int)) × List (ByteArray × Int × Int))) × List (ByteArray × Int × Int × Int)) × Int × Unit)) (x0 : ByteArray × Int × (List (ByteArray × Int × Int × Int × Int × (List Int) × Int × Int × Int × Int × Int × (List (ByteArray × Int × Int × Int × Int × Int × Int)) × List (ByteArray × Int × Int))) × List (ByteArray × Int × Int × Int)) (x1 : ByteArray × Int × Int × Int × Int × (List Int) × Int × Int × Int × Int × Int × (List (ByteArray × Int × Int × Int × Int × Int × Int)) × List (ByteArray × Int × Int)) : Option Bool :=
  obind law30_awake fun (t : Bool) => bif !t then some false else obind (law30_small x0) fun (t : Bool) =>
  let v6 : Bool := !t;
  let v7 : Bool := !v6;
  let v8 : Bool := !v7 || v7; bif v8 then obind (bif v7 then ref21_Small x1 (8 : Int) else some false) fun (t : Bool) => bif v8 then bif v6 || v7 then bif bif v6 then true else !t then some
    true else obind (house_Put x0 x1) fun (t : (ByteArray × Int × List (ByteArray × Int × Int × Int × Int × List Int × Int × Int × Int × Int × Int × List (ByteArray × Int × Int × Int × Int
    × Int × Int) × List (ByteArray × Int × Int)) × List (ByteArray × Int × Int × Int)) × Int × PUnit) => obind (ref30_Put x0 x1) fun (t_1 : (ByteArray × Int × List (ByteArray × Int × Int ×
    Int × Int × List Int × Int × Int × Int × Int × Int × List (ByteArray × Int × Int × Int × Int × Int × Int) × List (ByteArray × Int × Int)) × List (ByteArray × Int × Int × Int)) × Int ×
    PUnit) => obind (ref30_Same t.fst t_1.fst) fun (t_2 : Bool) =>
  let v13 : Bool := !t_2;
  let v14 : Bool := !v13;
  let v15 : Bool := !v14 || v14; bif v15 && v15 then bif v13 || v14 then bif bif v13 then true else !decide (t.snd.fst = t_1.snd.fst) then some false else bif !decide (t.snd.fst = (0 :
    Int)) then some true else obind (house_Find t.fst x1.fst) fun (t_3 : Int × Int × PUnit) =>
  let v17 : Bool := decide (t_3.snd.fst = (0 : Int));
  let v18 : Bool := bif v17 then decide (t_3.fst ≥ (0 : Int)) else false;
  let v19 : Bool := !v17 || v17;
  let v20 : Bool := !v18 || v18;
  let v21 : Bool := bif v18 then decide (t_3.fst < (↑(List.length t.fst.snd.snd.fst) : Int)) else false;
  let v22 : Bool := !v21;
  let v23 : Bool := v22 || v21; obind (house_Put t.fst x1) fun (t_4 : (ByteArray × Int × List (ByteArray × Int × Int × Int × Int × List Int × Int × Int × Int × Int × Int × List (ByteArray ×
    Int × Int × Int × Int × Int × Int) × List (ByteArray × Int × Int)) × List (ByteArray × Int × Int × Int)) × Int × PUnit) =>
  let v25 : Bool := decide (t_4.snd.fst = (0 : Int)); bif v19 then bif v19 then bif v20 then bif v20 then bif v20 && v20 then bif v20 then bif v23 then bif v23 && (v23 && (v22 || inB
    t_3.fst (List.length t.fst.snd.snd.fst))) then bif v23 then bif v23 && v23 then obind (bif v21 then ref21_Same (List.getD t.fst.snd.snd.fst (Int.toNat t_3.fst) ({ data := { toList := []
    } }, (0 : Int), (0 : Int), (0 : Int), (0 : Int), [], (0 : Int), (0 : Int), (0 : Int), (0 : Int), (0 : Int), [], [])) x1 else some false) fun (t_5 : Bool) =>
  let v27 : Bool := bif v21 then t_5 else false;
  let v28 : Bool := bif v27 then v25 else false;
  let v29 : Bool := !v27 || v27;
  let v30 : Bool := !v28 || v28; bif v23 then bif v29 then bif v29 then bif v30 && v30 then obind (bif v28 then house_Same t_4.fst t.fst else some false) fun (t : Bool) => bif v30 then some
    (bif v28 then t else false) else none else none else none else none else none else none else none else none else none else none else none else none else none else none else none else
    none else none else none else none else none
noncomputable def law30_HousePuts (x0 : ByteArray × Int × (List (ByteArray × Int × Int × Int × Int × (List Int) × Int × Int × Int × Int × Int × (List (ByteArray × Int × Int × Int × Int × Int × Int)) × List (ByteArray × Int × Int))) × List (ByteArray × Int × Int × Int)) (x1 : ByteArray × Int × Int × Int × Int × (List Int) × Int × Int × Int × Int × Int × (List (ByteArray × Int × Int × Int × Int × Int × Int)) × List (ByteArray × Int × Int)) : Option Bool := law30_HousePuts_b lpK jnK law30_awake ref21_Small law30_small house_Same ref21_Same ref30_Same house_Find house_Put ref30_Put x0 x1
noncomputable def c9 : Ctr := ⟨[T25, T44], [], [], .one .bool, fun x _ _ => law30_HousePuts x.1 x.2.1⟩
theorem e9 (lp : Lp) (jn : Jn) (law30_awake : Option (Bool)) (ref21_Small : (ByteArray × Int × Int × Int × Int × (List Int) × Int × Int × Int × Int × Int × (List (ByteArray × Int × Int × Int × Int × Int × Int)) × List (ByteArray × Int × Int)) → (Int) → Option (Bool)) (law30_small : (ByteArray × Int × (List (ByteArray × Int × Int × Int × Int × (List Int) × Int × Int × Int × Int × Int × (List (ByteArray × Int × Int × Int × Int × Int × Int)) × List (ByteArray × Int × Int))) × List (ByteArray × Int × Int × Int)) → Option (Bool)) (house_Same : (ByteArray × Int × (List (ByteArray × Int × Int × Int × Int × (List Int) × Int × Int × Int × Int × Int × (List (ByteArray × Int × Int × Int × Int × Int × Int)) × List (ByteArray × Int × Int))) × List (ByteArray × Int × Int × Int)) → (ByteArray × Int × (List (ByteArray × Int × Int × Int × Int × (List Int) × Int × Int × Int × Int × Int × (List (ByteArray × Int × Int × Int × Int × Int × Int)) × List (ByteArray × Int × Int))) × List (ByteArray × Int × Int × Int)) → Option (Bool)) (ref21_Same : (ByteArray × Int × Int × Int × Int × (List Int) × Int × Int × Int × Int × Int × (List (ByteArray × Int × Int × Int × Int × Int × Int)) × List (ByteArray × Int × Int)) → (ByteArray × Int × Int × Int × Int × (List Int) × Int × Int × Int × Int × Int × (List (ByteArray × Int × Int × Int × Int × Int × Int)) × List (ByteArray × Int × Int)) → Option (Bool)) (ref30_Same : (ByteArray × Int × (List (ByteArray × Int × Int × Int × Int × (List Int) × Int × Int × Int × Int × Int × (List (ByteArray × Int × Int × Int × Int × Int × Int)) × List (ByteArray × Int × Int))) × List (ByteArray × Int × Int × Int)) → (ByteArray × Int × (List (ByteArray × Int × Int × Int × Int × (List Int) × Int × Int × Int × Int × Int × (List (ByteArray × Int × Int × Int × Int × Int × Int)) × List (ByteArray × Int × Int))) × List (ByteArray × Int × Int × Int)) → Option (Bool)) (house_Find : (ByteArray × Int × (List (ByteArray × Int × Int × Int × Int × (List Int) × Int × Int × Int × Int × Int × (List (ByteArray × Int × Int × Int × Int × Int × Int)) × List (ByteArray × Int × Int))) × List (ByteArray × Int × Int × Int)) → (ByteArray) → Option (Int × Int × Unit)) (house_Put : (ByteArray × Int × (List (ByteArray × Int × Int × Int × Int × (List Int) × Int × Int × Int × Int × Int × (List (ByteArray × Int × Int × Int × Int × Int × Int)) × List (ByteArray × Int × Int))) × List (ByteArray × Int × Int × Int)) → (ByteArray × Int × Int × Int × Int × (List Int) × Int × Int × Int × Int × Int × (List (ByteArray × Int × Int × Int × Int × Int × Int)) × List (ByteArray × Int × Int)) → Option ((ByteArray × Int × (List (ByteArray × Int × Int × Int × Int × (List Int) × Int × Int × Int × Int × Int × (List (ByteArray × Int × Int × Int × Int × Int × Int)) × List (ByteArray × Int × Int))) × List (ByteArray × Int × Int × Int)) × Int × Unit)) (ref30_Put : (ByteArray × Int × (List (ByteArray × Int × Int × Int × Int × (List Int) × Int × Int × Int × Int × Int × (List (ByteArray × Int × Int × Int × Int × Int × Int)) × List (ByteArray × Int × Int))) × List (ByteArray × Int × Int × Int)) → (ByteArray × Int × Int × Int × Int × (List Int) × Int × Int × Int × Int × Int × (List (ByteArray × Int × Int × Int × Int × Int × Int)) × List (ByteArray × Int × Int)) → Option ((ByteArray × Int × (List (ByteArray × Int × Int × Int × Int × (List Int) × Int × Int × Int × Int × Int × (List (ByteArray × Int × Int × Int × Int × Int × Int)) × List (ByteArray × Int × Int))) × List (ByteArray × Int × Int × Int)) × Int × Unit)) : ∀ (x : TsS c9.as) (F : TsF c9.fs) (y : TsS c9.cs), law30_HousePuts_b lp jn law30_awake ref21_Small law30_small house_Same ref21_Same ref30_Same house_Find house_Put ref30_Put x.1 x.2.1 = runC lp jn (ctxOf prog shs inls its [(37, ⟨[T25, T44], [], [], .tup [T25, i64], fun x _ _ => ref30_Put x.1 x.2.1⟩), (36, ⟨[T25, T44], [], [], .tup [T25, i64], fun x _ _ => house_Put x.1 x.2.1⟩), (23, ⟨[T25, .str], [], [], .tup [i64, i64], fun x _ _ => house_Find x.1 x.2.1⟩), (34, ⟨[T25, T25], [], [], .one .bool, fun x _ _ => ref30_Same x.1 x.2.1⟩), (38, ⟨[T44, T44], [], [], .one .bool, fun x _ _ => ref21_Same x.1 x.2.1⟩), (33, ⟨[T25, T25], [], [], .one .bool, fun x _ _ => house_Same x.1 x.2.1⟩), (11, ⟨[T25], [], [], .one .bool, fun x _ _ => law30_small x.1⟩), (35, ⟨[T44, i64], [], [], .one .bool, fun x _ _ => ref21_Small x.1 x.2.1⟩), (10, ⟨[], [], [], .one .bool, fun _ _ _ => law30_awake⟩)] [(116, r116), (115, r115), (114, r114), (69, r69), (119, r119)]) hints 4 9 f9 c9 x F y := fun x F y => by kernel_rfl
theorem l9 : (ctxOf prog shs inls its [(37, c37), (36, c36), (23, c23), (34, c34), (38, c38), (33, c33), (11, c11), (35, c35), (10, c10)] [(116, r116), (115, r115), (114, r114), (69, r69), (119, r119)]).ok := ctxOf_cons (ctxOf_cons (ctxOf_cons (ctxOf_cons (ctxOf_cons (ctxOf_cons (ctxOf_cons (ctxOf_cons (ctxOf_cons (q116) (by kernel_rfl) ok10) (by kernel_rfl) ok35) (by kernel_rfl) ok11) (by kernel_rfl) ok33) (by kernel_rfl) ok38) (by kernel_rfl) ok34) (by kernel_rfl) ok23) (by kernel_rfl) ok36) (by kernel_rfl) ok37
theorem ok9 : c9.ok prog 9 := Ctr.of_den l9 hmix (hl := hints) (d := 4) func9 rfl (by decide) (e9 lpK jnK law30_awake ref21_Small law30_small house_Same ref21_Same ref30_Same house_Find house_Put ref30_Put)

end Go.Proofs.YtmoiiokmfanlgaaGreat

namespace Go.Proofs.YtmoiiokmfanlgaaGreat
namespace Dn

section
variable {T R α σ : Type}

theorem obind_some' {t : T} {k : T → Option R} : obind (some t) k = k t := rfl
theorem obind_none' {k : T → Option R} : obind none k = none := rfl

/-- The loop answers 'g', where every round does, given that it answers so wherever the measure is less. -/
theorem loopF_eq {F : (α → Option R) → α → Option R} {g : α → Option R} (I : α → Prop) (μ : α → Nat)
    (h : ∀ x rec, I x → (∀ y, I y → μ y < μ x → rec y = g y) → F rec x = g x) : ∀ {n : Nat} {x : α}, I x → μ x < n → loopF F n x = g x
  | 0, x, _, hn => by omega
  | n + 1, x, hx, hn => by
    rw [loopF_succ]
    exact h x _ hx fun y hy hlt => loopF_eq I μ h hy (by omega)

theorem lpK_loop {F : (α → Option R) → α → Option R} {g : α → Option R} (I : α → Prop) (μ : α → Nat)
    (h : ∀ x rec, I x → (∀ y, I y → μ y < μ x → rec y = g y) → F rec x = g x) {x : α} (hx : I x) (hn : μ x < 1180591620717411303424) : lpK α R F x = g x := loopF_eq I μ h hx hn
theorem jnK_eq' {j : α → Option R} {f : (α → Option R) → Option R} : jnK α R j f = f j := rfl

theorem wrap_id {x : Int} (h1 : -9223372036854775808 ≤ x) (h2 : x < 9223372036854775808) : IntKind.wrap .i64 x = x := by
  rw [IntKind.wrap_i64]; omega

/-- What a loop over 0..n-1 answers: a round may answer, or go on with another state. -/
def upF (b : Nat → σ → (σ → Option R) → Option R) (f : σ → Option R) : Nat → Nat → σ → Option R
  | 0, _, s => f s
  | k + 1, i, s => b i s (upF b f k (i + 1))

theorem loopF_up {F : (α → Option R) → α → Option R} (n : Nat) (hn : n ≤ 1180591620717411303423) (enc : Nat → σ → α) (b : Nat → σ → (σ → Option R) → Option R) (f : σ → Option R)
    (hb : ∀ again (i : Nat) s, i < n → F again (enc i s) = b i s (fun s' => again (enc (i + 1) s'))) (hf : ∀ again s, F again (enc n s) = f s) (s : σ) :
    loopF F K0 (enc 0 s) = upF b f n 0 s := by
  have key : ∀ (k : Nat) (i : Nat) (m : Nat) (s : σ), i + k = n → k < m → loopF F m (enc i s) = upF b f k i s := by
    intro k
    induction k with
    | zero =>
      intro i m s h1 h2
      obtain ⟨m, rfl⟩ : ∃ m', m = m' + 1 := ⟨m - 1, by omega⟩
      have : i = n := by omega
      subst this
      simp only [loopF_succ, hf, upF]
    | succ k ih =>
      intro i m s h1 h2
      obtain ⟨m, rfl⟩ : ∃ m', m = m' + 1 := ⟨m - 1, by omega⟩
      simp only [loopF_succ, upF]
      rw [hb _ _ _ (by omega)]
      congr 1
      funext s'
      exact ih (i + 1) m s' (by omega) (by omega)
  exact key n 0 K0 s (by omega) (by unfold K0; omega)
theorem loopF_K0 {F : (α → Option R) → α → Option R} {x : α} : loopF F K0 x = F (loopF F 1180591620717411303423) x := rfl
theorem loopF_K1 {F : (α → Option R) → α → Option R} {x : α} : loopF F 1180591620717411303423 x = F (loopF F 1180591620717411303422) x := rfl
theorem loopF_K2 {F : (α → Option R) → α → Option R} {x : α} : loopF F 1180591620717411303422 x = F (loopF F 1180591620717411303421) x := rfl
theorem loopF_K3 {F : (α → Option R) → α → Option R} {x : α} : loopF F 1180591620717411303421 x = F (loopF F 1180591620717411303420) x := rfl

theorem joinF_eq {j : α → Option R} {f : (α → Option R) → Option R} {r : Option R} (g : α → Option R) (h : ∀ x, j x = g x) (hf : f g = r) : joinF j f = r := by
  rw [show j = g from funext h]
  exact hf

theorem inB_nat {i n : Nat} : inB (i : Int) n = decide (i < n) := by
  rw [Bool.eq_iff_iff, inB_iff, decide_eq_true_iff]; omega
theorem inB_of {i : Int} {n : Nat} (h1 : 0 ≤ i) (h2 : i < n) : inB i n = true := inB_iff.2 ⟨h1, h2⟩
theorem nzB_of {n : Int} (h : n ≠ 0) : nzB n = true := nzB_iff.2 h
theorem slB_of {lo hi : Int} {n : Nat} (h1 : 0 ≤ lo) (h2 : lo ≤ hi) (h3 : hi ≤ n) : slB lo hi n = true := slB_iff.2 ⟨h1, h2, h3⟩
theorem fitB_of {n k : Nat} (h : n * k ≤ 140737488355328) : fitB n k = true := fitB_iff.2 h

theorem ble_of {n m : Nat} (h : n ≤ m) : Nat.ble n m = true := by rw [Nat.ble_eq]; exact h
/-- As 'cond_true', 'cond_false', but not by computation: for rewriting under loops. -/
theorem cT0 {α : Sort _} {c : Bool} (h : c = true) (a b : α) : cond c a b = a := by subst h; rfl
theorem cT {α : Sort _} (a b : α) : cond true a b = a := cT0 (Eq.trans rfl rfl) a b
theorem cF0 {α : Sort _} {c : Bool} (h : c = false) (a b : α) : cond c a b = b := by subst h; rfl
theorem cF {α : Sort _} (a b : α) : cond false a b = b := cF0 (Eq.trans rfl rfl) a b
theorem or_self_not {b : Bool} : (b || !b) = true := by cases b <;> rfl
theorem not_or_self' {b : Bool} : (!b || b) = true := by cases b <;> rfl
theorem bif_false' {b : Bool} {c : Bool} : (bif b then c else false) = (b && c) := by cases b <;> rfl
theorem bif_true' {b : Bool} {c : Bool} : (bif b then true else c) = (b || c) := by cases b <;> rfl

theorem ite_max {a b : Int} : (if b > a then b else a) = max a b := by omega
theorem ite_min {a b : Int} : (if b < a then b else a) = min a b := by omega
theorem getD_nat {l : List α} {d : α} {i : Nat} (h : i < l.length) : l.getD i d = l[i] := by simp [List.getD, h]

theorem lget_set_self {l : List α} {d a : α} {i : Nat} (h : i < l.length) : (l.set i a).getD i d = a := by simp [List.getD, h]
theorem lget_set_ne {l : List α} {d a : α} {i j : Nat} (h : i ≠ j) : (l.set i a).getD j d = l.getD j d := by simp [List.getD, List.getElem?_set_ne h]

/-- A search through a list: the first place that a round answers at. -/
theorem upF_find {b : Nat → σ → (σ → Option R) → Option R} {f : σ → Option R} {p : Nat → Bool} {r : Nat → Option R} {s : σ} (hb : ∀ i (k : σ → Option R), b i s k = bif p i then r i else k s) :
    ∀ (k i : Nat), upF b f k i s = match (List.range' i k).find? p with | some j => r j | none => f s
  | 0, i => rfl
  | k + 1, i => by
    simp only [upF, hb, List.range'_succ, List.find?_cons]
    cases hp : p i with
    | true => rfl
    | false => exact upF_find hb k (i + 1)

end

/-- As 'upF_find', for the rounds within the bound only. -/
theorem upF_findR {R σ : Type} {b : Nat → σ → (σ → Option R) → Option R} {f : σ → Option R} {p : Nat → Bool} {r : Nat → Option R} {s : σ} (n : Nat) (hb : ∀ i (k : σ → Option R), i < n → b i s k = bif p i then r i else k s) :
    ∀ (k i : Nat), i + k ≤ n → upF b f k i s = match (List.range' i k).find? p with | some j => r j | none => f s
  | 0, i, _ => rfl
  | k + 1, i, h => by
    simp only [upF, hb i _ (by omega), List.range'_succ, List.find?_cons]
    cases hp : p i with
    | true => rfl
    | false => exact upF_findR n hb k (i + 1) (by omega)

end Dn
end Go.Proofs.YtmoiiokmfanlgaaGreat

namespace Go.Proofs.YtmoiiokmfanlgaaGreat
open Tryz Dn Dn.Sh

theorem str_beq (a b : ByteArray) : List.beq (ByteArray.toList a) (ByteArray.toList b) = decide (a = b) := by
  show (a.toList == b.toList) = _
  rw [ByteArray.toList_eq, ByteArray.toList_eq, Bool.eq_iff_iff, decide_eq_true_iff, beq_iff_eq]
  exact ⟨fun h => ByteArray.ext (Array.toList_inj.mp h), fun h => by rw [h]⟩

theorem lpK_some {α R : Type} {F : (α → Option R) → α → Option R} (I : α → Prop) (μ : α → Nat) (h : ∀ x rec, I x → (∀ y, I y → μ y < μ x → (rec y).isSome = true) → (F rec x).isSome = true) {x : α} (hx : I x) (hn : μ x < 1180591620717411303424) : (lpK α R F x).isSome = true := by
  have key : ∀ n x, I x → μ x < n → (loopF F n x).isSome = true := by
    intro n
    induction n with
    | zero => intro x _ h; omega
    | succ n ih =>
      intro x hx hn
      rw [loopF_succ]
      exact h x _ hx fun y hy hlt => ih y hy (by omega)
  exact key _ x hx hn

theorem letter_same : decimal_letter = ref01_Letter := by
  funext c
  rfl
theorem digit_same : decimal_digit = ref01_Digit := by
  funext c
  rfl
theorem letter_some (c : Int) : ∃ b, decimal_letter c = some b := by
  simp only [decimal_letter, decimal_letter_b, not_or_self', or_self_not, cond_true]
  cases decide (c ≥ 97) <;> cases decide (c ≤ 122) <;> cases decide (c ≥ 65) <;> exact ⟨_, rfl⟩
theorem digit_some (c : Int) : ∃ b, decimal_digit c = some b := by
  simp only [decimal_digit, decimal_digit_b, not_or_self', cond_true]
  exact ⟨_, rfl⟩

theorem word_some {s : ByteArray} (h : s.size ≤ 1000000) : ∃ n, decimal_word s = some n := by
  rw [← Option.isSome_iff_exists]
  simp only [decimal_word, decimal_word_b]
  refine lpK_some (I := fun (x : Int × PUnit) => 0 ≤ x.1 ∧ x.1 ≤ s.size) (μ := fun (x : Int × PUnit) => ((s.size : Int) - x.1).toNat) (x := ((0 : Int), PUnit.unit)) ?_ ⟨Int.le_refl _, by simp only; omega⟩ (by simp only; omega)
  rintro ⟨i, _⟩ rec ⟨h0, h1⟩ hrec
  simp only at h0 h1 ⊢
  by_cases hi : i < s.size
  · rw [inB_of h0 hi, decide_eq_true hi]
    obtain ⟨b, hb⟩ := letter_some (byteAt s i.toNat)
    obtain ⟨c, hc⟩ := digit_some (byteAt s i.toNat)
    have hw : IntKind.wrap .i64 (i + 1) = i + 1 := wrap_id (by omega) (by omega)
    have hr := hrec (i + 1, PUnit.unit) ⟨by simp only; omega, by simp only; omega⟩ (by simp only; omega)
    simp only [hb, hc, hw]
    cases b <;> cases c <;> cases decide (byteAt s i.toNat = 95) <;> simp [obind_some', hr]
  · rw [decide_eq_false hi]
    simp [obind_some']

theorem word_same (s : ByteArray) : ref01_word s 0 = decimal_word s := by
  simp only [ref01_word, ref01_word_b, decimal_word, decimal_word_b, letter_same, digit_same]

/-- Whether a string is a name. -/
noncomputable def nameB (s : ByteArray) : Bool := decide (0 < s.size) && (decide (s.size ≤ 20) && ((decimal_letter (byteAt s 0)).getD false && decide ((decimal_word s).getD 0 = (s.size : Int))))

theorem empty_iff (s : ByteArray) : s = { data := #[] } ↔ s.size = 0 := by
  constructor
  · intro h; rw [h]; rfl
  · intro h
    apply ByteArray.ext
    exact Array.eq_empty_of_size_eq_zero h

theorem isName_ok (s : ByteArray) : decimal_IsName s = some (nameB s) := by
  simp only [decimal_IsName, decimal_IsName_b, str_beq, not_or_self', Bool.and_self, cond_true]
  unfold nameB
  by_cases h0 : s.size = 0
  · have e : decide (s = { data := #[] }) = true := decide_eq_true ((empty_iff s).2 h0)
    simp [e, h0, obind_some']
  · have e : decide (s = { data := #[] }) = false := decide_eq_false fun h => h0 ((empty_iff s).1 h)
    by_cases h1 : s.size ≤ 20
    · obtain ⟨b, hb⟩ := letter_some (byteAt s 0)
      obtain ⟨n, hn⟩ := word_some (s := s) (by omega)
      have h2 : decide ((s.size : Int) ≤ 20) = true := decide_eq_true (by omega)
      rw [inB_of (show (0 : Int) ≤ 0 by omega) (show (0 : Int) < s.size by omega)]
      simp only [e, h2, hb, hn]
      cases b <;> simp [obind_some', h1, show 0 < s.size by omega]
    · have h2 : decide ((s.size : Int) ≤ 20) = false := decide_eq_false (by omega)
      simp [e, h2, h1, obind_some']

theorem refIsName_ok (s : ByteArray) : ref01_IsName s = some (nameB s) := by
  simp only [ref01_IsName, ref01_IsName_b, not_or_self', or_self_not, cond_true]
  unfold nameB
  by_cases h0 : s.size = 0
  · simp [h0, obind_some']
  · have e : decide ((s.size : Int) = 0) = false := decide_eq_false (by omega)
    by_cases h1 : s.size ≤ 20
    · obtain ⟨b, hb⟩ := letter_some (byteAt s 0)
      obtain ⟨n, hn⟩ := word_some (s := s) (by omega)
      have h2 : decide ((s.size : Int) > 20) = false := decide_eq_false (by omega)
      rw [inB_of (show (0 : Int) ≤ 0 by omega) (show (0 : Int) < s.size by omega), word_same]
      simp only [e, h2, ← letter_same, hb, hn]
      cases b <;> simp [obind_some', h1, show 0 < s.size by omega]
    · have h2 : decide ((s.size : Int) > 20) = true := decide_eq_true (by omega)
      simp [h2, h1, obind_some']

end Go.Proofs.YtmoiiokmfanlgaaGreat

namespace Go.Proofs.YtmoiiokmfanlgaaGreat
namespace Dn

theorem lpK_up {σ α R : Type} {F : (α → Option R) → α → Option R} (n : Nat) (hn : n ≤ 1180591620717411303423) (enc : Nat → σ → α) (b : Nat → σ → (σ → Option R) → Option R) (f : σ → Option R)
    (hb : ∀ again (i : Nat) s, i < n → F again (enc i s) = b i s (fun s' => again (enc (i + 1) s'))) (hf : ∀ again s, F again (enc n s) = f s) (s : σ) :
    lpK α R F (enc 0 s) = upF b f n 0 s := loopF_up n hn enc b f hb hf s

/-- The first place, from i on, of an element that p takes; -1 if none. -/
def idxI {α : Type} (p : α → Bool) : List α → Int → Int
  | [], _ => -1
  | a :: l, i => bif p a then i else idxI p l (i + 1)

theorem idxI_neg {α : Type} {p : α → Bool} : ∀ {l : List α} {i : Int}, 0 ≤ i → (idxI p l i < 0 ↔ ∀ a ∈ l, p a = false)
  | [], i, h => by simp [idxI]
  | a :: l, i, h => by
    unfold idxI
    cases hp : p a with
    | true => simp only [cond_true, List.mem_cons, forall_eq_or_imp, hp]; simp; omega
    | false => simp only [cond_false, List.mem_cons, forall_eq_or_imp, hp, true_and]; exact idxI_neg (by omega)

theorem idxI_drop {α : Type} {p : α → Bool} {l : List α} {d : α} {i : Nat} (h : i < l.length) : idxI p (l.drop i) i = bif p (l.getD i d) then (i : Int) else idxI p (l.drop (i + 1)) ((i : Int) + 1) := by
  rw [List.drop_eq_getElem_cons h, getD_nat h]
  rfl

theorem idxI_at {α : Type} {p : α → Bool} {d : α} : ∀ {l : List α} {i : Int}, 0 ≤ i → 0 ≤ idxI p l i → i ≤ idxI p l i ∧ idxI p l i < i + l.length ∧ p (l.getD (idxI p l i - i).toNat d) = true
  | [], i, _, h => by simp [idxI] at h
  | a :: l, i, hi, h => by
    unfold idxI at h ⊢
    cases hp : p a with
    | true => simp [hp]; omega
    | false =>
      rw [hp, cond_false] at h
      obtain ⟨h1, h2, h3⟩ := idxI_at (d := d) (show 0 ≤ i + 1 by omega) h
      rw [cond_false]
      refine ⟨by omega, by simp only [List.length_cons]; omega, ?_⟩
      have e : (idxI p l (i + 1) - i).toNat = (idxI p l (i + 1) - (i + 1)).toNat + 1 := by omega
      rw [e, List.getD_cons_succ]
      exact h3

/-- The walk of slices.IndexFunc. -/
theorem index_loop {α : Type} {f : (α × Unit) → Option Bool} {d : α} {p : α → Bool} {l : List α} (hl : l.length ≤ 1000000) (h : ∀ a, a ∈ l → f (a, ()) = some (p a)) :
    lpK (Int × PUnit) Int (fun (again : Int × PUnit → Option Int) (x : Int × PUnit) => bif decide (x.fst < (↑(List.length l) : Int)) then bif inB x.fst (List.length l) then obind (f
      (List.getD l (Int.toNat x.fst) d, PUnit.unit)) fun (t : Bool) => bif t then some x.fst else again
      (IntKind.wrap IntKind.i64 (x.fst + (1 : Int)), PUnit.unit) else none else some (-1 : Int)) ((0 : Int), PUnit.unit) = some (idxI p l 0) := by
  refine lpK_loop (g := fun _ => some (idxI p l 0)) (I := fun (x : Int × PUnit) => 0 ≤ x.1 ∧ x.1 ≤ l.length ∧ idxI p (l.drop x.1.toNat) x.1 = idxI p l 0) (μ := fun (x : Int × PUnit) => ((l.length : Int) - x.1).toNat) ?_ ⟨by simp, by simp only; omega, rfl⟩ (by simp only; omega)
  rintro ⟨i, _⟩ rec ⟨h0, h1, h2⟩ hrec
  simp only at h0 h1 h2 ⊢
  by_cases hi : i < l.length
  · obtain ⟨n, rfl⟩ : ∃ n : Nat, i = n := ⟨i.toNat, by omega⟩
    rw [decide_eq_true hi, cond_true, inB_of h0 hi, cond_true, Int.toNat_natCast, h _ (by rw [getD_nat (by omega)]; exact List.getElem_mem (by omega)), obind_some', wrap_id (by omega) (by omega)]
    rw [Int.toNat_natCast, idxI_drop (d := d) (by omega)] at h2
    cases hp : p (l.getD n d) with
    | true => rw [hp, cond_true] at h2; rw [cond_true, h2]
    | false => rw [hp, cond_false] at h2; rw [cond_false]; exact hrec _ ⟨by simp only; omega, by simp only; omega, h2⟩ (by simp only; omega)
  · rw [decide_eq_false hi, cond_false]
    have e : i.toNat = l.length := by omega
    rw [e, List.drop_length] at h2
    rw [← h2]
    rfl

theorem find_loop {α : Type} {p : α → Bool} {d : α} {l : List α} (hl : l.length ≤ 1000000) :
    lpK (Int × PUnit) Int (fun (again : Int × PUnit → Option Int) (x : Int × PUnit) => bif decide (x.fst < (↑(List.length l) : Int)) then bif inB x.fst (List.length l) then bif p
      (List.getD l (Int.toNat x.fst) d) then some x.fst else again
      (IntKind.wrap IntKind.i64 (x.fst + (1 : Int)), PUnit.unit) else none else some (-1 : Int)) ((0 : Int), PUnit.unit) = some (idxI p l 0) :=
  index_loop (f := fun a => some (p a.1)) hl fun _ _ => rfl

theorem upF_all {R σ : Type} {b : Nat → σ → (σ → Option R) → Option R} {f : σ → Option R} {p : Nat → Bool} {r : Option R} {s : σ} (n : Nat) (hb : ∀ i (k : σ → Option R), i < n → b i s k = bif p i then k s else r) :
    ∀ (k i : Nat), i + k ≤ n → upF b f k i s = bif (List.range' i k).all p then f s else r
  | 0, i, _ => rfl
  | k + 1, i, h => by
    simp only [upF, hb i _ (by omega), List.range'_succ, List.all_cons]
    cases hp : p i with
    | true => exact upF_all n hb k (i + 1) (by omega)
    | false => rfl

end Dn
end Go.Proofs.YtmoiiokmfanlgaaGreat

namespace Go.Proofs.YtmoiiokmfanlgaaGreat
namespace Dn

/-- A walk over a list: a round may answer, or go on with another state. -/
def listF {α σ R : Type} (b : α → σ → (σ → Option R) → Option R) (f : σ → Option R) : List α → σ → Option R
  | [], s => f s
  | a :: l, s => b a s (listF b f l)

theorem upF_list {α σ R : Type} (L : List α) (d : α) {b : α → σ → (σ → Option R) → Option R} {c : Nat → σ → (σ → Option R) → Option R} {f : σ → Option R} (h : ∀ i s k, i < L.length → c i s k = b (L.getD i d) s k) :
    ∀ (k i : Nat) (s : σ), i + k = L.length → upF c f k i s = listF b f (L.drop i) s
  | 0, i, s, hi => by
    rw [List.drop_of_length_le (by omega)]
    rfl
  | k + 1, i, s, hi => by
    rw [List.drop_eq_getElem_cons (show i < L.length by omega)]
    simp only [upF, listF]
    rw [h _ _ _ (by omega), getD_nat (by omega)]
    congr 1
    funext s'
    exact upF_list L d h k (i + 1) s' (by omega)

/-- A loop whose counter is a natural number. -/
theorem lpK_nat {α σ R : Type} (L : List α) (d : α) (hn : L.length ≤ 1180591620717411303423) {F : (Nat × σ → Option R) → Nat × σ → Option R} (b : α → σ → (σ → Option R) → Option R) (f : σ → Option R)
    (hb : ∀ again (i : Nat) s, i < L.length → F again (i, s) = b (L.getD i d) s (fun s' => again (i + 1, s'))) (hf : ∀ again s, F again (L.length, s) = f s) (s : σ) : lpK (Nat × σ) R F (0, s) = listF b f L s :=
  (lpK_up L.length hn (fun i s => (i, s)) (fun i s k => b (L.getD i d) s k) f hb hf s).trans ((upF_list L d (b := b) (fun _ _ _ _ => rfl) L.length 0 s (by omega)).trans (by rw [List.drop_zero]))

/-- A loop whose counter is an int in the state. -/
theorem lpK_int {α β σ R : Type} (L : List α) (d : α) (hn : L.length ≤ 1180591620717411303423) {F : (β → Option R) → β → Option R} (enc : Nat → σ → β) (b : α → σ → (σ → Option R) → Option R) (f : σ → Option R)
    (hb : ∀ again (i : Nat) s, i < L.length → F again (enc i s) = b (L.getD i d) s (fun s' => again (enc (i + 1) s'))) (hf : ∀ again s, F again (enc L.length s) = f s) (s : σ) : lpK β R F (enc 0 s) = listF b f L s :=
  (lpK_up L.length hn enc (fun i s k => b (L.getD i d) s k) f hb hf s).trans ((upF_list L d (b := b) (fun _ _ _ _ => rfl) L.length 0 s (by omega)).trans (by rw [List.drop_zero]))

/-- A walk that changes only its state. -/
theorem listF_fold {α σ R : Type} {b : α → σ → (σ → Option R) → Option R} {f : σ → Option R} (g : σ → α → σ) : ∀ {L : List α} {s : σ}, (∀ a ∈ L, ∀ s k, b a s k = k (g s a)) → listF b f L s = f (L.foldl g s)
  | [], _, _ => rfl
  | a :: L, s, h => by
    simp only [listF, List.foldl_cons]
    rw [h a (by simp)]
    exact listF_fold g fun a' ha => h a' (by simp [ha])

theorem listF_congr {α σ R : Type} {b b' : α → σ → (σ → Option R) → Option R} {f : σ → Option R} : ∀ {L : List α} {s : σ}, (∀ a ∈ L, ∀ s k, b a s k = b' a s k) → listF b f L s = listF b' f L s
  | [], _, _ => rfl
  | a :: L, s, h => by
    simp only [listF]
    rw [h a (by simp)]
    congr 1
    funext s'
    exact listF_congr fun a' ha => h a' (by simp [ha])

end Dn
end Go.Proofs.YtmoiiokmfanlgaaGreat

namespace Go.Proofs.YtmoiiokmfanlgaaGreat
open Tryz Dn Dn.Sh

abbrev Itm := ByteArray × Int × Int × Int × Int × Int × Int
abbrev Brk := ByteArray × Int × Int
abbrev itm0 : Itm := ({ data := { toList := [] } }, (0 : Int), (0 : Int), (0 : Int), (0 : Int), (0 : Int), (0 : Int))
abbrev brk0 : Brk := ({ data := { toList := [] } }, (0 : Int), (0 : Int))
def btw (n a b : Int) : Bool := decide (a ≤ n) && decide (n ≤ b)

theorem btwA_ok (n a b : Int) : batten_between n a b = some (btw n a b) := by
  simp only [batten_between, batten_between_b, not_or_self', Bool.and_self, cT, bif_false', ge_iff_le, btw]
theorem btwB_ok (n a b : Int) : ref21_between n a b = some (btw n a b) := by
  simp only [ref21_between, ref21_between_b, not_or_self', Bool.and_self, cT, bif_false', ge_iff_le, btw]

/-! ### Generic: checks along a list -/

/-- A walk in which a round checks something of the place, and goes on with another state. -/
theorem upF_chk {σ R : Type} {b : Nat → σ → (σ → Option R) → Option R} {f : σ → Option R} {q : Nat → Bool} {g : Nat → σ → σ} {r : Option R} (n : Nat) (hb : ∀ i s (k : σ → Option R), i < n → b i s k = bif q i then k (g i s) else r) :
    ∀ (k i : Nat) (s : σ), i + k ≤ n → upF b f k i s = bif (List.range' i k).all q then f ((List.range' i k).foldl (fun s i => g i s) s) else r
  | 0, i, s, _ => rfl
  | k + 1, i, s, h => by
    simp only [upF, hb i s _ (by omega), List.range'_succ, List.all_cons, List.foldl_cons]
    cases hp : q i with
    | true => exact upF_chk n hb k (i + 1) _ (by omega)
    | false => rfl

theorem all_and {α : Type} {p q : α → Bool} {l : List α} : (l.all fun a => p a && q a) = (l.all p && l.all q) := by
  rw [Bool.eq_iff_iff, Bool.and_eq_true, List.all_eq_true, List.all_eq_true, List.all_eq_true]
  constructor
  · exact fun h => ⟨fun a ha => ((Bool.and_eq_true _ _).mp (h a ha)).1, fun a ha => ((Bool.and_eq_true _ _).mp (h a ha)).2⟩
  · exact fun h a ha => (Bool.and_eq_true _ _).mpr ⟨h.1 a ha, h.2 a ha⟩

/-- No earlier element is one of p's. -/
def earlyN {α : Type} (p : α → α → Bool) (d : α) (l : List α) (i : Nat) : Bool := !(l.take i).any fun a => p a (l.getD i d)

theorem memK_str (x : ByteArray) : ∀ l : List ByteArray, memK .str x l = true ↔ x ∈ l
  | [] => by simp [memK]
  | y :: l => by
    simp only [memK, keyEq, Bool.or_eq_true, memK_str x l, List.mem_cons, decide_eq_true_iff]
/-- All strings of a list are different. -/
def nodupB : List ByteArray → Bool
  | [] => true
  | x :: l => !memK .str x l && nodupB l
theorem nodupB_iff : ∀ {l : List ByteArray}, nodupB l = true ↔ l.Nodup
  | [] => by simp [nodupB]
  | x :: l => by
    rw [nodupB, Bool.and_eq_true, nodupB_iff, List.nodup_cons, ← memK_str, Bool.not_eq_true', Bool.not_eq_true]

theorem addK_fold : ∀ (L S : List ByteArray), (L.foldl (fun s x => addK .str x s) S).length ≤ S.length + L.length ∧ ((L.foldl (fun s x => addK .str x s) S).length = S.length + L.length ↔ L.Nodup ∧ ∀ x ∈ L, x ∉ S)
  | [], S => by simp
  | x :: L, S => by
    simp only [List.foldl_cons, List.length_cons]
    by_cases hx : x ∈ S
    · have e : addK .str x S = S := by unfold addK; rw [(memK_str x S).2 hx]; rfl
      rw [e]
      obtain ⟨h1, _⟩ := addK_fold L S
      refine ⟨by omega, fun h => by omega, fun h => ?_⟩
      exact absurd hx (h.2 x (by simp))
    · have e : addK .str x S = S ++ [x] := by
        unfold addK
        cases hm : memK .str x S with
        | false => rfl
        | true => exact absurd ((memK_str x S).1 hm) hx
      rw [e]
      obtain ⟨h1, h2⟩ := addK_fold L (S ++ [x])
      rw [List.length_append, List.length_singleton] at h1 h2
      refine ⟨by omega, ?_⟩
      rw [show S.length + (L.length + 1) = S.length + 1 + L.length by omega, h2, List.nodup_cons]
      constructor
      · rintro ⟨g1, g2⟩
        refine ⟨⟨fun hm => (g2 x hm) (by simp), g1⟩, fun y hy => ?_⟩
        rcases List.mem_cons.1 hy with rfl | hy
        · exact hx
        · exact fun hs => g2 y hy (by simp [hs])
      · rintro ⟨⟨g1, g2⟩, g3⟩
        refine ⟨g2, fun y hy hm => ?_⟩
        rcases List.mem_append.1 hm with hm | hm
        · exact g3 y (by simp [hy]) hm
        · rw [List.mem_singleton] at hm
          subst hm
          exact g1 hy

theorem addK_foldm {α : Type} (f : α → ByteArray) (l : List α) : decide (((l.foldl (fun (s : List ByteArray) x => addK .str (f x) s) []).length : Int) < (l.length : Int)) = !nodupB (l.map f) := by
  have h := addK_fold (l.map f) []
  have e : (l.map f).foldl (fun s x => addK .str x s) [] = l.foldl (fun (s : List ByteArray) x => addK .str (f x) s) [] := by rw [List.foldl_map]
  rw [e] at h
  generalize (l.foldl (fun (s : List ByteArray) x => addK .str (f x) s) []).length = N at h ⊢
  simp only [List.length_map, List.length_nil, Nat.zero_add, List.not_mem_nil, not_false_eq_true, implies_true, and_true] at h
  cases hn : nodupB (l.map f) with
  | true =>
    have := h.2.2 (nodupB_iff.1 hn)
    rw [decide_eq_false (by omega)]
    rfl
  | false =>
    have h3 : ¬ (l.map f).Nodup := fun hh => by rw [nodupB_iff.2 hh] at hn; cases hn
    have h4 : ¬ N = l.length := fun hh => h3 (h.2.1 hh)
    have := h.1
    rw [decide_eq_true (by omega)]
    rfl

theorem range_fold {α σ : Type} {d : α} {g : σ → α → σ} {l : List α} : ∀ (k i : Nat) (s : σ), i + k = l.length → (List.range' i k).foldl (fun s i => g s (l.getD i d)) s = (l.drop i).foldl g s
  | 0, i, s, h => by rw [List.drop_of_length_le (by omega)]; rfl
  | k + 1, i, s, h => by
    rw [List.range'_succ, List.foldl_cons, range_fold k (i + 1) _ (by omega), List.drop_eq_getElem_cons (show i < l.length by omega), List.foldl_cons, getD_nat (by omega)]

/-- No element's name is an earlier one's: the names are all different. -/
theorem early_nodup {α : Type} {d : α} {f : α → ByteArray} {l : List α} : (List.range' 0 l.length).all (earlyN (fun a b => decide (f a = f b)) d l) = nodupB (l.map f) := by
  rw [Bool.eq_iff_iff, nodupB_iff, List.all_eq_true, List.nodup_iff_pairwise_ne, List.pairwise_iff_getElem]
  simp only [List.length_map, List.getElem_map]
  constructor
  · intro h i j hi hj hij he
    have h1 := h j (List.mem_range'.2 ⟨j, hj, by omega⟩)
    unfold earlyN at h1
    rw [Bool.not_eq_true', List.any_eq_false] at h1
    have h2 := h1 l[i] (List.mem_take_iff_getElem.2 ⟨i, by omega, rfl⟩)
    rw [getD_nat hj] at h2
    exact h2 (decide_eq_true he)
  · intro h k hk
    obtain ⟨j, hj, rfl⟩ := List.mem_range'.1 hk
    unfold earlyN
    rw [Bool.not_eq_true', List.any_eq_false]
    intro a ha he
    obtain ⟨i, hi, rfl⟩ := List.mem_take_iff_getElem.1 ha
    rw [getD_nat (by omega)] at he
    exact h i (0 + 1 * j) (by omega) (by omega) (by omega) (of_decide_eq_true he)

theorem not_any_idx {α : Type} {p : α → Bool} {l : List α} : decide (idxI p l 0 ≥ 0) = l.any p := by
  have := idxI_neg (p := p) (l := l) (i := 0) (by omega)
  rw [Bool.eq_iff_iff, decide_eq_true_iff, List.any_eq_true]
  constructor
  · intro h1
    by_cases h2 : ∃ a ∈ l, p a = true
    · exact h2
    · have : idxI p l 0 < 0 := this.2 fun a ha => by
        cases e : p a with
        | false => rfl
        | true => exact (h2 ⟨a, ha, e⟩).elim
      omega
  · rintro ⟨a, ha, h3⟩
    by_cases h2 : idxI p l 0 < 0
    · rw [this.1 h2 a ha] at h3; cases h3
    · omega

/-- A search for an earlier element: the walk of a loop below i. -/
theorem early_loopF {α : Type} {p : α → Bool} {d : α} {l : List α} {i : Nat} (hl : l.length ≤ 1000000) (hi : i ≤ l.length) {R : Type} {yes no : Option R} {F : (Int × PUnit → Option R) → Int × PUnit → Option R}
    (hb : ∀ again (j : Nat), j < i → F again ((j : Int), PUnit.unit) = bif p (l.getD j d) then yes else again (((j + 1 : Nat) : Int), PUnit.unit)) (hf : ∀ again, F again ((i : Int), PUnit.unit) = no) :
    lpK (Int × PUnit) R F ((0 : Int), PUnit.unit) = bif (l.take i).any p then yes else no := by
  refine (lpK_up (α := Int × PUnit) i (by omega) (fun j (_ : Unit) => ((j : Int), PUnit.unit)) (fun j s k => bif !p (l.getD j d) then k s else yes) (fun _ => no) ?_ ?_ ()).trans ?_
  · intro again j _ hj
    rw [hb again j hj]
    cases p (l.getD j d) <;> rfl
  · intro again _
    exact hf again
  · refine (upF_all (p := fun j => !p (l.getD j d)) (r := yes) i (fun _ _ _ => rfl) i 0 (by omega)).trans ?_
    have h : (List.range' 0 i).all (fun j => !p (l.getD j d)) = !(l.take i).any p := by
      rw [Bool.eq_iff_iff, List.all_eq_true, Bool.not_eq_true', List.any_eq_false]
      constructor
      · intro h1 a ha
        obtain ⟨j, hj, rfl⟩ := List.mem_take_iff_getElem.1 ha
        have := h1 j (List.mem_range'.2 ⟨j, by omega, by omega⟩)
        rw [getD_nat (by omega)] at this
        simpa using this
      · intro h1 j hj
        obtain ⟨k, hk, rfl⟩ := List.mem_range'.1 hj
        have h2 := h1 l[0 + 1 * k] (List.mem_take_iff_getElem.2 ⟨0 + 1 * k, by omega, rfl⟩)
        rw [getD_nat (by omega)]
        simpa using h2
    rw [h]
    cases (l.take i).any p <;> rfl

/-! ### Items -/

/-- An item within a pipe. -/
noncomputable def itemB (len : Int) (x : Itm) : Bool := nameB x.1 && (btw x.2.2.1 1 1048576 && (btw x.2.1 0 (IntKind.wrap .i64 (len - x.2.2.1)) && (btw x.2.2.2.1 0 1048576 && (btw x.2.2.2.2.1 0 1048576 && (btw x.2.2.2.2.2.1 0 1048576 && btw x.2.2.2.2.2.2 0 1048576)))))
def apartB (x y : Itm) : Bool := decide (IntKind.wrap .i64 (x.2.1 + x.2.2.1) ≤ y.2.1) || decide (IntKind.wrap .i64 (y.2.1 + y.2.2.1) ≤ x.2.1)
theorem apartB_comm (x y : Itm) : apartB x y = apartB y x := by unfold apartB; rw [Bool.or_comm]
noncomputable def itemsB (l : List Itm) (len : Int) : Bool := decide (l.length ≤ 40) && (l.all (itemB len) && (nodupB (l.map fun x => x.1) && (List.range' 0 l.length).all (earlyN (fun a b => !apartB a b) itm0 l)))

theorem all_range {α : Type} {p : α → Bool} {d : α} {l : List α} : (List.range' 0 l.length).all (fun i => p (l.getD i d)) = l.all p := by
  rw [Bool.eq_iff_iff, List.all_eq_true, List.all_eq_true]
  constructor
  · intro h a ha
    obtain ⟨j, hj, rfl⟩ := List.getElem_of_mem ha
    have := h j (List.mem_range'.2 ⟨j, hj, by omega⟩)
    rw [getD_nat hj] at this
    exact this
  · intro h j hj
    obtain ⟨k, hk, rfl⟩ := List.mem_range'.1 hj
    rw [getD_nat (by omega)]
    exact h _ (List.getElem_mem _)

theorem apartA_ok (x y : Itm) : batten_apart x y = some (apartB x y) := by
  simp only [batten_apart, batten_apart_b, apartB]
  cases decide (IntKind.wrap .i64 (x.2.1 + x.2.2.1) ≤ y.2.1) <;> cases decide (IntKind.wrap .i64 (y.2.1 + y.2.2.1) ≤ x.2.1) <;> rfl
theorem apartR_ok (x y : Itm) : ref21_Apart x y = some (apartB x y) := by
  simp only [ref21_Apart, ref21_Apart_b, apartB]
  cases decide (IntKind.wrap .i64 (x.2.1 + x.2.2.1) ≤ y.2.1) <;> cases decide (IntKind.wrap .i64 (y.2.1 + y.2.2.1) ≤ x.2.1) <;> rfl

theorem aloneA_ok (x : Itm) : batten_alone x = some (nameB x.1 && (btw x.2.2.2.1 0 1048576 && (btw x.2.2.2.2.1 0 1048576 && (btw x.2.2.2.2.2.1 0 1048576 && btw x.2.2.2.2.2.2 0 1048576)))) := by
  simp only [batten_alone, batten_alone_b, isName_ok, btwA_ok, obind_some', not_or_self', cT]
  cases nameB x.1 <;> cases btw x.2.2.2.1 0 1048576 <;> cases btw x.2.2.2.2.1 0 1048576 <;> cases btw x.2.2.2.2.2.1 0 1048576 <;> cases btw x.2.2.2.2.2.2 0 1048576 <;> rfl
theorem insideA_ok (x : Itm) (len : Int) : batten_inside x len = some (btw x.2.2.1 1 1048576 && btw x.2.1 0 (IntKind.wrap .i64 (len - x.2.2.1))) := by
  simp only [batten_inside, batten_inside_b, btwA_ok, obind_some', not_or_self', cT, Bool.and_self, ge_iff_le]
  rw [show btw x.2.1 0 (IntKind.wrap .i64 (len - x.2.2.1)) = (decide (0 ≤ x.2.1) && decide (x.2.1 ≤ IntKind.wrap .i64 (len - x.2.2.1))) from rfl]
  cases decide (0 ≤ x.2.1) <;> cases btw x.2.2.1 1 1048576 <;> cases decide (x.2.1 ≤ IntKind.wrap .i64 (len - x.2.2.1)) <;> rfl
theorem aloneR_ok (x : Itm) (len : Int) : ref21_alone x len = some (itemB len x) := by
  simp only [ref21_alone, ref21_alone_b, refIsName_ok, btwB_ok, obind_some', not_or_self', Bool.and_self, cT, itemB]
  cases nameB x.1 <;> cases btw x.2.2.1 1 1048576 <;> cases btw x.2.1 0 (IntKind.wrap .i64 (len - x.2.2.1)) <;> cases btw x.2.2.2.1 0 1048576 <;> cases btw x.2.2.2.2.1 0 1048576 <;> cases btw x.2.2.2.2.2.1 0 1048576 <;> cases btw x.2.2.2.2.2.2 0 1048576 <;> rfl

theorem twiceI_ok {l : List Itm} (hl : l.length ≤ 1000000) : batten_twice_140 l (fun x => batten_items_1 x.1) = some (!nodupB (l.map fun x => x.1)) := by
  simp only [batten_twice_140, batten_twice_140_b, batten_items_1, batten_items_1_b, obind_some']
  refine (lpK_int l itm0 (by omega) (fun i (s : List ByteArray) => (((i : Nat) : Int), s, PUnit.unit)) (fun x s k => k (addK .str x.1 s)) (fun s => some (decide ((s.length : Int) < (l.length : Int)))) ?_ ?_ []).trans ?_
  · intro again i s hi
    have hw : IntKind.wrap .i64 ((i : Int) + 1) = ((i + 1 : Nat) : Int) := by rw [wrap_id (by omega) (by omega)]; rfl
    simp only [inB_nat, decide_eq_true hi, decide_eq_true (show (i : Int) < l.length by omega), cT, Int.toNat_natCast, hw]
  · intro again s
    simp only [decide_eq_false (show ¬ (l.length : Int) < l.length by omega), cF]
  · rw [listF_fold (fun (s : List ByteArray) (x : Itm) => addK .str x.1 s) (fun _ _ _ _ => rfl)]
    congr 1
    exact addK_foldm (fun x : Itm => x.1) l
theorem twiceB_ok {l : List Brk} (hl : l.length ≤ 1000000) : batten_twice_147 l (fun x => batten_bricks_1 x.1) = some (!nodupB (l.map fun x => x.1)) := by
  simp only [batten_twice_147, batten_twice_147_b, batten_bricks_1, batten_bricks_1_b, obind_some']
  refine (lpK_int l brk0 (by omega) (fun i (s : List ByteArray) => (((i : Nat) : Int), s, PUnit.unit)) (fun x s k => k (addK .str x.1 s)) (fun s => some (decide ((s.length : Int) < (l.length : Int)))) ?_ ?_ []).trans ?_
  · intro again i s hi
    have hw : IntKind.wrap .i64 ((i : Int) + 1) = ((i + 1 : Nat) : Int) := by rw [wrap_id (by omega) (by omega)]; rfl
    simp only [inB_nat, decide_eq_true hi, decide_eq_true (show (i : Int) < l.length by omega), cT, Int.toNat_natCast, hw]
  · intro again s
    simp only [decide_eq_false (show ¬ (l.length : Int) < l.length by omega), cF]
  · rw [listF_fold (fun (s : List ByteArray) (x : Brk) => addK .str x.1 s) (fun _ _ _ _ => rfl)]
    congr 1
    exact addK_foldm (fun x : Brk => x.1) l

theorem containsI {f : (Itm × Unit) → Option Bool} {p : Itm → Bool} {l : List Itm} (hl : l.length ≤ 1000000) (h : ∀ a, a ∈ l → f (a, ()) = some (p a)) : slices_ContainsFunc_144 l f = some (l.any p) := by
  simp only [slices_ContainsFunc_144, slices_ContainsFunc_144_b]
  unfold slices_IndexFunc_159 slices_IndexFunc_159_b
  rw [index_loop (f := f) (d := itm0) hl h, obind_some', not_any_idx]
theorem containsB {f : (Brk × Unit) → Option Bool} {p : Brk → Bool} {l : List Brk} (hl : l.length ≤ 1000000) (h : ∀ a, a ∈ l → f (a, ()) = some (p a)) : slices_ContainsFunc_104 l f = some (l.any p) := by
  simp only [slices_ContainsFunc_104, slices_ContainsFunc_104_b]
  unfold slices_IndexFunc_149 slices_IndexFunc_149_b
  rw [index_loop (f := f) (d := brk0) hl h, obind_some', not_any_idx]

theorem itemsA_ok (l : List Itm) (len : Int) : batten_items l len = some (itemsB l len) := by
  simp only [batten_items, batten_items_b, itemsB]
  by_cases h0 : l.length ≤ 40
  · rw [decide_eq_false (show ¬ ((l.length : Nat) : Int) > 40 by omega), decide_eq_true h0]
    simp only [Bool.not_false, Bool.not_true, Bool.false_or, Bool.or_true, Bool.true_or, cT, cF, twiceI_ok (show l.length ≤ 1000000 by omega), obind_some', Bool.true_and]
    cases hd : nodupB (l.map fun x => x.1) with
    | false => simp
    | true =>
      simp only [Bool.not_true, cF, Bool.true_and]
      refine (lpK_up (α := Int × PUnit) l.length (by omega) (fun i (_ : Unit) => ((i : Int), PUnit.unit)) (fun i s k => bif itemB len (l.getD i itm0) && earlyN (fun a b => !apartB a b) itm0 l i then k s else some false) (fun _ => some true) ?_ ?_ ()).trans ?_
      · intro again i _ hi
        have hw : IntKind.wrap .i64 ((i : Int) + 1) = ((i + 1 : Nat) : Int) := by rw [wrap_id (by omega) (by omega)]; rfl
        have hs : slB (0 : Int) (i : Int) l.length = true := slB_of (by omega) (by omega) (by omega)
        have hc : slices_ContainsFunc_144 (List.drop 0 (List.take i l)) (fun x => batten_items_2 x.1 (l.getD i itm0)) = some ((l.take i).any fun a => !apartB a (l.getD i itm0)) :=
          containsI (l := List.drop 0 (List.take i l)) (by rw [List.drop_zero, List.length_take]; omega) fun a _ => by
            simp only [batten_items_2, batten_items_2_b, apartA_ok, obind_some']
            rw [apartB_comm]
        simp only [inB_nat, decide_eq_true hi, decide_eq_true (show (i : Int) < l.length by omega), cT, Int.toNat_natCast, hw, show List.getD l i ({ data := { toList := [] } }, (0 : Int), (0 : Int), (0 : Int), (0 : Int), (0 : Int), (0 : Int)) = l.getD i itm0 from rfl, aloneA_ok, insideA_ok, obind_some', hs, hc, Bool.or_true, not_or_self', Bool.and_self]
        unfold earlyN itemB
        generalize (l.take i).any (fun a => !apartB a (l.getD i itm0)) = q
        generalize l.getD i itm0 = x
        cases nameB x.1 <;> cases btw x.2.2.1 1 1048576 <;> cases btw x.2.1 0 (IntKind.wrap .i64 (len - x.2.2.1)) <;> cases btw x.2.2.2.1 0 1048576 <;> cases btw x.2.2.2.2.1 0 1048576 <;> cases btw x.2.2.2.2.2.1 0 1048576 <;> cases btw x.2.2.2.2.2.2 0 1048576 <;> cases q <;> rfl
      · intro again _
        simp only [decide_eq_false (show ¬ (l.length : Int) < l.length by omega), cF]
      · rw [upF_all l.length (fun i k _ => rfl) l.length 0 (by omega), all_and, all_range]
        cases l.all (itemB len) && (List.range' 0 l.length).all (earlyN (fun a b => !apartB a b) itm0 l) <;> rfl
  · rw [decide_eq_true (show ((l.length : Nat) : Int) > 40 by omega), decide_eq_false h0]
    rfl

end Go.Proofs.YtmoiiokmfanlgaaGreat

namespace Go.Proofs.YtmoiiokmfanlgaaGreat
open Tryz Dn Dn.Sh

abbrev HS := ByteArray × Int × Int × Int × Int × List Int × Int × Int × Int × Int × Int × List Itm × List Brk

theorem any_or {α : Type} {p q : α → Bool} {l : List α} : (l.any fun a => p a || q a) = (l.any p || l.any q) := by
  rw [Bool.eq_iff_iff, Bool.or_eq_true, List.any_eq_true, List.any_eq_true, List.any_eq_true]
  constructor
  · rintro ⟨a, ha, h⟩
    rcases (Bool.or_eq_true _ _).mp h with h | h
    · exact .inl ⟨a, ha, h⟩
    · exact .inr ⟨a, ha, h⟩
  · rintro (⟨a, ha, h⟩ | ⟨a, ha, h⟩)
    · exact ⟨a, ha, (Bool.or_eq_true _ _).mpr (.inl h)⟩
    · exact ⟨a, ha, (Bool.or_eq_true _ _).mpr (.inr h)⟩

theorem itemsR_ok (nm : ByteArray) (dp lo hi len : Int) (ls : List Int) (pi ar pu mo br : Int) (l : List Itm) (bs : List Brk) (hl : l.length ≤ 1000000) : ref21_items (nm, dp, lo, hi, len, ls, pi, ar, pu, mo, br, l, bs) = some (itemsB l len) := by
  simp only [ref21_items, ref21_items_b, itemsB]
  by_cases h0 : l.length ≤ 40
  · rw [decide_eq_false (show ¬ ((l.length : Nat) : Int) > 40 by omega), decide_eq_true h0]
    simp only [cF, Bool.true_and]
    refine (lpK_up (α := Int × PUnit) l.length (by omega) (fun i (_ : Unit) => ((i : Int), PUnit.unit)) (fun i s k => bif itemB len (l.getD i itm0) && (earlyN (fun a b => decide (a.1 = b.1)) itm0 l i && earlyN (fun a b => !apartB a b) itm0 l i) then k s else some false) (fun _ => some true) ?_ ?_ ()).trans ?_
    · intro again i _ hi
      have hw : IntKind.wrap .i64 ((i : Int) + 1) = ((i + 1 : Nat) : Int) := by rw [wrap_id (by omega) (by omega)]; rfl
      simp only [inB_nat, decide_eq_true hi, decide_eq_true (show (i : Int) < l.length by omega), cT, Int.toNat_natCast, hw, show List.getD l i ({ data := { toList := [] } }, (0 : Int), (0 : Int), (0 : Int), (0 : Int), (0 : Int), (0 : Int)) = l.getD i itm0 from rfl, aloneR_ok, apartR_ok, obind_some', str_beq, not_or_self', or_self_not, Bool.and_self]
      cases hI : itemB len (l.getD i itm0) with
      | false => simp
      | true =>
        simp only [Bool.not_true, cF, Bool.true_and]
        refine (early_loopF (p := fun a : Itm => decide (a.1 = (l.getD i itm0).1) || !apartB a (l.getD i itm0)) (d := itm0) (l := l) (i := i) (yes := some false) (no := again (((i + 1 : Nat) : Int), PUnit.unit)) hl (by omega) ?_ ?_).trans ?_
        · intro again_1 j hj
          have hw2 : IntKind.wrap .i64 ((j : Int) + 1) = ((j + 1 : Nat) : Int) := by rw [wrap_id (by omega) (by omega)]; rfl
          simp only [inB_nat, decide_eq_true (show (j : Int) < i by omega), decide_eq_true (show j < l.length by omega), cT, Int.toNat_natCast, hw2, show List.getD l j ({ data := { toList := [] } }, (0 : Int), (0 : Int), (0 : Int), (0 : Int), (0 : Int), (0 : Int)) = l.getD j itm0 from rfl]
          cases decide ((l.getD j itm0).1 = (l.getD i itm0).1) <;> cases apartB (l.getD j itm0) (l.getD i itm0) <;> rfl
        · intro again_1
          simp only [decide_eq_false (show ¬ (i : Int) < i by omega), cF]
        · rw [any_or]
          unfold earlyN
          cases (l.take i).any fun a : Itm => decide (a.1 = (l.getD i itm0).1) <;> cases (l.take i).any fun a : Itm => !apartB a (l.getD i itm0) <;> rfl
    · intro again _
      simp only [decide_eq_false (show ¬ (l.length : Int) < l.length by omega), cF]
    · rw [upF_all l.length (fun i k _ => rfl) l.length 0 (by omega), all_and, all_and, all_range, early_nodup (f := fun x : Itm => x.1)]
      cases l.all (itemB len) && (nodupB (l.map fun x => x.1) && (List.range' 0 l.length).all (earlyN (fun a b => !apartB a b) itm0 l)) <;> rfl
  · rw [decide_eq_true (show ((l.length : Nat) : Int) > 40 by omega), decide_eq_false h0]
    rfl

/-! ### Bricks -/

noncomputable def brickB (b : Brk) : Bool := nameB b.1 && (btw b.2.1 1 1048576 && btw b.2.2 0 60)
def addW (s : Int) (b : Brk) : Int := IntKind.wrap .i64 (s + b.2.2)
noncomputable def bricksB (l : List Brk) : Bool := decide (l.length ≤ 8) && (l.all brickB && (nodupB (l.map fun x => x.1) && decide (l.foldl addW 0 ≤ 60)))

theorem bricksA_ok (l : List Brk) : batten_bricks l = some (bricksB l) := by
  simp only [batten_bricks, batten_bricks_b, bricksB]
  by_cases h0 : l.length ≤ 8
  · rw [decide_eq_false (show ¬ ((l.length : Nat) : Int) > 8 by omega), decide_eq_true h0]
    simp only [Bool.not_false, Bool.not_true, Bool.false_or, Bool.or_true, Bool.true_or, cT, cF, twiceB_ok (show l.length ≤ 1000000 by omega), obind_some', Bool.true_and]
    cases hd : nodupB (l.map fun x => x.1) with
    | false => simp
    | true =>
      simp only [Bool.not_true, cF, Bool.true_and]
      refine (lpK_up (α := Int × Int × PUnit) l.length (by omega) (fun i (s : Int) => (s, (i : Int), PUnit.unit)) (fun i s k => bif brickB (l.getD i brk0) then k (addW s (l.getD i brk0)) else some false) (fun s => some (decide (s ≤ 60))) ?_ ?_ 0).trans ?_
      · intro again i s hi
        have hw : IntKind.wrap .i64 ((i : Int) + 1) = ((i + 1 : Nat) : Int) := by rw [wrap_id (by omega) (by omega)]; rfl
        simp only [inB_nat, decide_eq_true hi, decide_eq_true (show (i : Int) < l.length by omega), cT, Int.toNat_natCast, hw, show List.getD l i ({ data := { toList := [] } }, (0 : Int), (0 : Int)) = l.getD i brk0 from rfl, isName_ok, btwA_ok, obind_some', not_or_self']
        unfold brickB addW
        generalize l.getD i brk0 = b
        cases nameB b.1 <;> cases btw b.2.1 1 1048576 <;> cases btw b.2.2 0 60 <;> rfl
      · intro again s
        simp only [decide_eq_false (show ¬ (l.length : Int) < l.length by omega), cF]
      · rw [upF_chk (q := fun i => brickB (l.getD i brk0)) (g := fun i s => addW s (l.getD i brk0)) (r := some false) l.length (fun i s k _ => rfl) l.length 0 0 (by omega), all_range, range_fold (g := addW) (d := brk0) l.length 0 0 (by omega), List.drop_zero]
        cases l.all brickB <;> rfl
  · rw [decide_eq_true (show ((l.length : Nat) : Int) > 8 by omega), decide_eq_false h0]
    rfl

theorem bricksR_ok (l : List Brk) : ref21_Bricks l = some (bricksB l) := by
  simp only [ref21_Bricks, ref21_Bricks_b, bricksB]
  by_cases h0 : l.length ≤ 8
  · rw [decide_eq_false (show ¬ ((l.length : Nat) : Int) > 8 by omega), decide_eq_true h0]
    simp only [cF, Bool.true_and]
    refine (lpK_up (α := Int × Int × PUnit) l.length (by omega) (fun i (s : Int) => (s, (i : Int), PUnit.unit)) (fun i s k => bif brickB (l.getD i brk0) && earlyN (fun a b => decide (a.1 = b.1)) brk0 l i then k (addW s (l.getD i brk0)) else some false) (fun s => some (decide (s ≤ 60))) ?_ ?_ 0).trans ?_
    · intro again i s hi
      have hw : IntKind.wrap .i64 ((i : Int) + 1) = ((i + 1 : Nat) : Int) := by rw [wrap_id (by omega) (by omega)]; rfl
      simp only [inB_nat, decide_eq_true hi, decide_eq_true (show (i : Int) < l.length by omega), cT, Int.toNat_natCast, hw, show List.getD l i ({ data := { toList := [] } }, (0 : Int), (0 : Int)) = l.getD i brk0 from rfl, refIsName_ok, btwB_ok, obind_some', str_beq, not_or_self', or_self_not, Bool.and_self]
      have hB : brickB (l.getD i brk0) = (nameB (l.getD i brk0).1 && (btw (l.getD i brk0).2.1 1 1048576 && btw (l.getD i brk0).2.2 0 60)) := rfl
      rw [hB]
      cases nameB (l.getD i brk0).1 with
      | false => rfl
      | true => cases btw (l.getD i brk0).2.1 1 1048576 with
        | false => rfl
        | true => cases btw (l.getD i brk0).2.2 0 60 with
          | false => rfl
          | true =>
            simp only [Bool.not_true, Bool.not_false, cF, cT, Bool.true_and, Bool.or_true, Bool.true_or, Bool.or_false, Bool.false_or, obind_some']
            refine (early_loopF (p := fun a : Brk => decide (a.1 = (l.getD i brk0).1)) (d := brk0) (l := l) (i := i) (yes := some false) (no := again (addW s (l.getD i brk0), ((i + 1 : Nat) : Int), PUnit.unit)) (by omega) (by omega) ?_ ?_).trans ?_
            · intro again_1 j hj
              have hw2 : IntKind.wrap .i64 ((j : Int) + 1) = ((j + 1 : Nat) : Int) := by rw [wrap_id (by omega) (by omega)]; rfl
              simp only [inB_nat, decide_eq_true (show (j : Int) < i by omega), decide_eq_true (show j < l.length by omega), cT, Int.toNat_natCast, hw2]
            · intro again_1
              simp only [decide_eq_false (show ¬ (i : Int) < i by omega), cF]
              rfl
            · unfold earlyN
              cases (l.take i).any fun a : Brk => decide (a.1 = (l.getD i brk0).1) <;> rfl
    · intro again s
      simp only [decide_eq_false (show ¬ (l.length : Int) < l.length by omega), cF]
    · rw [upF_chk (q := fun i => brickB (l.getD i brk0) && earlyN (fun a b => decide (a.1 = b.1)) brk0 l i) (g := fun i s => addW s (l.getD i brk0)) (r := some false) l.length (fun i s k _ => rfl) l.length 0 0 (by omega), all_and, all_range, early_nodup (f := fun x : Brk => x.1), range_fold (g := addW) (d := brk0) l.length 0 0 (by omega), List.drop_zero]
      cases l.all brickB <;> cases nodupB (l.map fun x => x.1) <;> rfl
  · rw [decide_eq_true (show ((l.length : Nat) : Int) > 8 by omega), decide_eq_false h0]
    rfl

end Go.Proofs.YtmoiiokmfanlgaaGreat

namespace Go.Proofs.YtmoiiokmfanlgaaGreat
open Tryz Dn Dn.Sh

def lineB (l : List Int) (len : Int) (i : Nat) : Bool := btw (l.getD i 0) 0 len && (decide (i = 0) || decide (l.getD (i - 1) 0 < l.getD i 0))
def linesB (l : List Int) (len : Int) : Bool := btw (l.length : Int) 2 10 && (List.range' 0 l.length).all (lineB l len)

theorem lines_eq {l : List Int} {len : Int} (h2 : 2 ≤ l.length) : (decide (0 ≤ l.getD 0 0) && (decide (l.getD (l.length - 1) 0 ≤ len) && (List.range' 0 (l.length - 1)).all fun i => decide (l.getD i 0 < l.getD (i + 1) 0))) = (List.range' 0 l.length).all (lineB l len) := by
  rw [Bool.eq_iff_iff, Bool.and_eq_true, Bool.and_eq_true, List.all_eq_true, List.all_eq_true, decide_eq_true_iff, decide_eq_true_iff]
  constructor
  · rintro ⟨h0, h1, h3⟩ i hi
    obtain ⟨k, hk, rfl⟩ := List.mem_range'.1 hi
    have step : ∀ i, i + 1 < l.length → l.getD i 0 < l.getD (i + 1) 0 := fun i hi => of_decide_eq_true (h3 i (List.mem_range'.2 ⟨i, by omega, by omega⟩))
    have mono : ∀ d i, i + d < l.length → l.getD i 0 ≤ l.getD (i + d) 0 := by
      intro d
      induction d with
      | zero => intro i _; exact Int.le_refl _
      | succ d ih =>
        intro i hi
        have g1 := ih i (by omega)
        have g2 := step (i + d) (by omega)
        rw [show i + (d + 1) = i + d + 1 by omega]
        omega
    have g1 := mono (0 + 1 * k) 0 (by omega)
    have g2 := mono (l.length - 1 - (0 + 1 * k)) (0 + 1 * k) (by omega)
    rw [Nat.zero_add] at g1
    rw [show 0 + 1 * k + (l.length - 1 - (0 + 1 * k)) = l.length - 1 by omega] at g2
    unfold lineB btw
    rw [Bool.and_eq_true, Bool.and_eq_true, Bool.or_eq_true, decide_eq_true_iff, decide_eq_true_iff, decide_eq_true_iff, decide_eq_true_iff]
    refine ⟨⟨by omega, by omega⟩, ?_⟩
    by_cases hz : 0 + 1 * k = 0
    · exact .inl hz
    · right
      have := step (0 + 1 * k - 1) (by omega)
      rw [show 0 + 1 * k - 1 + 1 = 0 + 1 * k by omega] at this
      exact this
  · intro h
    have at' : ∀ i, i < l.length → (0 ≤ l.getD i 0 ∧ l.getD i 0 ≤ len) ∧ (i = 0 ∨ l.getD (i - 1) 0 < l.getD i 0) := fun i hi => by
      have := h i (List.mem_range'.2 ⟨i, hi, by omega⟩)
      unfold lineB btw at this
      rw [Bool.and_eq_true, Bool.and_eq_true, Bool.or_eq_true, decide_eq_true_iff, decide_eq_true_iff, decide_eq_true_iff, decide_eq_true_iff] at this
      exact this
    refine ⟨(at' 0 (by omega)).1.1, (at' (l.length - 1) (by omega)).1.2, fun i hi => ?_⟩
    obtain ⟨k, hk, rfl⟩ := List.mem_range'.1 hi
    have := (at' (0 + 1 * k + 1) (by omega)).2
    rw [decide_eq_true_iff]
    rcases this with h | h
    · omega
    · rw [Nat.add_sub_cancel] at h
      exact h

theorem linesA_ok (l : List Int) (len : Int) : batten_lines l len = some (linesB l len) := by
  simp only [batten_lines, batten_lines_b, btwA_ok, obind_some', linesB]
  cases hb : btw (l.length : Int) 2 10 with
  | false => rfl
  | true =>
    have h2 : 2 ≤ l.length ∧ l.length ≤ 10 := by
      unfold btw at hb
      rw [Bool.and_eq_true, decide_eq_true_iff, decide_eq_true_iff] at hb
      omega
    have hw0 : IntKind.wrap .i64 ((l.length : Int) - 1) = ((l.length - 1 : Nat) : Int) := by rw [wrap_id (by omega) (by omega)]; omega
    rw [← lines_eq h2.1]
    simp only [hw0, Int.toNat_natCast, inB_nat, inB_of (show (0 : Int) ≤ 0 by omega) (show (0 : Int) < (l.length : Nat) by omega), decide_eq_true (show l.length - 1 < l.length by omega), Bool.not_true, Bool.not_false, Bool.or_true, Bool.true_or, Bool.false_or, Bool.or_false, Bool.and_self, Bool.true_and, cT, cF, not_or_self', or_self_not]
    by_cases g0 : l.getD 0 0 < 0
    · rw [decide_eq_true g0, decide_eq_false (show ¬ 0 ≤ l.getD 0 0 by omega)]
      rfl
    · rw [decide_eq_false g0, decide_eq_true (show 0 ≤ l.getD 0 0 by omega)]
      by_cases g1 : l.getD (l.length - 1) 0 > len
      · rw [decide_eq_true g1, decide_eq_false (show ¬ l.getD (l.length - 1) 0 ≤ len by omega)]
        rfl
      · rw [decide_eq_false g1, decide_eq_true (show l.getD (l.length - 1) 0 ≤ len by omega)]
        simp only [Bool.not_true, Bool.not_false, Bool.or_true, Bool.true_or, Bool.false_or, Bool.or_false, Bool.and_self, Bool.true_and, cT, cF]
        refine (lpK_up (α := Int × PUnit) (l.length - 1) (by omega) (fun i (_ : Unit) => (((i + 1 : Nat) : Int), PUnit.unit)) (fun i s k => bif decide (l.getD i 0 < l.getD (i + 1) 0) then k s else some false) (fun _ => some true) ?_ ?_ ()).trans ?_
        · intro again i _ hi
          have hw : IntKind.wrap .i64 (((i + 1 : Nat) : Int) + 1) = ((i + 1 + 1 : Nat) : Int) := by rw [wrap_id (by omega) (by omega)]; omega
          have hw1 : IntKind.wrap .i64 (((i + 1 : Nat) : Int) - 1) = ((i : Nat) : Int) := by rw [wrap_id (by omega) (by omega)]; omega
          simp only [hw, hw1, inB_nat, decide_eq_true (show ((i + 1 : Nat) : Int) < l.length by omega), decide_eq_true (show i + 1 < l.length by omega), decide_eq_true (show i < l.length by omega), cT, Int.toNat_natCast]
          by_cases hc : l.getD i 0 < l.getD (i + 1) 0
          · rw [decide_eq_true hc, decide_eq_false (show ¬ l.getD (i + 1) 0 ≤ l.getD i 0 by omega)]; rfl
          · rw [decide_eq_false hc, decide_eq_true (show l.getD (i + 1) 0 ≤ l.getD i 0 by omega)]; rfl
        · intro again _
          simp only [decide_eq_false (show ¬ ((l.length - 1 + 1 : Nat) : Int) < l.length by omega), cF]
        · rw [upF_all (l.length - 1) (fun i k _ => rfl) (l.length - 1) 0 (by omega)]
          cases (List.range' 0 (l.length - 1)).all fun i => decide (l.getD i 0 < l.getD (i + 1) 0) <;> rfl

noncomputable def setB (s : HS) : Bool := nameB s.1 && (btw s.2.1 0 1048576 && (btw s.2.2.1 0 s.2.2.2.1 && (btw s.2.2.2.1 0 1048576 && (btw s.2.2.2.2.1 1000 1048576 && (decide (Int.tmod s.2.2.2.2.1 1000 = 0) && (linesB s.2.2.2.2.2.1 s.2.2.2.2.1 &&
  (btw s.2.2.2.2.2.2.1 0 1048576 && (btw s.2.2.2.2.2.2.2.1 0 1048576 && (btw s.2.2.2.2.2.2.2.2.1 1 2 && (btw s.2.2.2.2.2.2.2.2.2.1 1 67108864 && (btw s.2.2.2.2.2.2.2.2.2.2.1 0 67108864 && (itemsB s.2.2.2.2.2.2.2.2.2.2.2.1 s.2.2.2.2.1 && bricksB s.2.2.2.2.2.2.2.2.2.2.2.2))))))))))))

theorem obind_bif {R : Type} {b x : Bool} {k : Bool → Option R} : (obind (bif b then some x else some false) k) = k (b && x) := by cases b <;> rfl

theorem validA_ok (s : HS) : batten_Valid s = some (setB s) := by
  obtain ⟨nm, dp, lo, hi, len, ls, pi, ar, pu, mo, br, l, bs⟩ := s
  simp only [batten_Valid, batten_Valid_b, isName_ok, btwA_ok, linesA_ok, itemsA_ok, bricksA_ok, obind_bif, obind_some', not_or_self', or_self_not, Bool.and_self, Bool.or_true, cT, bif_false', setB]
  have e : (decide (0 ≤ lo) && (decide (lo ≤ hi) && decide (hi ≤ 1048576))) = (btw lo 0 hi && btw hi 0 1048576) := by
    unfold btw
    by_cases h1 : 0 ≤ lo <;> by_cases h2 : lo ≤ hi <;> by_cases h3 : hi ≤ 1048576
    all_goals first | (rw [decide_eq_true h1]) | (rw [decide_eq_false h1])
    all_goals first | (rw [decide_eq_true h2]) | (rw [decide_eq_false h2])
    all_goals first | (rw [decide_eq_true h3]) | (rw [decide_eq_false h3])
    all_goals simp
    omega
  have e2 : ∀ R : Bool, (decide (0 ≤ lo) && (decide (lo ≤ hi) && (decide (hi ≤ 1048576) && R))) = (btw lo 0 hi && (btw hi 0 1048576 && R)) := fun R => by
    have := congrArg (· && R) e
    simpa only [Bool.and_assoc] using this
  rw [← e2]
  congr 1
  generalize nameB nm = b1
  generalize btw dp 0 1048576 = b2
  generalize decide (0 ≤ lo) = b3
  generalize decide (lo ≤ hi) = b4
  generalize decide (hi ≤ 1048576) = b5
  generalize btw len 1000 1048576 = b6
  generalize decide (Int.tmod len 1000 = 0) = b7
  generalize linesB ls len = b8
  generalize btw pi 0 1048576 = b9
  generalize btw ar 0 1048576 = b10
  generalize btw pu 1 2 = b11
  generalize btw mo 1 67108864 = b12
  generalize btw br 0 67108864 = b13
  generalize itemsB l len = b14
  generalize bricksB bs = b15
  cases b1; · rfl
  cases b2; · rfl
  cases b3; · rfl
  cases b4; · rfl
  cases b5; · rfl
  cases b6; · rfl
  cases b7; · rfl
  cases b8; · rfl
  cases b9; · rfl
  cases b10; · rfl
  cases b11; · rfl
  cases b12; · rfl
  cases b13; · rfl
  cases b14; · rfl
  cases b15 <;> rfl

theorem validR_ok (s : HS) (hl : s.2.2.2.2.2.2.2.2.2.2.2.1.length ≤ 1000000) : ref21_Valid s = some (setB s) := by
  obtain ⟨nm, dp, lo, hi, len, ls, pi, ar, pu, mo, br, l, bs⟩ := s
  simp only at hl
  simp only [ref21_Valid, ref21_Valid_b, refIsName_ok, btwB_ok, itemsR_ok _ _ _ _ _ _ _ _ _ _ _ _ _ hl, bricksR_ok, obind_bif, obind_some', setB, linesB]
  generalize nameB nm = b1
  generalize btw dp 0 1048576 = b2
  generalize btw lo 0 hi = b3
  generalize btw hi 0 1048576 = b4
  generalize btw len 1000 1048576 = b6
  generalize decide (Int.tmod len 1000 = 0) = b7
  generalize hb : btw (ls.length : Int) 2 10 = b8
  generalize btw pi 0 1048576 = b9
  generalize btw ar 0 1048576 = b10
  generalize btw pu 1 2 = b11
  generalize btw mo 1 67108864 = b12
  generalize btw br 0 67108864 = b13
  cases b1; · rfl
  cases b2; · rfl
  cases b3; · rfl
  cases b4; · rfl
  cases b6; · rfl
  cases b7; · rfl
  cases b8; · rfl
  have h2 : 2 ≤ ls.length ∧ ls.length ≤ 10 := by
    unfold btw at hb
    rw [Bool.and_eq_true, decide_eq_true_iff, decide_eq_true_iff] at hb
    omega
  cases b9; · (simp only [Bool.false_and, Bool.and_false]; rfl)
  cases b10; · (simp only [Bool.false_and, Bool.and_false]; rfl)
  cases b11; · (simp only [Bool.false_and, Bool.and_false]; rfl)
  cases b12; · (simp only [Bool.false_and, Bool.and_false]; rfl)
  cases b13; · (simp only [Bool.false_and, Bool.and_false]; rfl)
  simp only [Bool.not_true, Bool.not_false, Bool.or_true, Bool.true_or, Bool.or_false, Bool.and_self, Bool.true_and, Bool.and_true, cT, cF, not_or_self', or_self_not]
  refine (lpK_up (α := Int × PUnit) ls.length (by omega) (fun i (_ : Unit) => ((i : Int), PUnit.unit)) (fun i s k => bif lineB ls len i then k s else some false) (fun _ => some (itemsB l len && bricksB bs)) ?_ ?_ ()).trans ?_
  · intro again i _ hi
    have hw : IntKind.wrap .i64 ((i : Int) + 1) = ((i + 1 : Nat) : Int) := by rw [wrap_id (by omega) (by omega)]; rfl
    simp only [inB_nat, decide_eq_true hi, decide_eq_true (show (i : Int) < ls.length by omega), cT, Int.toNat_natCast, hw]
    unfold lineB
    by_cases hz : i = 0
    · rw [decide_eq_false (show ¬ (i : Int) > 0 by omega), decide_eq_true hz]
      cases btw (ls.getD i 0) 0 len <;> rfl
    · have hw1 : IntKind.wrap .i64 ((i : Int) - 1) = ((i - 1 : Nat) : Int) := by rw [wrap_id (by omega) (by omega)]; omega
      rw [decide_eq_true (show (i : Int) > 0 by omega), decide_eq_false hz]
      simp only [hw1, inB_nat, decide_eq_true (show i - 1 < ls.length by omega), Int.toNat_natCast]
      by_cases hc : ls.getD (i - 1) 0 < ls.getD i 0
      · rw [decide_eq_true hc, decide_eq_false (show ¬ ls.getD i 0 ≤ ls.getD (i - 1) 0 by omega)]
        cases btw (ls.getD i 0) 0 len <;> rfl
      · rw [decide_eq_false hc, decide_eq_true (show ls.getD i 0 ≤ ls.getD (i - 1) 0 by omega)]
        cases btw (ls.getD i 0) 0 len <;> rfl
  · intro again _
    simp only [decide_eq_false (show ¬ (ls.length : Int) < ls.length by omega), cF]
    cases itemsB l len <;> cases bricksB bs <;> rfl
  · rw [upF_all ls.length (fun i k _ => rfl) ls.length 0 (by omega)]
    cases (List.range' 0 ls.length).all (lineB ls len) <;> simp

end Go.Proofs.YtmoiiokmfanlgaaGreat

namespace Go.Proofs.YtmoiiokmfanlgaaGreat
open Tryz Dn Dn.Sh

abbrev Bm := ByteArray × Int × Int × Int
abbrev Ld := Int × Int
abbrev bm0 : Bm := ({ data := { toList := [] } }, (0 : Int), (0 : Int), (0 : Int))
def bmAt (l : List Bm) (i : Nat) : Bm := l.getD i bm0
def inL (n : Int) : Bool := decide (0 ≤ n ∧ n ≤ 1048576)
def inW (n : Int) : Bool := decide (0 ≤ n ∧ n ≤ 67108864)
/-- The beam at i is one, and no earlier one has its name. -/
noncomputable def beamB (l : List Bm) (i : Nat) : Bool := nameB (bmAt l i).1 && (decide (0 ≤ (bmAt l i).2.1 ∧ (bmAt l i).2.1 ≤ (bmAt l i).2.2.1 ∧ (bmAt l i).2.2.1 ≤ 1048576) && (inW (bmAt l i).2.2.2 && decide (idxI (fun a : Bm => decide (a.1 = (bmAt l i).1)) (l.take i) 0 < 0)))
noncomputable def validG (l : List Bm) : Bool := decide (l.length ≤ 20) && (List.range' 0 l.length).all (beamB l)
def loadB (x : Ld) : Bool := inL x.1 && inW x.2
def rightG (at_ : List Ld) : Bool := decide (at_.length ≤ 1000) && at_.all loadB

theorem within_ok (n : Int) : grid_within n = some (inL n) := by
  simp only [grid_within, grid_within_b, not_or_self', cT, bif_false', ge_iff_le, inL, Bool.decide_and]
theorem isNameG_ok (s : ByteArray) : grid_isName s = some (nameB s) := by
  simp only [grid_isName, grid_isName_b, isName_ok, obind_some']
theorem between_ok (n a b : Int) : ref19_between n a b = some (decide (a ≤ n ∧ n ≤ b)) := by
  simp only [ref19_between, ref19_between_b, not_or_self', Bool.and_self, cT, bif_false', ge_iff_le, Bool.decide_and]
theorem index85 {f : (Bm × Unit) → Option Bool} {p : Bm → Bool} {l : List Bm} (hl : l.length ≤ 1000000) (h : ∀ a, a ∈ l → f (a, ()) = some (p a)) : slices_IndexFunc_151 l f = some (idxI p l 0) := by
  unfold slices_IndexFunc_151 slices_IndexFunc_151_b
  exact index_loop (f := f) (d := bm0) hl h
theorem contains41 {f : (Bm × Unit) → Option Bool} {p : Bm → Bool} {l : List Bm} (hl : l.length ≤ 1000000) (h : ∀ a, a ∈ l → f (a, ()) = some (p a)) : slices_ContainsFunc_110 l f = some (l.any p) := by
  simp only [slices_ContainsFunc_110, slices_ContainsFunc_110_b, index85 hl h, obind_some']
  congr 1
  have := idxI_neg (p := p) (l := l) (i := 0) (by omega)
  rw [Bool.eq_iff_iff, decide_eq_true_iff, List.any_eq_true]
  constructor
  · intro h1
    by_cases h2 : ∃ a ∈ l, p a = true
    · exact h2
    · have : idxI p l 0 < 0 := this.2 fun a ha => by
        cases e : p a with
        | false => rfl
        | true => exact (h2 ⟨a, ha, e⟩).elim
      omega
  · rintro ⟨a, ha, h3⟩
    by_cases h2 : idxI p l 0 < 0
    · rw [this.1 h2 a ha] at h3; cases h3
    · omega
theorem contains41' {f : (Bm × Unit) → Option Bool} {p : Bm → Bool} {l : List Bm} (hl : l.length ≤ 1000000) (h : ∀ a, a ∈ l → f (a, ()) = some (p a)) : slices_ContainsFunc_110 l f = some (!decide (idxI p l 0 < 0)) := by
  simp only [slices_ContainsFunc_110, slices_ContainsFunc_110_b, index85 hl h, obind_some']
  congr 1
  rw [Bool.eq_iff_iff]
  simp

theorem gValid_ok (l : List Bm) : grid_Valid l = some (validG l) := by
  simp only [grid_Valid, grid_Valid_b, validG]
  by_cases h0 : l.length ≤ 20
  · rw [decide_eq_false (show ¬ ((l.length : Nat) : Int) > 20 by omega), decide_eq_true h0]
    simp only [cF, Bool.true_and]
    refine (lpK_up (α := Int × PUnit) l.length (by omega) (fun i (_ : Unit) => ((i : Int), PUnit.unit)) (fun i s k => bif beamB l i then k s else some false) (fun _ => some true) ?_ ?_ ()).trans ?_
    · intro again i _ hi
      have hw : IntKind.wrap .i64 ((i : Int) + 1) = ((i + 1 : Nat) : Int) := by rw [wrap_id (by omega) (by omega)]; rfl
      have hs : slB (0 : Int) (i : Int) l.length = true := slB_of (by omega) (by omega) (by omega)
      have hc : slices_ContainsFunc_110 (List.drop 0 (List.take i l)) (fun x => grid_Valid_1 x.1 (bmAt l i)) = some (!decide (idxI (fun a : Bm => decide (a.1 = (bmAt l i).1)) (l.take i) 0 < 0)) :=
        contains41' (l := List.drop 0 (List.take i l)) (p := fun a : Bm => decide (a.1 = (bmAt l i).1)) (by rw [List.drop_zero, List.length_take]; omega) fun a _ => by simp only [grid_Valid_1, grid_Valid_1_b, str_beq]
      simp only [inB_nat, decide_eq_true hi, decide_eq_true (show (i : Int) < l.length by omega), cT, Int.toNat_natCast, hw, show List.getD l i bm0 = bmAt l i from rfl, isNameG_ok, within_ok, obind_some', hs]
      unfold beamB
      generalize bmAt l i = b at *
      obtain ⟨s, fr, to, mo⟩ := b
      simp only at hc ⊢
      rw [hc]
      generalize decide (idxI (fun a : Bm => decide (a.1 = s)) (l.take i) 0 < 0) = q
      cases nameB s with
      | false => rfl
      | true =>
        by_cases g1 : 0 ≤ fr ∧ fr ≤ 1048576
        · by_cases g2 : 0 ≤ to ∧ to ≤ 1048576
          · by_cases g3 : fr > to
            · simp only [inL, decide_eq_true g1, decide_eq_true g2, decide_eq_true g3, decide_eq_false (show ¬ (0 ≤ fr ∧ fr ≤ to ∧ to ≤ 1048576) by omega)]
              simp [obind_some']
            · by_cases g4 : mo < 0
              · simp only [inL, inW, decide_eq_true g1, decide_eq_true g2, decide_eq_false g3, decide_eq_true g4, decide_eq_true (show (0 ≤ fr ∧ fr ≤ to ∧ to ≤ 1048576) by omega), decide_eq_false (show ¬ (0 ≤ mo ∧ mo ≤ 67108864) by omega)]
                simp [obind_some']
              · by_cases g5 : mo > 67108864
                · simp only [inL, inW, decide_eq_true g1, decide_eq_true g2, decide_eq_false g3, decide_eq_false g4, decide_eq_true g5, decide_eq_true (show (0 ≤ fr ∧ fr ≤ to ∧ to ≤ 1048576) by omega), decide_eq_false (show ¬ (0 ≤ mo ∧ mo ≤ 67108864) by omega)]
                  simp [obind_some']
                · simp only [inL, inW, decide_eq_true g1, decide_eq_true g2, decide_eq_false g3, decide_eq_false g4, decide_eq_false g5, decide_eq_true (show (0 ≤ fr ∧ fr ≤ to ∧ to ≤ 1048576) by omega), decide_eq_true (show (0 ≤ mo ∧ mo ≤ 67108864) by omega)]
                  cases q <;> simp [obind_some']
          · simp only [inL, decide_eq_true g1, decide_eq_false g2, decide_eq_false (show ¬ (0 ≤ fr ∧ fr ≤ to ∧ to ≤ 1048576) by omega)]
            simp [obind_some']
        · simp only [inL, decide_eq_false g1]
          by_cases g6 : 0 ≤ fr ∧ fr ≤ to ∧ to ≤ 1048576
          · omega
          · simp only [decide_eq_false g6]
            simp [obind_some']
    · intro again _
      simp
    · exact upF_all l.length (fun i k _ => rfl) l.length 0 (by omega) |>.trans (by cases (List.range' 0 l.length).all (beamB l) <;> rfl)
  · rw [decide_eq_true (show ((l.length : Nat) : Int) > 20 by omega), decide_eq_false h0]
    rfl

/-- A search for an earlier element: the walk of a loop below i. -/
theorem earlier_loop {p : Bm → Bool} {l : List Bm} {i : Nat} (hl : l.length ≤ 1000000) (hi : i ≤ l.length) {R : Type} {yes no : Option R} :
    lpK (Int × PUnit) R (fun (again_1 : Int × PUnit → Option R) (x_1 : Int × PUnit) => bif decide (x_1.fst < (i : Int)) then bif inB x_1.fst (List.length l) then bif p (List.getD l (Int.toNat x_1.fst) bm0) then yes else
      again_1 (IntKind.wrap IntKind.i64 (x_1.fst + (1 : Int)), PUnit.unit) else none else no) ((0 : Int), PUnit.unit) = bif decide (idxI p (l.take i) 0 < 0) then no else yes := by
  refine (lpK_up (α := Int × PUnit) i (by omega) (fun j (_ : Unit) => ((j : Int), PUnit.unit)) (fun j s k => bif !p (l.getD j bm0) then k s else yes) (fun _ => no) ?_ ?_ ()).trans ?_
  · intro again j _ hj
    have hw : IntKind.wrap .i64 ((j : Int) + 1) = ((j + 1 : Nat) : Int) := by rw [wrap_id (by omega) (by omega)]; rfl
    simp only [inB_nat, decide_eq_true (show j < l.length by omega), decide_eq_true (show (j : Int) < i by omega), cT, Int.toNat_natCast, hw]
    cases p (l.getD j bm0) <;> rfl
  · intro again _
    simp only [decide_eq_false (show ¬ (i : Int) < i by omega), cF]
  · refine (upF_all (p := fun j => !p (l.getD j bm0)) (r := yes) i (fun _ _ _ => rfl) i 0 (by omega)).trans ?_
    congr 1
    have h := idxI_neg (p := p) (l := l.take i) (i := 0) (by omega)
    rw [Bool.eq_iff_iff, decide_eq_true_iff, h, List.all_eq_true]
    constructor
    · intro h1 a ha
      obtain ⟨j, hj, rfl⟩ := List.getElem_of_mem ha
      rw [List.length_take] at hj
      have := h1 j (List.mem_range'.2 ⟨j, by omega, by omega⟩)
      rw [getD_nat (show j < l.length by omega)] at this
      rw [List.getElem_take]
      simpa using this
    · intro h1 j hj
      obtain ⟨k, hk, rfl⟩ := List.mem_range'.1 hj
      have : l.getD (0 + 1 * k) bm0 ∈ l.take i := by
        rw [getD_nat (by omega)]
        exact List.mem_take_iff_getElem.2 ⟨0 + 1 * k, by omega, rfl⟩
      rw [h1 _ this]
      rfl

theorem gRefValid_ok (l : List Bm) : ref19_Valid l = some (validG l) := by
  simp only [ref19_Valid, ref19_Valid_b, validG]
  by_cases h0 : l.length ≤ 20
  · rw [decide_eq_false (show ¬ ((l.length : Nat) : Int) > 20 by omega), decide_eq_true h0]
    simp only [cF, Bool.true_and]
    refine (lpK_up (α := Int × PUnit) l.length (by omega) (fun i (_ : Unit) => ((i : Int), PUnit.unit)) (fun i s k => bif beamB l i then k s else some false) (fun _ => some true) ?_ ?_ ()).trans ?_
    · intro again i _ hi
      have hw : IntKind.wrap .i64 ((i : Int) + 1) = ((i + 1 : Nat) : Int) := by rw [wrap_id (by omega) (by omega)]; rfl
      have he := fun (no : Option Bool) => earlier_loop (p := fun a : Bm => decide (a.1 = (bmAt l i).1)) (l := l) (i := i) (by omega) (by omega) (yes := some false) (no := no)
      simp only [inB_nat, decide_eq_true hi, decide_eq_true (show (i : Int) < l.length by omega), cT, Int.toNat_natCast, hw, show List.getD l i bm0 = bmAt l i from rfl, refIsName_ok, between_ok, obind_some', str_beq]
      rw [he]
      unfold beamB inW
      generalize bmAt l i = b at *
      obtain ⟨s, fr, to, mo⟩ := b
      simp only
      generalize decide (idxI (fun a : Bm => decide (a.1 = s)) (l.take i) 0 < 0) = q
      cases nameB s with
      | false => rfl
      | true =>
        by_cases g1 : 0 ≤ fr ∧ fr ≤ to
        · by_cases g2 : 0 ≤ to ∧ to ≤ 1048576
          · simp only [decide_eq_true g1, decide_eq_true g2, decide_eq_true (show (0 ≤ fr ∧ fr ≤ to ∧ to ≤ 1048576) by omega)]
            cases decide (0 ≤ mo ∧ mo ≤ 67108864) <;> cases q <;> simp [obind_some']
          · simp only [decide_eq_true g1, decide_eq_false g2, decide_eq_false (show ¬ (0 ≤ fr ∧ fr ≤ to ∧ to ≤ 1048576) by omega)]
            simp [obind_some']
        · simp only [decide_eq_false g1, decide_eq_false (show ¬ (0 ≤ fr ∧ fr ≤ to ∧ to ≤ 1048576) by omega)]
          simp [obind_some']
    · intro again _
      simp
    · exact upF_all l.length (fun i k _ => rfl) l.length 0 (by omega) |>.trans (by cases (List.range' 0 l.length).all (beamB l) <;> rfl)
  · rw [decide_eq_true (show ((l.length : Nat) : Int) > 20 by omega), decide_eq_false h0]
    rfl

end Go.Proofs.YtmoiiokmfanlgaaGreat

namespace Go.Proofs.YtmoiiokmfanlgaaGreat
open Tryz Dn Dn.Sh

abbrev HH := ByteArray × Int × List HS × List Bm
abbrev set0 : HS := ({ data := { toList := [] } }, (0 : Int), (0 : Int), (0 : Int), (0 : Int), [], (0 : Int), (0 : Int), (0 : Int), (0 : Int), (0 : Int), [], [])

/-! ### Small ones -/

def shortB (s : ByteArray) : Bool := !decide ((s.size : Int) > 60)
def small21B (s : HS) : Bool := shortB s.1 && (!decide ((s.2.2.2.2.2.1.length : Int) > 12) && (!(decide ((s.2.2.2.2.2.2.2.2.2.2.2.1.length : Int) > 8) && decide ((s.2.2.2.2.2.2.2.2.2.2.2.1.length : Int) ≤ 40)) && (!decide ((s.2.2.2.2.2.2.2.2.2.2.2.1.length : Int) > 45) &&
  (!decide ((s.2.2.2.2.2.2.2.2.2.2.2.2.length : Int) > 10) && (s.2.2.2.2.2.2.2.2.2.2.2.1.all (fun x => shortB x.1) && s.2.2.2.2.2.2.2.2.2.2.2.2.all (fun x => shortB x.1))))))

/-- A loop that checks each element of a list. -/
theorem chk_loop {α R : Type} {p : α → Bool} {d : α} {l : List α} {yes no : Option R} {F : (Int × PUnit → Option R) → Int × PUnit → Option R} (hl : l.length ≤ 1000000)
    (hb : ∀ again (i : Nat), i < l.length → F again ((i : Int), PUnit.unit) = bif p (l.getD i d) then again (((i + 1 : Nat) : Int), PUnit.unit) else no) (hf : ∀ again, F again ((l.length : Int), PUnit.unit) = yes) :
    lpK (Int × PUnit) R F ((0 : Int), PUnit.unit) = bif l.all p then yes else no := by
  refine (lpK_up (α := Int × PUnit) l.length (by omega) (fun i (_ : Unit) => ((i : Int), PUnit.unit)) (fun i s k => bif p (l.getD i d) then k s else no) (fun _ => yes) ?_ ?_ ()).trans ?_
  · intro again i _ hi
    exact hb again i hi
  · intro again _
    exact hf again
  · rw [upF_all l.length (fun i k _ => rfl) l.length 0 (by omega), all_range]

theorem small21_ok (s : HS) : ref21_Small s 8 = some (small21B s) := by
  obtain ⟨nm, dp, lo, hi, len, ls, pi, ar, pu, mo, br, l, bs⟩ := s
  simp only [ref21_Small, ref21_Small_b, small21B]
  have h1 : shortB nm = !decide ((nm.size : Int) > 60) := rfl
  rw [h1]
  generalize decide ((nm.size : Int) > 60) = b1
  generalize decide ((ls.length : Int) > 12) = b2
  generalize decide ((l.length : Int) > 8) = b3
  generalize decide ((l.length : Int) ≤ 40) = b4
  generalize hb5 : decide ((l.length : Int) > 45) = b5
  generalize hb6 : decide ((bs.length : Int) > 10) = b6
  cases b1; case true => rfl
  cases b2; case true => rfl
  have key : ∀ b : Bool, b5 = false → b6 = false → lpK (Int × PUnit) Bool (fun (again : Int × PUnit → Option Bool) (x : Int × PUnit) => bif decide (x.fst < (↑(List.length l) : Int)) then bif inB x.fst (List.length l) then bif decide ((↑(ByteArray.size (List.getD l (Int.toNat x.fst) itm0).fst) : Int) > (60 : Int)) then some false else again (IntKind.wrap IntKind.i64 (x.fst + (1 : Int)), PUnit.unit) else none else
      lpK (Int × PUnit) Bool (fun (again : Int × PUnit → Option Bool) (x : Int × PUnit) => bif decide (x.fst < (↑(List.length bs) : Int)) then bif inB x.fst (List.length bs) then bif decide ((↑(ByteArray.size (List.getD bs (Int.toNat x.fst) brk0).fst) : Int) > (60 : Int)) then some false else again (IntKind.wrap IntKind.i64 (x.fst + (1 : Int)), PUnit.unit) else none else some true) ((0 : Int), PUnit.unit)) ((0 : Int), PUnit.unit)
      = some (l.all (fun x => shortB x.1) && bs.all (fun x => shortB x.1)) := fun _ h5 h6 => by
    subst h5; subst h6
    have g5 : ¬ (l.length : Int) > 45 := of_decide_eq_false hb5
    have g6 : ¬ (bs.length : Int) > 10 := of_decide_eq_false hb6
    refine (chk_loop (p := fun x : Itm => shortB x.1) (d := itm0) (l := l) (no := some false) (yes := some (bs.all fun x => shortB x.1)) (by omega) ?_ ?_).trans ?_
    · intro again i hi
      have hw : IntKind.wrap .i64 ((i : Int) + 1) = ((i + 1 : Nat) : Int) := by rw [wrap_id (by omega) (by omega)]; rfl
      simp only [inB_nat, decide_eq_true hi, decide_eq_true (show (i : Int) < l.length by omega), cT, Int.toNat_natCast, hw]
      unfold shortB
      cases decide ((((l.getD i itm0).1.size : Nat) : Int) > 60) <;> rfl
    · intro again
      simp only [decide_eq_false (show ¬ (l.length : Int) < l.length by omega), cF]
      refine (chk_loop (p := fun x : Brk => shortB x.1) (d := brk0) (l := bs) (no := some false) (yes := some true) (by omega) ?_ ?_).trans ?_
      · intro again i hi
        have hw : IntKind.wrap .i64 ((i : Int) + 1) = ((i + 1 : Nat) : Int) := by rw [wrap_id (by omega) (by omega)]; rfl
        simp only [inB_nat, decide_eq_true hi, decide_eq_true (show (i : Int) < bs.length by omega), cT, Int.toNat_natCast, hw]
        unfold shortB
        cases decide ((((bs.getD i brk0).1.size : Nat) : Int) > 60) <;> rfl
      · intro again
        simp only [decide_eq_false (show ¬ (bs.length : Int) < bs.length by omega), cF]
      · cases bs.all (fun x => shortB x.1) <;> rfl
    · cases l.all (fun x => shortB x.1) <;> rfl
  cases b3 with
  | false =>
    cases b5; case true => rfl
    cases b6; case true => rfl
    simp only [Bool.not_true, Bool.not_false, Bool.or_true, Bool.true_or, Bool.or_false, Bool.false_or, Bool.and_self, Bool.true_and, Bool.and_true, Bool.false_and, Bool.and_false, cT, cF]
    exact key true rfl rfl
  | true =>
    cases b4; case true => rfl
    cases b5; case true => rfl
    cases b6; case true => rfl
    simp only [Bool.not_true, Bool.not_false, Bool.or_true, Bool.true_or, Bool.or_false, Bool.false_or, Bool.and_self, Bool.true_and, Bool.and_true, Bool.false_and, Bool.and_false, cT, cF]
    exact key true rfl rfl

def smallHB (h : HH) : Bool := !decide ((h.2.2.1.length : Int) > 6) && (!decide ((h.2.2.2.length : Int) > 16) && (shortB h.1 && (h.2.2.1.all small21B && h.2.2.2.all (fun x => shortB x.1))))
theorem smallH_ok (h : HH) : law30_small h = some (smallHB h) := by
  obtain ⟨nm, ht, ss, rs⟩ := h
  simp only [law30_small, law30_small_b, ref30_Small, ref30_Small_b, smallHB, small21_ok, obind_some']
  have h1 : shortB nm = !decide ((nm.size : Int) > 60) := rfl
  rw [h1, show IntKind.wrap .i64 (6 + 10) = 16 by kernel_rfl]
  generalize decide ((nm.size : Int) > 60) = b1
  generalize hb2 : decide ((ss.length : Int) > 6) = b2
  generalize hb3 : decide ((rs.length : Int) > 16) = b3
  cases b2; case true => rfl
  cases b3; case true => rfl
  cases b1; case true => rfl
  have g2 : ¬ (ss.length : Int) > 6 := of_decide_eq_false hb2
  have g3 : ¬ (rs.length : Int) > 16 := of_decide_eq_false hb3
  simp only [Bool.not_true, Bool.not_false, Bool.or_true, Bool.true_or, Bool.or_false, Bool.false_or, Bool.and_self, Bool.true_and, Bool.and_true, Bool.false_and, Bool.and_false, cT, cF]
  refine Eq.trans (congrArg (fun m : Option Bool => obind m fun t => some t) (chk_loop (p := small21B) (d := set0) (l := ss) (no := some false) (yes := some (rs.all fun x => shortB x.1)) (by omega) ?_ ?_)) ?_
  · intro again i hi
    have hw : IntKind.wrap .i64 ((i : Int) + 1) = ((i + 1 : Nat) : Int) := by rw [wrap_id (by omega) (by omega)]; rfl
    simp only [inB_nat, decide_eq_true hi, decide_eq_true (show (i : Int) < ss.length by omega), cT, Int.toNat_natCast, hw]
    cases small21B (ss.getD i set0) <;> rfl
  · intro again
    simp only [decide_eq_false (show ¬ (ss.length : Int) < ss.length by omega), cF]
    refine (chk_loop (p := fun x : Bm => shortB x.1) (d := bm0) (l := rs) (no := some false) (yes := some true) (by omega) ?_ ?_).trans ?_
    · intro again i hi
      have hw : IntKind.wrap .i64 ((i : Int) + 1) = ((i + 1 : Nat) : Int) := by rw [wrap_id (by omega) (by omega)]; rfl
      simp only [inB_nat, decide_eq_true hi, decide_eq_true (show (i : Int) < rs.length by omega), cT, Int.toNat_natCast, hw]
      unfold shortB
      cases decide ((((rs.getD i bm0).1.size : Nat) : Int) > 60) <;> rfl
    · intro again
      simp only [decide_eq_false (show ¬ (rs.length : Int) < rs.length by omega), cF]
    · cases rs.all (fun x => shortB x.1) <;> rfl
  · cases ss.all small21B <;> cases rs.all (fun x => shortB x.1) <;> rfl
theorem small_len {h : HH} (hs : smallHB h = true) : h.2.2.1.length ≤ 6 ∧ h.2.2.2.length ≤ 16 ∧ ∀ s ∈ h.2.2.1, s.2.2.2.2.2.1.length ≤ 12 ∧ s.2.2.2.2.2.2.2.2.2.2.2.1.length ≤ 45 ∧ s.2.2.2.2.2.2.2.2.2.2.2.2.length ≤ 10 := by
  simp only [smallHB, Bool.and_eq_true, Bool.not_eq_true', decide_eq_false_iff_not, List.all_eq_true] at hs
  obtain ⟨h1, h2, _, h4, _⟩ := hs
  refine ⟨by omega, by omega, fun s hm => ?_⟩
  have := h4 s hm
  simp only [small21B, Bool.and_eq_true, Bool.not_eq_true', decide_eq_false_iff_not] at this
  obtain ⟨_, g1, _, g2, g3, _⟩ := this
  omega

/-! ### Names of sets -/

def findI (h : HH) (n : ByteArray) : Int := idxI (fun s : HS => decide (s.1 = n)) h.2.2.1 0
theorem find_ok (h : HH) (n : ByteArray) (hl : h.2.2.1.length ≤ 1000000) : house_find h n = some (findI h n) := by
  simp only [house_find, house_find_b, house_find_1, house_find_1_b, str_beq]
  unfold slices_IndexFunc_50 slices_IndexFunc_50_b
  exact congrArg (fun m : Option Int => obind m fun t => some t) (index_loop (f := fun x : HS × Unit => some (decide (x.1.1 = n))) (p := fun s : HS => decide (s.1 = n)) (d := set0) hl (fun a _ => rfl))
theorem findSet_ok (h : HH) (n : ByteArray) (hl : h.2.2.1.length ≤ 1000000) : ref30_FindSet h n = some (findI h n) := by
  simp only [ref30_FindSet, ref30_FindSet_b, str_beq]
  exact find_loop (p := fun s : HS => decide (s.1 = n)) (d := set0) hl

/-! ### Valid ones -/

noncomputable def validHB (h : HH) : Bool := nameB h.1 && (!decide (h.2.1 < 1) && (!decide (h.2.1 > 1048576) && (!decide ((h.2.2.1.length : Int) > 60) && (validG h.2.2.2 && (List.range' 0 h.2.2.1.length).all fun i => setB (h.2.2.1.getD i set0) && (!decide ((h.2.2.1.getD i set0).2.2.2.1 > h.2.1) && decide (findI h (h.2.2.1.getD i set0).1 = (i : Int)))))))

theorem hValid_ok (h : HH) : house_Valid h = some (validHB h) := by
  obtain ⟨nm, ht, ss, rs⟩ := h
  simp only [house_Valid, house_Valid_b, isName_ok, gValid_ok, validA_ok, obind_bif, obind_some', validHB]
  generalize nameB nm = b1
  generalize decide (ht < 1) = b2
  generalize decide (ht > 1048576) = b3
  generalize hb4 : decide ((ss.length : Int) > 60) = b4
  generalize validG rs = b5
  cases b1; · rfl
  cases b2; case true => rfl
  cases b3; case true => rfl
  cases b4; case true => rfl
  cases b5; · rfl
  have g4 : ¬ (ss.length : Int) > 60 := of_decide_eq_false hb4
  have hfind := fun n => find_ok (nm, ht, ss, rs) n (by simp only; omega)
  simp only [Bool.not_true, Bool.not_false, Bool.or_true, Bool.true_or, Bool.or_false, Bool.false_or, Bool.and_self, Bool.true_and, Bool.and_true, Bool.false_and, Bool.and_false, cT, cF]
  refine (lpK_up (α := Int × PUnit) ss.length (by omega) (fun i (_ : Unit) => ((i : Int), PUnit.unit)) (fun i s k => bif setB (ss.getD i set0) && (!decide ((ss.getD i set0).2.2.2.1 > ht) && decide (findI (nm, ht, ss, rs) (ss.getD i set0).1 = (i : Int))) then k s else some false) (fun _ => some true) ?_ ?_ ()).trans ?_
  · intro again i _ hi
    have hw : IntKind.wrap .i64 ((i : Int) + 1) = ((i + 1 : Nat) : Int) := by rw [wrap_id (by omega) (by omega)]; rfl
    simp only [inB_nat, decide_eq_true hi, decide_eq_true (show (i : Int) < ss.length by omega), cT, Int.toNat_natCast, hw, hfind, show List.getD ss i ({ data := { toList := [] } }, (0 : Int), (0 : Int), (0 : Int), (0 : Int), [], (0 : Int), (0 : Int), (0 : Int), (0 : Int), (0 : Int), [], []) = ss.getD i set0 from rfl]
    generalize hf : decide (findI (nm, ht, ss, rs) (ss.getD i set0).1 = (i : Int)) = b6
    cases setB (ss.getD i set0) with
    | false => rfl
    | true =>
      cases decide ((ss.getD i set0).2.2.2.1 > ht) with
      | true => rfl
      | false =>
        simp only [Bool.not_true, Bool.not_false, Bool.or_true, Bool.true_or, Bool.or_false, Bool.false_or, Bool.and_self, Bool.true_and, cT, cF, obind_some', hf]
        cases b6 <;> rfl
  · intro again _
    simp only [decide_eq_false (show ¬ (ss.length : Int) < ss.length by omega), cF]
  · rw [upF_all ss.length (fun i k _ => rfl) ss.length 0 (by omega)]
    cases (List.range' 0 ss.length).all fun i => setB (ss.getD i set0) && (!decide ((ss.getD i set0).2.2.2.1 > ht) && decide (findI (nm, ht, ss, rs) (ss.getD i set0).1 = (i : Int))) <;> rfl

theorem hRefValid_ok (h : HH) (hL : ∀ s ∈ h.2.2.1, s.2.2.2.2.2.2.2.2.2.2.2.1.length ≤ 1000000) : ref30_Valid h = some (validHB h) := by
  obtain ⟨nm, ht, ss, rs⟩ := h
  simp only at hL
  simp only [ref30_Valid, ref30_Valid_b, refIsName_ok, gRefValid_ok, obind_bif, obind_some', validHB]
  generalize nameB nm = b1
  generalize decide (ht < 1) = b2
  generalize decide (ht > 1048576) = b3
  generalize hb4 : decide ((ss.length : Int) > 60) = b4
  generalize validG rs = b5
  cases b1; · rfl
  cases b2; case true => rfl
  cases b3; case true => rfl
  cases b4; case true => rfl
  cases b5; · rfl
  have g4 : ¬ (ss.length : Int) > 60 := of_decide_eq_false hb4
  have hfind := fun n => findSet_ok (nm, ht, ss, rs) n (by simp only; omega)
  simp only [Bool.not_true, Bool.not_false, Bool.or_true, Bool.true_or, Bool.or_false, Bool.false_or, Bool.and_self, Bool.true_and, Bool.and_true, Bool.false_and, Bool.and_false, cT, cF]
  refine (lpK_up (α := Int × PUnit) ss.length (by omega) (fun i (_ : Unit) => ((i : Int), PUnit.unit)) (fun i s k => bif setB (ss.getD i set0) && (!decide ((ss.getD i set0).2.2.2.1 > ht) && decide (findI (nm, ht, ss, rs) (ss.getD i set0).1 = (i : Int))) then k s else some false) (fun _ => some true) ?_ ?_ ()).trans ?_
  · intro again i _ hi
    have hw : IntKind.wrap .i64 ((i : Int) + 1) = ((i + 1 : Nat) : Int) := by rw [wrap_id (by omega) (by omega)]; rfl
    have hv : ref21_Valid (ss.getD i set0) = some (setB (ss.getD i set0)) := validR_ok _ (hL _ (by rw [getD_nat hi]; exact List.getElem_mem _))
    simp only [inB_nat, decide_eq_true hi, decide_eq_true (show (i : Int) < ss.length by omega), cT, Int.toNat_natCast, hw, hfind, show List.getD ss i ({ data := { toList := [] } }, (0 : Int), (0 : Int), (0 : Int), (0 : Int), [], (0 : Int), (0 : Int), (0 : Int), (0 : Int), (0 : Int), [], []) = ss.getD i set0 from rfl, hv, obind_some']
    generalize hf : decide (findI (nm, ht, ss, rs) (ss.getD i set0).1 = (i : Int)) = b6
    cases setB (ss.getD i set0) with
    | false => rfl
    | true =>
      cases decide ((ss.getD i set0).2.2.2.1 > ht) with
      | true => rfl
      | false =>
        simp only [Bool.not_true, Bool.not_false, Bool.or_true, Bool.true_or, Bool.or_false, Bool.false_or, Bool.and_self, Bool.true_and, cT, cF, obind_some', hf]
        cases b6 <;> rfl
  · intro again _
    simp only [decide_eq_false (show ¬ (ss.length : Int) < ss.length by omega), cF]
  · rw [upF_all ss.length (fun i k _ => rfl) ss.length 0 (by omega)]
    cases (List.range' 0 ss.length).all fun i => setB (ss.getD i set0) && (!decide ((ss.getD i set0).2.2.2.1 > ht) && decide (findI (nm, ht, ss, rs) (ss.getD i set0).1 = (i : Int))) <;> rfl

end Go.Proofs.YtmoiiokmfanlgaaGreat

namespace Go.Proofs.YtmoiiokmfanlgaaGreat
open Tryz Dn Dn.Sh

/-- A walk that answers at a place with a property, and else adds to a list. -/
theorem upF_app {α R : Type} {f : List α → Option R} {g : Nat → α} {c : Nat → Bool} {r : Option R} {n w : Nat} (hn : n ≤ 1000000) (hw : w ≤ 1000) {b : Nat → List α → (List α → Option R) → Option R}
    (hb : ∀ i s k, i < n → b i s k = bif c i then r else bif fitB (s.length + 1) w then k (s ++ [g i]) else none) : ∀ (k i : Nat) (s : List α), i + k ≤ n → s.length ≤ i → upF b f k i s = bif (List.range' i k).any c then r else f (s ++ (List.range' i k).map g)
  | 0, i, s, _, _ => by simp [upF]
  | k + 1, i, s, h, hs => by
    simp only [upF, hb i s _ (by omega), List.range'_succ, List.any_cons, List.map_cons]
    cases hc : c i with
    | true => rfl
    | false =>
      have : (s.length + 1) * w ≤ 1000001 * 1000 := Nat.mul_le_mul (by omega) hw
      rw [fitB_of (by omega), cT, cF, upF_app hn hw hb k (i + 1) (s ++ [g i]) (by omega) (by rw [List.length_append, List.length_singleton]; omega), Bool.false_or, List.append_assoc]
      rfl

theorem upF_foldl {α σ R : Type} {d : α} {l : List α} {f : σ → Option R} {g : σ → α → σ} {b : Nat → σ → (σ → Option R) → Option R} (hb : ∀ i s k, i < l.length → b i s k = k (g s (l.getD i d))) (s : σ) : upF b f l.length 0 s = f (l.foldl g s) := by
  rw [upF_chk (q := fun _ => true) (g := fun i s => g s (l.getD i d)) (r := none) l.length (fun i s k h => hb i s k h) l.length 0 s (by omega), range_fold (g := g) (d := d) l.length 0 s (by omega), List.drop_zero]
  rw [show (List.range' 0 l.length).all (fun _ => true) = true from List.all_eq_true.2 fun _ _ => rfl, cT]

/-! ### The weight of a set, and of its bricks -/

def wPipe (s : HS) : Int := IntKind.wrap .i64 (s.2.2.2.2.2.2.1 * IntKind.wrap .i64 (Int.tdiv s.2.2.2.2.1 1000))
def addI (a : Int) (x : Itm) : Int := IntKind.wrap .i64 (a + x.2.2.2.1)
def weightI (s : HS) : Int := s.2.2.2.2.2.2.2.2.2.2.2.1.foldl addI (wPipe s)
theorem pipeA_ok (s : HS) : batten_pipe s = some (wPipe s) := by simp only [batten_pipe, batten_pipe_b, wPipe]
theorem pipeR_ok (s : HS) : ref21_Pipe s = some (wPipe s) := by simp only [ref21_Pipe, ref21_Pipe_b, wPipe]
theorem weightA_ok (s : HS) (hl : s.2.2.2.2.2.2.2.2.2.2.2.1.length ≤ 1000000) : batten_weight s = some (weightI s) := by
  obtain ⟨nm, dp, lo, hi, len, ls, pi, ar, pu, mo, br, l, bs⟩ := s
  simp only at hl
  simp only [batten_weight, batten_weight_b, pipeA_ok, obind_some', weightI]
  generalize wPipe (nm, dp, lo, hi, len, ls, pi, ar, pu, mo, br, l, bs) = a0
  refine (lpK_up (α := Int × Int × PUnit) l.length (by omega) (fun i (s : Int) => (s, (i : Int), PUnit.unit)) (fun i s k => k (addI s (l.getD i itm0))) (fun s => some s) ?_ ?_ _).trans ?_
  · intro again i s hi
    have hw : IntKind.wrap .i64 ((i : Int) + 1) = ((i + 1 : Nat) : Int) := by rw [wrap_id (by omega) (by omega)]; rfl
    simp only [inB_nat, decide_eq_true hi, decide_eq_true (show (i : Int) < l.length by omega), cT, Int.toNat_natCast, hw]
    rfl
  · intro again s
    simp only [decide_eq_false (show ¬ (l.length : Int) < l.length by omega), cF]
  · exact upF_foldl (g := addI) (d := itm0) (fun _ _ _ _ => rfl) _
theorem weightR_ok (s : HS) (hl : s.2.2.2.2.2.2.2.2.2.2.2.1.length ≤ 1000000) : ref21_Weight s = some (weightI s) := by
  obtain ⟨nm, dp, lo, hi, len, ls, pi, ar, pu, mo, br, l, bs⟩ := s
  simp only at hl
  simp only [ref21_Weight, ref21_Weight_b, pipeR_ok, obind_some', weightI]
  generalize wPipe (nm, dp, lo, hi, len, ls, pi, ar, pu, mo, br, l, bs) = a0
  refine (lpK_up (α := Int × Int × PUnit) l.length (by omega) (fun i (s : Int) => (s, (i : Int), PUnit.unit)) (fun i s k => k (addI s (l.getD i itm0))) (fun s => some s) ?_ ?_ _).trans ?_
  · intro again i s hi
    have hw : IntKind.wrap .i64 ((i : Int) + 1) = ((i + 1 : Nat) : Int) := by rw [wrap_id (by omega) (by omega)]; rfl
    simp only [inB_nat, decide_eq_true hi, decide_eq_true (show (i : Int) < l.length by omega), cT, Int.toNat_natCast, hw]
    rfl
  · intro again s
    simp only [decide_eq_false (show ¬ (l.length : Int) < l.length by omega), cF]
  · exact upF_foldl (g := addI) (d := itm0) (fun _ _ _ _ => rfl) _

def addBk (a : Int) (b : Brk) : Int := IntKind.wrap .i64 (a + IntKind.wrap .i64 (b.2.1 * b.2.2))
def sumI (l : List Brk) : Int := l.foldl addBk 0
def cntsB (l : List Brk) : List Int := l.map fun b => b.2.2
theorem cnts_at (l : List Brk) (i : Nat) (h : i < l.length) : (cntsB l).getD i 0 = (l.getD i brk0).2.2 := by
  rw [getD_nat (by unfold cntsB; rw [List.length_map]; exact h), getD_nat h]
  unfold cntsB
  rw [List.getElem_map]
theorem range_map {α β : Type} {d : α} {g : α → β} {l : List α} : (List.range' 0 l.length).map (fun i => g (l.getD i d)) = l.map g := by
  apply List.ext_getElem
  · simp
  · intro i h1 h2
    simp only [List.length_map, List.length_range'] at h1
    rw [List.getElem_map, List.getElem_map, List.getElem_range', Nat.one_mul, Nat.zero_add, getD_nat h1]
theorem counts_ok (l : List Brk) (hl : l.length ≤ 1000000) : ref25_Counts l = some (cntsB l) := by
  simp only [ref25_Counts, ref25_Counts_b]
  refine (lpK_up (α := List Int × Int × PUnit) l.length (by omega) (fun i (s : List Int) => (s, (i : Int), PUnit.unit)) (fun i s k => bif false then none else bif fitB (s.length + 1) 8 then k (s ++ [(l.getD i brk0).2.2]) else none) (fun s => some s) ?_ ?_ []).trans ?_
  · intro again i s hi
    have hw : IntKind.wrap .i64 ((i : Int) + 1) = ((i + 1 : Nat) : Int) := by rw [wrap_id (by omega) (by omega)]; rfl
    simp only [inB_nat, decide_eq_true hi, decide_eq_true (show (i : Int) < l.length by omega), cT, cF, Int.toNat_natCast, hw]
  · intro again s
    simp only [decide_eq_false (show ¬ (l.length : Int) < l.length by omega), cF]
  · rw [upF_app (c := fun _ => false) (g := fun i => (l.getD i brk0).2.2) (r := none) (w := 8) hl (by omega) (fun i s k _ => rfl) l.length 0 [] (by omega) (by simp), range_map (g := fun b : Brk => b.2.2)]
    rw [show (List.range' 0 l.length).any (fun _ => false) = false from List.any_eq_false.2 fun _ _ h => by cases h]
    rfl
theorem sumR_ok (l : List Brk) (hl : l.length ≤ 1000000) : ref25_Sum l (cntsB l) = some (sumI l) := by
  simp only [ref25_Sum, ref25_Sum_b]
  have hc : (cntsB l).length = l.length := by unfold cntsB; rw [List.length_map]
  refine (lpK_up (α := Int × Int × PUnit) l.length (by omega) (fun i (s : Int) => (s, (i : Int), PUnit.unit)) (fun i s k => k (addBk s (l.getD i brk0))) (fun s => some s) ?_ ?_ 0).trans ?_
  · intro again i s hi
    have hw : IntKind.wrap .i64 ((i : Int) + 1) = ((i + 1 : Nat) : Int) := by rw [wrap_id (by omega) (by omega)]; rfl
    simp only [inB_nat, hc, decide_eq_true hi, decide_eq_true (show (i : Int) < l.length by omega), cT, Int.toNat_natCast, hw, cnts_at l i hi]
    rfl
  · intro again s
    simp only [decide_eq_false (show ¬ (l.length : Int) < l.length by omega), cF]
  · exact upF_foldl (g := addBk) (d := brk0) (fun _ _ _ _ => rfl) _

theorem arborValid_ok (l : List Brk) : arbor_Valid l = some (bricksB l) := by
  simp only [arbor_Valid, arbor_Valid_b, bricksB]
  by_cases h0 : l.length ≤ 8
  · rw [decide_eq_false (show ¬ ((l.length : Nat) : Int) > 8 by omega), decide_eq_true h0]
    simp only [cF, Bool.true_and]
    refine (lpK_up (α := Int × Int × PUnit) l.length (by omega) (fun i (s : Int) => (s, (i : Int), PUnit.unit)) (fun i s k => bif brickB (l.getD i brk0) && earlyN (fun a b => decide (a.1 = b.1)) brk0 l i then k (addW s (l.getD i brk0)) else some false) (fun s => some (decide (s ≤ 60))) ?_ ?_ 0).trans ?_
    · intro again i s hi
      have hw : IntKind.wrap .i64 ((i : Int) + 1) = ((i + 1 : Nat) : Int) := by rw [wrap_id (by omega) (by omega)]; rfl
      have hs : slB (0 : Int) (i : Int) l.length = true := slB_of (by omega) (by omega) (by omega)
      have hc : slices_ContainsFunc_104 (List.drop 0 (List.take i l)) (fun x => arbor_Valid_1 x.1 (l.getD i brk0)) = some ((l.take i).any fun a => decide (a.1 = (l.getD i brk0).1)) :=
        containsB (l := List.drop 0 (List.take i l)) (by rw [List.drop_zero, List.length_take]; omega) fun a _ => by
          simp only [arbor_Valid_1, arbor_Valid_1_b, str_beq]
      simp only [inB_nat, decide_eq_true hi, decide_eq_true (show (i : Int) < l.length by omega), cT, Int.toNat_natCast, hw, show List.getD l i ({ data := { toList := [] } }, (0 : Int), (0 : Int)) = l.getD i brk0 from rfl, isName_ok, obind_some', hs, hc]
      unfold earlyN brickB btw addW
      generalize (l.take i).any (fun a => decide (a.1 = (l.getD i brk0).1)) = q
      generalize l.getD i brk0 = b
      cases nameB b.1 with
      | false => rfl
      | true =>
        by_cases g1 : b.2.1 < 1
        · rw [decide_eq_true g1, decide_eq_false (show ¬ 1 ≤ b.2.1 by omega)]; rfl
        · rw [decide_eq_false g1, decide_eq_true (show 1 ≤ b.2.1 by omega)]
          by_cases g2 : b.2.1 > 1048576
          · rw [decide_eq_true g2, decide_eq_false (show ¬ b.2.1 ≤ 1048576 by omega)]; rfl
          · rw [decide_eq_false g2, decide_eq_true (show b.2.1 ≤ 1048576 by omega)]
            by_cases g3 : b.2.2 < 0
            · rw [decide_eq_true g3, decide_eq_false (show ¬ 0 ≤ b.2.2 by omega)]; rfl
            · rw [decide_eq_false g3, decide_eq_true (show 0 ≤ b.2.2 by omega)]
              by_cases g4 : b.2.2 > 60
              · rw [decide_eq_true g4, decide_eq_false (show ¬ b.2.2 ≤ 60 by omega)]; rfl
              · rw [decide_eq_false g4, decide_eq_true (show b.2.2 ≤ 60 by omega)]
                cases q <;> rfl
    · intro again s
      simp only [decide_eq_false (show ¬ (l.length : Int) < l.length by omega), cF]
    · rw [upF_chk (q := fun i => brickB (l.getD i brk0) && earlyN (fun a b => decide (a.1 = b.1)) brk0 l i) (g := fun i s => addW s (l.getD i brk0)) (r := some false) l.length (fun i s k _ => rfl) l.length 0 0 (by omega), all_and, all_range, early_nodup (f := fun x : Brk => x.1), range_fold (g := addW) (d := brk0) l.length 0 0 (by omega), List.drop_zero]
      cases l.all brickB <;> cases nodupB (l.map fun x => x.1) <;> rfl
  · rw [decide_eq_true (show ((l.length : Nat) : Int) > 8 by omega), decide_eq_false h0]
    rfl

theorem bricks_all {l : List Brk} (h : bricksB l = true) : l.length ≤ 8 ∧ ∀ b ∈ l, 1 ≤ b.2.1 ∧ b.2.1 ≤ 1048576 ∧ 0 ≤ b.2.2 ∧ b.2.2 ≤ 60 := by
  unfold bricksB at h
  rw [Bool.and_eq_true, Bool.and_eq_true, decide_eq_true_iff, List.all_eq_true] at h
  refine ⟨h.1, fun b hb => ?_⟩
  have := h.2.1 b hb
  unfold brickB btw at this
  simp only [Bool.and_eq_true, decide_eq_true_iff] at this
  omega

theorem arborWeight_ok {l : List Brk} (h : bricksB l = true) : arbor_Weight l (cntsB l) = some (sumI l, 0, ()) := by
  have hc : (cntsB l).length = l.length := by unfold cntsB; rw [List.length_map]
  obtain ⟨h1, h2⟩ := bricks_all h
  simp only [arbor_Weight, arbor_Weight_b, arborValid_ok, h, obind_some', hc, decide_true, Bool.not_true, cF]
  refine (lpK_up (α := Int × Int × PUnit) l.length (by omega) (fun i (s : Int) => (s, (i : Int), PUnit.unit)) (fun i s k => k (addBk s (l.getD i brk0))) (fun s => some (s, 0, ())) ?_ ?_ 0).trans ?_
  · intro again i s hi
    have hw : IntKind.wrap .i64 ((i : Int) + 1) = ((i + 1 : Nat) : Int) := by rw [wrap_id (by omega) (by omega)]; rfl
    have hm := h2 (l.getD i brk0) (by rw [getD_nat hi]; exact List.getElem_mem _)
    simp only [inB_nat, decide_eq_true hi, decide_eq_true (show (i : Int) < l.length by omega), cT, Int.toNat_natCast, hw, cnts_at l i hi, show List.getD l i ({ data := { toList := [] } }, (0 : Int), (0 : Int)) = l.getD i brk0 from rfl, decide_eq_false (show ¬ (l.getD i brk0).2.2 < 0 by omega), decide_eq_false (show ¬ (l.getD i brk0).2.2 > (l.getD i brk0).2.2 by omega)]
    simp only [Bool.not_true, Bool.not_false, Bool.or_true, Bool.true_or, Bool.or_false, Bool.false_or, Bool.and_self, cT, cF]
    unfold addBk
    rw [Int.mul_comm]
  · intro again s
    simp only [decide_eq_false (show ¬ (l.length : Int) < l.length by omega), cF]
  · exact upF_foldl (g := addBk) (d := brk0) (fun _ _ _ _ => rfl) _

end Go.Proofs.YtmoiiokmfanlgaaGreat

namespace Go.Proofs.YtmoiiokmfanlgaaGreat
open Tryz Dn Dn.Sh

def isB (d : Int) (b : Bm) : Bool := decide (b.2.1 ≤ d) && decide (d ≤ b.2.2.1)
def cntB (l : List Bm) (d : Int) : Nat := (l.filter (isB d)).length

theorem overG_cons' (d : Int) (b : Bm) (r : List Bm) (i : Int) : overG d (b :: r) i = bif isB d b then (i, ()) :: overG d r (i + 1) else overG d r (i + 1) := rfl
theorem overG_len (d : Int) : ∀ (r : List Bm) (i : Int), (overG d r i).length = cntB r d
  | [], _ => rfl
  | b :: r, i => by
    rw [overG_cons']
    unfold cntB
    rw [List.filter_cons]
    cases isB d b with
    | true => simp only [cond_true, List.length_cons, if_true]; rw [overG_len d r (i + 1)]; rfl
    | false => simp only [cond_false, Bool.false_eq_true, if_false]; rw [overG_len d r (i + 1)]; rfl
theorem overL_len (l : List Bm) (d : Int) : (overL l d).length = cntB l d := overG_len d l 0
theorem cntB_le (l : List Bm) (d : Int) : cntB l d ≤ l.length := List.length_filter_le _ _

/-- What a walk over the places of the beams over a depth sees: these beams, in order. -/
theorem overG_walk {σ R : Type} {d : Int} {l : List Bm} {b : Int × Unit → σ → (σ → Option R) → Option R} {c : Nat → Bm → σ → (σ → Option R) → Option R} {f : σ → Option R} (h : ∀ i s k, i < l.length → b ((i : Int), ()) s k = c i (bmAt l i) s k) :
    ∀ (n k : Nat) (s : σ), k + n = l.length → listF b f (overG d (l.drop k) k) s = upF (fun i s k => bif isB d (bmAt l i) then c i (bmAt l i) s k else k s) f n k s
  | 0, k, s, hk => by
    rw [List.drop_of_length_le (by omega)]
    rfl
  | n + 1, k, s, hk => by
    have hk' : k < l.length := by omega
    rw [List.drop_eq_getElem_cons hk', overG_cons']
    have e : l[k] = bmAt l k := (getD_nat hk').symm
    rw [e]
    simp only [upF]
    have ih := fun s' => overG_walk (d := d) (f := f) h n (k + 1) s' (by omega)
    cases isB d (bmAt l k) with
    | false => rw [cond_false, cond_false]; exact ih s
    | true =>
      rw [cond_true, cond_true]
      simp only [listF]
      rw [h k s _ hk']
      congr 1
      funext s'
      exact ih s'

theorem overP_of {l : List Bm} (h : l.length ≤ 1000000) : overP l = true := ble_of (by omega)

theorem count_ok {l : List Bm} (h : l.length ≤ 1000000) (d : Int) : grid_beams_count l d = some (cntB l d : Int) := by
  simp only [grid_beams_count, grid_beams_count_b]
  rw [overP_of h, cT]
  have hle := cntB_le l d
  refine (lpK_nat (overL l d) ((0 : Int), ()) (by rw [overL_len]; omega) (fun (_ : Int × Unit) (s : Int × PUnit) k => k (IntKind.wrap .i64 (s.1 + 1), PUnit.unit)) (fun s => some s.1) ?_ ?_ ((0 : Int), PUnit.unit)).trans ?_
  · intro again i s hi
    rw [show Nat.ble (Nat.succ i) (overL l d).length = true from ble_of (by omega), cT]
  · intro again s
    rw [show Nat.ble (Nat.succ (overL l d).length) (overL l d).length = false by rw [Bool.eq_false_iff]; intro e; have := Nat.le_of_ble_eq_true e; omega, cF]
  · have key : ∀ (L : List (Int × Unit)) (n : Nat), n + L.length ≤ 1000000 → listF (fun (_ : Int × Unit) (s : Int × PUnit) (k : Int × PUnit → Option Int) => k (IntKind.wrap .i64 (s.1 + 1), PUnit.unit)) (fun s => some s.1) L ((n : Int), PUnit.unit) = some ((n + L.length : Nat) : Int) := by
      intro L
      induction L with
      | nil => intro n _; rfl
      | cons a L ih =>
        intro n hn
        simp only [List.length_cons] at hn
        simp only [listF]
        rw [wrap_id (by omega) (by omega)]
        have := ih (n + 1) (by omega)
        rw [show ((n + 1 : Nat) : Int) = (n : Int) + 1 by omega] at this
        rw [this]
        congr 1
        simp only [List.length_cons]
        omega
    rw [← overL_len]
    have := key (overL l d) 0 (by rw [overL_len]; omega)
    rw [Nat.zero_add] at this
    exact this

theorem is_ok (b : Bm) (d : Int) : ref19_Is b d = some (isB d b) := by
  simp only [ref19_Is, ref19_Is_b, between_ok, obind_some', isB, Bool.decide_and]

theorem refCount_ok {l : List Bm} (h : l.length ≤ 1000000) (d : Int) : ref19_Count l d = some (cntB l d : Int) := by
  simp only [ref19_Count, ref19_Count_b]
  refine (lpK_int l bm0 (by omega) (fun i (s : Int) => (s, ((i : Nat) : Int), PUnit.unit)) (fun b s k => bif isB d b then k (IntKind.wrap .i64 (s + 1)) else k s) (fun s => some s) ?_ ?_ (0 : Int)).trans ?_
  · intro again i s hi
    have hw : IntKind.wrap .i64 ((i : Int) + 1) = ((i + 1 : Nat) : Int) := by rw [wrap_id (by omega) (by omega)]; rfl
    simp only [inB_nat, decide_eq_true hi, decide_eq_true (show (i : Int) < l.length by omega), cT, Int.toNat_natCast, hw, is_ok, obind_some']
  · intro again s
    simp only [decide_eq_false (show ¬ (l.length : Int) < l.length by omega), cF]
  · have key : ∀ (L : List Bm) (n : Nat), n + L.length ≤ 1000000 → listF (fun b (s : Int) (k : Int → Option Int) => bif isB d b then k (IntKind.wrap .i64 (s + 1)) else k s) (fun s => some s) L (n : Int) = some ((n + cntB L d : Nat) : Int) := by
      intro L
      induction L with
      | nil => intro n _; rfl
      | cons a L ih =>
        intro n hn
        simp only [List.length_cons] at hn
        simp only [listF, cntB, List.filter_cons]
        cases isB d a with
        | true =>
          rw [cond_true, wrap_id (by omega) (by omega)]
          have := ih (n + 1) (by omega)
          rw [show ((n + 1 : Nat) : Int) = (n : Int) + 1 by omega] at this
          rw [this]
          simp only [if_true, List.length_cons, cntB]
          congr 1
          omega
        | false =>
          rw [cond_false]
          simp only [Bool.false_eq_true, if_false]
          exact ih n (by omega)
    have := key l 0 (by omega)
    rw [Nat.zero_add] at this
    exact this

end Go.Proofs.YtmoiiokmfanlgaaGreat

namespace Go.Proofs.YtmoiiokmfanlgaaGreat
namespace Dn

abbrev Fq := Int × Int

/-- A pair in lowest terms that fits. -/
def okF (a : Fq) : Prop := (1 ≤ a.2 ∧ a.2 ≤ 1152921504606846976) ∧ (-1152921504606846976 ≤ a.1 ∧ a.1 ≤ 1152921504606846976) ∧ Nat.gcd a.1.natAbs a.2.natAbs = 1
instance (a : Fq) : Decidable (okF a) := by unfold okF; infer_instance

def qv (a : Fq) : Rat := mkRat a.1 a.2.toNat
def fitsQ (q : Rat) : Prop := q.num.natAbs ≤ 1152921504606846976 ∧ q.den ≤ 1152921504606846976
instance (q : Rat) : Decidable (fitsQ q) := by unfold fitsQ; infer_instance
def prQ (q : Rat) : Fq := (q.num, (q.den : Int))
/-- What an operation with the result 'q' answers. -/
def fitQ (q : Rat) : Fq × Int × Unit := if fitsQ q then (prQ q, 0, ()) else ((0, 0), 5, ())

theorem okF_num {a : Fq} (h : okF a) : (qv a).num = a.1 := by
  obtain ⟨⟨h1, h2⟩, _, h3⟩ := h
  have h0 : a.2.toNat ≠ 0 := by omega
  have h4 : Nat.gcd a.2.toNat a.1.natAbs = 1 := by rw [Nat.gcd_comm, show a.2.toNat = a.2.natAbs by omega]; exact h3
  rw [qv, Rat.num_mkRat, if_neg h0, h4]
  simp
theorem okF_den {a : Fq} (h : okF a) : ((qv a).den : Int) = a.2 := by
  obtain ⟨⟨h1, h2⟩, _, h3⟩ := h
  have h0 : a.2.toNat ≠ 0 := by omega
  have h4 : Nat.gcd a.2.toNat a.1.natAbs = 1 := by rw [Nat.gcd_comm, show a.2.toNat = a.2.natAbs by omega]; exact h3
  rw [qv, Rat.den_mkRat, if_neg h0, h4]
  simp; omega
theorem prQ_qv {a : Fq} (h : okF a) : prQ (qv a) = a := by
  unfold prQ
  rw [okF_num h, okF_den h]
theorem qv_prQ (q : Rat) : qv (prQ q) = q := by
  unfold qv prQ
  simp only [Int.toNat_natCast]
  exact Rat.mkRat_self q
theorem okF_prQ {q : Rat} (h : fitsQ q) : okF (prQ q) := by
  obtain ⟨h1, h2⟩ := h
  have := q.den_pos
  refine ⟨⟨?_, ?_⟩, ⟨?_, ?_⟩, ?_⟩
  · simp only [prQ]; omega
  · simp only [prQ]; omega
  · simp only [prQ]; omega
  · simp only [prQ]; omega
  · simp only [prQ]
    rw [Int.natAbs_natCast]
    exact q.reduced
theorem fitsQ_qv {a : Fq} (h : okF a) : fitsQ (qv a) := by
  unfold fitsQ
  have h1 := okF_num h
  have h2 := okF_den h
  obtain ⟨⟨_, _⟩, ⟨_, _⟩, _⟩ := h
  rw [h1]
  omega
theorem fitQ_qv {a : Fq} (h : okF a) : fitQ (qv a) = (a, 0, ()) := by
  unfold fitQ
  rw [if_pos (fitsQ_qv h), prQ_qv h]
theorem qv_inj {a b : Fq} (ha : okF a) (hb : okF b) (h : qv a = qv b) : a = b := by
  rw [← prQ_qv ha, ← prQ_qv hb, h]
theorem qv_iff {a b : Fq} (ha : okF a) (hb : okF b) : qv a = qv b ↔ a = b := ⟨qv_inj ha hb, fun h => by rw [h]⟩
theorem fitQ_cases (q : Rat) : (fitsQ q ∧ fitQ q = (prQ q, 0, ())) ∨ (¬ fitsQ q ∧ fitQ q = ((0, 0), 5, ())) := by
  unfold fitQ
  by_cases h : fitsQ q
  · exact .inl ⟨h, by rw [if_pos h]⟩
  · exact .inr ⟨h, by rw [if_neg h]⟩

theorem qv_int (n : Int) : qv (n, 1) = (n : Rat) := by
  show mkRat n 1 = (n : Rat)
  rw [Rat.mkRat_eq_div]
  show (n : Rat) / ((1 : Nat) : Rat) = n
  rw [show ((1 : Nat) : Rat) = 1 from rfl]
  grind
theorem okF_int {n : Int} (h1 : -1152921504606846976 ≤ n) (h2 : n ≤ 1152921504606846976) : okF (n, 1) := ⟨⟨by simp, by simp⟩, ⟨h1, h2⟩, by simp⟩
theorem prQ_int (n : Int) : prQ (n : Rat) = (n, 1) := rfl

theorem okF_nonneg {a : Fq} (h : okF a) : 0 ≤ qv a ↔ 0 ≤ a.1 := by rw [← Rat.num_nonneg, okF_num h]
theorem okF_zero {a : Fq} (h : okF a) : qv a = 0 ↔ a.1 = 0 := by rw [← Rat.num_eq_zero, okF_num h]
theorem okF_neg {a : Fq} (h : okF a) : qv a < 0 ↔ a.1 < 0 := by
  rw [← Rat.not_le, okF_nonneg h]; omega
theorem okF_le {a b : Fq} (ha : okF a) (hb : okF b) : qv a ≤ qv b ↔ a.1 * b.2 ≤ b.1 * a.2 := by
  rw [Rat.le_iff, okF_num ha, okF_num hb, okF_den ha, okF_den hb]
theorem okF_lt {a b : Fq} (ha : okF a) (hb : okF b) : qv a < qv b ↔ a.1 * b.2 < b.1 * a.2 := by
  rw [Rat.lt_iff, okF_num ha, okF_num hb, okF_den ha, okF_den hb]

/-! ### Numbers by their size and their sign -/

/-- A number with a sign. -/
def sgn (s : Bool) (n : Nat) : Int := if s then -(n : Int) else n

/-- A quotient in lowest terms is the rational number. -/
theorem mkQ_low {s : Bool} {n d : Nat} (hd : 0 < d) (hc : Nat.gcd n d = 1) : (mkRat (sgn s n) d).num = sgn s n ∧ (mkRat (sgn s n) d).den = d := by
  have h0 : d ≠ 0 := by omega
  have ha : (sgn s n).natAbs = n := by unfold sgn; split <;> simp
  have hg : Nat.gcd d (sgn s n).natAbs = 1 := by rw [ha, Nat.gcd_comm]; exact hc
  rw [Rat.num_mkRat, Rat.den_mkRat, if_neg h0, if_neg h0, hg]
  simp

theorem mkQ_div {s : Bool} {n d : Nat} (hd : 0 < d) : mkRat (sgn s n) d = mkRat (sgn s (n / Nat.gcd n d)) (d / Nat.gcd n d) ∧ 0 < d / Nat.gcd n d ∧ Nat.gcd (n / Nat.gcd n d) (d / Nat.gcd n d) = 1 := by
  have hg : 0 < Nat.gcd n d := Nat.gcd_pos_of_pos_right _ hd
  have h1 : n / Nat.gcd n d * Nat.gcd n d = n := Nat.div_mul_cancel (Nat.gcd_dvd_left n d)
  have h2 : d / Nat.gcd n d * Nat.gcd n d = d := Nat.div_mul_cancel (Nat.gcd_dvd_right n d)
  refine ⟨?_, Nat.div_pos (Nat.le_of_dvd hd (Nat.gcd_dvd_right n d)) hg, Nat.gcd_div_gcd_div_gcd_of_pos_right hd⟩
  have h3 : sgn s n = sgn s (n / Nat.gcd n d) * (Nat.gcd n d : Int) := by
    unfold sgn
    split
    · rw [Int.neg_mul, ← Int.natCast_mul, h1]
    · rw [← Int.natCast_mul, h1]
  have h4 : mkRat (sgn s n) d = mkRat (sgn s (n / Nat.gcd n d) * (Nat.gcd n d : Int)) (d / Nat.gcd n d * Nat.gcd n d) := by rw [← h3, h2]
  rw [h4]
  exact Rat.mkRat_mul_right (by omega)

theorem mkQ_congr {s : Bool} {n d m e : Nat} (hd : 0 < d) (he : 0 < e) (h : n * e = m * d) : mkRat (sgn s n) d = mkRat (sgn s m) e := by
  rw [Rat.mkRat_eq_iff (by omega) (by omega)]
  unfold sgn
  split
  · rw [Int.neg_mul, Int.neg_mul, ← Int.natCast_mul, ← Int.natCast_mul, h]
  · rw [← Int.natCast_mul, ← Int.natCast_mul, h]

/-- What the two sizes in lowest terms answer. -/
theorem fit_low {s : Bool} {n d : Nat} (hd : 0 < d) (hc : Nat.gcd n d = 1) : fitQ (mkRat (sgn s n) d) = if n ≤ 1152921504606846976 ∧ d ≤ 1152921504606846976 then ((sgn s n, (d : Int)), 0, ()) else ((0, 0), 5, ()) := by
  obtain ⟨h1, h2⟩ := mkQ_low (s := s) hd hc
  have ha : (sgn s n).natAbs = n := by unfold sgn; split <;> simp
  unfold fitQ
  have e : fitsQ (mkRat (sgn s n) d) ↔ n ≤ 1152921504606846976 ∧ d ≤ 1152921504606846976 := by unfold fitsQ; rw [h1, h2, ha]
  have e2 : prQ (mkRat (sgn s n) d) = (sgn s n, (d : Int)) := by unfold prQ; rw [h1, h2]
  rw [e2]
  by_cases h : n ≤ 1152921504606846976 ∧ d ≤ 1152921504606846976
  · rw [if_pos h, if_pos (e.2 h)]
  · rw [if_neg h, if_neg (fun hh => h (e.1 hh))]

theorem size_sgn (n : Int) : n = sgn (decide (n < 0)) n.natAbs := by
  unfold sgn
  by_cases h : n < 0
  · simp [h]; omega
  · simp [h]; omega

theorem okF_mkQ (a : Fq) : qv a = mkRat (sgn (decide (a.1 < 0)) a.1.natAbs) a.2.toNat := by
  unfold qv
  rw [← size_sgn]

theorem mul_sgn {s t : Bool} {m n : Nat} : sgn s m * sgn t n = sgn (s != t) (m * n) := by
  unfold sgn
  cases s <;> cases t <;> simp [Int.neg_mul, Int.mul_neg]

/-- A product of two quotients. -/
theorem mkQ_mul {s t : Bool} {m n d e : Nat} : mkRat (sgn s m) d * mkRat (sgn t n) e = mkRat (sgn (s != t) (m * n)) (d * e) := by
  rw [Rat.mkRat_mul_mkRat, mul_sgn]

theorem sgn_zero (s t : Bool) : sgn s 0 = sgn t 0 := by unfold sgn; cases s <;> cases t <;> rfl

end Dn
end Go.Proofs.YtmoiiokmfanlgaaGreat

namespace Go.Proofs.YtmoiiokmfanlgaaGreat
open Tryz Dn Dn.Sh

theorem u_wrap {x : Int} (h1 : 0 ≤ x) (h2 : x < 18446744073709551616) : IntKind.wrap .u64 x = x := by
  rw [IntKind.wrap_u64]; omega

theorem size_ok {x : Int} (h1 : -9223372036854775808 ≤ x) (h2 : x < 9223372036854775808) : ratio_size x = some (x.natAbs : Int) := by
  simp only [ratio_size, ratio_size_b]
  by_cases h : x < 0
  · simp only [h, decide_true, cond_true]
    rw [IntKind.wrap_u64, IntKind.wrap_u64]
    congr 1; omega
  · simp only [h, decide_false, cond_false]
    rw [u_wrap (by omega) (by omega)]
    congr 1; omega

theorem gcd_ok (m n : Nat) (hn : n < 18446744073709551616) : ratio_gcd (m : Int) (n : Int) = some ((Nat.gcd m n : Nat) : Int) := by
  simp only [ratio_gcd, ratio_gcd_b]
  refine lpK_loop (g := fun x => some ((Nat.gcd x.1.toNat x.2.1.toNat : Nat) : Int)) (I := fun (x : Int × Int × PUnit) => 0 ≤ x.1 ∧ 0 ≤ x.2.1) (μ := fun (x : Int × Int × PUnit) => x.2.1.toNat) (x := ((m : Int), (n : Int), PUnit.unit)) ?_ ⟨Int.natCast_nonneg _, Int.natCast_nonneg _⟩ (by simp only; omega)
  rintro ⟨a, b, _⟩ rec ⟨h1, h2⟩ hrec
  simp only at h1 h2 ⊢
  by_cases hb : b = 0
  · subst hb
    simp only [decide_true, Bool.not_true, cond_false, Int.toNat_zero, Nat.gcd_zero_right]
    congr 1; omega
  · rw [decide_eq_false hb, nzB_of hb, Int.tmod_eq_emod_of_nonneg h1]
    simp only [Bool.not_false, cT]
    have h3 : 0 ≤ a % b := Int.emod_nonneg _ hb
    have h4 : a % b < b := Int.emod_lt_of_pos _ (by omega)
    rw [hrec _ ⟨by simp only; omega, by simp only; omega⟩ (by simp only; omega)]
    simp only
    congr 2
    rw [Int.toNat_emod h1 h2, Nat.gcd_comm a.toNat, Nat.gcd_rec b.toNat a.toNat, Nat.gcd_comm]

theorem signed_ok (s : Bool) (n d : Nat) (h1 : n < 18446744073709551616) (h2 : d < 18446744073709551616) :
    ratio_signed s (n : Int) (d : Int) = some (if n ≤ 1152921504606846976 ∧ d ≤ 1152921504606846976 then ((sgn s n, (d : Int)), 0, ()) else ((0, 0), 5, ())) := by
  simp only [ratio_signed, ratio_signed_b, not_or_self', or_self_not, cond_true]
  by_cases hn : n ≤ 1152921504606846976
  · by_cases hd : d ≤ 1152921504606846976
    · have e1 : decide ((n : Int) > 1152921504606846976) = false := decide_eq_false (by omega)
      have e2 : decide ((d : Int) > 1152921504606846976) = false := decide_eq_false (by omega)
      rw [wrap_id (x := (n : Int)) (by omega) (by omega), wrap_id (x := (d : Int)) (by omega) (by omega), wrap_id (x := 0 - (n : Int)) (by omega) (by omega)]
      simp only [e1, e2, cond_false, hn, hd, and_self, if_true]
      cases s <;> simp [sgn]
    · have e2 : decide ((d : Int) > 1152921504606846976) = true := decide_eq_true (by omega)
      simp only [e2, bif_true', Bool.or_true, cond_true, hd, and_false, if_false]
  · have e1 : decide ((n : Int) > 1152921504606846976) = true := decide_eq_true (by omega)
    simp only [e1, cond_true, hn, false_and, if_false]

/-- The quotient of two numbers. -/
def divQ (n d : Int) : Rat := mkRat (sgn (decide (n < 0) != decide (d < 0)) n.natAbs) d.natAbs

theorem divQ_eq {n d : Int} (hd : d ≠ 0) : divQ n d = (n : Rat) / d := by
  unfold divQ
  rw [← Rat.divInt_eq_div, show mkRat (sgn (decide (n < 0) != decide (d < 0)) n.natAbs) d.natAbs = Rat.divInt (sgn (decide (n < 0) != decide (d < 0)) n.natAbs) (d.natAbs : Int) from (Rat.divInt_ofNat _ _).symm]
  rw [Rat.divInt_eq_divInt_iff (by omega) hd]
  unfold sgn
  by_cases h1 : n < 0 <;> by_cases h2 : d < 0
  · rw [show ((n.natAbs : Nat) : Int) = -n by omega, show ((d.natAbs : Nat) : Int) = -d by omega]
    simp [h1, h2, Int.neg_mul, Int.mul_neg]
  · rw [show ((n.natAbs : Nat) : Int) = -n by omega, show ((d.natAbs : Nat) : Int) = d by omega]
    simp [h1, h2]
  · rw [show ((n.natAbs : Nat) : Int) = n by omega, show ((d.natAbs : Nat) : Int) = -d by omega]
    simp [h1, h2, Int.neg_mul, Int.mul_neg]
  · rw [show ((n.natAbs : Nat) : Int) = n by omega, show ((d.natAbs : Nat) : Int) = d by omega]
    simp [h1, h2]

theorem tdiv_nat (m n : Nat) : Int.tdiv (m : Int) (n : Int) = ((m / n : Nat) : Int) := by
  rw [Int.tdiv_eq_ediv_of_nonneg (by omega)]
  rfl

theorem Make_ok {n d : Int} (h1 : -9223372036854775808 ≤ n) (h2 : n < 9223372036854775808) (h3 : -9223372036854775808 ≤ d) (h4 : d < 9223372036854775808) :
    ratio_Make n d = some (if d = 0 then ((0, 0), 16, ()) else fitQ (divQ n d)) := by
  simp only [ratio_Make, ratio_Make_b, not_or_self', Bool.and_self, cond_true]
  by_cases hd : d = 0
  · simp only [hd, decide_true, cond_true, if_true]
  · simp only [hd, decide_false, cond_false, if_false]
    rw [size_ok h1 h2, obind_some', size_ok h3 h4, obind_some', gcd_ok _ _ (by omega), obind_some']
    have hg : 0 < Nat.gcd n.natAbs d.natAbs := Nat.gcd_pos_of_pos_right _ (by omega)
    have a1 : n.natAbs / Nat.gcd n.natAbs d.natAbs ≤ n.natAbs := Nat.div_le_self _ _
    have a2 : d.natAbs / Nat.gcd n.natAbs d.natAbs ≤ d.natAbs := Nat.div_le_self _ _
    have hz : nzB ((Nat.gcd n.natAbs d.natAbs : Nat) : Int) = true := nzB_of (by omega)
    obtain ⟨m1, m2, m3⟩ := mkQ_div (s := decide (n < 0) != decide (d < 0)) (n := n.natAbs) (d := d.natAbs) (by omega)
    have hs : n = 0 → n.natAbs / Nat.gcd n.natAbs d.natAbs = 0 := fun h => by subst h; simp
    rw [hz, cond_true, cond_true, tdiv_nat, tdiv_nat]
    unfold divQ
    rw [m1]
    generalize n.natAbs / Nat.gcd n.natAbs d.natAbs = p at *
    generalize d.natAbs / Nat.gcd n.natAbs d.natAbs = q at *
    rw [u_wrap (by omega) (by omega), u_wrap (by omega) (by omega), signed_ok _ _ _ (by omega) (by omega), obind_some', fit_low m2 m3]
    have hs : sgn (bif !decide (n = 0) then !decide (decide (n < 0) = decide (d < 0)) else false) p = sgn (decide (n < 0) != decide (d < 0)) p := by
      by_cases h0 : n = 0
      · rw [hs h0]
        exact sgn_zero _ _
      · simp only [h0, decide_false, Bool.not_false, cond_true]
        cases decide (n < 0) <;> cases decide (d < 0) <;> rfl
    rw [hs]

theorem Valid_ok {a : Fq} : ratio_Valid a = some (decide (okF a)) := by
  simp only [ratio_Valid, ratio_Valid_b, not_or_self', Bool.and_self, cond_true, bif_false']
  unfold okF
  by_cases h1 : 1 ≤ a.2
  · by_cases h2 : a.2 ≤ 1152921504606846976
    · by_cases h3 : -1152921504606846976 ≤ a.1
      · by_cases h4 : a.1 ≤ 1152921504606846976
        · have e : IntKind.wrap .u64 a.2 = ((a.2.natAbs : Nat) : Int) := by rw [u_wrap (by omega) (by omega)]; omega
          simp only [ge_iff_le, h1, h2, h3, h4, decide_true, Bool.and_self, cond_true]
          rw [size_ok (by omega) (by omega), obind_some', e, gcd_ok _ _ (by omega), obind_some']
          congr 1
          rw [Bool.eq_iff_iff]
          simp only [Bool.true_and, decide_eq_true_eq, true_and]
          generalize Nat.gcd a.1.natAbs a.2.natAbs = g
          omega
        · simp [obind_some', h4]
      · simp [obind_some', h3]
    · simp [obind_some', h2]
  · simp [obind_some', h1]

end Go.Proofs.YtmoiiokmfanlgaaGreat

namespace Go.Proofs.YtmoiiokmfanlgaaGreat
open Tryz Dn Dn.Sh

theorem land32 {x : Int} (h1 : 0 ≤ x) (h2 : x < 18446744073709551616) : ((Nat.land (Int.toNat (x % Int.ofNat 18446744073709551616)) (Int.toNat ((4294967295 : Int) % Int.ofNat 18446744073709551616)) : Nat) : Int) = x % 4294967296 := by
  have e1 : x % Int.ofNat 18446744073709551616 = x := Int.emod_eq_of_lt h1 h2
  have e2 : Int.toNat ((4294967295 : Int) % Int.ofNat 18446744073709551616) = 2 ^ 32 - 1 := by decide
  rw [e1, e2]
  have : Nat.land x.toNat (2 ^ 32 - 1) = x.toNat % 2 ^ 32 := Nat.and_two_pow_sub_one_eq_mod x.toNat 32
  rw [this]
  omega

/-- A number of two words. -/
def hl (n : Nat) : Int × Int := (((n / 18446744073709551616 : Nat) : Int), ((n % 18446744073709551616 : Nat) : Int))

theorem mulW {x y : Int} (x0 : 0 ≤ x) (x1 : x < 18446744073709551616) (y0 : 0 ≤ y) (y1 : y < 18446744073709551616) : bits_Mul64 x y = some (x * y / 18446744073709551616, x * y % 18446744073709551616, ()) := by
  have p32 : (2 : Int) ^ (32 : Nat) = 4294967296 := by decide
  simp only [bits_Mul64, bits_Mul64_b, p32, show decide ((0 : Int) ≤ 32) = true from rfl, cond_true]
  obtain ⟨a, b, ha, hb, hx⟩ : ∃ a b, a = x / 4294967296 ∧ b = x % 4294967296 ∧ x = a * 4294967296 + b := ⟨_, _, rfl, rfl, by omega⟩
  obtain ⟨c, d, hc, hd, hy⟩ : ∃ c d, c = y / 4294967296 ∧ d = y % 4294967296 ∧ y = c * 4294967296 + d := ⟨_, _, rfl, rfl, by omega⟩
  have fd : ∀ n : Int, Int.fdiv n 4294967296 = n / 4294967296 := fun n => Int.fdiv_eq_ediv_of_nonneg n (by omega)
  rw [land32 x0 x1, land32 y0 y1, ← hb, ← hd]
  simp only [fd, ← ha, ← hc]
  have a0 : 0 ≤ a ∧ a ≤ 4294967295 := by omega
  have b0 : 0 ≤ b ∧ b ≤ 4294967295 := by omega
  have c0 : 0 ≤ c ∧ c ≤ 4294967295 := by omega
  have d0 : 0 ≤ d ∧ d ≤ 4294967295 := by omega
  have mb : ∀ {m n : Int}, 0 ≤ m ∧ m ≤ 4294967295 → 0 ≤ n ∧ n ≤ 4294967295 → 0 ≤ m * n ∧ m * n ≤ 18446744065119617025 := fun {m n} hm hn => ⟨Int.mul_nonneg hm.1 hn.1, Int.le_trans (Int.mul_le_mul hm.2 hn.2 hn.1 (by omega)) (by decide)⟩
  have e1 := mb a0 c0
  have e2 := mb a0 d0
  have e3 := mb b0 c0
  have e4 := mb b0 d0
  have hxy : x * y = a * c * 18446744073709551616 + (a * d + b * c) * 4294967296 + b * d := by rw [hx, hy]; grind
  rw [IntKind.wrap_u64 (x * y)]
  rw [hxy]
  rw [u_wrap (x := b) (by omega) (by omega), u_wrap (x := d) (by omega) (by omega)]
  rw [u_wrap (x := b * d) (by omega) (by omega), u_wrap (x := a * d) (by omega) (by omega), u_wrap (x := b * c) (by omega) (by omega), u_wrap (x := a * c) (by omega) (by omega)]
  generalize b * d = bd at *
  generalize a * d = ad at *
  generalize b * c = bc at *
  generalize a * c = ac at *
  rw [u_wrap (x := ad + bd / 4294967296) (by omega) (by omega)]
  generalize ht : ad + bd / 4294967296 = t
  rw [land32 (by omega) (by omega)]
  rw [u_wrap (x := t % 4294967296) (by omega) (by omega)]
  rw [u_wrap (x := t % 4294967296 + bc) (by omega) (by omega), u_wrap (x := ac + t / 4294967296) (by omega) (by omega)]
  rw [u_wrap (x := ac + t / 4294967296 + (t % 4294967296 + bc) / 4294967296) (by omega) (by omega)]
  congr 1
  ext
  · simp only; omega
  · rfl

theorem product_ok {m n : Nat} (hm : m < 18446744073709551616) (hn : n < 18446744073709551616) : ratio_product (m : Int) (n : Int) = some (hl (m * n)) := by
  simp only [ratio_product, ratio_product_b]
  rw [mulW (by omega) (by omega) (by omega) (by omega), obind_some', ← Int.natCast_mul]
  rfl

theorem hl_small {n : Nat} (h : n < 18446744073709551616) : hl n = (0, (n : Int)) := by
  unfold hl
  rw [Nat.div_eq_of_lt h, Nat.mod_eq_of_lt h]
  rfl
theorem hl_big {n : Nat} (h : ¬ n < 18446744073709551616) : (hl n).1 > 0 := by
  unfold hl
  simp only
  omega

end Go.Proofs.YtmoiiokmfanlgaaGreat

namespace Go.Proofs.YtmoiiokmfanlgaaGreat
open Tryz Dn Dn.Sh

theorem fdiv_of {n d : Int} (h : 0 ≤ d) : Int.fdiv n d = n / d := Int.fdiv_eq_ediv_of_nonneg n h

theorem Half_ok {n : Nat} (_ : n < 340282366920938463463374607431768211456) : ref02_Half (hl n) = some (hl (n / 2)) := by
  simp only [ref02_Half, ref02_Half_b, show decide ((0 : Int) ≤ 1) = true from rfl, show decide ((0 : Int) ≤ 63) = true from rfl, cond_true, show (2 : Int) ^ (1 : Nat) = 2 from rfl, show (2 : Int) ^ (63 : Nat) = 9223372036854775808 from rfl, IntKind.wrap_u64, fdiv_of (show (0 : Int) ≤ 2 by omega), hl]
  congr 1
  ext <;> simp only <;> omega

theorem Less_ok {a b : Nat} : ref02_Less (hl a) (hl b) = some (decide (a < b)) := by
  simp only [ref02_Less, ref02_Less_b]
  have e : decide (a < b) = (bif decide ((hl a).1 < (hl b).1) then true else bif decide ((hl a).1 = (hl b).1) then decide ((hl a).2 < (hl b).2) else false) := by
    by_cases c1 : (hl a).1 < (hl b).1
    · simp only [c1, decide_true, cond_true]
      simp only [hl] at c1
      exact decide_eq_true (by omega)
    · by_cases c2 : (hl a).1 = (hl b).1
      · rw [decide_eq_false c1, decide_eq_true c2, cond_true, cond_false]
        have e2 : a < b ↔ (hl a).2 < (hl b).2 := by
          simp only [hl] at c1 c2 ⊢
          omega
        rw [Bool.eq_iff_iff, decide_eq_true_iff, decide_eq_true_iff]
        exact e2
      · simp only [c1, c2, decide_false, cond_false]
        simp only [hl] at c1 c2
        exact decide_eq_false (by omega)
  rw [e]
  cases decide ((hl a).1 < (hl b).1) <;> cases decide ((hl a).1 = (hl b).1) <;> rfl

theorem Minus_ok {a b : Nat} (h : b ≤ a) (ha : a < 340282366920938463463374607431768211456) : ref02_Minus (hl a) (hl b) = some (hl (a - b)) := by
  simp only [ref02_Minus, ref02_Minus_b]
  by_cases hc : (hl a).2 < (hl b).2
  · rw [decide_eq_true hc, cond_true]
    simp only [IntKind.wrap_u64, hl] at hc ⊢
    congr 1
    ext <;> simp only <;> omega
  · rw [decide_eq_false hc, cond_false]
    simp only [IntKind.wrap_u64, hl] at hc ⊢
    congr 1
    ext <;> simp only <;> omega

/-- A difference that lost a bit in front. -/
theorem Minus_over {a b : Nat} (h : b ≤ a) (hb : a - b < 340282366920938463463374607431768211456) (_ : b < 340282366920938463463374607431768211456) : ref02_Minus (hl (a % 340282366920938463463374607431768211456)) (hl b) = some (hl (a - b)) := by
  simp only [ref02_Minus, ref02_Minus_b]
  by_cases hc : (hl (a % 340282366920938463463374607431768211456)).2 < (hl b).2
  · rw [decide_eq_true hc, cond_true]
    simp only [IntKind.wrap_u64, hl] at hc ⊢
    congr 1
    ext <;> simp only <;> omega
  · rw [decide_eq_false hc, cond_false]
    simp only [IntKind.wrap_u64, hl] at hc ⊢
    congr 1
    ext <;> simp only <;> omega

theorem Plus_ok {m n : Nat} (h : m + n < 340282366920938463463374607431768211456) : ref02_Plus (hl m) (hl n) = some (hl (m + n)) := by
  simp only [ref02_Plus, ref02_Plus_b]
  by_cases hc : IntKind.wrap .u64 ((hl m).2 + (hl n).2) < (hl m).2
  · rw [decide_eq_true hc, cond_true]
    simp only [IntKind.wrap_u64, hl] at hc ⊢
    congr 1
    ext <;> simp only <;> omega
  · rw [decide_eq_false hc, cond_false]
    simp only [IntKind.wrap_u64, hl] at hc ⊢
    congr 1
    ext <;> simp only <;> omega

theorem low1 {x : Int} (h1 : 0 ≤ x) (h2 : x < 18446744073709551616) : IntKind.wrap .u64 ((Nat.land (Int.toNat (x % Int.ofNat 18446744073709551616)) (Int.toNat ((1 : Int) % Int.ofNat 18446744073709551616)) : Nat) : Int) = x % 2 := by
  have e1 : x % Int.ofNat 18446744073709551616 = x := Int.emod_eq_of_lt h1 h2
  have e2 : Int.toNat ((1 : Int) % Int.ofNat 18446744073709551616) = 2 ^ 1 - 1 := by decide
  rw [e1, e2]
  have : Nat.land x.toNat (2 ^ 1 - 1) = x.toNat % 2 ^ 1 := Nat.and_two_pow_sub_one_eq_mod x.toNat 1
  rw [this, IntKind.wrap_u64]
  omega
theorem even_hl {n : Nat} : decide (IntKind.wrap .u64 ((Nat.land (Int.toNat ((hl n).2 % Int.ofNat 18446744073709551616)) (Int.toNat ((1 : Int) % Int.ofNat 18446744073709551616)) : Nat) : Int) = 0) = decide (n % 2 = 0) := by
  rw [low1 (by simp only [hl]; omega) (by simp only [hl]; omega)]
  rw [Bool.eq_iff_iff, decide_eq_true_iff, decide_eq_true_iff]
  simp only [hl]
  omega
theorem zero_hl {n : Nat} (h : n < 340282366920938463463374607431768211456) : (decide ((hl n).1 = 0) && (decide ((hl n).2 = 0) && true)) = decide (n = 0) := by
  rw [Bool.and_true, Bool.eq_iff_iff, Bool.and_eq_true, decide_eq_true_iff, decide_eq_true_iff, decide_eq_true_iff]
  simp only [hl]
  omega

/-- The number that two words are. -/
def unhl (p : Int × Int) : Nat := p.1.toNat * 18446744073709551616 + p.2.toNat
theorem unhl_hl {n : Nat} : unhl (hl n) = n := by
  simp only [unhl, hl]; omega

theorem gcd_half {a b : Nat} (ha : a % 2 = 0) (h : Nat.gcd a b % 2 = 1) : Nat.gcd (a / 2) b = Nat.gcd a b := by
  have h2 : a / 2 ∣ a := Nat.div_dvd_of_dvd (Nat.dvd_of_mod_eq_zero ha)
  refine Nat.dvd_antisymm (Nat.dvd_gcd (Nat.dvd_trans (Nat.gcd_dvd_left _ _) h2) (Nat.gcd_dvd_right _ _)) (Nat.dvd_gcd ?_ (Nat.gcd_dvd_right _ _))
  have h3 : Nat.gcd a b ∣ 2 * (a / 2) := by rw [show 2 * (a / 2) = a by omega]; exact Nat.gcd_dvd_left _ _
  refine Nat.Coprime.dvd_of_dvd_mul_left ?_ h3
  show Nat.gcd (Nat.gcd a b) 2 = 1
  rw [Nat.gcd_comm, Nat.gcd_rec, h]
  rfl

theorem log2_half {a : Nat} (h : 2 ≤ a) : Nat.log2 (a / 2) + 1 = Nat.log2 a := by
  conv => rhs; rw [Nat.log2_def]
  rw [if_pos h]
theorem log2_mono {a b : Nat} (h : a ≤ b) : Nat.log2 a ≤ Nat.log2 b := by
  by_cases ha : a = 0
  · subst ha; simp
  · have hb : b ≠ 0 := by omega
    rw [Nat.le_log2 hb]
    exact Nat.le_trans ((Nat.le_log2 ha).1 (Nat.le_refl _)) h
theorem log2_dbl {a b : Nat} (ha : 0 < a) (h : 2 * a ≤ b) : Nat.log2 a + 1 ≤ Nat.log2 b := by
  have h1 := log2_half (a := b) (by omega)
  have := log2_mono (show a ≤ b / 2 by omega)
  omega
theorem log2_128 {a : Nat} (h : a < 340282366920938463463374607431768211456) : Nat.log2 a ≤ 127 := by
  by_cases ha : a = 0
  · subst ha; simp
  · have : Nat.log2 a < 128 := (Nat.log2_lt ha).2 h
    omega

theorem Gcd_ok {A B : Nat} (hA : A < 340282366920938463463374607431768211456) (hB0 : 0 < B) (hB : B < 340282366920938463463374607431768211456) : ref02_Gcd (hl A) (hl B) = some (hl (Nat.gcd A B)) := by
  simp only [ref02_Gcd, ref02_Gcd_b]
  rw [zero_hl hA]
  by_cases hA0 : A = 0
  · rw [decide_eq_true hA0, cond_true, hA0, Nat.gcd_zero_left]
  rw [decide_eq_false hA0, cond_false]
  have hG : Nat.gcd A B ≤ B := Nat.le_of_dvd hB0 (Nat.gcd_dvd_right A B)
  have hGdef : ∃ G, G = Nat.gcd A B := ⟨_, rfl⟩
  obtain ⟨G, hGd⟩ := hGdef
  rw [← hGd]
  refine lpK_loop (g := fun _ => some (hl G)) (I := fun (x : Int × (Int × Int) × (Int × Int) × PUnit) => ∃ t a b : Nat, x = ((t : Int), hl a, hl b, ⟨⟩) ∧ 0 < a ∧ a < 340282366920938463463374607431768211456 ∧ 0 < b ∧ b < 340282366920938463463374607431768211456 ∧ 2 ^ t * Nat.gcd a b = G ∧ t + Nat.log2 a ≤ 127)
    (μ := fun (x : Int × (Int × Int) × (Int × Int) × PUnit) => Nat.log2 (unhl x.2.1)) (x := ((0 : Int), hl A, hl B, PUnit.unit)) ?_ ⟨0, A, B, rfl, by omega, hA, hB0, hB, by rw [hGd]; simp, by have := log2_128 hA; omega⟩ (by simp only [unhl_hl]; have := log2_128 hA; omega)
  rintro _ rec ⟨t, a, b, rfl, a0, a1, b0, b1, hg, ht⟩ hrec
  simp only [even_hl, not_or_self', cond_true]
  by_cases hev : a % 2 = 0 ∧ b % 2 = 0
  · rw [decide_eq_true hev.1, cond_true, decide_eq_true hev.2, cond_true, Half_ok a1, obind_some', Half_ok b1, obind_some', wrap_id (by omega) (by omega)]
    have hl2 := log2_half (a := a) (by omega)
    refine hrec _ ⟨t + 1, a / 2, b / 2, by rfl, by omega, by omega, by omega, by omega, ?_, by omega⟩ (by simp only [unhl_hl]; omega)
    rw [← hg, Nat.pow_succ, Nat.mul_assoc, ← Nat.gcd_mul_left, show 2 * (a / 2) = a by omega, show 2 * (b / 2) = b by omega]
  have hodd : Nat.gcd a b % 2 = 1 := by
    rcases Nat.mod_two_eq_zero_or_one (Nat.gcd a b) with h | h
    · exfalso
      have h2 := Nat.dvd_of_mod_eq_zero h
      exact hev ⟨Nat.mod_eq_zero_of_dvd (Nat.dvd_trans h2 (Nat.gcd_dvd_left a b)), Nat.mod_eq_zero_of_dvd (Nat.dvd_trans h2 (Nat.gcd_dvd_right a b))⟩
    · exact h
  have hcond : (bif decide (a % 2 = 0) then decide (b % 2 = 0) else false) = false := by
    rw [Bool.eq_false_iff]
    intro h
    by_cases h2 : a % 2 = 0
    · rw [decide_eq_true h2, cond_true, decide_eq_true_iff] at h
      exact hev ⟨h2, h⟩
    · rw [decide_eq_false h2, cond_false] at h
      cases h
  rw [hcond, cond_false]
  clear hcond hrec
  generalize hgd : Nat.gcd a b = g at *
  refine lpK_loop (g := fun _ => some (hl G)) (I := fun (x : (Int × Int) × (Int × Int) × PUnit) => ∃ a b : Nat, x = (hl a, hl b, ⟨⟩) ∧ a < 340282366920938463463374607431768211456 ∧ 0 < b ∧ b < 340282366920938463463374607431768211456 ∧ Nat.gcd a b = g)
    (μ := fun (x : (Int × Int) × (Int × Int) × PUnit) => Nat.log2 (unhl x.1) + Nat.log2 (unhl x.2.1) + unhl x.1 % 2) (x := (hl a, hl b, PUnit.unit)) ?_ ⟨a, b, rfl, a1, b0, b1, hgd⟩ (by simp only [unhl_hl]; have := log2_128 a1; have := log2_128 b1; omega)
  clear hgd hev a0 a1 b0 b1
  rintro _ rec ⟨a, b, rfl, a1, b0, b1, hgd⟩ hrec
  simp only [zero_hl a1]
  by_cases ha0 : a = 0
  · rw [decide_eq_true ha0, Bool.not_true, cond_false]
    have hbg : b = g := by rw [← hgd, ha0, Nat.gcd_zero_left]
    refine lpK_loop (g := fun _ => some (hl G)) (I := fun (x : Int × (Int × Int) × PUnit) => ∃ t b : Nat, x = ((t : Int), hl b, ⟨⟩) ∧ 0 < b ∧ 2 ^ t * b = G ∧ t ≤ 127)
      (μ := fun (x : Int × (Int × Int) × PUnit) => x.1.toNat) (x := ((t : Int), hl b, PUnit.unit)) ?_ ⟨t, b, rfl, b0, by rw [hbg]; exact hg, by omega⟩ (by simp only; omega)
    rintro _ rec ⟨t, b, rfl, b0, hg, ht⟩ hrec
    simp only
    by_cases ht0 : t = 0
    · rw [decide_eq_false (by omega), cond_false, ← hg, ht0]; simp
    · rw [decide_eq_true (by omega), cond_true]
      obtain ⟨s, rfl⟩ : ∃ s, t = s + 1 := ⟨t - 1, by omega⟩
      have h2 : 2 ^ s * (b + b) = G := by rw [← hg, Nat.pow_succ, Nat.mul_assoc]; congr 1; omega
      have h3 : b + b ≤ G := by
        rw [← h2]
        exact Nat.le_mul_of_pos_left _ (Nat.pow_pos (by omega))
      rw [Plus_ok (by omega), obind_some', wrap_id (by omega) (by omega)]
      exact hrec _ ⟨s, b + b, by simp only [Prod.mk.injEq, and_true]; omega, by omega, h2, by omega⟩ (by simp only; omega)
  rw [decide_eq_false ha0, Bool.not_false, cond_true]
  refine lpK_loop (g := fun _ => some (hl G)) (I := fun (x : (Int × Int) × PUnit) => ∃ c : Nat, x = (hl c, ⟨⟩) ∧ 0 < c ∧ c < 340282366920938463463374607431768211456 ∧ Nat.gcd c b = g ∧ (c = a ∨ 2 * c ≤ a))
    (μ := fun (x : (Int × Int) × PUnit) => Nat.log2 (unhl x.1)) (x := (hl a, PUnit.unit)) ?_ ⟨a, rfl, by omega, a1, hgd, .inl rfl⟩ (by simp only [unhl_hl]; have := log2_128 a1; omega)
  rintro _ rec3 ⟨c, rfl, c0, c1, hgc, hca⟩ hrec3
  simp only [even_hl]
  by_cases hce : c % 2 = 0
  · rw [decide_eq_true hce, cond_true, Half_ok c1, obind_some']
    have hl2 := log2_half (a := c) (by omega)
    exact hrec3 _ ⟨c / 2, rfl, by omega, by omega, by rw [gcd_half hce (by rw [hgc]; exact hodd), hgc], .inr (by omega)⟩ (by simp only [unhl_hl]; omega)
  rw [decide_eq_false hce, cond_false]
  clear hrec3
  refine lpK_loop (g := fun _ => some (hl G)) (I := fun (x : (Int × Int) × PUnit) => ∃ d : Nat, x = (hl d, ⟨⟩) ∧ 0 < d ∧ d ≤ b ∧ Nat.gcd c d = g)
    (μ := fun (x : (Int × Int) × PUnit) => Nat.log2 (unhl x.1)) (x := (hl b, PUnit.unit)) ?_ ⟨b, rfl, b0, Nat.le_refl _, hgc⟩ (by simp only [unhl_hl]; have := log2_128 b1; omega)
  rintro _ rec4 ⟨d, rfl, d0, d1, hgd'⟩ hrec4
  simp only [even_hl]
  by_cases hde : d % 2 = 0
  · rw [decide_eq_true hde, cond_true, Half_ok (by omega), obind_some']
    have hl2 := log2_half (a := d) (by omega)
    exact hrec4 _ ⟨d / 2, rfl, by omega, by omega, by rw [Nat.gcd_comm, gcd_half hde (by rw [Nat.gcd_comm, hgd']; exact hodd), Nat.gcd_comm, hgd']⟩ (by simp only [unhl_hl]; omega)
  rw [decide_eq_false hde, cond_false, Less_ok, obind_some']
  clear hrec4
  have lb := log2_mono d1
  have la : Nat.log2 c + 1 ≤ Nat.log2 a + a % 2 := by
    rcases hca with rfl | h
    · omega
    · have := log2_dbl c0 h; omega
  by_cases hlt : c < d
  · rw [decide_eq_true hlt, cond_true, Minus_ok (by omega) (by omega), obind_some']
    have l1 := log2_mono (show d - c ≤ d by omega)
    exact hrec _ ⟨d - c, c, rfl, by omega, c0, c1, by rw [Nat.gcd_sub_self_left (by omega), Nat.gcd_comm, hgd']⟩ (by simp only [unhl_hl]; omega)
  · rw [decide_eq_false hlt, cond_false, Minus_ok (by omega) (by omega), obind_some']
    have l1 := log2_mono (show c - d ≤ c by omega)
    exact hrec _ ⟨c - d, d, rfl, by omega, d0, by omega, by rw [Nat.gcd_sub_self_left (by omega), hgd']⟩ (by simp only [unhl_hl]; omega)

end Go.Proofs.YtmoiiokmfanlgaaGreat
