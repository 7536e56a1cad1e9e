/- r18: what its functions answer (printed by a program), and that they do; part 2. -/
import Derived.Test.YtghjblbkbelcfaaEr18a
namespace Go.Proofs.Ytghjblbkbelcfaa
open Try Dn Dn.Sh

set_option maxRecDepth 100000
/-- loftblock bridle.Anchor -/
noncomputable def bridle_Anchor_b (lp : Lp) (_ : Jn) (bridle_minus : (Int × Int × Int) → (Int × Int × Int) → Option (Int × Int × Int)) (bridle_pull : ((Int × Int × Int) × Int × List (ByteArray × (Int × Int × Int) × Int)) → (ByteArray) → Option (Int × (Int × Int) × Int × Unit)) (ratio_Mul : (Int × Int) → (Int × Int) → Option ((Int × Int) × Int × Unit)) (x0 : (Int × Int × Int) × Int × List (ByteArray × (Int × Int × Int) × Int)) (x1 : ByteArray) : Option (((Int × Int) × (Int × Int) × Int × Int) × Int × Unit) :=
  obind (bridle_pull x0 x1) fun (t : Int × (Int × Int) × Int × PUnit) => bif !decide (t.snd.snd.fst = (0 : Int)) then some ((((0 : Int), (0 : Int)), ((0 : Int), (0 : Int)), (0 : Int), (0 :
    Int)), t.snd.snd.fst, PUnit.unit) else bif inB t.fst (List.length x0.snd.snd) then obind (bridle_minus x0.fst (List.getD x0.snd.snd (Int.toNat t.fst) ({ data := { toList := [] } }, ((0
    : Int), (0 : Int), (0 : Int)), (0 : Int))).snd.fst) fun (t_1 : Int × Int × Int) => lp (Int × ((Int × Int) × (Int × Int) × Int × Int) × ((Int × Int) × (Int × Int) × Int × Int) × PUnit)
    (((Int × Int) × (Int × Int) × Int × Int) × Int × PUnit) (fun (again : Int × ((Int × Int) × (Int × Int) × Int × Int) × ((Int × Int) × (Int × Int) × Int × Int) × PUnit → Option (((Int ×
    Int) × (Int × Int) × Int × Int) × Int × PUnit)) (x : Int × ((Int × Int) × (Int × Int) × Int × Int) × ((Int × Int) × (Int × Int) × Int × Int) × PUnit) =>
  let v8 : Bool := inB x.fst (3 : Nat); bif decide (x.fst < (3 : Int)) then bif v8 then obind (ratio_Mul t.snd.fst (List.getD [t_1.fst, t_1.snd.fst, t_1.snd.snd] (Int.toNat x.fst) (0 :
    Int), (1 : Int))) fun (t : (Int × Int) × Int × PUnit) => bif v8 then bif Nat.ble (Nat.succ (Int.toNat x.fst)) (3 : Nat) then bif !decide (t.snd.fst = (0 : Int)) then some ((((0 : Int),
    (0 : Int)), ((0 : Int), (0 : Int)), (0 : Int), (0 : Int)), t.snd.fst, PUnit.unit) else again (IntKind.wrap IntKind.i64 (x.fst + (1 : Int)), x.snd.fst, (bif Nat.beq (Int.toNat x.fst) (0
    : Nat) then t.fst else x.snd.snd.fst.fst, bif Nat.beq (Int.toNat x.fst) (1 : Nat) then t.fst else x.snd.snd.fst.snd.fst, bif Nat.beq (Int.toNat x.fst) (2 : Nat) then t.fst else
    x.snd.snd.fst.snd.snd), PUnit.unit) else none else none else none else some (x.snd.snd.fst, (0 : Int), PUnit.unit)) ((0 : Int), (((0 : Int), (0 : Int)), ((0 : Int), (0 : Int)), (0 :
    Int), (0 : Int)), (((0 : Int), (0 : Int)), ((0 : Int), (0 : Int)), (0 : Int), (0 : Int)), PUnit.unit) else none
noncomputable def bridle_Anchor (x0 : (Int × Int × Int) × Int × List (ByteArray × (Int × Int × Int) × Int)) (x1 : ByteArray) : Option (((Int × Int) × (Int × Int) × Int × Int) × Int × Unit) := bridle_Anchor_b lpK jnK bridle_minus bridle_pull ratio_Mul x0 x1
noncomputable def c25 : Ctr := ⟨[T26, .str], [], [], .tup [T55, i64], fun x _ _ => bridle_Anchor x.1 x.2.1⟩
theorem e25 (lp : Lp) (jn : Jn) (bridle_minus : (Int × Int × Int) → (Int × Int × Int) → Option (Int × Int × Int)) (bridle_pull : ((Int × Int × Int) × Int × List (ByteArray × (Int × Int × Int) × Int)) → (ByteArray) → Option (Int × (Int × Int) × Int × Unit)) (ratio_Mul : (Int × Int) → (Int × Int) → Option ((Int × Int) × Int × Unit)) : ∀ (x : TsS c25.as) (F : TsF c25.fs) (y : TsS c25.cs), bridle_Anchor_b lp jn bridle_minus bridle_pull ratio_Mul x.1 x.2.1 = runC lp jn (ctxOf prog shs inls [(22, ⟨[T48, T48], [], [], .tup [T48, i64], fun x _ _ => ratio_Mul x.1 x.2.1⟩), (59, ⟨[T26, .str], [], [], .tup [i64, T48, i64], fun x _ _ => bridle_pull x.1 x.2.1⟩), (63, ⟨[T23, T23], [], [], .one T23, fun x _ _ => bridle_minus x.1 x.2.1⟩)] [(36, r36), (18, r18)]) hints 4 25 f25 c25 x F y := fun x F y => by kernel_rfl
theorem l25 : (ctxOf prog shs inls [(22, c22), (59, c59), (63, c63)] [(36, r36), (18, r18)]).ok := ctxOf_cons (ctxOf_cons (ctxOf_cons (q36) (by kernel_rfl) ok63) (by kernel_rfl) ok59) (by kernel_rfl) ok22
theorem ok25 : c25.ok prog 25 := Ctr.of_den l25 hmix (hl := hints) (d := 4) func25 rfl (by decide) (e25 lpK jnK bridle_minus bridle_pull ratio_Mul)

/-- loftblock loftblockref02.Of -/
noncomputable def ref02_Of_b (_ : Lp) (_ : Jn) (x0 : Int) : Option (Int × Int) :=
  some (x0, (1 : Int))
noncomputable def ref02_Of (x0 : Int) : Option (Int × Int) := ref02_Of_b lpK jnK x0
noncomputable def c67 : Ctr := ⟨[i64], [], [], .one T48, fun x _ _ => ref02_Of x.1⟩
theorem e67 (lp : Lp) (jn : Jn) : ∀ (x : TsS c67.as) (F : TsF c67.fs) (y : TsS c67.cs), ref02_Of_b lp jn x.1 = runC lp jn (ctxOf prog shs inls [] [(36, r36), (18, r18)]) hints 4 67 f67 c67 x F y := fun x F y => by kernel_rfl
theorem l67 : (ctxOf prog shs inls [] [(36, r36), (18, r18)]).ok := q36
theorem ok67 : c67.ok prog 67 := Ctr.of_den l67 hmix (hl := hints) (d := 4) func67 rfl (by decide) (e67 lpK jnK)

/-- loftblock loftblockref02.Half -/
noncomputable def ref02_Half_b (_ : Lp) (_ : Jn) (x0 : Int × Int) : Option (Int × Int) :=
  
  let v3 : Int := (2 : Int) ^ (1 : Nat);
  let v4 : Bool := decide ((0 : Int) ≤ (1 : Int)); bif v4 then bif v4 then bif decide ((0 : Int) ≤ (63 : Int)) then some (Int.fdiv x0.fst v3, IntKind.wrap IntKind.u64 (Int.fdiv x0.snd v3 +
    IntKind.wrap IntKind.u64 (x0.fst * (2 : Int) ^ (63 : Nat)))) else none else none else none
noncomputable def ref02_Half (x0 : Int × Int) : Option (Int × Int) := ref02_Half_b lpK jnK x0
noncomputable def c121 : Ctr := ⟨[T137], [], [], .one T137, fun x _ _ => ref02_Half x.1⟩
theorem e121 (lp : Lp) (jn : Jn) : ∀ (x : TsS c121.as) (F : TsF c121.fs) (y : TsS c121.cs), ref02_Half_b lp jn x.1 = runC lp jn (ctxOf prog shs inls [] [(36, r36), (18, r18)]) hints 4 121 f121 c121 x F y := fun x F y => by kernel_rfl
theorem l121 : (ctxOf prog shs inls [] [(36, r36), (18, r18)]).ok := q36
theorem ok121 : c121.ok prog 121 := Ctr.of_den l121 hmix (hl := hints) (d := 4) func121 rfl (by decide) (e121 lpK jnK)

/-- loftblock loftblockref02.Less -/
noncomputable def ref02_Less_b (_ : Lp) (_ : Jn) (x0 : Int × Int) (x1 : Int × Int) : Option Bool :=
  
  let v4 : Bool := decide (x0.fst = x1.fst);
  let v5 : Bool := decide (x0.fst < x1.fst);
  let v6 : Bool := !v5;
  let v7 : Bool := !v6;
  let v8 : Bool := v6 && v4;
  let v9 : Bool := v7 || v6;
  let v10 : Bool := !v8 || v8; bif v9 then bif v9 then bif v9 && v9 then bif v9 then bif v10 then bif v10 then bif v10 && v10 then bif (v7 || v9) && (v7 || (!v4 || (v7 || v8))) then bif v5
    || v6 then some (bif v5 then true else bif v4 then decide (x0.snd < x1.snd) else false) else none else none else none else none else none else none else none else none else none
noncomputable def ref02_Less (x0 : Int × Int) (x1 : Int × Int) : Option Bool := ref02_Less_b lpK jnK x0 x1
noncomputable def c122 : Ctr := ⟨[T137, T137], [], [], .one .bool, fun x _ _ => ref02_Less x.1 x.2.1⟩
theorem e122 (lp : Lp) (jn : Jn) : ∀ (x : TsS c122.as) (F : TsF c122.fs) (y : TsS c122.cs), ref02_Less_b lp jn x.1 x.2.1 = runC lp jn (ctxOf prog shs inls [] [(36, r36), (18, r18)]) hints 4 122 f122 c122 x F y := fun x F y => by kernel_rfl
theorem l122 : (ctxOf prog shs inls [] [(36, r36), (18, r18)]).ok := q36
theorem ok122 : c122.ok prog 122 := Ctr.of_den l122 hmix (hl := hints) (d := 4) func122 rfl (by decide) (e122 lpK jnK)

/-- loftblock loftblockref02.Minus -/
noncomputable def ref02_Minus_b (_ : Lp) (_ : Jn) (x0 : Int × Int) (x1 : Int × Int) : Option (Int × Int) :=
  
  let v4 : Int := IntKind.wrap IntKind.u64 (x0.fst - x1.fst);
  let v5 : Int := IntKind.wrap IntKind.u64 (x0.snd - x1.snd); bif decide (x0.snd < x1.snd) then some (IntKind.wrap IntKind.u64 (v4 - (1 : Int)), v5) else some (v4, v5)
noncomputable def ref02_Minus (x0 : Int × Int) (x1 : Int × Int) : Option (Int × Int) := ref02_Minus_b lpK jnK x0 x1
noncomputable def c123 : Ctr := ⟨[T137, T137], [], [], .one T137, fun x _ _ => ref02_Minus x.1 x.2.1⟩
theorem e123 (lp : Lp) (jn : Jn) : ∀ (x : TsS c123.as) (F : TsF c123.fs) (y : TsS c123.cs), ref02_Minus_b lp jn x.1 x.2.1 = runC lp jn (ctxOf prog shs inls [] [(36, r36), (18, r18)]) hints 4 123 f123 c123 x F y := fun x F y => by kernel_rfl
theorem l123 : (ctxOf prog shs inls [] [(36, r36), (18, r18)]).ok := q36
theorem ok123 : c123.ok prog 123 := Ctr.of_den l123 hmix (hl := hints) (d := 4) func123 rfl (by decide) (e123 lpK jnK)

/-- loftblock loftblockref02.Plus -/
noncomputable def ref02_Plus_b (_ : Lp) (_ : Jn) (x0 : Int × Int) (x1 : Int × Int) : Option (Int × Int) :=
  
  let v4 : Int := IntKind.wrap IntKind.u64 (x0.fst + x1.fst);
  let v5 : Int := IntKind.wrap IntKind.u64 (x0.snd + x1.snd); bif decide (v5 < x0.snd) then some (IntKind.wrap IntKind.u64 (v4 + (1 : Int)), v5) else some (v4, v5)
noncomputable def ref02_Plus (x0 : Int × Int) (x1 : Int × Int) : Option (Int × Int) := ref02_Plus_b lpK jnK x0 x1
noncomputable def c124 : Ctr := ⟨[T137, T137], [], [], .one T137, fun x _ _ => ref02_Plus x.1 x.2.1⟩
theorem e124 (lp : Lp) (jn : Jn) : ∀ (x : TsS c124.as) (F : TsF c124.fs) (y : TsS c124.cs), ref02_Plus_b lp jn x.1 x.2.1 = runC lp jn (ctxOf prog shs inls [] [(36, r36), (18, r18)]) hints 4 124 f124 c124 x F y := fun x F y => by kernel_rfl
theorem l124 : (ctxOf prog shs inls [] [(36, r36), (18, r18)]).ok := q36
theorem ok124 : c124.ok prog 124 := Ctr.of_den l124 hmix (hl := hints) (d := 4) func124 rfl (by decide) (e124 lpK jnK)

/-- loftblock loftblockref02.Gcd -/
noncomputable def ref02_Gcd_b (lp : Lp) (_ : Jn) (ref02_Half : (Int × Int) → Option (Int × Int)) (ref02_Less : (Int × Int) → (Int × Int) → Option (Bool)) (ref02_Minus : (Int × Int) → (Int × Int) → Option (Int × Int)) (ref02_Plus : (Int × Int) → (Int × Int) → Option (Int × Int)) (x0 : Int × Int) (x1 : Int × Int) : Option (Int × Int) :=
  bif decide (x0.fst = (0 : Int)) && (decide (x0.snd = (0 : Int)) && true) then some x1 else lp (Int × (Int × Int) × (Int × Int) × PUnit) (Int × Int) (fun (again : Int × (Int × Int) × (Int ×
    Int) × PUnit → Option (Int × Int)) (x : Int × (Int × Int) × (Int × Int) × PUnit) =>
  let v6 : Bool := decide (IntKind.wrap IntKind.u64 (↑(Nat.land (Int.toNat (x.snd.fst.snd % Int.ofNat (18446744073709551616 : Nat))) (Int.toNat ((1 : Int) % Int.ofNat (18446744073709551616
    : Nat)))) : Int) = (0 : Int));
  let v7 : Bool := !v6 || v6; bif v7 then bif v7 then bif v7 then bif v7 then bif bif v6 then decide (IntKind.wrap IntKind.u64 (↑(Nat.land (Int.toNat (x.snd.snd.fst.snd % Int.ofNat
    (18446744073709551616 : Nat))) (Int.toNat ((1 : Int) % Int.ofNat (18446744073709551616 : Nat)))) : Int) = (0 : Int)) else false then obind (ref02_Half x.snd.fst) fun (t : Int × Int) =>
    obind (ref02_Half x.snd.snd.fst) fun (t_1 : Int × Int) => again (IntKind.wrap IntKind.i64 (x.fst + (1 : Int)), t, t_1, PUnit.unit) else lp ((Int × Int) × (Int × Int) × PUnit) (Int ×
    Int) (fun (again : (Int × Int) × (Int × Int) × PUnit → Option (Int × Int)) (x_1 : (Int × Int) × (Int × Int) × PUnit) =>
  let v10 : (Int × Int) × PUnit := (x_1.snd.fst, PUnit.unit); bif !(decide (x_1.fst.fst = (0 : Int)) && (decide (x_1.fst.snd = (0 : Int)) && true)) then lp ((Int × Int) × PUnit) (Int × Int)
    (fun (again_1 : (Int × Int) × PUnit → Option (Int × Int)) (x : (Int × Int) × PUnit) => bif decide (IntKind.wrap IntKind.u64 (↑(Nat.land (Int.toNat (x.fst.snd % Int.ofNat
    (18446744073709551616 : Nat))) (Int.toNat ((1 : Int) % Int.ofNat (18446744073709551616 : Nat)))) : Int) = (0 : Int)) then obind (ref02_Half x.fst) fun (t : Int × Int) => again_1 (t,
    PUnit.unit) else lp ((Int × Int) × PUnit) (Int × Int) (fun (again_2 : (Int × Int) × PUnit → Option (Int × Int)) (x_2 : (Int × Int) × PUnit) => bif decide (IntKind.wrap IntKind.u64
    (↑(Nat.land (Int.toNat (x_2.fst.snd % Int.ofNat (18446744073709551616 : Nat))) (Int.toNat ((1 : Int) % Int.ofNat (18446744073709551616 : Nat)))) : Int) = (0 : Int)) then obind
    (ref02_Half x_2.fst) fun (t : Int × Int) => again_2 (t, PUnit.unit) else obind (ref02_Less x.fst x_2.fst) fun (t : Bool) => bif t then obind (ref02_Minus x_2.fst x.fst) fun (t : Int ×
    Int) => again (t, x.fst, PUnit.unit) else obind (ref02_Minus x.fst x_2.fst) fun (t : Int × Int) => again (t, x_2.fst, PUnit.unit)) v10) (x_1.fst, PUnit.unit) else lp (Int × (Int × Int)
    × PUnit) (Int × Int) (fun (again : Int × (Int × Int) × PUnit → Option (Int × Int)) (x : Int × (Int × Int) × PUnit) => bif decide (x.fst > (0 : Int)) then obind (ref02_Plus x.snd.fst
    x.snd.fst) fun (t : Int × Int) => again (IntKind.wrap IntKind.i64 (x.fst - (1 : Int)), t, PUnit.unit) else some x.snd.fst) (x.fst, v10)) (x.snd.fst, x.snd.snd.fst, PUnit.unit) else none
    else none else none else none) ((0 : Int), x0, x1, PUnit.unit)
noncomputable def ref02_Gcd (x0 : Int × Int) (x1 : Int × Int) : Option (Int × Int) := ref02_Gcd_b lpK jnK ref02_Half ref02_Less ref02_Minus ref02_Plus x0 x1
noncomputable def c116 : Ctr := ⟨[T137, T137], [], [], .one T137, fun x _ _ => ref02_Gcd x.1 x.2.1⟩
theorem e116 (lp : Lp) (jn : Jn) (ref02_Half : (Int × Int) → Option (Int × Int)) (ref02_Less : (Int × Int) → (Int × Int) → Option (Bool)) (ref02_Minus : (Int × Int) → (Int × Int) → Option (Int × Int)) (ref02_Plus : (Int × Int) → (Int × Int) → Option (Int × Int)) : ∀ (x : TsS c116.as) (F : TsF c116.fs) (y : TsS c116.cs), ref02_Gcd_b lp jn ref02_Half ref02_Less ref02_Minus ref02_Plus x.1 x.2.1 = runC lp jn (ctxOf prog shs inls [(124, ⟨[T137, T137], [], [], .one T137, fun x _ _ => ref02_Plus x.1 x.2.1⟩), (123, ⟨[T137, T137], [], [], .one T137, fun x _ _ => ref02_Minus x.1 x.2.1⟩), (122, ⟨[T137, T137], [], [], .one .bool, fun x _ _ => ref02_Less x.1 x.2.1⟩), (121, ⟨[T137], [], [], .one T137, fun x _ _ => ref02_Half x.1⟩)] [(36, r36), (18, r18)]) hints 4 116 f116 c116 x F y := fun x F y => by kernel_rfl
theorem l116 : (ctxOf prog shs inls [(124, c124), (123, c123), (122, c122), (121, c121)] [(36, r36), (18, r18)]).ok := ctxOf_cons (ctxOf_cons (ctxOf_cons (ctxOf_cons (q36) (by kernel_rfl) ok121) (by kernel_rfl) ok122) (by kernel_rfl) ok123) (by kernel_rfl) ok124
theorem ok116 : c116.ok prog 116 := Ctr.of_den l116 hmix (hl := hints) (d := 4) func116 rfl (by decide) (e116 lpK jnK ref02_Half ref02_Less ref02_Minus ref02_Plus)

/-- loftblock loftblockref02.Div -/
noncomputable def ref02_Div_b (lp : Lp) (_ : Jn) (ref02_Less : (Int × Int) → (Int × Int) → Option (Bool)) (ref02_Minus : (Int × Int) → (Int × Int) → Option (Int × Int)) (x0 : Int × Int) (x1 : Int × Int) : Option ((Int × Int) × (Int × Int) × Unit) :=
  
  let v4 : Bool := nzB x1.snd;
  let v5 : Int := (2 : Int) ^ (63 : Nat);
  let v6 : Int := (2 : Int) ^ (1 : Nat);
  let v7 : Bool := decide (x0.fst = (0 : Int));
  let v8 : Bool := decide ((0 : Int) ≤ (63 : Int));
  let v9 : Bool := decide ((0 : Int) ≤ (1 : Int));
  let v10 : Bool := !v7 || v7; bif v10 then bif v10 then bif v10 then bif bif v7 then decide (x1.fst = (0 : Int)) else false then bif v4 then bif v4 then some (((0 : Int), IntKind.wrap
    IntKind.u64 (Int.tdiv x0.snd x1.snd)), ((0 : Int), Int.tmod x0.snd x1.snd), PUnit.unit) else none else none else lp (Int × (Int × Int) × (Int × Int) × (Int × Int) × PUnit) ((Int × Int)
    × (Int × Int) × PUnit) (fun (again : Int × (Int × Int) × (Int × Int) × (Int × Int) × PUnit → Option ((Int × Int) × (Int × Int) × PUnit)) (x : Int × (Int × Int) × (Int × Int) × (Int ×
    Int) × PUnit) =>
  let v13 : Int := IntKind.wrap IntKind.i64 (x.fst + (1 : Int));
  let v14 : Int := IntKind.wrap IntKind.u64 (x.snd.snd.fst.snd * v6);
  let v15 : Int := IntKind.wrap IntKind.u64 (IntKind.wrap IntKind.u64 (x.snd.snd.fst.fst * v6) + Int.fdiv x.snd.snd.fst.snd v5);
  let v16 : Bool := decide (Int.fdiv x.snd.snd.snd.fst.fst v5 > (0 : Int));
  let v17 : Bool := !v16;
  let v18 : Int × Int := (IntKind.wrap IntKind.u64 (IntKind.wrap IntKind.u64 (x.snd.fst.fst * v6) + Int.fdiv x.snd.fst.snd v5), IntKind.wrap IntKind.u64 (x.snd.fst.snd * v6));
  let v19 : Int × Int := (IntKind.wrap IntKind.u64 (IntKind.wrap IntKind.u64 (x.snd.snd.snd.fst.fst * v6) + Int.fdiv x.snd.snd.snd.fst.snd v5), IntKind.wrap IntKind.u64 (IntKind.wrap
    IntKind.u64 (x.snd.snd.snd.fst.snd * v6) + Int.fdiv x.snd.fst.fst v5));
  let v20 : Bool := !v17 || v17; bif decide (x.fst < (128 : Int)) then bif v8 then bif v9 then bif v8 then bif v9 then bif v8 then bif v9 then bif v8 then bif v9 then bif v9 then bif v8
    then bif v9 then bif v20 && v20 then obind (bif v17 then ref02_Less v19 x1 else some false) fun (t : Bool) => bif v20 then bif v16 || v17 then bif bif v16 then true else !t then obind
    (ref02_Minus v19 x1) fun (t : Int × Int) => again (v13, v18, (v15, IntKind.wrap IntKind.u64 (v14 + (1 : Int))), t, PUnit.unit) else again (v13, v18, (v15, v14), v19, PUnit.unit) else
    none else none else none else none else none else none else none else none else none else none else none else none else none else none else some (x.snd.snd.fst, x.snd.snd.snd.fst,
    PUnit.unit)) ((0 : Int), x0, ((0 : Int), (0 : Int)), ((0 : Int), (0 : Int)), PUnit.unit) else none else none else none
noncomputable def ref02_Div (x0 : Int × Int) (x1 : Int × Int) : Option ((Int × Int) × (Int × Int) × Unit) := ref02_Div_b lpK jnK ref02_Less ref02_Minus x0 x1
noncomputable def c117 : Ctr := ⟨[T137, T137], [], [], .tup [T137, T137], fun x _ _ => ref02_Div x.1 x.2.1⟩
theorem e117 (lp : Lp) (jn : Jn) (ref02_Less : (Int × Int) → (Int × Int) → Option (Bool)) (ref02_Minus : (Int × Int) → (Int × Int) → Option (Int × Int)) : ∀ (x : TsS c117.as) (F : TsF c117.fs) (y : TsS c117.cs), ref02_Div_b lp jn ref02_Less ref02_Minus x.1 x.2.1 = runC lp jn (ctxOf prog shs inls [(123, ⟨[T137, T137], [], [], .one T137, fun x _ _ => ref02_Minus x.1 x.2.1⟩), (122, ⟨[T137, T137], [], [], .one .bool, fun x _ _ => ref02_Less x.1 x.2.1⟩)] [(36, r36), (18, r18)]) hints 4 117 f117 c117 x F y := fun x F y => by kernel_rfl
theorem l117 : (ctxOf prog shs inls [(123, c123), (122, c122)] [(36, r36), (18, r18)]).ok := ctxOf_cons (ctxOf_cons (q36) (by kernel_rfl) ok122) (by kernel_rfl) ok123
theorem ok117 : c117.ok prog 117 := Ctr.of_den l117 hmix (hl := hints) (d := 4) func117 rfl (by decide) (e117 lpK jnK ref02_Less ref02_Minus)

/-- loftblock loftblockref02.Made -/
noncomputable def ref02_Made_b (_ : Lp) (_ : Jn) (ref02_Gcd : (Int × Int) → (Int × Int) → Option (Int × Int)) (ref02_Div : (Int × Int) → (Int × Int) → Option ((Int × Int) × (Int × Int) × Unit)) (x0 : Int × Int) (x1 : Bool) (x2 : Int × Int) : Option ((Int × Int) × Int × Unit) :=
  bif decide (x2.fst = (0 : Int)) && (decide (x2.snd = (0 : Int)) && true) then some (((0 : Int), (0 : Int)), (16 : Int), PUnit.unit) else obind (ref02_Gcd x0 x2) fun (t : Int × Int) => obind
    (ref02_Div x0 t) fun (t_1 : (Int × Int) × (Int × Int) × PUnit) =>
  let v7 : Int := IntKind.wrap IntKind.i64 t_1.fst.snd;
  let v8 : Bool := decide (t_1.fst.fst > (0 : Int));
  let v9 : Bool := !v8;
  let v10 : Bool := bif v8 then true else decide (t_1.fst.snd > (1152921504606846976 : Int));
  let v11 : Bool := !v9 || v9;
  let v12 : Bool := !v10;
  let v13 : Bool := !v12 || v12; obind (ref02_Div x2 t) fun (t : (Int × Int) × (Int × Int) × PUnit) =>
  let v15 : Int := IntKind.wrap IntKind.i64 t.fst.snd;
  let v16 : Bool := bif v10 then true else decide (t.fst.fst > (0 : Int));
  let v17 : Bool := !v16;
  let v18 : Bool := !v17 || v17; bif v11 then bif v11 then bif v8 || v9 then bif v13 then bif v13 then bif v10 || v12 then bif v18 then bif v18 then bif v16 || v17 then bif bif v16 then
    true else decide (t.fst.snd > (1152921504606846976 : Int)) then some (((0 : Int), (0 : Int)), (5 : Int), PUnit.unit) else bif x1 then some ((IntKind.wrap IntKind.i64 ((0 : Int) - v7),
    v15), (0 : Int), PUnit.unit) else some ((v7, v15), (0 : Int), PUnit.unit) else none else none else none else none else none else none else none else none else none
noncomputable def ref02_Made (x0 : Int × Int) (x1 : Bool) (x2 : Int × Int) : Option ((Int × Int) × Int × Unit) := ref02_Made_b lpK jnK ref02_Gcd ref02_Div x0 x1 x2
noncomputable def c99 : Ctr := ⟨[T137, .bool, T137], [], [], .tup [T48, i64], fun x _ _ => ref02_Made x.1 x.2.1 x.2.2.1⟩
theorem e99 (lp : Lp) (jn : Jn) (ref02_Gcd : (Int × Int) → (Int × Int) → Option (Int × Int)) (ref02_Div : (Int × Int) → (Int × Int) → Option ((Int × Int) × (Int × Int) × Unit)) : ∀ (x : TsS c99.as) (F : TsF c99.fs) (y : TsS c99.cs), ref02_Made_b lp jn ref02_Gcd ref02_Div x.1 x.2.1 x.2.2.1 = runC lp jn (ctxOf prog shs inls [(117, ⟨[T137, T137], [], [], .tup [T137, T137], fun x _ _ => ref02_Div x.1 x.2.1⟩), (116, ⟨[T137, T137], [], [], .one T137, fun x _ _ => ref02_Gcd x.1 x.2.1⟩)] [(36, r36), (18, r18)]) hints 4 99 f99 c99 x F y := fun x F y => by kernel_rfl
theorem l99 : (ctxOf prog shs inls [(117, c117), (116, c116)] [(36, r36), (18, r18)]).ok := ctxOf_cons (ctxOf_cons (q36) (by kernel_rfl) ok116) (by kernel_rfl) ok117
theorem ok99 : c99.ok prog 99 := Ctr.of_den l99 hmix (hl := hints) (d := 4) func99 rfl (by decide) (e99 lpK jnK ref02_Gcd ref02_Div)

/-- loftblock loftblockref02.Size -/
noncomputable def ref02_Size_b (_ : Lp) (_ : Jn) (x0 : Int) : Option Int :=
  
  let v3 : Int := IntKind.wrap IntKind.u64 x0; bif decide (x0 < (0 : Int)) then some (IntKind.wrap IntKind.u64 ((0 : Int) - v3)) else some v3
noncomputable def ref02_Size (x0 : Int) : Option Int := ref02_Size_b lpK jnK x0
noncomputable def c101 : Ctr := ⟨[i64], [], [], .one (.int .u64), fun x _ _ => ref02_Size x.1⟩
theorem e101 (lp : Lp) (jn : Jn) : ∀ (x : TsS c101.as) (F : TsF c101.fs) (y : TsS c101.cs), ref02_Size_b lp jn x.1 = runC lp jn (ctxOf prog shs inls [] [(36, r36), (18, r18)]) hints 4 101 f101 c101 x F y := fun x F y => by kernel_rfl
theorem l101 : (ctxOf prog shs inls [] [(36, r36), (18, r18)]).ok := q36
theorem ok101 : c101.ok prog 101 := Ctr.of_den l101 hmix (hl := hints) (d := 4) func101 rfl (by decide) (e101 lpK jnK)

/-- loftblock loftblockref02.Make -/
noncomputable def ref02_Make_b (_ : Lp) (_ : Jn) (ref02_Made : (Int × Int) → (Bool) → (Int × Int) → Option ((Int × Int) × Int × Unit)) (ref02_Size : (Int) → Option (Int)) (x0 : Int) (x1 : Int) : Option ((Int × Int) × Int × Unit) :=
  obind (ref02_Size x0) fun (t : Int) => obind (ref02_Size x1) fun (t_1 : Int) => obind (ref02_Made ((0 : Int), t) (!decide (decide (x0 < (0 : Int)) = decide (x1 < (0 : Int)))) ((0 : Int),
    t_1)) fun (t : (Int × Int) × Int × PUnit) => some (t.fst, t.snd.fst, PUnit.unit)
noncomputable def ref02_Make (x0 : Int) (x1 : Int) : Option ((Int × Int) × Int × Unit) := ref02_Make_b lpK jnK ref02_Made ref02_Size x0 x1
noncomputable def c114 : Ctr := ⟨[i64, i64], [], [], .tup [T48, i64], fun x _ _ => ref02_Make x.1 x.2.1⟩
theorem e114 (lp : Lp) (jn : Jn) (ref02_Made : (Int × Int) → (Bool) → (Int × Int) → Option ((Int × Int) × Int × Unit)) (ref02_Size : (Int) → Option (Int)) : ∀ (x : TsS c114.as) (F : TsF c114.fs) (y : TsS c114.cs), ref02_Make_b lp jn ref02_Made ref02_Size x.1 x.2.1 = runC lp jn (ctxOf prog shs inls [(101, ⟨[i64], [], [], .one (.int .u64), fun x _ _ => ref02_Size x.1⟩), (99, ⟨[T137, .bool, T137], [], [], .tup [T48, i64], fun x _ _ => ref02_Made x.1 x.2.1 x.2.2.1⟩)] [(36, r36), (18, r18)]) hints 4 114 f114 c114 x F y := fun x F y => by kernel_rfl
theorem l114 : (ctxOf prog shs inls [(101, c101), (99, c99)] [(36, r36), (18, r18)]).ok := ctxOf_cons (ctxOf_cons (q36) (by kernel_rfl) ok99) (by kernel_rfl) ok101
theorem ok114 : c114.ok prog 114 := Ctr.of_den l114 hmix (hl := hints) (d := 4) func114 rfl (by decide) (e114 lpK jnK ref02_Made ref02_Size)

/-- loftblock loftblockref18.quotient -/
noncomputable def ref18_quotient_b (_ : Lp) (_ : Jn) (ref02_Make : (Int) → (Int) → Option ((Int × Int) × Int × Unit)) (x0 : Int) (x1 : Int) (x2 : Int) : Option (Int × Int) :=
  obind (ref02_Make (IntKind.wrap IntKind.i64 (x0 * x1)) x2) fun (t : (Int × Int) × Int × PUnit) => some t.fst
noncomputable def ref18_quotient (x0 : Int) (x1 : Int) (x2 : Int) : Option (Int × Int) := ref18_quotient_b lpK jnK ref02_Make x0 x1 x2
noncomputable def c111 : Ctr := ⟨[i64, i64, i64], [], [], .one T48, fun x _ _ => ref18_quotient x.1 x.2.1 x.2.2.1⟩
theorem e111 (lp : Lp) (jn : Jn) (ref02_Make : (Int) → (Int) → Option ((Int × Int) × Int × Unit)) : ∀ (x : TsS c111.as) (F : TsF c111.fs) (y : TsS c111.cs), ref18_quotient_b lp jn ref02_Make x.1 x.2.1 x.2.2.1 = runC lp jn (ctxOf prog shs inls [(114, ⟨[i64, i64], [], [], .tup [T48, i64], fun x _ _ => ref02_Make x.1 x.2.1⟩)] [(36, r36), (18, r18)]) hints 4 111 f111 c111 x F y := fun x F y => by kernel_rfl
theorem l111 : (ctxOf prog shs inls [(114, c114)] [(36, r36), (18, r18)]).ok := ctxOf_cons (q36) (by kernel_rfl) ok114
theorem ok111 : c111.ok prog 111 := Ctr.of_den l111 hmix (hl := hints) (d := 4) func111 rfl (by decide) (e111 lpK jnK ref02_Make)

/-- loftblock loftblockref18.one -/
noncomputable def ref18_one_b (_ : Lp) (_ : Jn) (ref02_Of : (Int) → Option (Int × Int)) (ref18_quotient : (Int) → (Int) → (Int) → Option (Int × Int)) (x0 : Int) (x1 : Int × Int × Int) : Option ((List (Int × Int)) × Int × Unit) :=
  
  let v4 : Bool := !decide (x1.fst = (0 : Int));
  let v5 : Bool := !v4;
  let v6 : Bool := !v5 || v5; bif decide (x0 = (0 : Int)) then obind (ref02_Of (0 : Int)) fun (t : Int × Int) => some ([t], (0 : Int), PUnit.unit) else bif v6 then bif v6 then bif v4 || v5
    then bif bif v4 then true else !decide (x1.snd.fst = (0 : Int)) then some ([], (22 : Int), PUnit.unit) else obind (ref18_quotient x0 (1 : Int) x1.snd.snd) fun (t : Int × Int) => some
    ([t], (0 : Int), PUnit.unit) else none else none else none
noncomputable def ref18_one (x0 : Int) (x1 : Int × Int × Int) : Option ((List (Int × Int)) × Int × Unit) := ref18_one_b lpK jnK ref02_Of ref18_quotient x0 x1
noncomputable def c94 : Ctr := ⟨[i64, T40], [], [], .tup [(.sl T48), i64], fun x _ _ => ref18_one x.1 x.2.1⟩
theorem e94 (lp : Lp) (jn : Jn) (ref02_Of : (Int) → Option (Int × Int)) (ref18_quotient : (Int) → (Int) → (Int) → Option (Int × Int)) : ∀ (x : TsS c94.as) (F : TsF c94.fs) (y : TsS c94.cs), ref18_one_b lp jn ref02_Of ref18_quotient x.1 x.2.1 = runC lp jn (ctxOf prog shs inls [(111, ⟨[i64, i64, i64], [], [], .one T48, fun x _ _ => ref18_quotient x.1 x.2.1 x.2.2.1⟩), (67, ⟨[i64], [], [], .one T48, fun x _ _ => ref02_Of x.1⟩)] [(36, r36), (18, r18)]) hints 4 94 f94 c94 x F y := fun x F y => by kernel_rfl
theorem l94 : (ctxOf prog shs inls [(111, c111), (67, c67)] [(36, r36), (18, r18)]).ok := ctxOf_cons (ctxOf_cons (q36) (by kernel_rfl) ok67) (by kernel_rfl) ok111
theorem ok94 : c94.ok prog 94 := Ctr.of_den l94 hmix (hl := hints) (d := 4) func94 rfl (by decide) (e94 lpK jnK ref02_Of ref18_quotient)

/-- loftblock loftblockref18.Cross -/
noncomputable def ref18_Cross_b (_ : Lp) (_ : Jn) (x0 : Int × Int × Int) (x1 : Int × Int × Int) : Option (Int × Int × Int) :=
  some (IntKind.wrap IntKind.i64 (IntKind.wrap IntKind.i64 (x0.snd.fst * x1.snd.snd) - IntKind.wrap IntKind.i64 (x0.snd.snd * x1.snd.fst)), IntKind.wrap IntKind.i64 (IntKind.wrap IntKind.i64
    (x0.snd.snd * x1.fst) - IntKind.wrap IntKind.i64 (x0.fst * x1.snd.snd)), IntKind.wrap IntKind.i64 (IntKind.wrap IntKind.i64 (x0.fst * x1.snd.fst) - IntKind.wrap IntKind.i64 (x0.snd.fst
    * x1.fst)))
noncomputable def ref18_Cross (x0 : Int × Int × Int) (x1 : Int × Int × Int) : Option (Int × Int × Int) := ref18_Cross_b lpK jnK x0 x1
noncomputable def c112 : Ctr := ⟨[T40, T40], [], [], .one T40, fun x _ _ => ref18_Cross x.1 x.2.1⟩
theorem e112 (lp : Lp) (jn : Jn) : ∀ (x : TsS c112.as) (F : TsF c112.fs) (y : TsS c112.cs), ref18_Cross_b lp jn x.1 x.2.1 = runC lp jn (ctxOf prog shs inls [] [(36, r36), (18, r18)]) hints 4 112 f112 c112 x F y := fun x F y => by kernel_rfl
theorem l112 : (ctxOf prog shs inls [] [(36, r36), (18, r18)]).ok := q36
theorem ok112 : c112.ok prog 112 := Ctr.of_den l112 hmix (hl := hints) (d := 4) func112 rfl (by decide) (e112 lpK jnK)

/-- loftblock loftblockref18.upright -/
noncomputable def ref18_upright_b (_ : Lp) (_ : Jn) (x0 : Int × Int × Int) : Option Bool :=
  
  let v3 : Bool := decide (x0.fst = (0 : Int));
  let v4 : Bool := !v3 || v3; bif v4 then bif v4 then bif v4 then some (bif v3 then decide (x0.snd.fst = (0 : Int)) else false) else none else none else none
noncomputable def ref18_upright (x0 : Int × Int × Int) : Option Bool := ref18_upright_b lpK jnK x0
noncomputable def c113 : Ctr := ⟨[T40], [], [], .one .bool, fun x _ _ => ref18_upright x.1⟩
theorem e113 (lp : Lp) (jn : Jn) : ∀ (x : TsS c113.as) (F : TsF c113.fs) (y : TsS c113.cs), ref18_upright_b lp jn x.1 = runC lp jn (ctxOf prog shs inls [] [(36, r36), (18, r18)]) hints 4 113 f113 c113 x F y := fun x F y => by kernel_rfl
theorem l113 : (ctxOf prog shs inls [] [(36, r36), (18, r18)]).ok := q36
theorem ok113 : c113.ok prog 113 := Ctr.of_den l113 hmix (hl := hints) (d := 4) func113 rfl (by decide) (e113 lpK jnK)

/-- loftblock loftblockref18.two -/
noncomputable def ref18_two_b (_ : Lp) (_ : Jn) (ref02_Of : (Int) → Option (Int × Int)) (ref18_quotient : (Int) → (Int) → (Int) → Option (Int × Int)) (ref18_Cross : (Int × Int × Int) → (Int × Int × Int) → Option (Int × Int × Int)) (ref18_upright : (Int × Int × Int) → Option (Bool)) (x0 : Int) (x1 : Int × Int × Int) (x2 : Int × Int × Int) : Option ((List (Int × Int)) × Int × Unit) :=
  
  let v5 : Bool := decide (x0 = (0 : Int));
  let v6 : Bool := !v5;
  let v7 : Int := IntKind.wrap IntKind.i64 (IntKind.wrap IntKind.i64 (x1.fst * x2.snd.snd) - IntKind.wrap IntKind.i64 (x1.snd.snd * x2.fst));
  let v8 : Int := IntKind.wrap IntKind.i64 (IntKind.wrap IntKind.i64 (x1.snd.fst * x2.snd.snd) - IntKind.wrap IntKind.i64 (x1.snd.snd * x2.snd.fst)); obind (ref18_Cross x1 x2) fun (t : Int
    × Int × Int) =>
  let v10 : Bool := decide (t.snd.fst = (0 : Int));
  let v11 : Bool := decide (t.snd.snd = (0 : Int)); bif decide (t.fst = (0 : Int)) && (v10 && (v11 && true)) then bif !v6 || v6 then obind (bif v6 then ref18_upright x1 else some false) fun
    (t : Bool) => bif v5 || v6 then bif bif v5 then true else t then some ([], (21 : Int), PUnit.unit) else some ([], (22 : Int), PUnit.unit) else none else none else bif v5 then obind
    (ref02_Of (0 : Int)) fun (t : Int × Int) => obind (ref02_Of (0 : Int)) fun (t_1 : Int × Int) => some ([t, t_1], (0 : Int), PUnit.unit) else bif !v11 then some ([], (22 : Int),
    PUnit.unit) else bif !v10 then obind (ref18_quotient x0 (IntKind.wrap IntKind.i64 ((0 : Int) - x2.fst)) v7) fun (t : Int × Int) => obind (ref18_quotient x0 x1.fst v7) fun (t_1 : Int ×
    Int) => some ([t, t_1], (0 : Int), PUnit.unit) else obind (ref18_quotient x0 (IntKind.wrap IntKind.i64 ((0 : Int) - x2.snd.fst)) v8) fun (t : Int × Int) => obind (ref18_quotient x0
    x1.snd.fst v8) fun (t_1 : Int × Int) => some ([t, t_1], (0 : Int), PUnit.unit)
noncomputable def ref18_two (x0 : Int) (x1 : Int × Int × Int) (x2 : Int × Int × Int) : Option ((List (Int × Int)) × Int × Unit) := ref18_two_b lpK jnK ref02_Of ref18_quotient ref18_Cross ref18_upright x0 x1 x2
noncomputable def c95 : Ctr := ⟨[i64, T40, T40], [], [], .tup [(.sl T48), i64], fun x _ _ => ref18_two x.1 x.2.1 x.2.2.1⟩
theorem e95 (lp : Lp) (jn : Jn) (ref02_Of : (Int) → Option (Int × Int)) (ref18_quotient : (Int) → (Int) → (Int) → Option (Int × Int)) (ref18_Cross : (Int × Int × Int) → (Int × Int × Int) → Option (Int × Int × Int)) (ref18_upright : (Int × Int × Int) → Option (Bool)) : ∀ (x : TsS c95.as) (F : TsF c95.fs) (y : TsS c95.cs), ref18_two_b lp jn ref02_Of ref18_quotient ref18_Cross ref18_upright x.1 x.2.1 x.2.2.1 = runC lp jn (ctxOf prog shs inls [(113, ⟨[T40], [], [], .one .bool, fun x _ _ => ref18_upright x.1⟩), (112, ⟨[T40, T40], [], [], .one T40, fun x _ _ => ref18_Cross x.1 x.2.1⟩), (111, ⟨[i64, i64, i64], [], [], .one T48, fun x _ _ => ref18_quotient x.1 x.2.1 x.2.2.1⟩), (67, ⟨[i64], [], [], .one T48, fun x _ _ => ref02_Of x.1⟩)] [(36, r36), (18, r18)]) hints 4 95 f95 c95 x F y := fun x F y => by kernel_rfl
theorem l95 : (ctxOf prog shs inls [(113, c113), (112, c112), (111, c111), (67, c67)] [(36, r36), (18, r18)]).ok := ctxOf_cons (ctxOf_cons (ctxOf_cons (ctxOf_cons (q36) (by kernel_rfl) ok67) (by kernel_rfl) ok111) (by kernel_rfl) ok112) (by kernel_rfl) ok113
theorem ok95 : c95.ok prog 95 := Ctr.of_den l95 hmix (hl := hints) (d := 4) func95 rfl (by decide) (e95 lpK jnK ref02_Of ref18_quotient ref18_Cross ref18_upright)

/-- loftblock loftblockref18.three -/
noncomputable def ref18_three_b (_ : Lp) (_ : Jn) (ref18_dot : (Int × Int × Int) → (Int × Int × Int) → Option (Int)) (ref18_quotient : (Int) → (Int) → (Int) → Option (Int × Int)) (ref18_Cross : (Int × Int × Int) → (Int × Int × Int) → Option (Int × Int × Int)) (ref18_upright : (Int × Int × Int) → Option (Bool)) (x0 : Int) (x1 : Int × Int × Int) (x2 : Int × Int × Int) (x3 : Int × Int × Int) : Option ((List (Int × Int)) × Int × Unit) :=
  obind (ref18_Cross x2 x3) fun (t : Int × Int × Int) =>
  let v7 : Bool := decide (t.snd.snd = (0 : Int));
  let v8 : Bool := !v7;
  let v9 : Bool := !v8;
  let v10 : Bool := !v9 || v9;
  let v11 : Bool := decide (t.fst = (0 : Int)) && (decide (t.snd.fst = (0 : Int)) && (v7 && true));
  let v12 : Bool := !v11 || v11; obind (ref18_Cross x3 x1) fun (t_1 : Int × Int × Int) =>
  let v14 : Bool := decide (t_1.snd.snd = (0 : Int));
  let v15 : Bool := bif v8 then true else !v14;
  let v16 : Bool := !v15;
  let v17 : Bool := !v16 || v16;
  let v18 : Bool := bif v11 then decide (t_1.fst = (0 : Int)) && (decide (t_1.snd.fst = (0 : Int)) && (v14 && true)) else false;
  let v19 : Bool := !v18 || v18; obind (ref18_Cross x1 x2) fun (t_2 : Int × Int × Int) =>
  let v21 : Bool := decide (t_2.snd.snd = (0 : Int)); obind (ref18_dot x1 t) fun (t_3 : Int) => bif !decide (t_3 = (0 : Int)) then obind (ref18_quotient x0 t.snd.snd t_3) fun (t : Int ×
    Int) => obind (ref18_quotient x0 t_1.snd.snd t_3) fun (t_4 : Int × Int) => obind (ref18_quotient x0 t_2.snd.snd t_3) fun (t_5 : Int × Int) => some ([t, t_4, t_5], (0 : Int), PUnit.unit)
    else bif decide (x0 = (0 : Int)) then some ([], (21 : Int), PUnit.unit) else bif v12 && v12 then bif v12 then bif v19 && v19 then bif v19 then bif bif v18 then decide (t_2.fst = (0 :
    Int)) && (decide (t_2.snd.fst = (0 : Int)) && (v21 && true)) else false then obind (ref18_upright x1) fun (t : Bool) => bif t then some ([], (21 : Int), PUnit.unit) else some ([], (22 :
    Int), PUnit.unit) else bif v10 then bif v10 then bif v8 || v9 then bif v17 then bif v17 then bif v15 || v16 then bif bif v15 then true else !v21 then some ([], (22 : Int), PUnit.unit)
    else some ([], (21 : Int), PUnit.unit) else none else none else none else none else none else none else none else none else none else none
noncomputable def ref18_three (x0 : Int) (x1 : Int × Int × Int) (x2 : Int × Int × Int) (x3 : Int × Int × Int) : Option ((List (Int × Int)) × Int × Unit) := ref18_three_b lpK jnK ref18_dot ref18_quotient ref18_Cross ref18_upright x0 x1 x2 x3
noncomputable def c96 : Ctr := ⟨[i64, T40, T40, T40], [], [], .tup [(.sl T48), i64], fun x _ _ => ref18_three x.1 x.2.1 x.2.2.1 x.2.2.2.1⟩
theorem e96 (lp : Lp) (jn : Jn) (ref18_dot : (Int × Int × Int) → (Int × Int × Int) → Option (Int)) (ref18_quotient : (Int) → (Int) → (Int) → Option (Int × Int)) (ref18_Cross : (Int × Int × Int) → (Int × Int × Int) → Option (Int × Int × Int)) (ref18_upright : (Int × Int × Int) → Option (Bool)) : ∀ (x : TsS c96.as) (F : TsF c96.fs) (y : TsS c96.cs), ref18_three_b lp jn ref18_dot ref18_quotient ref18_Cross ref18_upright x.1 x.2.1 x.2.2.1 x.2.2.2.1 = runC lp jn (ctxOf prog shs inls [(113, ⟨[T40], [], [], .one .bool, fun x _ _ => ref18_upright x.1⟩), (112, ⟨[T40, T40], [], [], .one T40, fun x _ _ => ref18_Cross x.1 x.2.1⟩), (111, ⟨[i64, i64, i64], [], [], .one T48, fun x _ _ => ref18_quotient x.1 x.2.1 x.2.2.1⟩), (52, ⟨[T40, T40], [], [], .one i64, fun x _ _ => ref18_dot x.1 x.2.1⟩)] [(36, r36), (18, r18)]) hints 4 96 f96 c96 x F y := fun x F y => by kernel_rfl
theorem l96 : (ctxOf prog shs inls [(113, c113), (112, c112), (111, c111), (52, c52)] [(36, r36), (18, r18)]).ok := ctxOf_cons (ctxOf_cons (ctxOf_cons (ctxOf_cons (q36) (by kernel_rfl) ok52) (by kernel_rfl) ok111) (by kernel_rfl) ok112) (by kernel_rfl) ok113
theorem ok96 : c96.ok prog 96 := Ctr.of_den l96 hmix (hl := hints) (d := 4) func96 rfl (by decide) (e96 lpK jnK ref18_dot ref18_quotient ref18_Cross ref18_upright)

/-- loftblock loftblockref18.Pulls -/
noncomputable def ref18_Pulls_b (_ : Lp) (_ : Jn) (ref18_Arm : ((Int × Int × Int) × Int × List (ByteArray × (Int × Int × Int) × Int)) → (Int) → Option (Int × Int × Int)) (ref18_one : (Int) → (Int × Int × Int) → Option ((List (Int × Int)) × Int × Unit)) (ref18_two : (Int) → (Int × Int × Int) → (Int × Int × Int) → Option ((List (Int × Int)) × Int × Unit)) (ref18_three : (Int) → (Int × Int × Int) → (Int × Int × Int) → (Int × Int × Int) → Option ((List (Int × Int)) × Int × Unit)) (x0 : (Int × Int × Int) × Int × List (ByteArray × (Int × Int × Int) × Int)) : Option ((List (Int × Int)) × Int × Unit) :=
  bif decide ((↑(List.length x0.snd.snd) : Int) = (1 : Int)) then obind (ref18_Arm x0 (0 : Int)) fun (t : Int × Int × Int) => obind (ref18_one x0.snd.fst t) fun (t : List (Int × Int) × Int ×
    PUnit) => some (t.fst, t.snd.fst, PUnit.unit) else bif decide ((↑(List.length x0.snd.snd) : Int) = (2 : Int)) then obind (ref18_Arm x0 (0 : Int)) fun (t : Int × Int × Int) => obind
    (ref18_Arm x0 (1 : Int)) fun (t_1 : Int × Int × Int) => obind (ref18_two x0.snd.fst t t_1) fun (t : List (Int × Int) × Int × PUnit) => some (t.fst, t.snd.fst, PUnit.unit) else obind
    (ref18_Arm x0 (0 : Int)) fun (t : Int × Int × Int) => obind (ref18_Arm x0 (1 : Int)) fun (t_1 : Int × Int × Int) => obind (ref18_Arm x0 (2 : Int)) fun (t_2 : Int × Int × Int) => obind
    (ref18_three x0.snd.fst t t_1 t_2) fun (t : List (Int × Int) × Int × PUnit) => some (t.fst, t.snd.fst, PUnit.unit)
noncomputable def ref18_Pulls (x0 : (Int × Int × Int) × Int × List (ByteArray × (Int × Int × Int) × Int)) : Option ((List (Int × Int)) × Int × Unit) := ref18_Pulls_b lpK jnK ref18_Arm ref18_one ref18_two ref18_three x0
noncomputable def c64 : Ctr := ⟨[T26], [], [], .tup [(.sl T48), i64], fun x _ _ => ref18_Pulls x.1⟩
theorem e64 (lp : Lp) (jn : Jn) (ref18_Arm : ((Int × Int × Int) × Int × List (ByteArray × (Int × Int × Int) × Int)) → (Int) → Option (Int × Int × Int)) (ref18_one : (Int) → (Int × Int × Int) → Option ((List (Int × Int)) × Int × Unit)) (ref18_two : (Int) → (Int × Int × Int) → (Int × Int × Int) → Option ((List (Int × Int)) × Int × Unit)) (ref18_three : (Int) → (Int × Int × Int) → (Int × Int × Int) → (Int × Int × Int) → Option ((List (Int × Int)) × Int × Unit)) : ∀ (x : TsS c64.as) (F : TsF c64.fs) (y : TsS c64.cs), ref18_Pulls_b lp jn ref18_Arm ref18_one ref18_two ref18_three x.1 = runC lp jn (ctxOf prog shs inls [(96, ⟨[i64, T40, T40, T40], [], [], .tup [(.sl T48), i64], fun x _ _ => ref18_three x.1 x.2.1 x.2.2.1 x.2.2.2.1⟩), (95, ⟨[i64, T40, T40], [], [], .tup [(.sl T48), i64], fun x _ _ => ref18_two x.1 x.2.1 x.2.2.1⟩), (94, ⟨[i64, T40], [], [], .tup [(.sl T48), i64], fun x _ _ => ref18_one x.1 x.2.1⟩), (19, ⟨[T26, i64], [], [], .one T40, fun x _ _ => ref18_Arm x.1 x.2.1⟩)] [(36, r36), (18, r18)]) hints 4 64 f64 c64 x F y := fun x F y => by kernel_rfl
theorem l64 : (ctxOf prog shs inls [(96, c96), (95, c95), (94, c94), (19, c19)] [(36, r36), (18, r18)]).ok := ctxOf_cons (ctxOf_cons (ctxOf_cons (ctxOf_cons (q36) (by kernel_rfl) ok19) (by kernel_rfl) ok94) (by kernel_rfl) ok95) (by kernel_rfl) ok96
theorem ok64 : c64.ok prog 64 := Ctr.of_den l64 hmix (hl := hints) (d := 4) func64 rfl (by decide) (e64 lpK jnK ref18_Arm ref18_one ref18_two ref18_three)

/-- loftblock loftblockref02.Floor -/
noncomputable def ref02_Floor_b (_ : Lp) (_ : Jn) (x0 : Int × Int) : Option Int :=
  
  let v3 : Int := IntKind.wrap IntKind.i64 (Int.tdiv x0.fst x0.snd); bif nzB x0.snd then bif decide (IntKind.wrap IntKind.i64 (v3 * x0.snd) > x0.fst) then some (IntKind.wrap IntKind.i64 (v3
    - (1 : Int))) else some v3 else none
noncomputable def ref02_Floor (x0 : Int × Int) : Option Int := ref02_Floor_b lpK jnK x0
noncomputable def c33 : Ctr := ⟨[T48], [], [], .one i64, fun x _ _ => ref02_Floor x.1⟩
theorem e33 (lp : Lp) (jn : Jn) : ∀ (x : TsS c33.as) (F : TsF c33.fs) (y : TsS c33.cs), ref02_Floor_b lp jn x.1 = runC lp jn (ctxOf prog shs inls [] [(36, r36), (18, r18)]) hints 4 33 f33 c33 x F y := fun x F y => by kernel_rfl
theorem l33 : (ctxOf prog shs inls [] [(36, r36), (18, r18)]).ok := q36
theorem ok33 : c33.ok prog 33 := Ctr.of_den l33 hmix (hl := hints) (d := 4) func33 rfl (by decide) (e33 lpK jnK)

/-- loftblock loftblockref02.Mul -/
noncomputable def ref02_Mul_b (_ : Lp) (_ : Jn) (x0 : Int) (x1 : Int) : Option (Int × Int) :=
  
  let v4 : Int := (2 : Int) ^ (32 : Nat);
  let v5 : Int := Int.fdiv x0 v4;
  let v6 : Int := Int.fdiv x1 v4;
  let v7 : Bool := decide ((0 : Int) ≤ (32 : Int));
  let v8 : Int := IntKind.wrap IntKind.u64 (↑(Nat.land (Int.toNat (x1 % Int.ofNat (18446744073709551616 : Nat))) (Int.toNat ((4294967295 : Int) % Int.ofNat (18446744073709551616 : Nat)))) :
    Int);
  let v9 : Int := IntKind.wrap IntKind.u64 (↑(Nat.land (Int.toNat (x0 % Int.ofNat (18446744073709551616 : Nat))) (Int.toNat ((4294967295 : Int) % Int.ofNat (18446744073709551616 : Nat)))) :
    Int);
  let v10 : Int := IntKind.wrap IntKind.u64 (v9 * v8);
  let v11 : Int := IntKind.wrap IntKind.u64 (IntKind.wrap IntKind.u64 (v5 * v8) + Int.fdiv v10 v4);
  let v12 : Int := IntKind.wrap IntKind.u64 (IntKind.wrap IntKind.u64 (v9 * v6) + IntKind.wrap IntKind.u64 (↑(Nat.land (Int.toNat (v11 % Int.ofNat (18446744073709551616 : Nat))) (Int.toNat
    ((4294967295 : Int) % Int.ofNat (18446744073709551616 : Nat)))) : Int)); bif v7 then bif v7 then bif v7 then bif v7 then bif v7 then bif v7 then some (IntKind.wrap IntKind.u64
    (IntKind.wrap IntKind.u64 (IntKind.wrap IntKind.u64 (v5 * v6) + Int.fdiv v11 v4) + Int.fdiv v12 v4), IntKind.wrap IntKind.u64 (IntKind.wrap IntKind.u64 (v12 * v4) + IntKind.wrap
    IntKind.u64 (↑(Nat.land (Int.toNat (v10 % Int.ofNat (18446744073709551616 : Nat))) (Int.toNat ((4294967295 : Int) % Int.ofNat (18446744073709551616 : Nat)))) : Int))) else none else
    none else none else none else none else none
noncomputable def ref02_Mul (x0 : Int) (x1 : Int) : Option (Int × Int) := ref02_Mul_b lpK jnK x0 x1
noncomputable def c100 : Ctr := ⟨[(.int .u64), (.int .u64)], [], [], .one T137, fun x _ _ => ref02_Mul x.1 x.2.1⟩
theorem e100 (lp : Lp) (jn : Jn) : ∀ (x : TsS c100.as) (F : TsF c100.fs) (y : TsS c100.cs), ref02_Mul_b lp jn x.1 x.2.1 = runC lp jn (ctxOf prog shs inls [] [(36, r36), (18, r18)]) hints 4 100 f100 c100 x F y := fun x F y => by kernel_rfl
theorem l100 : (ctxOf prog shs inls [] [(36, r36), (18, r18)]).ok := q36
theorem ok100 : c100.ok prog 100 := Ctr.of_den l100 hmix (hl := hints) (d := 4) func100 rfl (by decide) (e100 lpK jnK)

/-- loftblock loftblockref02.Times -/
noncomputable def ref02_Times_b (_ : Lp) (_ : Jn) (ref02_Made : (Int × Int) → (Bool) → (Int × Int) → Option ((Int × Int) × Int × Unit)) (ref02_Size : (Int) → Option (Int)) (ref02_Mul : (Int) → (Int) → Option (Int × Int)) (x0 : Int × Int) (x1 : Int × Int) : Option ((Int × Int) × Int × Unit) :=
  obind (ref02_Size x0.fst) fun (t : Int) => obind (ref02_Size x1.fst) fun (t_1 : Int) => obind (ref02_Mul t t_1) fun (t : Int × Int) => obind (ref02_Size x0.snd) fun (t_2 : Int) => obind
    (ref02_Size x1.snd) fun (t_3 : Int) => obind (ref02_Mul t_2 t_3) fun (t_4 : Int × Int) => obind (ref02_Made t (!decide (decide (x0.fst < (0 : Int)) = decide (x1.fst < (0 : Int)))) t_4)
    fun (t : (Int × Int) × Int × PUnit) => some (t.fst, t.snd.fst, PUnit.unit)
noncomputable def ref02_Times (x0 : Int × Int) (x1 : Int × Int) : Option ((Int × Int) × Int × Unit) := ref02_Times_b lpK jnK ref02_Made ref02_Size ref02_Mul x0 x1
noncomputable def c66 : Ctr := ⟨[T48, T48], [], [], .tup [T48, i64], fun x _ _ => ref02_Times x.1 x.2.1⟩
theorem e66 (lp : Lp) (jn : Jn) (ref02_Made : (Int × Int) → (Bool) → (Int × Int) → Option ((Int × Int) × Int × Unit)) (ref02_Size : (Int) → Option (Int)) (ref02_Mul : (Int) → (Int) → Option (Int × Int)) : ∀ (x : TsS c66.as) (F : TsF c66.fs) (y : TsS c66.cs), ref02_Times_b lp jn ref02_Made ref02_Size ref02_Mul x.1 x.2.1 = runC lp jn (ctxOf prog shs inls [(100, ⟨[(.int .u64), (.int .u64)], [], [], .one T137, fun x _ _ => ref02_Mul x.1 x.2.1⟩), (101, ⟨[i64], [], [], .one (.int .u64), fun x _ _ => ref02_Size x.1⟩), (99, ⟨[T137, .bool, T137], [], [], .tup [T48, i64], fun x _ _ => ref02_Made x.1 x.2.1 x.2.2.1⟩)] [(36, r36), (18, r18)]) hints 4 66 f66 c66 x F y := fun x F y => by kernel_rfl
theorem l66 : (ctxOf prog shs inls [(100, c100), (101, c101), (99, c99)] [(36, r36), (18, r18)]).ok := ctxOf_cons (ctxOf_cons (ctxOf_cons (q36) (by kernel_rfl) ok99) (by kernel_rfl) ok101) (by kernel_rfl) ok100
theorem ok66 : c66.ok prog 66 := Ctr.of_den l66 hmix (hl := hints) (d := 4) func66 rfl (by decide) (e66 lpK jnK ref02_Made ref02_Size ref02_Mul)

/-- loftblock loftblockref18.times -/
noncomputable def ref18_times_b (_ : Lp) (_ : Jn) (ref02_Make : (Int) → (Int) → Option ((Int × Int) × Int × Unit)) (ref02_Times : (Int × Int) → (Int × Int) → Option ((Int × Int) × Int × Unit)) (x0 : Int × Int) (x1 : Int) : Option ((Int × Int) × Int × Unit) :=
  obind (ref02_Make x1 (1000 : Int)) fun (t : (Int × Int) × Int × PUnit) => obind (ref02_Times x0 t.fst) fun (t : (Int × Int) × Int × PUnit) => some (t.fst, t.snd.fst, PUnit.unit)
noncomputable def ref18_times (x0 : Int × Int) (x1 : Int) : Option ((Int × Int) × Int × Unit) := ref18_times_b lpK jnK ref02_Make ref02_Times x0 x1
noncomputable def c97 : Ctr := ⟨[T48, i64], [], [], .tup [T48, i64], fun x _ _ => ref18_times x.1 x.2.1⟩
theorem e97 (lp : Lp) (jn : Jn) (ref02_Make : (Int) → (Int) → Option ((Int × Int) × Int × Unit)) (ref02_Times : (Int × Int) → (Int × Int) → Option ((Int × Int) × Int × Unit)) : ∀ (x : TsS c97.as) (F : TsF c97.fs) (y : TsS c97.cs), ref18_times_b lp jn ref02_Make ref02_Times x.1 x.2.1 = runC lp jn (ctxOf prog shs inls [(66, ⟨[T48, T48], [], [], .tup [T48, i64], fun x _ _ => ref02_Times x.1 x.2.1⟩), (114, ⟨[i64, i64], [], [], .tup [T48, i64], fun x _ _ => ref02_Make x.1 x.2.1⟩)] [(36, r36), (18, r18)]) hints 4 97 f97 c97 x F y := fun x F y => by kernel_rfl
theorem l97 : (ctxOf prog shs inls [(66, c66), (114, c114)] [(36, r36), (18, r18)]).ok := ctxOf_cons (ctxOf_cons (q36) (by kernel_rfl) ok114) (by kernel_rfl) ok66
theorem ok97 : c97.ok prog 97 := Ctr.of_den l97 hmix (hl := hints) (d := 4) func97 rfl (by decide) (e97 lpK jnK ref02_Make ref02_Times)

/-- loftblock loftblockref02.Neg -/
noncomputable def ref02_Neg_b (_ : Lp) (_ : Jn) (x0 : Int × Int) : Option (Int × Int) :=
  some (IntKind.wrap IntKind.i64 ((0 : Int) - x0.fst), x0.snd)
noncomputable def ref02_Neg (x0 : Int × Int) : Option (Int × Int) := ref02_Neg_b lpK jnK x0
noncomputable def c115 : Ctr := ⟨[T48], [], [], .one T48, fun x _ _ => ref02_Neg x.1⟩
theorem e115 (lp : Lp) (jn : Jn) : ∀ (x : TsS c115.as) (F : TsF c115.fs) (y : TsS c115.cs), ref02_Neg_b lp jn x.1 = runC lp jn (ctxOf prog shs inls [] [(36, r36), (18, r18)]) hints 4 115 f115 c115 x F y := fun x F y => by kernel_rfl
theorem l115 : (ctxOf prog shs inls [] [(36, r36), (18, r18)]).ok := q36
theorem ok115 : c115.ok prog 115 := Ctr.of_den l115 hmix (hl := hints) (d := 4) func115 rfl (by decide) (e115 lpK jnK)

/-- loftblock loftblockref02.Ceil -/
noncomputable def ref02_Ceil_b (_ : Lp) (_ : Jn) (ref02_Floor : (Int × Int) → Option (Int)) (ref02_Neg : (Int × Int) → Option (Int × Int)) (x0 : Int × Int) : Option Int :=
  obind (ref02_Neg x0) fun (t : Int × Int) => obind (ref02_Floor t) fun (t : Int) => some (IntKind.wrap IntKind.i64 ((0 : Int) - t))
noncomputable def ref02_Ceil (x0 : Int × Int) : Option Int := ref02_Ceil_b lpK jnK ref02_Floor ref02_Neg x0
noncomputable def c98 : Ctr := ⟨[T48], [], [], .one i64, fun x _ _ => ref02_Ceil x.1⟩
theorem e98 (lp : Lp) (jn : Jn) (ref02_Floor : (Int × Int) → Option (Int)) (ref02_Neg : (Int × Int) → Option (Int × Int)) : ∀ (x : TsS c98.as) (F : TsF c98.fs) (y : TsS c98.cs), ref02_Ceil_b lp jn ref02_Floor ref02_Neg x.1 = runC lp jn (ctxOf prog shs inls [(115, ⟨[T48], [], [], .one T48, fun x _ _ => ref02_Neg x.1⟩), (33, ⟨[T48], [], [], .one i64, fun x _ _ => ref02_Floor x.1⟩)] [(36, r36), (18, r18)]) hints 4 98 f98 c98 x F y := fun x F y => by kernel_rfl
theorem l98 : (ctxOf prog shs inls [(115, c115), (33, c33)] [(36, r36), (18, r18)]).ok := ctxOf_cons (ctxOf_cons (q36) (by kernel_rfl) ok33) (by kernel_rfl) ok115
theorem ok98 : c98.ok prog 98 := Ctr.of_den l98 hmix (hl := hints) (d := 4) func98 rfl (by decide) (e98 lpK jnK ref02_Floor ref02_Neg)

/-- loftblock loftblockref18.Span -/
noncomputable def ref18_Span_b (_ : Lp) (_ : Jn) (ref18_Length : ((Int × Int × Int) × Int × List (ByteArray × (Int × Int × Int) × Int)) → (Int) → Option (Int × Int)) (ref02_Floor : (Int × Int) → Option (Int)) (ref18_times : (Int × Int) → (Int) → Option ((Int × Int) × Int × Unit)) (ref02_Ceil : (Int × Int) → Option (Int)) (x0 : (Int × Int × Int) × Int × List (ByteArray × (Int × Int × Int) × Int)) (x1 : Int) (x2 : Int × Int) : Option ((Int × Int) × Int × Unit) :=
  obind (ref18_Length x0 x1) fun (t : Int × Int) => obind (ref18_times x2 t.fst) fun (t_1 : (Int × Int) × Int × PUnit) => bif !decide (t_1.snd.fst = (0 : Int)) then some (((0 : Int), (0 :
    Int)), t_1.snd.fst, PUnit.unit) else obind (ref18_times x2 t.snd) fun (t : (Int × Int) × Int × PUnit) => bif !decide (t.snd.fst = (0 : Int)) then some (((0 : Int), (0 : Int)),
    t.snd.fst, PUnit.unit) else obind (ref02_Floor t_1.fst) fun (t_2 : Int) => obind (ref02_Ceil t.fst) fun (t : Int) => some ((t_2, t), (0 : Int), PUnit.unit)
noncomputable def ref18_Span (x0 : (Int × Int × Int) × Int × List (ByteArray × (Int × Int × Int) × Int)) (x1 : Int) (x2 : Int × Int) : Option ((Int × Int) × Int × Unit) := ref18_Span_b lpK jnK ref18_Length ref02_Floor ref18_times ref02_Ceil x0 x1 x2
noncomputable def c65 : Ctr := ⟨[T26, i64, T48], [], [], .tup [T30, i64], fun x _ _ => ref18_Span x.1 x.2.1 x.2.2.1⟩
theorem e65 (lp : Lp) (jn : Jn) (ref18_Length : ((Int × Int × Int) × Int × List (ByteArray × (Int × Int × Int) × Int)) → (Int) → Option (Int × Int)) (ref02_Floor : (Int × Int) → Option (Int)) (ref18_times : (Int × Int) → (Int) → Option ((Int × Int) × Int × Unit)) (ref02_Ceil : (Int × Int) → Option (Int)) : ∀ (x : TsS c65.as) (F : TsF c65.fs) (y : TsS c65.cs), ref18_Span_b lp jn ref18_Length ref02_Floor ref18_times ref02_Ceil x.1 x.2.1 x.2.2.1 = runC lp jn (ctxOf prog shs inls [(98, ⟨[T48], [], [], .one i64, fun x _ _ => ref02_Ceil x.1⟩), (97, ⟨[T48, i64], [], [], .tup [T48, i64], fun x _ _ => ref18_times x.1 x.2.1⟩), (33, ⟨[T48], [], [], .one i64, fun x _ _ => ref02_Floor x.1⟩), (15, ⟨[T26, i64], [], [], .one T30, fun x _ _ => ref18_Length x.1 x.2.1⟩)] [(36, r36), (18, r18)]) hints 4 65 f65 c65 x F y := fun x F y => by kernel_rfl
theorem l65 : (ctxOf prog shs inls [(98, c98), (97, c97), (33, c33), (15, c15)] [(36, r36), (18, r18)]).ok := ctxOf_cons (ctxOf_cons (ctxOf_cons (ctxOf_cons (q36) (by kernel_rfl) ok15) (by kernel_rfl) ok33) (by kernel_rfl) ok97) (by kernel_rfl) ok98
theorem ok65 : c65.ok prog 65 := Ctr.of_den l65 hmix (hl := hints) (d := 4) func65 rfl (by decide) (e65 lpK jnK ref18_Length ref02_Floor ref18_times ref02_Ceil)

/-- loftblock loftblockref18.Tension -/
noncomputable def ref18_Tension_b (_ : Lp) (_ : Jn) (ref18_Find : ((Int × Int × Int) × Int × List (ByteArray × (Int × Int × Int) × Int)) → (ByteArray) → Option (Int)) (ref18_Given : ((Int × Int × Int) × Int × List (ByteArray × (Int × Int × Int) × Int)) → (ByteArray) → Option (Int)) (ref18_Pulls : ((Int × Int × Int) × Int × List (ByteArray × (Int × Int × Int) × Int)) → Option ((List (Int × Int)) × Int × Unit)) (ref18_Span : ((Int × Int × Int) × Int × List (ByteArray × (Int × Int × Int) × Int)) → (Int) → (Int × Int) → Option ((Int × Int) × Int × Unit)) (x0 : (Int × Int × Int) × Int × List (ByteArray × (Int × Int × Int) × Int)) (x1 : ByteArray) : Option ((Int × Int) × Int × Unit) :=
  obind (ref18_Given x0 x1) fun (t : Int) => bif !decide (t = (0 : Int)) then some (((0 : Int), (0 : Int)), t, PUnit.unit) else obind (ref18_Pulls x0) fun (t : List (Int × Int) × Int × PUnit)
    => bif !decide (t.snd.fst = (0 : Int)) then some (((0 : Int), (0 : Int)), t.snd.fst, PUnit.unit) else obind (ref18_Find x0 x1) fun (t_1 : Int) =>
  let v7 : Bool := inB t_1 (List.length t.fst); bif v7 then bif decide ((List.getD t.fst (Int.toNat t_1) ((0 : Int), (0 : Int))).fst < (0 : Int)) then some (((0 : Int), (0 : Int)), (13 :
    Int), PUnit.unit) else bif v7 then obind (ref18_Span x0 t_1 (List.getD t.fst (Int.toNat t_1) ((0 : Int), (0 : Int)))) fun (t : (Int × Int) × Int × PUnit) => some (t.fst, t.snd.fst,
    PUnit.unit) else none else none
noncomputable def ref18_Tension (x0 : (Int × Int × Int) × Int × List (ByteArray × (Int × Int × Int) × Int)) (x1 : ByteArray) : Option ((Int × Int) × Int × Unit) := ref18_Tension_b lpK jnK ref18_Find ref18_Given ref18_Pulls ref18_Span x0 x1
noncomputable def c26 : Ctr := ⟨[T26, .str], [], [], .tup [T30, i64], fun x _ _ => ref18_Tension x.1 x.2.1⟩
theorem e26 (lp : Lp) (jn : Jn) (ref18_Find : ((Int × Int × Int) × Int × List (ByteArray × (Int × Int × Int) × Int)) → (ByteArray) → Option (Int)) (ref18_Given : ((Int × Int × Int) × Int × List (ByteArray × (Int × Int × Int) × Int)) → (ByteArray) → Option (Int)) (ref18_Pulls : ((Int × Int × Int) × Int × List (ByteArray × (Int × Int × Int) × Int)) → Option ((List (Int × Int)) × Int × Unit)) (ref18_Span : ((Int × Int × Int) × Int × List (ByteArray × (Int × Int × Int) × Int)) → (Int) → (Int × Int) → Option ((Int × Int) × Int × Unit)) : ∀ (x : TsS c26.as) (F : TsF c26.fs) (y : TsS c26.cs), ref18_Tension_b lp jn ref18_Find ref18_Given ref18_Pulls ref18_Span x.1 x.2.1 = runC lp jn (ctxOf prog shs inls [(65, ⟨[T26, i64, T48], [], [], .tup [T30, i64], fun x _ _ => ref18_Span x.1 x.2.1 x.2.2.1⟩), (64, ⟨[T26], [], [], .tup [(.sl T48), i64], fun x _ _ => ref18_Pulls x.1⟩), (14, ⟨[T26, .str], [], [], .one i64, fun x _ _ => ref18_Given x.1 x.2.1⟩), (16, ⟨[T26, .str], [], [], .one i64, fun x _ _ => ref18_Find x.1 x.2.1⟩)] [(36, r36), (18, r18)]) hints 4 26 f26 c26 x F y := fun x F y => by kernel_rfl
theorem l26 : (ctxOf prog shs inls [(65, c65), (64, c64), (14, c14), (16, c16)] [(36, r36), (18, r18)]).ok := ctxOf_cons (ctxOf_cons (ctxOf_cons (ctxOf_cons (q36) (by kernel_rfl) ok16) (by kernel_rfl) ok14) (by kernel_rfl) ok64) (by kernel_rfl) ok65
theorem ok26 : c26.ok prog 26 := Ctr.of_den l26 hmix (hl := hints) (d := 4) func26 rfl (by decide) (e26 lpK jnK ref18_Find ref18_Given ref18_Pulls ref18_Span)

/-- loftblock loftblockref18.Within -/
noncomputable def ref18_Within_b (lp : Lp) (_ : Jn) (ref18_Valid : ((Int × Int × Int) × Int × List (ByteArray × (Int × Int × Int) × Int)) → Option (Bool)) (ref18_Pulls : ((Int × Int × Int) × Int × List (ByteArray × (Int × Int × Int) × Int)) → Option ((List (Int × Int)) × Int × Unit)) (ref18_Span : ((Int × Int × Int) × Int × List (ByteArray × (Int × Int × Int) × Int)) → (Int) → (Int × Int) → Option ((Int × Int) × Int × Unit)) (x0 : (Int × Int × Int) × Int × List (ByteArray × (Int × Int × Int) × Int)) : Option (Bool × Int × Unit) :=
  obind (ref18_Valid x0) fun (t : Bool) => bif !t then some (false, (1 : Int), PUnit.unit) else obind (ref18_Pulls x0) fun (t : List (Int × Int) × Int × PUnit) => bif !decide (t.snd.fst = (0
    : Int)) then some (false, t.snd.fst, PUnit.unit) else lp (Int × PUnit) (Bool × Int × PUnit) (fun (again : Int × PUnit → Option (Bool × Int × PUnit)) (x : Int × PUnit) => bif decide
    (x.fst < (↑(List.length t.fst) : Int)) then bif inB x.fst (List.length t.fst) then bif decide ((List.getD t.fst (Int.toNat x.fst) ((0 : Int), (0 : Int))).fst < (0 : Int)) then some
    (false, (0 : Int), PUnit.unit) else again (IntKind.wrap IntKind.i64 (x.fst + (1 : Int)), PUnit.unit) else none else lp (Bool × Int × PUnit) (Bool × Int × PUnit) (fun (again : Bool × Int
    × PUnit → Option (Bool × Int × PUnit)) (x : Bool × Int × PUnit) =>
  let v9 : Bool := !x.fst;
  let v10 : Bool := v9 || x.fst; bif decide (x.snd.fst < (↑(List.length t.fst) : Int)) then bif inB x.snd.fst (List.length t.fst) then obind (ref18_Span x0 x.snd.fst (List.getD t.fst
    (Int.toNat x.snd.fst) ((0 : Int), (0 : Int)))) fun (t : (Int × Int) × Int × PUnit) => bif !decide (t.snd.fst = (0 : Int)) then some (false, t.snd.fst, PUnit.unit) else bif v10 then bif
    v10 then bif v10 && (v10 && (v9 || inB x.snd.fst (List.length x0.snd.snd))) then bif v10 then bif v10 then bif v10 && v10 then bif v10 then again (bif x.fst then decide (t.fst.snd ≤
    (List.getD x0.snd.snd (Int.toNat x.snd.fst) ({ data := { toList := [] } }, ((0 : Int), (0 : Int), (0 : Int)), (0 : Int))).snd.snd) else false, IntKind.wrap IntKind.i64 (x.snd.fst + (1 :
    Int)), PUnit.unit) else none else none else none else none else none else none else none else none else some (x.fst, (0 : Int), PUnit.unit)) (true, (0 : Int), PUnit.unit)) ((0 : Int),
    PUnit.unit)
noncomputable def ref18_Within (x0 : (Int × Int × Int) × Int × List (ByteArray × (Int × Int × Int) × Int)) : Option (Bool × Int × Unit) := ref18_Within_b lpK jnK ref18_Valid ref18_Pulls ref18_Span x0
noncomputable def c27 : Ctr := ⟨[T26], [], [], .tup [.bool, i64], fun x _ _ => ref18_Within x.1⟩
theorem e27 (lp : Lp) (jn : Jn) (ref18_Valid : ((Int × Int × Int) × Int × List (ByteArray × (Int × Int × Int) × Int)) → Option (Bool)) (ref18_Pulls : ((Int × Int × Int) × Int × List (ByteArray × (Int × Int × Int) × Int)) → Option ((List (Int × Int)) × Int × Unit)) (ref18_Span : ((Int × Int × Int) × Int × List (ByteArray × (Int × Int × Int) × Int)) → (Int) → (Int × Int) → Option ((Int × Int) × Int × Unit)) : ∀ (x : TsS c27.as) (F : TsF c27.fs) (y : TsS c27.cs), ref18_Within_b lp jn ref18_Valid ref18_Pulls ref18_Span x.1 = runC lp jn (ctxOf prog shs inls [(65, ⟨[T26, i64, T48], [], [], .tup [T30, i64], fun x _ _ => ref18_Span x.1 x.2.1 x.2.2.1⟩), (64, ⟨[T26], [], [], .tup [(.sl T48), i64], fun x _ _ => ref18_Pulls x.1⟩), (13, ⟨[T26], [], [], .one .bool, fun x _ _ => ref18_Valid x.1⟩)] [(36, r36), (18, r18)]) hints 4 27 f27 c27 x F y := fun x F y => by kernel_rfl
theorem l27 : (ctxOf prog shs inls [(65, c65), (64, c64), (13, c13)] [(36, r36), (18, r18)]).ok := ctxOf_cons (ctxOf_cons (ctxOf_cons (q36) (by kernel_rfl) ok13) (by kernel_rfl) ok64) (by kernel_rfl) ok65
theorem ok27 : c27.ok prog 27 := Ctr.of_den l27 hmix (hl := hints) (d := 4) func27 rfl (by decide) (e27 lpK jnK ref18_Valid ref18_Pulls ref18_Span)

/-- loftblock loftblockref18.along -/
noncomputable def ref18_along_b (_ : Lp) (_ : Jn) (x0 : Int × Int × Int) (x1 : Int) : Option Int :=
  bif decide (x1 = (0 : Int)) then some x0.fst else bif decide (x1 = (1 : Int)) then some x0.snd.fst else some x0.snd.snd
noncomputable def ref18_along (x0 : Int × Int × Int) (x1 : Int) : Option Int := ref18_along_b lpK jnK x0 x1
noncomputable def c68 : Ctr := ⟨[T40, i64], [], [], .one i64, fun x _ _ => ref18_along x.1 x.2.1⟩
theorem e68 (lp : Lp) (jn : Jn) : ∀ (x : TsS c68.as) (F : TsF c68.fs) (y : TsS c68.cs), ref18_along_b lp jn x.1 x.2.1 = runC lp jn (ctxOf prog shs inls [] [(36, r36), (18, r18)]) hints 4 68 f68 c68 x F y := fun x F y => by kernel_rfl
theorem l68 : (ctxOf prog shs inls [] [(36, r36), (18, r18)]).ok := q36
theorem ok68 : c68.ok prog 68 := Ctr.of_den l68 hmix (hl := hints) (d := 4) func68 rfl (by decide) (e68 lpK jnK)

/-- loftblock loftblockref18.Anchor -/
noncomputable def ref18_Anchor_b (lp : Lp) (_ : Jn) (ref18_Find : ((Int × Int × Int) × Int × List (ByteArray × (Int × Int × Int) × Int)) → (ByteArray) → Option (Int)) (ref18_Arm : ((Int × Int × Int) × Int × List (ByteArray × (Int × Int × Int) × Int)) → (Int) → Option (Int × Int × Int)) (ref18_Given : ((Int × Int × Int) × Int × List (ByteArray × (Int × Int × Int) × Int)) → (ByteArray) → Option (Int)) (ref02_Of : (Int) → Option (Int × Int)) (ref18_Pulls : ((Int × Int × Int) × Int × List (ByteArray × (Int × Int × Int) × Int)) → Option ((List (Int × Int)) × Int × Unit)) (ref02_Times : (Int × Int) → (Int × Int) → Option ((Int × Int) × Int × Unit)) (ref18_along : (Int × Int × Int) → (Int) → Option (Int)) (x0 : (Int × Int × Int) × Int × List (ByteArray × (Int × Int × Int) × Int)) (x1 : ByteArray) : Option (((Int × Int) × (Int × Int) × Int × Int) × Int × Unit) :=
  obind (ref18_Given x0 x1) fun (t : Int) => bif !decide (t = (0 : Int)) then some ((((0 : Int), (0 : Int)), ((0 : Int), (0 : Int)), (0 : Int), (0 : Int)), t, PUnit.unit) else obind
    (ref18_Pulls x0) fun (t : List (Int × Int) × Int × PUnit) => bif !decide (t.snd.fst = (0 : Int)) then some ((((0 : Int), (0 : Int)), ((0 : Int), (0 : Int)), (0 : Int), (0 : Int)),
    t.snd.fst, PUnit.unit) else obind (ref18_Find x0 x1) fun (t_1 : Int) => lp (Int × ((Int × Int) × (Int × Int) × Int × Int) × ((Int × Int) × (Int × Int) × Int × Int) × PUnit) (((Int ×
    Int) × (Int × Int) × Int × Int) × Int × PUnit) (fun (again : Int × ((Int × Int) × (Int × Int) × Int × Int) × ((Int × Int) × (Int × Int) × Int × Int) × PUnit → Option (((Int × Int) ×
    (Int × Int) × Int × Int) × Int × PUnit)) (x : Int × ((Int × Int) × (Int × Int) × Int × Int) × ((Int × Int) × (Int × Int) × Int × Int) × PUnit) => bif decide (x.fst < (3 : Int)) then bif
    inB t_1 (List.length t.fst) then obind (ref18_Arm x0 t_1) fun (t_2 : Int × Int × Int) => obind (ref18_along t_2 x.fst) fun (t_3 : Int) => obind (ref02_Of (IntKind.wrap IntKind.i64 ((0 :
    Int) - t_3))) fun (t_4 : Int × Int) => obind (ref02_Times (List.getD t.fst (Int.toNat t_1) ((0 : Int), (0 : Int))) t_4) fun (t : (Int × Int) × Int × PUnit) => bif !decide (t.snd.fst =
    (0 : Int)) then some ((((0 : Int), (0 : Int)), ((0 : Int), (0 : Int)), (0 : Int), (0 : Int)), t.snd.fst, PUnit.unit) else bif inB x.fst (3 : Nat) then bif Nat.ble (Nat.succ (Int.toNat
    x.fst)) (3 : Nat) then again (IntKind.wrap IntKind.i64 (x.fst + (1 : Int)), x.snd.fst, (bif Nat.beq (Int.toNat x.fst) (0 : Nat) then t.fst else x.snd.snd.fst.fst, bif Nat.beq (Int.toNat
    x.fst) (1 : Nat) then t.fst else x.snd.snd.fst.snd.fst, bif Nat.beq (Int.toNat x.fst) (2 : Nat) then t.fst else x.snd.snd.fst.snd.snd), PUnit.unit) else none else none else none else
    some (x.snd.snd.fst, (0 : Int), PUnit.unit)) ((0 : Int), (((0 : Int), (0 : Int)), ((0 : Int), (0 : Int)), (0 : Int), (0 : Int)), (((0 : Int), (0 : Int)), ((0 : Int), (0 : Int)), (0 :
    Int), (0 : Int)), PUnit.unit)
noncomputable def ref18_Anchor (x0 : (Int × Int × Int) × Int × List (ByteArray × (Int × Int × Int) × Int)) (x1 : ByteArray) : Option (((Int × Int) × (Int × Int) × Int × Int) × Int × Unit) := ref18_Anchor_b lpK jnK ref18_Find ref18_Arm ref18_Given ref02_Of ref18_Pulls ref02_Times ref18_along x0 x1
noncomputable def c28 : Ctr := ⟨[T26, .str], [], [], .tup [T55, i64], fun x _ _ => ref18_Anchor x.1 x.2.1⟩
theorem e28 (lp : Lp) (jn : Jn) (ref18_Find : ((Int × Int × Int) × Int × List (ByteArray × (Int × Int × Int) × Int)) → (ByteArray) → Option (Int)) (ref18_Arm : ((Int × Int × Int) × Int × List (ByteArray × (Int × Int × Int) × Int)) → (Int) → Option (Int × Int × Int)) (ref18_Given : ((Int × Int × Int) × Int × List (ByteArray × (Int × Int × Int) × Int)) → (ByteArray) → Option (Int)) (ref02_Of : (Int) → Option (Int × Int)) (ref18_Pulls : ((Int × Int × Int) × Int × List (ByteArray × (Int × Int × Int) × Int)) → Option ((List (Int × Int)) × Int × Unit)) (ref02_Times : (Int × Int) → (Int × Int) → Option ((Int × Int) × Int × Unit)) (ref18_along : (Int × Int × Int) → (Int) → Option (Int)) : ∀ (x : TsS c28.as) (F : TsF c28.fs) (y : TsS c28.cs), ref18_Anchor_b lp jn ref18_Find ref18_Arm ref18_Given ref02_Of ref18_Pulls ref02_Times ref18_along x.1 x.2.1 = runC lp jn (ctxOf prog shs inls [(68, ⟨[T40, i64], [], [], .one i64, fun x _ _ => ref18_along x.1 x.2.1⟩), (66, ⟨[T48, T48], [], [], .tup [T48, i64], fun x _ _ => ref02_Times x.1 x.2.1⟩), (64, ⟨[T26], [], [], .tup [(.sl T48), i64], fun x _ _ => ref18_Pulls x.1⟩), (67, ⟨[i64], [], [], .one T48, fun x _ _ => ref02_Of x.1⟩), (14, ⟨[T26, .str], [], [], .one i64, fun x _ _ => ref18_Given x.1 x.2.1⟩), (19, ⟨[T26, i64], [], [], .one T40, fun x _ _ => ref18_Arm x.1 x.2.1⟩), (16, ⟨[T26, .str], [], [], .one i64, fun x _ _ => ref18_Find x.1 x.2.1⟩)] [(36, r36), (18, r18)]) hints 4 28 f28 c28 x F y := fun x F y => by kernel_rfl
theorem l28 : (ctxOf prog shs inls [(68, c68), (66, c66), (64, c64), (67, c67), (14, c14), (19, c19), (16, c16)] [(36, r36), (18, r18)]).ok := ctxOf_cons (ctxOf_cons (ctxOf_cons (ctxOf_cons (ctxOf_cons (ctxOf_cons (ctxOf_cons (q36) (by kernel_rfl) ok16) (by kernel_rfl) ok19) (by kernel_rfl) ok14) (by kernel_rfl) ok67) (by kernel_rfl) ok64) (by kernel_rfl) ok66) (by kernel_rfl) ok68
theorem ok28 : c28.ok prog 28 := Ctr.of_den l28 hmix (hl := hints) (d := 4) func28 rfl (by decide) (e28 lpK jnK ref18_Find ref18_Arm ref18_Given ref02_Of ref18_Pulls ref02_Times ref18_along)

/-- loftblock loftblocklaw18.BridleTensions -/
noncomputable def law18_BridleTensions_b (_ : Lp) (_ : Jn) (bridle_Tension : ((Int × Int × Int) × Int × List (ByteArray × (Int × Int × Int) × Int)) → (ByteArray) → Option ((Int × Int) × Int × Unit)) (bridle_Within : ((Int × Int × Int) × Int × List (ByteArray × (Int × Int × Int) × Int)) → Option (Bool × Int × Unit)) (law18_awake : Option (Bool)) (law18_long : ((Int × Int × Int) × Int × List (ByteArray × (Int × Int × Int) × Int)) → Option (Bool)) (bridle_Anchor : ((Int × Int × Int) × Int × List (ByteArray × (Int × Int × Int) × Int)) → (ByteArray) → Option (((Int × Int) × (Int × Int) × Int × Int) × Int × Unit)) (ref18_Tension : ((Int × Int × Int) × Int × List (ByteArray × (Int × Int × Int) × Int)) → (ByteArray) → Option ((Int × Int) × Int × Unit)) (ref18_Within : ((Int × Int × Int) × Int × List (ByteArray × (Int × Int × Int) × Int)) → Option (Bool × Int × Unit)) (ref18_Anchor : ((Int × Int × Int) × Int × List (ByteArray × (Int × Int × Int) × Int)) → (ByteArray) → Option (((Int × Int) × (Int × Int) × Int × Int) × Int × Unit)) (x0 : (Int × Int × Int) × Int × List (ByteArray × (Int × Int × Int) × Int)) (x1 : ByteArray) : Option Bool :=
  obind law18_awake fun (t : Bool) => bif !t then some false else obind (law18_long x0) fun (t : Bool) =>
  let v6 : Bool := !t;
  let v7 : Bool := !v6 || v6; bif v7 then bif v7 then bif t || v6 then bif bif t then true else decide ((↑(ByteArray.size x1) : Int) > (100 : Int)) then some true else obind (bridle_Tension
    x0 x1) fun (t : (Int × Int) × Int × PUnit) => obind (bridle_Within x0) fun (t_1 : Bool × Int × PUnit) => obind (bridle_Anchor x0 x1) fun (t_2 : ((Int × Int) × (Int × Int) × Int × Int) ×
    Int × PUnit) => obind (ref18_Tension x0 x1) fun (t_3 : (Int × Int) × Int × PUnit) =>
  let v12 : Bool := decide (t.fst.fst = t_3.fst.fst) && (decide (t.fst.snd = t_3.fst.snd) && true);
  let v13 : Bool := bif v12 then decide (t.snd.fst = t_3.snd.fst) else false;
  let v14 : Bool := !v12 || v12;
  let v15 : Bool := !v13 || v13; obind (ref18_Within x0) fun (t : Bool × Int × PUnit) =>
  let v17 : Bool := bif v13 then decide (t_1.fst = t.fst) else false;
  let v18 : Bool := !v17 || v17;
  let v19 : Bool := bif v17 then decide (t_1.snd.fst = t.snd.fst) else false;
  let v20 : Bool := !v19 || v19; obind (ref18_Anchor x0 x1) fun (t : ((Int × Int) × (Int × Int) × Int × Int) × Int × PUnit) =>
  let v22 : Bool := bif v19 then decide (t_2.fst.fst.fst = t.fst.fst.fst) && (decide (t_2.fst.fst.snd = t.fst.fst.snd) && true) && (decide (t_2.fst.snd.fst.fst = t.fst.snd.fst.fst) &&
    (decide (t_2.fst.snd.fst.snd = t.fst.snd.fst.snd) && true) && (decide (t_2.fst.snd.snd.fst = t.fst.snd.snd.fst) && (decide (t_2.fst.snd.snd.snd = t.fst.snd.snd.snd) && true) && true))
    else false;
  let v23 : Bool := !v22 || v22; bif v14 && v14 then bif v14 then bif v15 && v15 then bif v15 then bif v18 && v18 then bif v18 then bif v20 && v20 then bif v20 then bif v23 && v23 then bif
    v23 then some (bif v22 then decide (t_2.snd.fst = t.snd.fst) else false) else none else none else none else none else none else none else none else none else none else none else none
    else none else none
noncomputable def law18_BridleTensions (x0 : (Int × Int × Int) × Int × List (ByteArray × (Int × Int × Int) × Int)) (x1 : ByteArray) : Option Bool := law18_BridleTensions_b lpK jnK bridle_Tension bridle_Within law18_awake law18_long bridle_Anchor ref18_Tension ref18_Within ref18_Anchor x0 x1
noncomputable def c5 : Ctr := ⟨[T26, .str], [], [], .one .bool, fun x _ _ => law18_BridleTensions x.1 x.2.1⟩
theorem e5 (lp : Lp) (jn : Jn) (bridle_Tension : ((Int × Int × Int) × Int × List (ByteArray × (Int × Int × Int) × Int)) → (ByteArray) → Option ((Int × Int) × Int × Unit)) (bridle_Within : ((Int × Int × Int) × Int × List (ByteArray × (Int × Int × Int) × Int)) → Option (Bool × Int × Unit)) (law18_awake : Option (Bool)) (law18_long : ((Int × Int × Int) × Int × List (ByteArray × (Int × Int × Int) × Int)) → Option (Bool)) (bridle_Anchor : ((Int × Int × Int) × Int × List (ByteArray × (Int × Int × Int) × Int)) → (ByteArray) → Option (((Int × Int) × (Int × Int) × Int × Int) × Int × Unit)) (ref18_Tension : ((Int × Int × Int) × Int × List (ByteArray × (Int × Int × Int) × Int)) → (ByteArray) → Option ((Int × Int) × Int × Unit)) (ref18_Within : ((Int × Int × Int) × Int × List (ByteArray × (Int × Int × Int) × Int)) → Option (Bool × Int × Unit)) (ref18_Anchor : ((Int × Int × Int) × Int × List (ByteArray × (Int × Int × Int) × Int)) → (ByteArray) → Option (((Int × Int) × (Int × Int) × Int × Int) × Int × Unit)) : ∀ (x : TsS c5.as) (F : TsF c5.fs) (y : TsS c5.cs), law18_BridleTensions_b lp jn bridle_Tension bridle_Within law18_awake law18_long bridle_Anchor ref18_Tension ref18_Within ref18_Anchor x.1 x.2.1 = runC lp jn (ctxOf prog shs inls [(28, ⟨[T26, .str], [], [], .tup [T55, i64], fun x _ _ => ref18_Anchor x.1 x.2.1⟩), (27, ⟨[T26], [], [], .tup [.bool, i64], fun x _ _ => ref18_Within x.1⟩), (26, ⟨[T26, .str], [], [], .tup [T30, i64], fun x _ _ => ref18_Tension x.1 x.2.1⟩), (25, ⟨[T26, .str], [], [], .tup [T55, i64], fun x _ _ => bridle_Anchor x.1 x.2.1⟩), (10, ⟨[T26], [], [], .one .bool, fun x _ _ => law18_long x.1⟩), (9, ⟨[], [], [], .one .bool, fun _ _ _ => law18_awake⟩), (24, ⟨[T26], [], [], .tup [.bool, i64], fun x _ _ => bridle_Within x.1⟩), (23, ⟨[T26, .str], [], [], .tup [T30, i64], fun x _ _ => bridle_Tension x.1 x.2.1⟩)] [(36, r36), (18, r18)]) hints 4 5 f5 c5 x F y := fun x F y => by kernel_rfl
theorem l5 : (ctxOf prog shs inls [(28, c28), (27, c27), (26, c26), (25, c25), (10, c10), (9, c9), (24, c24), (23, c23)] [(36, r36), (18, r18)]).ok := ctxOf_cons (ctxOf_cons (ctxOf_cons (ctxOf_cons (ctxOf_cons (ctxOf_cons (ctxOf_cons (ctxOf_cons (q36) (by kernel_rfl) ok23) (by kernel_rfl) ok24) (by kernel_rfl) ok9) (by kernel_rfl) ok10) (by kernel_rfl) ok25) (by kernel_rfl) ok26) (by kernel_rfl) ok27) (by kernel_rfl) ok28
theorem ok5 : c5.ok prog 5 := Ctr.of_den l5 hmix (hl := hints) (d := 4) func5 rfl (by decide) (e5 lpK jnK bridle_Tension bridle_Within law18_awake law18_long bridle_Anchor ref18_Tension ref18_Within ref18_Anchor)

/-- loftblock loftblocklaw18.BridleMoved$1 -/
noncomputable def law18_BridleMoved_1_b (_ : Lp) (_ : Jn) (x0 : Int × Int × Int) (y0 : Int) (y1 : Int) (y2 : Int) : Option (Int × Int × Int) :=
  some (IntKind.wrap IntKind.i64 (x0.fst + IntKind.wrap IntKind.i64 y0), IntKind.wrap IntKind.i64 (x0.snd.fst + IntKind.wrap IntKind.i64 y1), IntKind.wrap IntKind.i64 (x0.snd.snd +
    IntKind.wrap IntKind.i64 y2))
noncomputable def law18_BridleMoved_1 (x0 : Int × Int × Int) (y0 : Int) (y1 : Int) (y2 : Int) : Option (Int × Int × Int) := law18_BridleMoved_1_b lpK jnK x0 y0 y1 y2
noncomputable def c29 : Ctr := ⟨[T23], [], [(.int .i16), (.int .i16), (.int .i16)], .one T23, fun x _ y => law18_BridleMoved_1 x.1 y.1 y.2.1 y.2.2.1⟩
theorem e29 (lp : Lp) (jn : Jn) : ∀ (x : TsS c29.as) (F : TsF c29.fs) (y : TsS c29.cs), law18_BridleMoved_1_b lp jn x.1 y.1 y.2.1 y.2.2.1 = runC lp jn (ctxOf prog shs inls [] [(36, r36), (18, r18)]) hints 4 29 f29 c29 x F y := fun x F y => by kernel_rfl
theorem l29 : (ctxOf prog shs inls [] [(36, r36), (18, r18)]).ok := q36
theorem ok29 : c29.ok prog 29 := Ctr.of_den l29 hmix (hl := hints) (d := 4) func29 rfl (by decide) (e29 lpK jnK)

/-- loftblock loftblocklaw18.BridleMoved$2 -/
noncomputable def law18_BridleMoved_2_b (_ : Lp) (_ : Jn) (x0 : Int × Int × Int) : Option (Int × Int × Int) :=
  some (IntKind.wrap IntKind.i64 ((0 : Int) - x0.snd.fst), x0.fst, x0.snd.snd)
noncomputable def law18_BridleMoved_2 (x0 : Int × Int × Int) : Option (Int × Int × Int) := law18_BridleMoved_2_b lpK jnK x0
noncomputable def c30 : Ctr := ⟨[T23], [], [], .one T23, fun x _ _ => law18_BridleMoved_2 x.1⟩
theorem e30 (lp : Lp) (jn : Jn) : ∀ (x : TsS c30.as) (F : TsF c30.fs) (y : TsS c30.cs), law18_BridleMoved_2_b lp jn x.1 = runC lp jn (ctxOf prog shs inls [] [(36, r36), (18, r18)]) hints 4 30 f30 c30 x F y := fun x F y => by kernel_rfl
theorem l30 : (ctxOf prog shs inls [] [(36, r36), (18, r18)]).ok := q36
theorem ok30 : c30.ok prog 30 := Ctr.of_den l30 hmix (hl := hints) (d := 4) func30 rfl (by decide) (e30 lpK jnK)

/-- loftblock loftblocklaw18.BridleMoved -/
noncomputable def law18_BridleMoved_b (lp : Lp) (_ : Jn) (bridle_Length : ((Int × Int × Int) × Int × List (ByteArray × (Int × Int × Int) × Int)) → (ByteArray) → Option ((Int × Int) × Int × Unit)) (bridle_Tension : ((Int × Int × Int) × Int × List (ByteArray × (Int × Int × Int) × Int)) → (ByteArray) → Option ((Int × Int) × Int × Unit)) (law18_awake : Option (Bool)) (ref18_Valid : ((Int × Int × Int) × Int × List (ByteArray × (Int × Int × Int) × Int)) → Option (Bool)) (law18_ready : ((Int × Int × Int) × Int × List (ByteArray × (Int × Int × Int) × Int)) → Option (Bool)) (law18_BridleMoved_1 : (Int × Int × Int) → (Int) → (Int) → (Int) → Option (Int × Int × Int)) (law18_BridleMoved_2 : (Int × Int × Int) → Option (Int × Int × Int)) (slices_Clone_18 : (List (ByteArray × (Int × Int × Int) × Int)) → Option (List (ByteArray × (Int × Int × Int) × Int))) (x0 : (Int × Int × Int) × Int × List (ByteArray × (Int × Int × Int) × Int)) (x1 : Int) (x2 : Int) (x3 : Int) : Option Bool :=
  
  let v6 : List ((Int × Int × Int) × Int × List (ByteArray × (Int × Int × Int) × Int)) := []; obind law18_awake fun (t : Bool) => bif !t then some false else obind (law18_ready x0) fun (t :
    Bool) => bif !t then some true else obind (slices_Clone_18 x0.snd.snd) fun (t : List (ByteArray × (Int × Int × Int) × Int)) => obind (slices_Clone_18 x0.snd.snd) fun (t_1 : List
    (ByteArray × (Int × Int × Int) × Int)) => obind (slices_Clone_18 x0.snd.snd) fun (t_2 : List (ByteArray × (Int × Int × Int) × Int)) => obind (law18_BridleMoved_1 x0.fst x1 x2 x3) fun
    (t_3 : Int × Int × Int) => obind (law18_BridleMoved_2 x0.fst) fun (t_4 : Int × Int × Int) => lp (Int × List (ByteArray × (Int × Int × Int) × Int) × List (ByteArray × (Int × Int × Int) ×
    Int) × PUnit) Bool (fun (again : Int × List (ByteArray × (Int × Int × Int) × Int) × List (ByteArray × (Int × Int × Int) × Int) × PUnit → Option Bool) (x : Int × List (ByteArray × (Int ×
    Int × Int) × Int) × List (ByteArray × (Int × Int × Int) × Int) × PUnit) =>
  let v16 : (Int × Int × Int) × Int × List (ByteArray × (Int × Int × Int) × Int) := (t_3, x0.snd.fst, x.snd.fst);
  let v17 : (Int × Int × Int) × Int × List (ByteArray × (Int × Int × Int) × Int) := (t_4, x0.snd.fst, x.snd.snd.fst);
  let v18 : ByteArray × (Int × Int × Int) × Int := List.getD x.snd.fst (Int.toNat x.fst) ({ data := { toList := [] } }, ((0 : Int), (0 : Int), (0 : Int)), (0 : Int));
  let v19 : ByteArray × (Int × Int × Int) × Int := List.getD x.snd.snd.fst (Int.toNat x.fst) ({ data := { toList := [] } }, ((0 : Int), (0 : Int), (0 : Int)), (0 : Int)); bif decide (x.fst
    < (↑(List.length x0.snd.snd) : Int)) then bif inB x.fst (List.length x0.snd.snd) then obind (law18_BridleMoved_1 (List.getD x0.snd.snd (Int.toNat x.fst) ({ data := { toList := [] } },
    ((0 : Int), (0 : Int), (0 : Int)), (0 : Int))).snd.fst x1 x2 x3) fun (t : Int × Int × Int) => obind (law18_BridleMoved_2 (List.getD x0.snd.snd (Int.toNat x.fst) ({ data := { toList :=
    [] } }, ((0 : Int), (0 : Int), (0 : Int)), (0 : Int))).snd.fst) fun (t_5 : Int × Int × Int) => bif inB x.fst (List.length x.snd.fst) then bif Nat.ble (Nat.succ (Int.toNat x.fst))
    (List.length x.snd.fst) then bif inB x.fst (List.length x.snd.snd.fst) then bif Nat.ble (Nat.succ (Int.toNat x.fst)) (List.length x.snd.snd.fst) then again (IntKind.wrap IntKind.i64
    (x.fst + (1 : Int)), List.set x.snd.fst (Int.toNat x.fst) (v18.fst, t, v18.snd.snd), List.set x.snd.snd.fst (Int.toNat x.fst) (v19.fst, t_5, v19.snd.snd), PUnit.unit) else none else
    none else none else none else none else lp (Int × Int × List (ByteArray × (Int × Int × Int) × Int) × PUnit) Bool (fun (again : Int × Int × List (ByteArray × (Int × Int × Int) × Int) ×
    PUnit → Option Bool) (x : Int × Int × List (ByteArray × (Int × Int × Int) × Int) × PUnit) =>
  let v22 : Bool := inB x.fst (List.length x.snd.snd.fst);
  let v23 : Bool := Nat.ble (Nat.succ (Int.toNat x.fst)) (List.length x.snd.snd.fst);
  let v24 : Bool := inB x.snd.fst (List.length x.snd.snd.fst);
  let v25 : Bool := Nat.ble (Nat.succ (Int.toNat x.snd.fst)) (List.length x.snd.snd.fst);
  let v26 : List ((Int × Int × Int) × Int × List (ByteArray × (Int × Int × Int) × Int)) := v16 :: v17 :: (x0.fst, x0.snd.fst, x.snd.snd.fst) :: v6; bif decide (x.fst < x.snd.fst) then bif
    v24 then bif v25 then bif v22 then bif v23 then bif v22 then bif v23 then bif v24 then bif v25 then again (IntKind.wrap IntKind.i64 (x.fst + (1 : Int)), IntKind.wrap IntKind.i64
    (x.snd.fst - (1 : Int)), List.set (List.set x.snd.snd.fst (Int.toNat x.fst) (List.getD x.snd.snd.fst (Int.toNat x.snd.fst) ({ data := { toList := [] } }, ((0 : Int), (0 : Int), (0 :
    Int)), (0 : Int)))) (Int.toNat x.snd.fst) (List.getD x.snd.snd.fst (Int.toNat x.fst) ({ data := { toList := [] } }, ((0 : Int), (0 : Int), (0 : Int)), (0 : Int))), PUnit.unit) else none
    else none else none else none else none else none else none else none else lp (Int × PUnit) Bool (fun (again : Int × PUnit → Option Bool) (x : Int × PUnit) => bif decide (x.fst <
    (↑(List.length x0.snd.snd) : Int)) then bif inB x.fst (List.length x0.snd.snd) then obind (bridle_Tension x0 (List.getD x0.snd.snd (Int.toNat x.fst) ({ data := { toList := [] } }, ((0 :
    Int), (0 : Int), (0 : Int)), (0 : Int))).fst) fun (t : (Int × Int) × Int × PUnit) => obind (bridle_Length x0 (List.getD x0.snd.snd (Int.toNat x.fst) ({ data := { toList := [] } }, ((0 :
    Int), (0 : Int), (0 : Int)), (0 : Int))).fst) fun (t_5 : (Int × Int) × Int × PUnit) => lp (Int × PUnit) Bool (fun (again_1 : Int × PUnit → Option Bool) (x_1 : Int × PUnit) =>
  let v33 : (Int × Int × Int) × Int × List (ByteArray × (Int × Int × Int) × Int) := List.getD v26 (Int.toNat x_1.fst) (((0 : Int), (0 : Int), (0 : Int)), (0 : Int), []); bif decide (x_1.fst
    < (↑(3 : Nat) : Int)) then bif inB x_1.fst (3 : Nat) then obind (ref18_Valid v33) fun (t_6 : Bool) => bif !t_6 then again_1 (IntKind.wrap IntKind.i64 (x_1.fst + (1 : Int)), PUnit.unit)
    else obind (bridle_Tension v33 (List.getD x0.snd.snd (Int.toNat x.fst) ({ data := { toList := [] } }, ((0 : Int), (0 : Int), (0 : Int)), (0 : Int))).fst) fun (t_7 : (Int × Int) × Int ×
    PUnit) =>
  let v36 : Bool := !(decide (t_7.fst.fst = t.fst.fst) && (decide (t_7.fst.snd = t.fst.snd) && true));
  let v37 : Bool := !v36;
  let v38 : Bool := bif v36 then true else !decide (t_7.snd.fst = t.snd.fst);
  let v39 : Bool := !v38;
  let v40 : Bool := !v37 || v37;
  let v41 : Bool := !v39 || v39; obind (bridle_Length v33 (List.getD x0.snd.snd (Int.toNat x.fst) ({ data := { toList := [] } }, ((0 : Int), (0 : Int), (0 : Int)), (0 : Int))).fst) fun (t :
    (Int × Int) × Int × PUnit) =>
  let v43 : Bool := bif v38 then true else !(decide (t.fst.fst = t_5.fst.fst) && (decide (t.fst.snd = t_5.fst.snd) && true));
  let v44 : Bool := !v43;
  let v45 : Bool := !v44 || v44; bif v40 && v40 then bif v36 || v37 then bif v41 && v41 then bif v38 || v39 then bif v45 && v45 then bif v43 || v44 then bif bif v43 then true else !decide
    (t.snd.fst = t_5.snd.fst) then some false else again_1 (IntKind.wrap IntKind.i64 (x_1.fst + (1 : Int)), PUnit.unit) else none else none else none else none else none else none else none
    else again (IntKind.wrap IntKind.i64 (x.fst + (1 : Int)), PUnit.unit)) ((0 : Int), PUnit.unit) else none else some true) ((0 : Int), PUnit.unit)) ((0 : Int), IntKind.wrap IntKind.i64
    ((↑(List.length t_2) : Int) - (1 : Int)), t_2, PUnit.unit)) ((0 : Int), t, t_1, PUnit.unit)
noncomputable def law18_BridleMoved (x0 : (Int × Int × Int) × Int × List (ByteArray × (Int × Int × Int) × Int)) (x1 : Int) (x2 : Int) (x3 : Int) : Option Bool := law18_BridleMoved_b lpK jnK bridle_Length bridle_Tension law18_awake ref18_Valid law18_ready law18_BridleMoved_1 law18_BridleMoved_2 slices_Clone_18 x0 x1 x2 x3
noncomputable def c6 : Ctr := ⟨[T26, (.int .i16), (.int .i16), (.int .i16)], [], [], .one .bool, fun x _ _ => law18_BridleMoved x.1 x.2.1 x.2.2.1 x.2.2.2.1⟩
theorem e6 (lp : Lp) (jn : Jn) (bridle_Length : ((Int × Int × Int) × Int × List (ByteArray × (Int × Int × Int) × Int)) → (ByteArray) → Option ((Int × Int) × Int × Unit)) (bridle_Tension : ((Int × Int × Int) × Int × List (ByteArray × (Int × Int × Int) × Int)) → (ByteArray) → Option ((Int × Int) × Int × Unit)) (law18_awake : Option (Bool)) (ref18_Valid : ((Int × Int × Int) × Int × List (ByteArray × (Int × Int × Int) × Int)) → Option (Bool)) (law18_ready : ((Int × Int × Int) × Int × List (ByteArray × (Int × Int × Int) × Int)) → Option (Bool)) (law18_BridleMoved_1 : (Int × Int × Int) → (Int) → (Int) → (Int) → Option (Int × Int × Int)) (law18_BridleMoved_2 : (Int × Int × Int) → Option (Int × Int × Int)) (slices_Clone_18 : (List (ByteArray × (Int × Int × Int) × Int)) → Option (List (ByteArray × (Int × Int × Int) × Int))) : ∀ (x : TsS c6.as) (F : TsF c6.fs) (y : TsS c6.cs), law18_BridleMoved_b lp jn bridle_Length bridle_Tension law18_awake ref18_Valid law18_ready law18_BridleMoved_1 law18_BridleMoved_2 slices_Clone_18 x.1 x.2.1 x.2.2.1 x.2.2.2.1 = runC lp jn (ctxOf prog shs inls [(30, ⟨[T23], [], [], .one T23, fun x _ _ => law18_BridleMoved_2 x.1⟩), (29, ⟨[T23], [], [(.int .i16), (.int .i16), (.int .i16)], .one T23, fun x _ y => law18_BridleMoved_1 x.1 y.1 y.2.1 y.2.2.1⟩), (17, ⟨[T26], [], [], .one .bool, fun x _ _ => law18_ready x.1⟩), (13, ⟨[T26], [], [], .one .bool, fun x _ _ => ref18_Valid x.1⟩), (9, ⟨[], [], [], .one .bool, fun _ _ _ => law18_awake⟩), (23, ⟨[T26, .str], [], [], .tup [T30, i64], fun x _ _ => bridle_Tension x.1 x.2.1⟩), (11, ⟨[T26, .str], [], [], .tup [T30, i64], fun x _ _ => bridle_Length x.1 x.2.1⟩)] [(36, r36), (18, ⟨[(.sl T39)], 39, T39, fun x => slices_Clone_18 x.1⟩)]) hints 4 6 f6 c6 x F y := fun x F y => by kernel_rfl
theorem l6 : (ctxOf prog shs inls [(30, c30), (29, c29), (17, c17), (13, c13), (9, c9), (23, c23), (11, c11)] [(36, r36), (18, r18)]).ok := ctxOf_cons (ctxOf_cons (ctxOf_cons (ctxOf_cons (ctxOf_cons (ctxOf_cons (ctxOf_cons (q36) (by kernel_rfl) ok11) (by kernel_rfl) ok23) (by kernel_rfl) ok9) (by kernel_rfl) ok13) (by kernel_rfl) ok17) (by kernel_rfl) ok29) (by kernel_rfl) ok30
theorem ok6 : c6.ok prog 6 := Ctr.of_den l6 hmix (hl := hints) (d := 4) func6 rfl (by decide) (e6 lpK jnK bridle_Length bridle_Tension law18_awake ref18_Valid law18_ready law18_BridleMoved_1 law18_BridleMoved_2 slices_Clone_18)

/-- loftblock points.Length -/
noncomputable def points_Length_b (_ : Lp) (_ : Jn) (points_Square : (Int × Int × Int) → (Int × Int × Int) → Option (Int × Int × Unit)) (points_Root : (Int) → Option ((Int × Int) × Int × Unit)) (x0 : Int × Int × Int) (x1 : Int × Int × Int) : Option ((Int × Int) × Int × Unit) :=
  obind (points_Square x0 x1) fun (t : Int × Int × PUnit) => bif !decide (t.snd.fst = (0 : Int)) then some (((0 : Int), (0 : Int)), t.snd.fst, PUnit.unit) else obind (points_Root t.fst) fun
    (t : (Int × Int) × Int × PUnit) => some (t.fst, t.snd.fst, PUnit.unit)
noncomputable def points_Length (x0 : Int × Int × Int) (x1 : Int × Int × Int) : Option ((Int × Int) × Int × Unit) := points_Length_b lpK jnK points_Square points_Root x0 x1
noncomputable def c32 : Ctr := ⟨[T23, T23], [], [], .tup [T30, i64], fun x _ _ => points_Length x.1 x.2.1⟩
theorem e32 (lp : Lp) (jn : Jn) (points_Square : (Int × Int × Int) → (Int × Int × Int) → Option (Int × Int × Unit)) (points_Root : (Int) → Option ((Int × Int) × Int × Unit)) : ∀ (x : TsS c32.as) (F : TsF c32.fs) (y : TsS c32.cs), points_Length_b lp jn points_Square points_Root x.1 x.2.1 = runC lp jn (ctxOf prog shs inls [(70, ⟨[i64], [], [], .tup [T30, i64], fun x _ _ => points_Root x.1⟩), (69, ⟨[T23, T23], [], [], .tup [i64, i64], fun x _ _ => points_Square x.1 x.2.1⟩)] [(36, r36), (18, r18)]) hints 4 32 f32 c32 x F y := fun x F y => by kernel_rfl
theorem l32 : (ctxOf prog shs inls [(70, c70), (69, c69)] [(36, r36), (18, r18)]).ok := ctxOf_cons (ctxOf_cons (q36) (by kernel_rfl) ok69) (by kernel_rfl) ok70
theorem ok32 : c32.ok prog 32 := Ctr.of_den l32 hmix (hl := hints) (d := 4) func32 rfl (by decide) (e32 lpK jnK points_Square points_Root)

/-- loftblock loftblocklaw18.BridleStrong -/
noncomputable def law18_BridleStrong_b (lp : Lp) (_ : Jn) (bridle_Pulls : ((Int × Int × Int) × Int × List (ByteArray × (Int × Int × Int) × Int)) → Option ((List (Int × Int)) × Int × Unit)) (ratio_Mul : (Int × Int) → (Int × Int) → Option ((Int × Int) × Int × Unit)) (bridle_Tension : ((Int × Int × Int) × Int × List (ByteArray × (Int × Int × Int) × Int)) → (ByteArray) → Option ((Int × Int) × Int × Unit)) (bridle_Within : ((Int × Int × Int) × Int × List (ByteArray × (Int × Int × Int) × Int)) → Option (Bool × Int × Unit)) (law18_awake : Option (Bool)) (law18_ready : ((Int × Int × Int) × Int × List (ByteArray × (Int × Int × Int) × Int)) → Option (Bool)) (ref02_Floor : (Int × Int) → Option (Int)) (points_Length : (Int × Int × Int) → (Int × Int × Int) → Option ((Int × Int) × Int × Unit)) (slices_Clone_18 : (List (ByteArray × (Int × Int × Int) × Int)) → Option (List (ByteArray × (Int × Int × Int) × Int))) (x0 : (Int × Int × Int) × Int × List (ByteArray × (Int × Int × Int) × Int)) (x1 : Int) : Option Bool :=
  obind law18_awake fun (t : Bool) => bif !t then some false else obind (law18_ready x0) fun (t : Bool) => bif !t then some true else obind (bridle_Within x0) fun (t : Bool × Int × PUnit) =>
  let v7 : Bool := !t.fst;
  let v8 : Bool := !v7;
  let v9 : Bool := v8 || v7; obind (bridle_Pulls x0) fun (t_1 : List (Int × Int) × Int × PUnit) =>
  let v11 : Bool := !decide (t_1.snd.fst = (0 : Int));
  let v12 : Bool := !v11;
  let v13 : Bool := decide (t_1.snd.fst = t.snd.fst);
  let v14 : Bool := v7 && !v13;
  let v15 : Bool := !v12 || v12; bif !decide (t.snd.fst = (0 : Int)) then bif v9 && v9 then bif v9 then bif !v14 || v14 then bif (v8 || v9) && (v8 || (v13 || (v8 || v14))) then bif v9 then
    some (bif v7 then bif v13 then true else decide (t.snd.fst = (5 : Int)) else false) else none else none else none else none else none else bif v15 then bif v15 then bif v15 then bif v15
    && v15 then bif v11 || v12 then bif bif v11 then true else !decide ((↑(List.length t_1.fst) : Int) = (↑(List.length x0.snd.snd) : Int)) then some false else lp (Bool × Int × PUnit) Bool
    (fun (again : Bool × Int × PUnit → Option Bool) (x : Bool × Int × PUnit) =>
  let v18 : Bool := !x.fst || x.fst;
  let v19 : Bool := inB x.snd.fst (List.length t_1.fst);
  let v20 : Int × PUnit := (IntKind.wrap IntKind.i64 (x.snd.fst + (1 : Int)), PUnit.unit);
  let v21 : ByteArray × (Int × Int × Int) × Int := List.getD x0.snd.snd (Int.toNat x.snd.fst) ({ data := { toList := [] } }, ((0 : Int), (0 : Int), (0 : Int)), (0 : Int));
  let v22 : Int := if IntKind.wrap IntKind.i64 (v21.snd.fst.snd.snd - x0.fst.snd.snd) > (0 : Int) then IntKind.wrap IntKind.i64 (v21.snd.fst.snd.snd - x0.fst.snd.snd) else (0 : Int); bif
    decide (x.snd.fst < (↑(List.length x0.snd.snd) : Int)) then bif inB x.snd.fst (List.length x0.snd.snd) then obind (bridle_Tension x0 v21.fst) fun (t : (Int × Int) × Int × PUnit) =>
  let v24 : Bool := decide (t.fst.fst < (0 : Int));
  let v25 : Bool := !v24;
  let v26 : Bool := !v25 || v25; bif v19 then bif decide ((List.getD t_1.fst (Int.toNat x.snd.fst) ((0 : Int), (0 : Int))).fst < (0 : Int)) then bif !decide (t.snd.fst = (13 : Int)) then
    some false else again (false, v20) else bif !decide (t.snd.fst = (0 : Int)) then some (decide (t.snd.fst = (5 : Int))) else bif v18 then bif v18 then bif v18 && v18 then bif v18 then
    bif v26 then bif v26 then bif v26 && v26 then bif v24 || v25 then bif bif v24 then true else decide (t.fst.fst > t.fst.snd) then some false else obind (points_Length x0.fst v21.snd.fst)
    fun (t_2 : (Int × Int) × Int × PUnit) =>
  let v28 : Bool := !decide (t_2.snd.fst = (0 : Int));
  let v29 : Bool := !v28;
  let v30 : Bool := !v29 || v29; bif v30 then bif v30 && v30 then bif v28 || v29 then bif bif v28 then true else decide (t_2.fst.snd < v22) then some false else bif v19 then obind
    (ratio_Mul (List.getD t_1.fst (Int.toNat x.snd.fst) ((0 : Int), (0 : Int))) (v22, (1 : Int))) fun (t_3 : (Int × Int) × Int × PUnit) =>
  let v32 : Bool := decide (t_3.snd.fst = (0 : Int));
  let v33 : Bool := !v32 || v32; bif v33 then obind (bif v32 then ref02_Floor t_3.fst else some (0 : Int)) fun (t_4 : Int) => bif v33 then bif v33 && v33 then bif v33 then bif bif v32 then
    decide (t_4 > t.fst.snd) else false then some false else again (bif x.fst then decide (t.fst.snd ≤ v21.snd.snd) else false, v20) else none else none else none else none else none else
    none else none else none else none else none else none else none else none else none else none else none else none else none else bif !decide (t.fst = x.fst) then some false else obind
    (slices_Clone_18 x0.snd.snd) fun (t : List (ByteArray × (Int × Int × Int) × Int)) => lp (Int × List (ByteArray × (Int × Int × Int) × Int) × PUnit) Bool (fun (again : Int × List
    (ByteArray × (Int × Int × Int) × Int) × PUnit → Option Bool) (x : Int × List (ByteArray × (Int × Int × Int) × Int) × PUnit) =>
  let v26 : Bool := inB x.fst (List.length x.snd.fst);
  let v27 : Bool := Nat.ble (Nat.succ (Int.toNat x.fst)) (List.length x.snd.fst);
  let v28 : ByteArray × (Int × Int × Int) × Int := List.getD x.snd.fst (Int.toNat x.fst) ({ data := { toList := [] } }, ((0 : Int), (0 : Int), (0 : Int)), (0 : Int)); bif decide (x.fst <
    (↑(List.length t) : Int)) then bif v26 then bif v27 then bif v26 then bif v27 then again (IntKind.wrap IntKind.i64 (x.fst + (1 : Int)), List.set x.snd.fst (Int.toNat x.fst) (v28.fst,
    v28.snd.fst, if IntKind.wrap IntKind.i64 (v28.snd.snd + IntKind.wrap IntKind.i64 x1) < (67108864 : Int) then IntKind.wrap IntKind.i64 (v28.snd.snd + IntKind.wrap IntKind.i64 x1) else
    (67108864 : Int)), PUnit.unit) else none else none else none else none else obind (bridle_Within (x0.fst, x0.snd.fst, x.snd.fst)) fun (t : Bool × Int × PUnit) =>
  let v30 : Bool := decide (t.snd.fst = (0 : Int));
  let v31 : Bool := !v30;
  let v32 : Bool := v30 && !t.fst;
  let v33 : Bool := v31 || v30; bif v33 then bif !v32 || v32 then bif (v31 || v33) && (v31 || (t.fst || (v31 || v32))) then bif v33 then some (bif v30 then bif t.fst then true else v7 else
    false) else none else none else none else none) ((0 : Int), t, PUnit.unit)) (true, (0 : Int), PUnit.unit) else none else none else none else none else none
noncomputable def law18_BridleStrong (x0 : (Int × Int × Int) × Int × List (ByteArray × (Int × Int × Int) × Int)) (x1 : Int) : Option Bool := law18_BridleStrong_b lpK jnK bridle_Pulls ratio_Mul bridle_Tension bridle_Within law18_awake law18_ready ref02_Floor points_Length slices_Clone_18 x0 x1
noncomputable def c7 : Ctr := ⟨[T26, (.int .u16)], [], [], .one .bool, fun x _ _ => law18_BridleStrong x.1 x.2.1⟩
theorem e7 (lp : Lp) (jn : Jn) (bridle_Pulls : ((Int × Int × Int) × Int × List (ByteArray × (Int × Int × Int) × Int)) → Option ((List (Int × Int)) × Int × Unit)) (ratio_Mul : (Int × Int) → (Int × Int) → Option ((Int × Int) × Int × Unit)) (bridle_Tension : ((Int × Int × Int) × Int × List (ByteArray × (Int × Int × Int) × Int)) → (ByteArray) → Option ((Int × Int) × Int × Unit)) (bridle_Within : ((Int × Int × Int) × Int × List (ByteArray × (Int × Int × Int) × Int)) → Option (Bool × Int × Unit)) (law18_awake : Option (Bool)) (law18_ready : ((Int × Int × Int) × Int × List (ByteArray × (Int × Int × Int) × Int)) → Option (Bool)) (ref02_Floor : (Int × Int) → Option (Int)) (points_Length : (Int × Int × Int) → (Int × Int × Int) → Option ((Int × Int) × Int × Unit)) (slices_Clone_18 : (List (ByteArray × (Int × Int × Int) × Int)) → Option (List (ByteArray × (Int × Int × Int) × Int))) : ∀ (x : TsS c7.as) (F : TsF c7.fs) (y : TsS c7.cs), law18_BridleStrong_b lp jn bridle_Pulls ratio_Mul bridle_Tension bridle_Within law18_awake law18_ready ref02_Floor points_Length slices_Clone_18 x.1 x.2.1 = runC lp jn (ctxOf prog shs inls [(32, ⟨[T23, T23], [], [], .tup [T30, i64], fun x _ _ => points_Length x.1 x.2.1⟩), (33, ⟨[T48], [], [], .one i64, fun x _ _ => ref02_Floor x.1⟩), (17, ⟨[T26], [], [], .one .bool, fun x _ _ => law18_ready x.1⟩), (9, ⟨[], [], [], .one .bool, fun _ _ _ => law18_awake⟩), (24, ⟨[T26], [], [], .tup [.bool, i64], fun x _ _ => bridle_Within x.1⟩), (23, ⟨[T26, .str], [], [], .tup [T30, i64], fun x _ _ => bridle_Tension x.1 x.2.1⟩), (22, ⟨[T48, T48], [], [], .tup [T48, i64], fun x _ _ => ratio_Mul x.1 x.2.1⟩), (20, ⟨[T26], [], [], .tup [(.sl T48), i64], fun x _ _ => bridle_Pulls x.1⟩)] [(36, r36), (18, ⟨[(.sl T39)], 39, T39, fun x => slices_Clone_18 x.1⟩)]) hints 4 7 f7 c7 x F y := fun x F y => by kernel_rfl
theorem l7 : (ctxOf prog shs inls [(32, c32), (33, c33), (17, c17), (9, c9), (24, c24), (23, c23), (22, c22), (20, c20)] [(36, r36), (18, r18)]).ok := ctxOf_cons (ctxOf_cons (ctxOf_cons (ctxOf_cons (ctxOf_cons (ctxOf_cons (ctxOf_cons (ctxOf_cons (q36) (by kernel_rfl) ok20) (by kernel_rfl) ok22) (by kernel_rfl) ok23) (by kernel_rfl) ok24) (by kernel_rfl) ok9) (by kernel_rfl) ok17) (by kernel_rfl) ok33) (by kernel_rfl) ok32
theorem ok7 : c7.ok prog 7 := Ctr.of_den l7 hmix (hl := hints) (d := 4) func7 rfl (by decide) (e7 lpK jnK bridle_Pulls ratio_Mul bridle_Tension bridle_Within law18_awake law18_ready ref02_Floor points_Length slices_Clone_18)

/-- loftblock ratio.plus -/
noncomputable def ratio_plus_b (_ : Lp) (_ : Jn) (x0 : Int × Int) (x1 : Int × Int) : Option (Int × Int) :=
  bif decide ((0 : Int) ≤ (0 : Int)) && decide ((0 : Int) ≤ (1 : Int)) then bif decide ((0 : Int) ≤ addC x0.snd x1.snd (0 : Int)) && decide (addC x0.snd x1.snd (0 : Int) ≤ (1 : Int)) then
    some (addO x0.fst x1.fst (addC x0.snd x1.snd (0 : Int)), addO x0.snd x1.snd (0 : Int)) else none else none
noncomputable def ratio_plus (x0 : Int × Int) (x1 : Int × Int) : Option (Int × Int) := ratio_plus_b lpK jnK x0 x1
noncomputable def c72 : Ctr := ⟨[T94, T94], [], [], .one T94, fun x _ _ => ratio_plus x.1 x.2.1⟩
theorem e72 (lp : Lp) (jn : Jn) : ∀ (x : TsS c72.as) (F : TsF c72.fs) (y : TsS c72.cs), ratio_plus_b lp jn x.1 x.2.1 = runC lp jn (ctxOf prog shs inls [] [(36, r36), (18, r18)]) hints 4 72 f72 c72 x F y := fun x F y => by kernel_rfl
theorem l72 : (ctxOf prog shs inls [] [(36, r36), (18, r18)]).ok := q36
theorem ok72 : c72.ok prog 72 := Ctr.of_den l72 hmix (hl := hints) (d := 4) func72 rfl (by decide) (e72 lpK jnK)

/-- loftblock ratio.less -/
noncomputable def ratio_less_b (_ : Lp) (_ : Jn) (x0 : Int × Int) (x1 : Int × Int) : Option Bool :=
  
  let v4 : Bool := decide (x0.fst = x1.fst);
  let v5 : Bool := decide (x0.fst < x1.fst);
  let v6 : Bool := !v5;
  let v7 : Bool := !v6;
  let v8 : Bool := v6 && v4;
  let v9 : Bool := v7 || v6;
  let v10 : Bool := !v8 || v8; bif v9 then bif v9 then bif v9 && v9 then bif v9 then bif v10 then bif v10 then bif v10 && v10 then bif (v7 || v9) && (v7 || (!v4 || (v7 || v8))) then bif v5
    || v6 then some (bif v5 then true else bif v4 then decide (x0.snd < x1.snd) else false) else none else none else none else none else none else none else none else none else none
noncomputable def ratio_less (x0 : Int × Int) (x1 : Int × Int) : Option Bool := ratio_less_b lpK jnK x0 x1
noncomputable def c73 : Ctr := ⟨[T94, T94], [], [], .one .bool, fun x _ _ => ratio_less x.1 x.2.1⟩
theorem e73 (lp : Lp) (jn : Jn) : ∀ (x : TsS c73.as) (F : TsF c73.fs) (y : TsS c73.cs), ratio_less_b lp jn x.1 x.2.1 = runC lp jn (ctxOf prog shs inls [] [(36, r36), (18, r18)]) hints 4 73 f73 c73 x F y := fun x F y => by kernel_rfl
theorem l73 : (ctxOf prog shs inls [] [(36, r36), (18, r18)]).ok := q36
theorem ok73 : c73.ok prog 73 := Ctr.of_den l73 hmix (hl := hints) (d := 4) func73 rfl (by decide) (e73 lpK jnK)

/-- loftblock ratio.minus -/
noncomputable def ratio_minus_b (_ : Lp) (_ : Jn) (x0 : Int × Int) (x1 : Int × Int) : Option (Int × Int) :=
  bif decide ((0 : Int) ≤ (0 : Int)) && decide ((0 : Int) ≤ (1 : Int)) then bif decide ((0 : Int) ≤ subC x0.snd x1.snd (0 : Int)) && decide (subC x0.snd x1.snd (0 : Int) ≤ (1 : Int)) then
    some (subO x0.fst x1.fst (subC x0.snd x1.snd (0 : Int)), subO x0.snd x1.snd (0 : Int)) else none else none
noncomputable def ratio_minus (x0 : Int × Int) (x1 : Int × Int) : Option (Int × Int) := ratio_minus_b lpK jnK x0 x1
noncomputable def c74 : Ctr := ⟨[T94, T94], [], [], .one T94, fun x _ _ => ratio_minus x.1 x.2.1⟩
theorem e74 (lp : Lp) (jn : Jn) : ∀ (x : TsS c74.as) (F : TsF c74.fs) (y : TsS c74.cs), ratio_minus_b lp jn x.1 x.2.1 = runC lp jn (ctxOf prog shs inls [] [(36, r36), (18, r18)]) hints 4 74 f74 c74 x F y := fun x F y => by kernel_rfl
theorem l74 : (ctxOf prog shs inls [] [(36, r36), (18, r18)]).ok := q36
theorem ok74 : c74.ok prog 74 := Ctr.of_den l74 hmix (hl := hints) (d := 4) func74 rfl (by decide) (e74 lpK jnK)

/-- math bits.Len64 -/
noncomputable def bits_Len64_b (_ : Lp) (jn : Jn) (x0 : Int) : Option Int :=
  jn (Int × Int × PUnit) Int (fun (x : Int × Int × PUnit) => jn (Int × Int × PUnit) Int (fun (x : Int × Int × PUnit) =>
  let v5 : Int := IntKind.wrap IntKind.u8 x.fst;
  let v6 : Int := IntKind.wrap IntKind.u8 (Int.fdiv x.fst ((2 : Int) ^ (8 : Nat))); bif decide (x.fst ≥ (256 : Int)) then bif decide ((0 : Int) ≤ (8 : Int)) then bif inB v6 (256 : Nat) then
    some (IntKind.wrap IntKind.i64 (IntKind.wrap IntKind.i64 (x.snd.fst + (8 : Int)) + IntKind.wrap IntKind.i64 (byteAt { data := List.toArray (List.append (List.append [(0 : UInt8), (1 :
    UInt8), (2 : UInt8), (2 : UInt8), (3 : UInt8), (3 : UInt8), (3 : UInt8), (3 : UInt8), (4 : UInt8), (4 : UInt8), (4 : UInt8), (4 : UInt8), (4 : UInt8), (4 : UInt8), (4 : UInt8), (4 :
    UInt8), (5 : UInt8), (5 : UInt8), (5 : UInt8), (5 : UInt8), (5 : UInt8), (5 : UInt8), (5 : UInt8), (5 : UInt8), (5 : UInt8), (5 : UInt8), (5 : UInt8), (5 : UInt8), (5 : UInt8), (5 :
    UInt8), (5 : UInt8), (5 : UInt8), (6 : UInt8), (6 : UInt8), (6 : UInt8), (6 : UInt8), (6 : UInt8), (6 : UInt8), (6 : UInt8), (6 : UInt8), (6 : UInt8), (6 : UInt8), (6 : UInt8), (6 :
    UInt8), (6 : UInt8), (6 : UInt8), (6 : UInt8), (6 : UInt8), (6 : UInt8), (6 : UInt8), (6 : UInt8), (6 : UInt8), (6 : UInt8), (6 : UInt8), (6 : UInt8), (6 : UInt8), (6 : UInt8), (6 :
    UInt8), (6 : UInt8), (6 : UInt8), (6 : UInt8), (6 : UInt8), (6 : UInt8), (6 : UInt8)] [(7 : UInt8), (7 : UInt8), (7 : UInt8), (7 : UInt8), (7 : UInt8), (7 : UInt8), (7 : UInt8), (7 :
    UInt8), (7 : UInt8), (7 : UInt8), (7 : UInt8), (7 : UInt8), (7 : UInt8), (7 : UInt8), (7 : UInt8), (7 : UInt8), (7 : UInt8), (7 : UInt8), (7 : UInt8), (7 : UInt8), (7 : UInt8), (7 :
    UInt8), (7 : UInt8), (7 : UInt8), (7 : UInt8), (7 : UInt8), (7 : UInt8), (7 : UInt8), (7 : UInt8), (7 : UInt8), (7 : UInt8), (7 : UInt8), (7 : UInt8), (7 : UInt8), (7 : UInt8), (7 :
    UInt8), (7 : UInt8), (7 : UInt8), (7 : UInt8), (7 : UInt8), (7 : UInt8), (7 : UInt8), (7 : UInt8), (7 : UInt8), (7 : UInt8), (7 : UInt8), (7 : UInt8), (7 : UInt8), (7 : UInt8), (7 :
    UInt8), (7 : UInt8), (7 : UInt8), (7 : UInt8), (7 : UInt8), (7 : UInt8), (7 : UInt8), (7 : UInt8), (7 : UInt8), (7 : UInt8), (7 : UInt8), (7 : UInt8), (7 : UInt8), (7 : UInt8), (7 :
    UInt8)]) (List.append [(8 : UInt8), (8 : UInt8), (8 : UInt8), (8 : UInt8), (8 : UInt8), (8 : UInt8), (8 : UInt8), (8 : UInt8), (8 : UInt8), (8 : UInt8), (8 : UInt8), (8 : UInt8), (8 :
    UInt8), (8 : UInt8), (8 : UInt8), (8 : UInt8), (8 : UInt8), (8 : UInt8), (8 : UInt8), (8 : UInt8), (8 : UInt8), (8 : UInt8), (8 : UInt8), (8 : UInt8), (8 : UInt8), (8 : UInt8), (8 :
    UInt8), (8 : UInt8), (8 : UInt8), (8 : UInt8), (8 : UInt8), (8 : UInt8), (8 : UInt8), (8 : UInt8), (8 : UInt8), (8 : UInt8), (8 : UInt8), (8 : UInt8), (8 : UInt8), (8 : UInt8), (8 :
    UInt8), (8 : UInt8), (8 : UInt8), (8 : UInt8), (8 : UInt8), (8 : UInt8), (8 : UInt8), (8 : UInt8), (8 : UInt8), (8 : UInt8), (8 : UInt8), (8 : UInt8), (8 : UInt8), (8 : UInt8), (8 :
    UInt8), (8 : UInt8), (8 : UInt8), (8 : UInt8), (8 : UInt8), (8 : UInt8), (8 : UInt8), (8 : UInt8), (8 : UInt8), (8 : UInt8)] [(8 : UInt8), (8 : UInt8), (8 : UInt8), (8 : UInt8), (8 :
    UInt8), (8 : UInt8), (8 : UInt8), (8 : UInt8), (8 : UInt8), (8 : UInt8), (8 : UInt8), (8 : UInt8), (8 : UInt8), (8 : UInt8), (8 : UInt8), (8 : UInt8), (8 : UInt8), (8 : UInt8), (8 :
    UInt8), (8 : UInt8), (8 : UInt8), (8 : UInt8), (8 : UInt8), (8 : UInt8), (8 : UInt8), (8 : UInt8), (8 : UInt8), (8 : UInt8), (8 : UInt8), (8 : UInt8), (8 : UInt8), (8 : UInt8), (8 :
    UInt8), (8 : UInt8), (8 : UInt8), (8 : UInt8), (8 : UInt8), (8 : UInt8), (8 : UInt8), (8 : UInt8), (8 : UInt8), (8 : UInt8), (8 : UInt8), (8 : UInt8), (8 : UInt8), (8 : UInt8), (8 :
    UInt8), (8 : UInt8), (8 : UInt8), (8 : UInt8), (8 : UInt8), (8 : UInt8), (8 : UInt8), (8 : UInt8), (8 : UInt8), (8 : UInt8), (8 : UInt8), (8 : UInt8), (8 : UInt8), (8 : UInt8), (8 :
    UInt8), (8 : UInt8), (8 : UInt8), (8 : UInt8)])) } (Int.toNat v6)))) else none else none else bif inB v5 (256 : Nat) then some (IntKind.wrap IntKind.i64 (x.snd.fst + IntKind.wrap
    IntKind.i64 (byteAt { data := List.toArray (List.append (List.append [(0 : UInt8), (1 : UInt8), (2 : UInt8), (2 : UInt8), (3 : UInt8), (3 : UInt8), (3 : UInt8), (3 : UInt8), (4 :
    UInt8), (4 : UInt8), (4 : UInt8), (4 : UInt8), (4 : UInt8), (4 : UInt8), (4 : UInt8), (4 : UInt8), (5 : UInt8), (5 : UInt8), (5 : UInt8), (5 : UInt8), (5 : UInt8), (5 : UInt8), (5 :
    UInt8), (5 : UInt8), (5 : UInt8), (5 : UInt8), (5 : UInt8), (5 : UInt8), (5 : UInt8), (5 : UInt8), (5 : UInt8), (5 : UInt8), (6 : UInt8), (6 : UInt8), (6 : UInt8), (6 : UInt8), (6 :
    UInt8), (6 : UInt8), (6 : UInt8), (6 : UInt8), (6 : UInt8), (6 : UInt8), (6 : UInt8), (6 : UInt8), (6 : UInt8), (6 : UInt8), (6 : UInt8), (6 : UInt8), (6 : UInt8), (6 : UInt8), (6 :
    UInt8), (6 : UInt8), (6 : UInt8), (6 : UInt8), (6 : UInt8), (6 : UInt8), (6 : UInt8), (6 : UInt8), (6 : UInt8), (6 : UInt8), (6 : UInt8), (6 : UInt8), (6 : UInt8), (6 : UInt8)] [(7 :
    UInt8), (7 : UInt8), (7 : UInt8), (7 : UInt8), (7 : UInt8), (7 : UInt8), (7 : UInt8), (7 : UInt8), (7 : UInt8), (7 : UInt8), (7 : UInt8), (7 : UInt8), (7 : UInt8), (7 : UInt8), (7 :
    UInt8), (7 : UInt8), (7 : UInt8), (7 : UInt8), (7 : UInt8), (7 : UInt8), (7 : UInt8), (7 : UInt8), (7 : UInt8), (7 : UInt8), (7 : UInt8), (7 : UInt8), (7 : UInt8), (7 : UInt8), (7 :
    UInt8), (7 : UInt8), (7 : UInt8), (7 : UInt8), (7 : UInt8), (7 : UInt8), (7 : UInt8), (7 : UInt8), (7 : UInt8), (7 : UInt8), (7 : UInt8), (7 : UInt8), (7 : UInt8), (7 : UInt8), (7 :
    UInt8), (7 : UInt8), (7 : UInt8), (7 : UInt8), (7 : UInt8), (7 : UInt8), (7 : UInt8), (7 : UInt8), (7 : UInt8), (7 : UInt8), (7 : UInt8), (7 : UInt8), (7 : UInt8), (7 : UInt8), (7 :
    UInt8), (7 : UInt8), (7 : UInt8), (7 : UInt8), (7 : UInt8), (7 : UInt8), (7 : UInt8), (7 : UInt8)]) (List.append [(8 : UInt8), (8 : UInt8), (8 : UInt8), (8 : UInt8), (8 : UInt8), (8 :
    UInt8), (8 : UInt8), (8 : UInt8), (8 : UInt8), (8 : UInt8), (8 : UInt8), (8 : UInt8), (8 : UInt8), (8 : UInt8), (8 : UInt8), (8 : UInt8), (8 : UInt8), (8 : UInt8), (8 : UInt8), (8 :
    UInt8), (8 : UInt8), (8 : UInt8), (8 : UInt8), (8 : UInt8), (8 : UInt8), (8 : UInt8), (8 : UInt8), (8 : UInt8), (8 : UInt8), (8 : UInt8), (8 : UInt8), (8 : UInt8), (8 : UInt8), (8 :
    UInt8), (8 : UInt8), (8 : UInt8), (8 : UInt8), (8 : UInt8), (8 : UInt8), (8 : UInt8), (8 : UInt8), (8 : UInt8), (8 : UInt8), (8 : UInt8), (8 : UInt8), (8 : UInt8), (8 : UInt8), (8 :
    UInt8), (8 : UInt8), (8 : UInt8), (8 : UInt8), (8 : UInt8), (8 : UInt8), (8 : UInt8), (8 : UInt8), (8 : UInt8), (8 : UInt8), (8 : UInt8), (8 : UInt8), (8 : UInt8), (8 : UInt8), (8 :
    UInt8), (8 : UInt8), (8 : UInt8)] [(8 : UInt8), (8 : UInt8), (8 : UInt8), (8 : UInt8), (8 : UInt8), (8 : UInt8), (8 : UInt8), (8 : UInt8), (8 : UInt8), (8 : UInt8), (8 : UInt8), (8 :
    UInt8), (8 : UInt8), (8 : UInt8), (8 : UInt8), (8 : UInt8), (8 : UInt8), (8 : UInt8), (8 : UInt8), (8 : UInt8), (8 : UInt8), (8 : UInt8), (8 : UInt8), (8 : UInt8), (8 : UInt8), (8 :
    UInt8), (8 : UInt8), (8 : UInt8), (8 : UInt8), (8 : UInt8), (8 : UInt8), (8 : UInt8), (8 : UInt8), (8 : UInt8), (8 : UInt8), (8 : UInt8), (8 : UInt8), (8 : UInt8), (8 : UInt8), (8 :
    UInt8), (8 : UInt8), (8 : UInt8), (8 : UInt8), (8 : UInt8), (8 : UInt8), (8 : UInt8), (8 : UInt8), (8 : UInt8), (8 : UInt8), (8 : UInt8), (8 : UInt8), (8 : UInt8), (8 : UInt8), (8 :
    UInt8), (8 : UInt8), (8 : UInt8), (8 : UInt8), (8 : UInt8), (8 : UInt8), (8 : UInt8), (8 : UInt8), (8 : UInt8), (8 : UInt8), (8 : UInt8)])) } (Int.toNat v5)))) else none) fun (j : Int ×
    Int × PUnit → Option Int) => bif decide (x.fst ≥ (65536 : Int)) then bif decide ((0 : Int) ≤ (16 : Int)) then j (Int.fdiv x.fst ((2 : Int) ^ (16 : Nat)), IntKind.wrap IntKind.i64
    (x.snd.fst + (16 : Int)), PUnit.unit) else none else j (x.fst, x.snd.fst, PUnit.unit)) fun (j : Int × Int × PUnit → Option Int) => bif decide (x0 ≥ (4294967296 : Int)) then bif decide
    ((0 : Int) ≤ (32 : Int)) then j (Int.fdiv x0 ((2 : Int) ^ (32 : Nat)), (32 : Int), PUnit.unit) else none else j (x0, (0 : Int), PUnit.unit)
noncomputable def bits_Len64 (x0 : Int) : Option Int := bits_Len64_b lpK jnK x0
noncomputable def c126 : Ctr := ⟨[(.int .u64)], [], [], .one i64, fun x _ _ => bits_Len64 x.1⟩
theorem e126 (lp : Lp) (jn : Jn) : ∀ (x : TsS c126.as) (F : TsF c126.fs) (y : TsS c126.cs), bits_Len64_b lp jn x.1 = runC lp jn (ctxOf prog shs inls [] [(36, r36), (18, r18)]) hints 4 126 f126 c126 x F y := fun x F y => by kernel_rfl
theorem l126 : (ctxOf prog shs inls [] [(36, r36), (18, r18)]).ok := q36
theorem ok126 : c126.ok prog 126 := Ctr.of_den l126 hmix (hl := hints) (d := 4) func126 rfl (by decide) (e126 lpK jnK)

/-- math bits.LeadingZeros64 -/
noncomputable def bits_LeadingZeros64_b (_ : Lp) (_ : Jn) (bits_Len64 : (Int) → Option (Int)) (x0 : Int) : Option Int :=
  obind (bits_Len64 x0) fun (t : Int) => some (IntKind.wrap IntKind.i64 ((64 : Int) - t))
noncomputable def bits_LeadingZeros64 (x0 : Int) : Option Int := bits_LeadingZeros64_b lpK jnK bits_Len64 x0
noncomputable def c120 : Ctr := ⟨[(.int .u64)], [], [], .one i64, fun x _ _ => bits_LeadingZeros64 x.1⟩
theorem e120 (lp : Lp) (jn : Jn) (bits_Len64 : (Int) → Option (Int)) : ∀ (x : TsS c120.as) (F : TsF c120.fs) (y : TsS c120.cs), bits_LeadingZeros64_b lp jn bits_Len64 x.1 = runC lp jn (ctxOf prog shs inls [(126, ⟨[(.int .u64)], [], [], .one i64, fun x _ _ => bits_Len64 x.1⟩)] [(36, r36), (18, r18)]) hints 4 120 f120 c120 x F y := fun x F y => by kernel_rfl
theorem l120 : (ctxOf prog shs inls [(126, c126)] [(36, r36), (18, r18)]).ok := ctxOf_cons (q36) (by kernel_rfl) ok126
theorem ok120 : c120.ok prog 120 := Ctr.of_den l120 hmix (hl := hints) (d := 4) func120 rfl (by decide) (e120 lpK jnK bits_Len64)

/-- math bits.Div64 -/
noncomputable def bits_Div64_b (lp : Lp) (jn : Jn) (bits_LeadingZeros64 : (Int) → Option (Int)) (x0 : Int) (x1 : Int) (x2 : Int) : Option (Int × Int × Unit) :=
  
  let v5 : Bool := nzB x2;
  let v6 : Int := (2 : Int) ^ (32 : Nat);
  let v7 : Bool := decide ((0 : Int) ≤ (32 : Int)); jn PUnit (Int × Int × PUnit) (fun (x : PUnit) => jn PUnit (Int × Int × PUnit) (fun (x : PUnit) => bif decide (x0 = (0 : Int)) then bif v5
    then bif v5 then some (IntKind.wrap IntKind.u64 (Int.tdiv x1 x2), Int.tmod x1 x2, PUnit.unit) else none else none else obind (bits_LeadingZeros64 x2) fun (t : Int) =>
  let v11 : Int := IntKind.wrap IntKind.u64 t;
  let v12 : Bool := decide ((0 : Int) ≤ v11);
  let v13 : Int := (2 : Int) ^ min (Int.toNat v11) (64 : Nat);
  let v14 : Int := IntKind.wrap IntKind.u64 (x2 * v13);
  let v15 : Int := IntKind.wrap IntKind.u64 (x1 * v13);
  let v16 : Int := Int.fdiv v14 v6;
  let v17 : Int := Int.fdiv v15 v6;
  let v18 : Bool := nzB v16;
  let v19 : Int := IntKind.wrap IntKind.u64 (↑(Nat.land (Int.toNat (v15 % Int.ofNat (18446744073709551616 : Nat))) (Int.toNat ((4294967295 : Int) % Int.ofNat (18446744073709551616 : Nat))))
    : Int);
  let v20 : Int := IntKind.wrap IntKind.u64 (↑(Nat.land (Int.toNat (v14 % Int.ofNat (18446744073709551616 : Nat))) (Int.toNat ((4294967295 : Int) % Int.ofNat (18446744073709551616 : Nat))))
    : Int);
  let v21 : Int := IntKind.wrap IntKind.u64 (↑(Nat.lor (Int.toNat (IntKind.wrap IntKind.u64 (x0 * v13) % Int.ofNat (18446744073709551616 : Nat))) (Int.toNat (Int.fdiv x1 ((2 : Int) ^ min
    (Int.toNat (IntKind.wrap IntKind.u64 ((64 : Int) - v11))) (64 : Nat)) % Int.ofNat (18446744073709551616 : Nat)))) : Int);
  let v22 : Int := IntKind.wrap IntKind.u64 (Int.tdiv v21 v16); bif v12 then bif v7 then bif v12 then bif decide ((0 : Int) ≤ IntKind.wrap IntKind.u64 ((64 : Int) - v11)) then bif v12 then
    bif v7 then bif v18 then jn (Int × PUnit) (Int × Int × PUnit) (fun (x : Int × PUnit) =>
  let v24 : Int := IntKind.wrap IntKind.u64 (IntKind.wrap IntKind.u64 (IntKind.wrap IntKind.u64 (v21 * (4294967296 : Int)) + v17) - IntKind.wrap IntKind.u64 (x.fst * v14));
  let v25 : Int := IntKind.wrap IntKind.u64 (Int.tdiv v24 v16); bif v18 then jn (Int × PUnit) (Int × Int × PUnit) (fun (x_1 : Int × PUnit) => bif v12 then some (IntKind.wrap IntKind.u64
    (IntKind.wrap IntKind.u64 (x.fst * (4294967296 : Int)) + x_1.fst), Int.fdiv (IntKind.wrap IntKind.u64 (IntKind.wrap IntKind.u64 (IntKind.wrap IntKind.u64 (v24 * (4294967296 : Int)) +
    v19) - IntKind.wrap IntKind.u64 (x_1.fst * v14))) v13, PUnit.unit) else none) fun (j : Int × PUnit → Option (Int × Int × PUnit)) => lp (Int × Int × PUnit) (Int × Int × PUnit) (fun
    (again : Int × Int × PUnit → Option (Int × Int × PUnit)) (x : Int × Int × PUnit) =>
  let v29 : Int × PUnit := (IntKind.wrap IntKind.u64 (x.snd.fst - (1 : Int)), PUnit.unit);
  let v30 : Bool := decide (x.snd.fst ≥ (4294967296 : Int));
  let v31 : Bool := !v30;
  let v32 : Bool := !v31 || v31;
  let v33 : Bool := v32 && v32; bif v33 then bif v32 then bif v33 then bif v33 then bif v30 || v31 then bif bif v30 then true else decide (IntKind.wrap IntKind.u64 (x.snd.fst * v20) >
    IntKind.wrap IntKind.u64 (IntKind.wrap IntKind.u64 ((4294967296 : Int) * x.fst) + v19)) then bif decide (IntKind.wrap IntKind.u64 (x.fst + v16) ≥ (4294967296 : Int)) then j v29 else
    again (IntKind.wrap IntKind.u64 (x.fst + v16), v29) else j (x.snd.fst, PUnit.unit) else none else none else none else none else none) (IntKind.wrap IntKind.u64 (v24 - IntKind.wrap
    IntKind.u64 (v25 * v16)), v25, PUnit.unit) else none) fun (j : Int × PUnit → Option (Int × Int × PUnit)) => lp (Int × Int × PUnit) (Int × Int × PUnit) (fun (again : Int × Int × PUnit →
    Option (Int × Int × PUnit)) (x : Int × Int × PUnit) =>
  let v26 : Int := IntKind.wrap IntKind.u64 (x.fst - (1 : Int));
  let v27 : Bool := decide (x.fst ≥ (4294967296 : Int));
  let v28 : Bool := !v27;
  let v29 : Bool := !v28 || v28;
  let v30 : Bool := v29 && v29; bif v30 then bif v29 then bif v30 then bif v30 then bif v27 || v28 then bif bif v27 then true else decide (IntKind.wrap IntKind.u64 (x.fst * v20) >
    IntKind.wrap IntKind.u64 (IntKind.wrap IntKind.u64 ((4294967296 : Int) * x.snd.fst) + v17)) then bif decide (IntKind.wrap IntKind.u64 (x.snd.fst + v16) ≥ (4294967296 : Int)) then j
    (v26, PUnit.unit) else again (v26, IntKind.wrap IntKind.u64 (x.snd.fst + v16), PUnit.unit) else j (x.fst, PUnit.unit) else none else none else none else none else none) (v22,
    IntKind.wrap IntKind.u64 (v21 - IntKind.wrap IntKind.u64 (v22 * v16)), PUnit.unit) else none else none else none else none else none else none else none) fun (j : PUnit → Option (Int ×
    Int × PUnit)) => bif decide (x2 ≤ x0) then none else j PUnit.unit) fun (j : PUnit → Option (Int × Int × PUnit)) => bif decide (x2 = (0 : Int)) then none else j PUnit.unit
noncomputable def bits_Div64 (x0 : Int) (x1 : Int) (x2 : Int) : Option (Int × Int × Unit) := bits_Div64_b lpK jnK bits_LeadingZeros64 x0 x1 x2
noncomputable def c106 : Ctr := ⟨[(.int .u64), (.int .u64), (.int .u64)], [], [], .tup [(.int .u64), (.int .u64)], fun x _ _ => bits_Div64 x.1 x.2.1 x.2.2.1⟩
theorem e106 (lp : Lp) (jn : Jn) (bits_LeadingZeros64 : (Int) → Option (Int)) : ∀ (x : TsS c106.as) (F : TsF c106.fs) (y : TsS c106.cs), bits_Div64_b lp jn bits_LeadingZeros64 x.1 x.2.1 x.2.2.1 = runC lp jn (ctxOf prog shs inls [(120, ⟨[(.int .u64)], [], [], .one i64, fun x _ _ => bits_LeadingZeros64 x.1⟩)] [(36, r36), (18, r18)]) hints 4 106 f106 c106 x F y := fun x F y => by kernel_rfl
theorem l106 : (ctxOf prog shs inls [(120, c120)] [(36, r36), (18, r18)]).ok := ctxOf_cons (q36) (by kernel_rfl) ok120
theorem ok106 : c106.ok prog 106 := Ctr.of_den l106 hmix (hl := hints) (d := 4) func106 rfl (by decide) (e106 lpK jnK bits_LeadingZeros64)

/-- loftblock ratio.over -/
noncomputable def ratio_over_b (_ : Lp) (_ : Jn) (bits_Div64 : (Int) → (Int) → (Int) → Option (Int × Int × Unit)) (x0 : Int × Int) (x1 : Int) : Option ((Int × Int) × Int × Unit) :=
  
  let v4 : Bool := nzB x1; bif v4 then obind (bits_Div64 (Int.tmod x0.fst x1) x0.snd x1) fun (t : Int × Int × PUnit) => bif v4 then some ((IntKind.wrap IntKind.u64 (Int.tdiv x0.fst x1),
    t.fst), t.snd.fst, PUnit.unit) else none else none
noncomputable def ratio_over (x0 : Int × Int) (x1 : Int) : Option ((Int × Int) × Int × Unit) := ratio_over_b lpK jnK bits_Div64 x0 x1
noncomputable def c75 : Ctr := ⟨[T94, (.int .u64)], [], [], .tup [T94, (.int .u64)], fun x _ _ => ratio_over x.1 x.2.1⟩
theorem e75 (lp : Lp) (jn : Jn) (bits_Div64 : (Int) → (Int) → (Int) → Option (Int × Int × Unit)) : ∀ (x : TsS c75.as) (F : TsF c75.fs) (y : TsS c75.cs), ratio_over_b lp jn bits_Div64 x.1 x.2.1 = runC lp jn (ctxOf prog shs inls [(106, ⟨[(.int .u64), (.int .u64), (.int .u64)], [], [], .tup [(.int .u64), (.int .u64)], fun x _ _ => bits_Div64 x.1 x.2.1 x.2.2.1⟩)] [(36, r36), (18, r18)]) hints 4 75 f75 c75 x F y := fun x F y => by kernel_rfl
theorem l75 : (ctxOf prog shs inls [(106, c106)] [(36, r36), (18, r18)]).ok := ctxOf_cons (q36) (by kernel_rfl) ok106
theorem ok75 : c75.ok prog 75 := Ctr.of_den l75 hmix (hl := hints) (d := 4) func75 rfl (by decide) (e75 lpK jnK bits_Div64)

/-- loftblock ratio.Add -/
noncomputable def ratio_Add_b (_ : Lp) (jn : Jn) (ratio_size : (Int) → Option (Int)) (ratio_gcd : (Int) → (Int) → Option (Int)) (ratio_signed : (Bool) → (Int) → (Int) → Option ((Int × Int) × Int × Unit)) (ratio_Valid : (Int × Int) → Option (Bool)) (ratio_product : (Int) → (Int) → Option (Int × Int)) (ratio_plus : (Int × Int) → (Int × Int) → Option (Int × Int)) (ratio_less : (Int × Int) → (Int × Int) → Option (Bool)) (ratio_minus : (Int × Int) → (Int × Int) → Option (Int × Int)) (ratio_over : (Int × Int) → (Int) → Option ((Int × Int) × Int × Unit)) (x0 : Int × Int) (x1 : Int × Int) : Option ((Int × Int) × Int × Unit) :=
  
  let v4 : Int := IntKind.wrap IntKind.u64 x0.snd;
  let v5 : Int := IntKind.wrap IntKind.u64 x1.snd;
  let v6 : Bool := decide (x0.fst < (0 : Int)); obind (ratio_Valid x0) fun (t : Bool) =>
  let v8 : Bool := !t;
  let v9 : Bool := !v8;
  let v10 : Bool := !v9 || v9; bif v10 then obind (bif v9 then ratio_Valid x1 else some false) fun (t : Bool) => bif v10 then bif v8 || v9 then bif bif v8 then true else !t then some (((0 :
    Int), (0 : Int)), (1 : Int), PUnit.unit) else obind (ratio_gcd v4 v5) fun (t : Int) =>
  let v13 : Bool := nzB t;
  let v14 : Int := IntKind.wrap IntKind.u64 (Int.tdiv v4 t); obind (ratio_size x0.fst) fun (t_1 : Int) => bif v13 then obind (ratio_product t_1 (IntKind.wrap IntKind.u64 (Int.tdiv v5 t)))
    fun (t_2 : Int × Int) => obind (ratio_size x1.fst) fun (t_3 : Int) => bif v13 then obind (ratio_product t_3 v14) fun (t_4 : Int × Int) => jn (Bool × (Int × Int) × PUnit) ((Int × Int) ×
    Int × PUnit) (fun (x : Bool × (Int × Int) × PUnit) => bif decide (x.snd.fst.fst = (0 : Int)) && (decide (x.snd.fst.snd = (0 : Int)) && true) then some (((0 : Int), (1 : Int)), (0 :
    Int), PUnit.unit) else obind (ratio_over x.snd.fst t) fun (t_5 : (Int × Int) × Int × PUnit) => obind (ratio_gcd t t_5.snd.fst) fun (t : Int) => obind (ratio_over x.snd.fst t) fun (t_6 :
    (Int × Int) × Int × PUnit) =>
  let v23 : Bool := decide (t_6.fst.fst > (0 : Int));
  let v24 : Bool := !v23;
  let v25 : Bool := !v24 || v24; bif v13 then bif nzB t then obind (ratio_product v14 (IntKind.wrap IntKind.u64 (Int.tdiv v5 t))) fun (t : Int × Int) => bif v25 then bif v25 then bif v23 ||
    v24 then bif bif v23 then true else decide (t.fst > (0 : Int)) then some (((0 : Int), (0 : Int)), (5 : Int), PUnit.unit) else obind (ratio_signed x.fst t_6.fst.snd t.snd) fun (t : (Int
    × Int) × Int × PUnit) => some (t.fst, t.snd.fst, PUnit.unit) else none else none else none else none else none) fun (j : Bool × (Int × Int) × PUnit → Option ((Int × Int) × Int × PUnit))
    => bif decide (v6 = decide (x1.fst < (0 : Int))) then obind (ratio_plus t_2 t_4) fun (t : Int × Int) => j (v6, t, PUnit.unit) else obind (ratio_less t_2 t_4) fun (t : Bool) => jn (Bool
    × (Int × Int) × PUnit) ((Int × Int) × Int × PUnit) (fun (x : Bool × (Int × Int) × PUnit) => j (x.fst, x.snd.fst, PUnit.unit)) fun (j : Bool × (Int × Int) × PUnit → Option ((Int × Int) ×
    Int × PUnit)) => bif t then obind (ratio_minus t_4 t_2) fun (t : Int × Int) => j (!v6, t, PUnit.unit) else obind (ratio_minus t_2 t_4) fun (t : Int × Int) => j (v6, t, PUnit.unit) else
    none else none else none else none else none
noncomputable def ratio_Add (x0 : Int × Int) (x1 : Int × Int) : Option ((Int × Int) × Int × Unit) := ratio_Add_b lpK jnK ratio_size ratio_gcd ratio_signed ratio_Valid ratio_product ratio_plus ratio_less ratio_minus ratio_over x0 x1
noncomputable def c35 : Ctr := ⟨[T48, T48], [], [], .tup [T48, i64], fun x _ _ => ratio_Add x.1 x.2.1⟩
theorem e35 (lp : Lp) (jn : Jn) (ratio_size : (Int) → Option (Int)) (ratio_gcd : (Int) → (Int) → Option (Int)) (ratio_signed : (Bool) → (Int) → (Int) → Option ((Int × Int) × Int × Unit)) (ratio_Valid : (Int × Int) → Option (Bool)) (ratio_product : (Int) → (Int) → Option (Int × Int)) (ratio_plus : (Int × Int) → (Int × Int) → Option (Int × Int)) (ratio_less : (Int × Int) → (Int × Int) → Option (Bool)) (ratio_minus : (Int × Int) → (Int × Int) → Option (Int × Int)) (ratio_over : (Int × Int) → (Int) → Option ((Int × Int) × Int × Unit)) : ∀ (x : TsS c35.as) (F : TsF c35.fs) (y : TsS c35.cs), ratio_Add_b lp jn ratio_size ratio_gcd ratio_signed ratio_Valid ratio_product ratio_plus ratio_less ratio_minus ratio_over x.1 x.2.1 = runC lp jn (ctxOf prog shs inls [(75, ⟨[T94, (.int .u64)], [], [], .tup [T94, (.int .u64)], fun x _ _ => ratio_over x.1 x.2.1⟩), (74, ⟨[T94, T94], [], [], .one T94, fun x _ _ => ratio_minus x.1 x.2.1⟩), (73, ⟨[T94, T94], [], [], .one .bool, fun x _ _ => ratio_less x.1 x.2.1⟩), (72, ⟨[T94, T94], [], [], .one T94, fun x _ _ => ratio_plus x.1 x.2.1⟩), (58, ⟨[(.int .u64), (.int .u64)], [], [], .one T94, fun x _ _ => ratio_product x.1 x.2.1⟩), (57, ⟨[T48], [], [], .one .bool, fun x _ _ => ratio_Valid x.1⟩), (56, ⟨[.bool, (.int .u64), (.int .u64)], [], [], .tup [T48, i64], fun x _ _ => ratio_signed x.1 x.2.1 x.2.2.1⟩), (55, ⟨[(.int .u64), (.int .u64)], [], [], .one (.int .u64), fun x _ _ => ratio_gcd x.1 x.2.1⟩), (54, ⟨[i64], [], [], .one (.int .u64), fun x _ _ => ratio_size x.1⟩)] [(36, r36), (18, r18)]) hints 4 35 f35 c35 x F y := fun x F y => by kernel_rfl
theorem l35 : (ctxOf prog shs inls [(75, c75), (74, c74), (73, c73), (72, c72), (58, c58), (57, c57), (56, c56), (55, c55), (54, c54)] [(36, r36), (18, r18)]).ok := ctxOf_cons (ctxOf_cons (ctxOf_cons (ctxOf_cons (ctxOf_cons (ctxOf_cons (ctxOf_cons (ctxOf_cons (ctxOf_cons (q36) (by kernel_rfl) ok54) (by kernel_rfl) ok55) (by kernel_rfl) ok56) (by kernel_rfl) ok57) (by kernel_rfl) ok58) (by kernel_rfl) ok72) (by kernel_rfl) ok73) (by kernel_rfl) ok74) (by kernel_rfl) ok75
theorem ok35 : c35.ok prog 35 := Ctr.of_den l35 hmix (hl := hints) (d := 4) func35 rfl (by decide) (e35 lpK jnK ratio_size ratio_gcd ratio_signed ratio_Valid ratio_product ratio_plus ratio_less ratio_minus ratio_over)

/-- loftblock bridle.Check$1 -/
noncomputable def bridle_Check_1_b (_ : Lp) (_ : Jn) (ratio_Valid : (Int × Int) → Option (Bool)) (x0 : Int × Int) : Option Bool :=
  obind (ratio_Valid x0) fun (t : Bool) => some !t
noncomputable def bridle_Check_1 (x0 : Int × Int) : Option Bool := bridle_Check_1_b lpK jnK ratio_Valid x0
noncomputable def c71 : Ctr := ⟨[T48], [], [], .one .bool, fun x _ _ => bridle_Check_1 x.1⟩
theorem e71 (lp : Lp) (jn : Jn) (ratio_Valid : (Int × Int) → Option (Bool)) : ∀ (x : TsS c71.as) (F : TsF c71.fs) (y : TsS c71.cs), bridle_Check_1_b lp jn ratio_Valid x.1 = runC lp jn (ctxOf prog shs inls [(57, ⟨[T48], [], [], .one .bool, fun x _ _ => ratio_Valid x.1⟩)] [(36, r36), (18, r18)]) hints 4 71 f71 c71 x F y := fun x F y => by kernel_rfl
theorem l71 : (ctxOf prog shs inls [(57, c57)] [(36, r36), (18, r18)]).ok := ctxOf_cons (q36) (by kernel_rfl) ok57
theorem ok71 : c71.ok prog 71 := Ctr.of_den l71 hmix (hl := hints) (d := 4) func71 rfl (by decide) (e71 lpK jnK ratio_Valid)

/-- loftblock bridle.Check -/
noncomputable def bridle_Check_b (lp : Lp) (_ : Jn) (bridle_arm : ((Int × Int × Int) × Int × List (ByteArray × (Int × Int × Int) × Int)) → (Int) → Option (Int × Int × Int)) (bridle_Valid : ((Int × Int × Int) × Int × List (ByteArray × (Int × Int × Int) × Int)) → Option (Bool)) (ratio_Mul : (Int × Int) → (Int × Int) → Option ((Int × Int) × Int × Unit)) (slices_ContainsFunc_61 : (List (Int × Int)) → ((((Int × Int) × Unit) → Option Bool)) → Option (Bool)) (ratio_Add : (Int × Int) → (Int × Int) → Option ((Int × Int) × Int × Unit)) (bridle_Check_1 : (Int × Int) → Option (Bool)) (x0 : (Int × Int × Int) × Int × List (ByteArray × (Int × Int × Int) × Int)) (x1 : List (Int × Int)) : Option (Bool × Int × Unit) :=
  obind (bridle_Valid x0) fun (t : Bool) =>
  let v5 : Bool := !t;
  let v6 : Bool := !v5; bif !v6 || v6 then obind (bif v6 then slices_ContainsFunc_61 x1 fun (x : (Int × Int) × PUnit) => bridle_Check_1 x.fst else some false) fun (t : Bool) => bif v5 || v6
    then bif bif v5 then true else t then some (false, (1 : Int), PUnit.unit) else bif !decide ((↑(List.length x1) : Int) = (↑(List.length x0.snd.snd) : Int)) then some (false, (3 : Int),
    PUnit.unit) else lp (Bool × Int × PUnit) (Bool × Int × PUnit) (fun (again : Bool × Int × PUnit → Option (Bool × Int × PUnit)) (x : Bool × Int × PUnit) =>
  let v10 : Bool := !x.fst || x.fst;
  let v11 : Bool := inB x.snd.fst (3 : Nat);
  let v12 : Int := List.getD [(0 : Int), (0 : Int), x0.snd.fst] (Int.toNat x.snd.fst) (0 : Int); bif decide (x.snd.fst < (3 : Int)) then bif v11 then lp (Int × (Int × Int) × PUnit) (Bool ×
    Int × PUnit) (fun (again_1 : Int × (Int × Int) × PUnit → Option (Bool × Int × PUnit)) (x_1 : Int × (Int × Int) × PUnit) => bif decide (x_1.fst < (↑(List.length x1) : Int)) then bif inB
    x_1.fst (List.length x1) then obind (bridle_arm x0 x_1.fst) fun (t : Int × Int × Int) => bif v11 then obind (ratio_Mul (List.getD x1 (Int.toNat x_1.fst) ((0 : Int), (0 : Int)))
    (List.getD [t.fst, t.snd.fst, t.snd.snd] (Int.toNat x.snd.fst) (0 : Int), (1 : Int))) fun (t : (Int × Int) × Int × PUnit) => bif !decide (t.snd.fst = (0 : Int)) then some (false,
    t.snd.fst, PUnit.unit) else obind (ratio_Add x_1.snd.fst t.fst) fun (t : (Int × Int) × Int × PUnit) => bif !decide (t.snd.fst = (0 : Int)) then some (false, t.snd.fst, PUnit.unit) else
    again_1 (IntKind.wrap IntKind.i64 (x_1.fst + (1 : Int)), t.fst, PUnit.unit) else none else none else bif v10 then bif v10 && v10 then bif v10 then again (bif x.fst then decide
    (x_1.snd.fst.fst = v12) && (decide (x_1.snd.fst.snd = (1 : Int)) && true) else false, IntKind.wrap IntKind.i64 (x.snd.fst + (1 : Int)), PUnit.unit) else none else none else none) ((0 :
    Int), ((0 : Int), (1 : Int)), PUnit.unit) else none else some (x.fst, (0 : Int), PUnit.unit)) (true, (0 : Int), PUnit.unit) else none else none
noncomputable def bridle_Check (x0 : (Int × Int × Int) × Int × List (ByteArray × (Int × Int × Int) × Int)) (x1 : List (Int × Int)) : Option (Bool × Int × Unit) := bridle_Check_b lpK jnK bridle_arm bridle_Valid ratio_Mul slices_ContainsFunc_61 ratio_Add bridle_Check_1 x0 x1
noncomputable def c34 : Ctr := ⟨[T26, (.sl T48)], [], [], .tup [.bool, i64], fun x _ _ => bridle_Check x.1 x.2.1⟩
theorem e34 (lp : Lp) (jn : Jn) (bridle_arm : ((Int × Int × Int) × Int × List (ByteArray × (Int × Int × Int) × Int)) → (Int) → Option (Int × Int × Int)) (bridle_Valid : ((Int × Int × Int) × Int × List (ByteArray × (Int × Int × Int) × Int)) → Option (Bool)) (ratio_Mul : (Int × Int) → (Int × Int) → Option ((Int × Int) × Int × Unit)) (slices_ContainsFunc_61 : (List (Int × Int)) → ((((Int × Int) × Unit) → Option Bool)) → Option (Bool)) (ratio_Add : (Int × Int) → (Int × Int) → Option ((Int × Int) × Int × Unit)) (bridle_Check_1 : (Int × Int) → Option (Bool)) : ∀ (x : TsS c34.as) (F : TsF c34.fs) (y : TsS c34.cs), bridle_Check_b lp jn bridle_arm bridle_Valid ratio_Mul slices_ContainsFunc_61 ratio_Add bridle_Check_1 x.1 x.2.1 = runC lp jn (ctxOf prog shs inls [(71, ⟨[T48], [], [], .one .bool, fun x _ _ => bridle_Check_1 x.1⟩), (35, ⟨[T48, T48], [], [], .tup [T48, i64], fun x _ _ => ratio_Add x.1 x.2.1⟩), (61, ⟨[(.sl T48)], [([T48], .bool)], [], .one .bool, fun x F _ => slices_ContainsFunc_61 x.1 F.1⟩), (22, ⟨[T48, T48], [], [], .tup [T48, i64], fun x _ _ => ratio_Mul x.1 x.2.1⟩), (12, ⟨[T26], [], [], .one .bool, fun x _ _ => bridle_Valid x.1⟩), (47, ⟨[T26, i64], [], [], .one T23, fun x _ _ => bridle_arm x.1 x.2.1⟩)] [(36, r36), (18, r18)]) hints 4 34 f34 c34 x F y := fun x F y => by kernel_rfl
theorem l34 : (ctxOf prog shs inls [(71, c71), (35, c35), (61, c61), (22, c22), (12, c12), (47, c47)] [(36, r36), (18, r18)]).ok := ctxOf_cons (ctxOf_cons (ctxOf_cons (ctxOf_cons (ctxOf_cons (ctxOf_cons (q36) (by kernel_rfl) ok47) (by kernel_rfl) ok12) (by kernel_rfl) ok22) (by kernel_rfl) ok61) (by kernel_rfl) ok35) (by kernel_rfl) ok71
theorem ok34 : c34.ok prog 34 := Ctr.of_den l34 hmix (hl := hints) (d := 4) func34 rfl (by decide) (e34 lpK jnK bridle_arm bridle_Valid ratio_Mul slices_ContainsFunc_61 ratio_Add bridle_Check_1)

/-- loftblock loftblocklaw18.BridleHolds -/
noncomputable def law18_BridleHolds_b (lp : Lp) (_ : Jn) (bridle_Pulls : ((Int × Int × Int) × Int × List (ByteArray × (Int × Int × Int) × Int)) → Option ((List (Int × Int)) × Int × Unit)) (law18_awake : Option (Bool)) (law18_ready : ((Int × Int × Int) × Int × List (ByteArray × (Int × Int × Int) × Int)) → Option (Bool)) (bridle_Anchor : ((Int × Int × Int) × Int × List (ByteArray × (Int × Int × Int) × Int)) → (ByteArray) → Option (((Int × Int) × (Int × Int) × Int × Int) × Int × Unit)) (ratio_Add : (Int × Int) → (Int × Int) → Option ((Int × Int) × Int × Unit)) (bridle_Check : ((Int × Int × Int) × Int × List (ByteArray × (Int × Int × Int) × Int)) → (List (Int × Int)) → Option (Bool × Int × Unit)) (slices_Clone_36 : (List (Int × Int)) → Option (List (Int × Int))) (x0 : (Int × Int × Int) × Int × List (ByteArray × (Int × Int × Int) × Int)) (x1 : Int) (x2 : Int) : Option Bool :=
  
  let v5 : Int := IntKind.wrap IntKind.i64 x1;
  let v6 : Int := IntKind.wrap IntKind.i64 ((0 : Int) - x0.snd.fst); obind law18_awake fun (t : Bool) => bif !t then some false else obind (law18_ready x0) fun (t : Bool) => bif !t then
    some true else obind (bridle_Pulls x0) fun (t : List (Int × Int) × Int × PUnit) => bif !decide (t.snd.fst = (0 : Int)) then some (decide ((↑(List.length t.fst) : Int) = (0 : Int))) else
    obind (bridle_Check x0 t.fst) fun (t_1 : Bool × Int × PUnit) =>
  let v11 : Bool := !decide (t_1.snd.fst = (0 : Int));
  let v12 : Bool := !v11;
  let v13 : Bool := bif v11 then true else !t_1.fst;
  let v14 : Bool := !v13;
  let v15 : Bool := !v14 || v14; bif decide (t_1.snd.fst = (5 : Int)) then some true else bif !v12 || v12 then bif v11 || v12 then bif v15 then bif v15 then bif v15 then bif v15 && v15 then
    bif v13 || v14 then bif bif v13 then true else !decide ((↑(List.length t.fst) : Int) = (↑(List.length x0.snd.snd) : Int)) then some false else lp (Int × ((Int × Int) × (Int × Int) × Int
    × Int) × PUnit) Bool (fun (again : Int × ((Int × Int) × (Int × Int) × Int × Int) × PUnit → Option Bool) (x : Int × ((Int × Int) × (Int × Int) × Int × Int) × PUnit) => bif decide (x.fst
    < (↑(List.length x0.snd.snd) : Int)) then bif inB x.fst (List.length x0.snd.snd) then obind (bridle_Anchor x0 (List.getD x0.snd.snd (Int.toNat x.fst) ({ data := { toList := [] } }, ((0
    : Int), (0 : Int), (0 : Int)), (0 : Int))).fst) fun (t : ((Int × Int) × (Int × Int) × Int × Int) × Int × PUnit) => bif !decide (t.snd.fst = (0 : Int)) then some (decide (t.snd.fst = (5
    : Int))) else lp (Int × ((Int × Int) × (Int × Int) × Int × Int) × PUnit) Bool (fun (again_1 : Int × ((Int × Int) × (Int × Int) × Int × Int) × PUnit → Option Bool) (x_1 : Int × ((Int ×
    Int) × (Int × Int) × Int × Int) × PUnit) =>
  let v21 : Bool := inB x_1.fst (3 : Nat);
  let v22 : Bool := Nat.ble (Nat.succ (Int.toNat x_1.fst)) (3 : Nat); bif decide (x_1.fst < (3 : Int)) then bif v21 then bif v22 then bif v21 then bif v22 then obind (ratio_Add (List.getD
    [x_1.snd.fst.fst, x_1.snd.fst.snd.fst, x_1.snd.fst.snd.snd] (Int.toNat x_1.fst) ((0 : Int), (0 : Int))) (List.getD [t.fst.fst, t.fst.snd.fst, t.fst.snd.snd] (Int.toNat x_1.fst) ((0 :
    Int), (0 : Int)))) fun (t : (Int × Int) × Int × PUnit) => bif v21 then bif v22 then bif !decide (t.snd.fst = (0 : Int)) then some (decide (t.snd.fst = (5 : Int))) else again_1
    (IntKind.wrap IntKind.i64 (x_1.fst + (1 : Int)), (bif Nat.beq (Int.toNat x_1.fst) (0 : Nat) then t.fst else x_1.snd.fst.fst, bif Nat.beq (Int.toNat x_1.fst) (1 : Nat) then t.fst else
    x_1.snd.fst.snd.fst, bif Nat.beq (Int.toNat x_1.fst) (2 : Nat) then t.fst else x_1.snd.fst.snd.snd), PUnit.unit) else none else none else none else none else none else none else again
    (IntKind.wrap IntKind.i64 (x.fst + (1 : Int)), x_1.snd.fst, PUnit.unit)) ((0 : Int), x.snd.fst, PUnit.unit) else none else bif !(decide (x.snd.fst.fst.fst = (0 : Int)) && (decide
    (x.snd.fst.fst.snd = (1 : Int)) && true) && (decide (x.snd.fst.snd.fst.fst = (0 : Int)) && (decide (x.snd.fst.snd.fst.snd = (1 : Int)) && true) && (decide (x.snd.fst.snd.snd.fst = v6)
    && (decide (x.snd.fst.snd.snd.snd = (1 : Int)) && true) && true))) then some false else obind (slices_Clone_36 t.fst) fun (t : List (Int × Int)) =>
  let v19 : Int := Int.tmod v5 (↑(List.length t) : Int);
  let v20 : Bool := inB v19 (List.length t);
  let v21 : Bool := Nat.ble (Nat.succ (Int.toNat v19)) (List.length t); bif nzB (↑(List.length t) : Int) then bif v20 then bif v21 then obind (ratio_Add (List.getD t (Int.toNat v19) ((0 :
    Int), (0 : Int))) (IntKind.wrap IntKind.i64 x2, (1 : Int))) fun (t_2 : (Int × Int) × Int × PUnit) =>
  let v23 : Bool := !decide (t_2.snd.fst = (0 : Int));
  let v24 : Bool := !v23; bif !v24 || v24 then bif v23 || v24 then bif bif v23 then true else decide (x2 = (0 : Int)) then some true else bif v20 then bif v21 then obind (bridle_Check x0
    (List.set t (Int.toNat v19) t_2.fst)) fun (t : Bool × Int × PUnit) =>
  let v26 : Bool := decide (t.snd.fst = (5 : Int));
  let v27 : Bool := decide (t.snd.fst = (0 : Int));
  let v28 : Bool := !v26;
  let v29 : Bool := !v28;
  let v30 : Bool := v28 && v27;
  let v31 : Bool := v29 || v28; bif v31 then bif v31 then bif !v30 || v30 then bif (v29 || v31) && (v29 || (!v27 || (v29 || v30))) then bif v26 || v28 then some (bif v26 then true else bif
    v27 then !t.fst else false) else none else none else none else none else none else none else none else none else none else none else none else none) ((0 : Int), (((0 : Int), (1 : Int)),
    ((0 : Int), (1 : Int)), (0 : Int), (1 : Int)), PUnit.unit) else none else none else none else none else none else none else none
noncomputable def law18_BridleHolds (x0 : (Int × Int × Int) × Int × List (ByteArray × (Int × Int × Int) × Int)) (x1 : Int) (x2 : Int) : Option Bool := law18_BridleHolds_b lpK jnK bridle_Pulls law18_awake law18_ready bridle_Anchor ratio_Add bridle_Check slices_Clone_36 x0 x1 x2
noncomputable def c8 : Ctr := ⟨[T26, (.int .u8), (.int .i8)], [], [], .one .bool, fun x _ _ => law18_BridleHolds x.1 x.2.1 x.2.2.1⟩
theorem e8 (lp : Lp) (jn : Jn) (bridle_Pulls : ((Int × Int × Int) × Int × List (ByteArray × (Int × Int × Int) × Int)) → Option ((List (Int × Int)) × Int × Unit)) (law18_awake : Option (Bool)) (law18_ready : ((Int × Int × Int) × Int × List (ByteArray × (Int × Int × Int) × Int)) → Option (Bool)) (bridle_Anchor : ((Int × Int × Int) × Int × List (ByteArray × (Int × Int × Int) × Int)) → (ByteArray) → Option (((Int × Int) × (Int × Int) × Int × Int) × Int × Unit)) (ratio_Add : (Int × Int) → (Int × Int) → Option ((Int × Int) × Int × Unit)) (bridle_Check : ((Int × Int × Int) × Int × List (ByteArray × (Int × Int × Int) × Int)) → (List (Int × Int)) → Option (Bool × Int × Unit)) (slices_Clone_36 : (List (Int × Int)) → Option (List (Int × Int))) : ∀ (x : TsS c8.as) (F : TsF c8.fs) (y : TsS c8.cs), law18_BridleHolds_b lp jn bridle_Pulls law18_awake law18_ready bridle_Anchor ratio_Add bridle_Check slices_Clone_36 x.1 x.2.1 x.2.2.1 = runC lp jn (ctxOf prog shs inls [(34, ⟨[T26, (.sl T48)], [], [], .tup [.bool, i64], fun x _ _ => bridle_Check x.1 x.2.1⟩), (35, ⟨[T48, T48], [], [], .tup [T48, i64], fun x _ _ => ratio_Add x.1 x.2.1⟩), (25, ⟨[T26, .str], [], [], .tup [T55, i64], fun x _ _ => bridle_Anchor x.1 x.2.1⟩), (17, ⟨[T26], [], [], .one .bool, fun x _ _ => law18_ready x.1⟩), (9, ⟨[], [], [], .one .bool, fun _ _ _ => law18_awake⟩), (20, ⟨[T26], [], [], .tup [(.sl T48), i64], fun x _ _ => bridle_Pulls x.1⟩)] [(36, ⟨[(.sl T48)], 48, T48, fun x => slices_Clone_36 x.1⟩), (18, r18)]) hints 4 8 f8 c8 x F y := fun x F y => by kernel_rfl
theorem l8 : (ctxOf prog shs inls [(34, c34), (35, c35), (25, c25), (17, c17), (9, c9), (20, c20)] [(36, r36), (18, r18)]).ok := ctxOf_cons (ctxOf_cons (ctxOf_cons (ctxOf_cons (ctxOf_cons (ctxOf_cons (q36) (by kernel_rfl) ok20) (by kernel_rfl) ok9) (by kernel_rfl) ok17) (by kernel_rfl) ok25) (by kernel_rfl) ok35) (by kernel_rfl) ok34
theorem ok8 : c8.ok prog 8 := Ctr.of_den l8 hmix (hl := hints) (d := 4) func8 rfl (by decide) (e8 lpK jnK bridle_Pulls law18_awake law18_ready bridle_Anchor ratio_Add bridle_Check slices_Clone_36)

end Go.Proofs.Ytghjblbkbelcfaa
