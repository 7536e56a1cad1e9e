/- r18: what its functions answer (printed by a program), and that they do; part 2. Plain lemmas for what functions answer: loops, machine numbers, lists. Fractions: rational numbers, and the pairs of numbers that stand for them. Fractions: what 'Make', 'Valid', 'Mul', 'Floor', 'Ceil' of package ratio answer. Fractions: products of two words, 'Mul', 'Floor', 'Ceil' of package ratio. Fractions of the reference: numbers of two words, their greatest common divisors and quotients. Fractions of the reference: 'Div', 'Made', 'Make', 'Times', 'Floor', 'Ceil'. Numbers of 128 bits: sums, differences, comparisons; the length of a number. The quotient of a number of 128 bits by one of 64. Fractions: 'Add' of package ratio. Names: both programs know the same ones. Points: valid ones, squares of ways, roots. -/
import Derived.Laws.StructEq
import Derived.Test.YtghjblbkbelcfaaMgC

namespace Go.Proofs.Ytghjblbkbelcfaa
open Try Dn Dn.Sh

set_option maxRecDepth 100000
/-- loftblock bridle.Anchor -/
noncomputable def bridle_Anchor_b (lp : Lp) (_ : Jn) (bridle_minus : (Int × Int × Int) → (Int × Int × Int) → Option (Int × Int × Int)) (bridle_pull : ((Int × Int × Int) × Int × List (ByteArray × (Int × Int × Int) × Int)) → (ByteArray) → Option (Int × (Int × Int) × Int × Unit)) (ratio_Mul : (Int × Int) → (Int × Int) → Option ((Int × Int) × Int × Unit)) (x0 : (Int × Int × Int) × Int × List (ByteArray × (Int × Int × Int) × Int)) (x1 : ByteArray) : Option (((Int × Int) × (Int × Int) × Int × Int) × Int × Unit) :=
  obind (bridle_pull x0 x1) fun (t : Int × (Int × Int) × Int × PUnit) => bif !decide (t.snd.snd.fst = (0 : Int)) then some ((((0 : Int), (0 : Int)), ((0 : Int), (0 : Int)), (0 : Int), (0 :
    Int)), t.snd.snd.fst, PUnit.unit) else bif inB t.fst (List.length x0.snd.snd) then obind (bridle_minus x0.fst (List.getD x0.snd.snd (Int.toNat t.fst) ({ data := { toList := [] } }, ((0
    : Int), (0 : Int), (0 : Int)), (0 : Int))).snd.fst) fun (t_1 : Int × Int × Int) => lp (Int × ((Int × Int) × (Int × Int) × Int × Int) × ((Int × Int) × (Int × Int) × Int × Int) × PUnit)
    (((Int × Int) × (Int × Int) × Int × Int) × Int × PUnit) (fun (again : Int × ((Int × Int) × (Int × Int) × Int × Int) × ((Int × Int) × (Int × Int) × Int × Int) × PUnit → Option (((Int ×
    Int) × (Int × Int) × Int × Int) × Int × PUnit)) (x : Int × ((Int × Int) × (Int × Int) × Int × Int) × ((Int × Int) × (Int × Int) × Int × Int) × PUnit) =>
  let v8 : Bool := inB x.fst (3 : Nat); bif decide (x.fst < (3 : Int)) then bif v8 then obind (ratio_Mul t.snd.fst (List.getD [t_1.fst, t_1.snd.fst, t_1.snd.snd] (Int.toNat x.fst) (0 :
    Int), (1 : Int))) fun (t : (Int × Int) × Int × PUnit) => bif v8 then bif Nat.ble (Nat.succ (Int.toNat x.fst)) (3 : Nat) then bif !decide (t.snd.fst = (0 : Int)) then some ((((0 : Int),
    (0 : Int)), ((0 : Int), (0 : Int)), (0 : Int), (0 : Int)), t.snd.fst, PUnit.unit) else again (IntKind.wrap IntKind.i64 (x.fst + (1 : Int)), x.snd.fst, (bif Nat.beq (Int.toNat x.fst) (0
    : Nat) then t.fst else x.snd.snd.fst.fst, bif Nat.beq (Int.toNat x.fst) (1 : Nat) then t.fst else x.snd.snd.fst.snd.fst, bif Nat.beq (Int.toNat x.fst) (2 : Nat) then t.fst else
    x.snd.snd.fst.snd.snd), PUnit.unit) else none else none else none else some (x.snd.snd.fst, (0 : Int), PUnit.unit)) ((0 : Int), (((0 : Int), (0 : Int)), ((0 : Int), (0 : Int)), (0 :
    Int), (0 : Int)), (((0 : Int), (0 : Int)), ((0 : Int), (0 : Int)), (0 : Int), (0 : Int)), PUnit.unit) else none
noncomputable def bridle_Anchor (x0 : (Int × Int × Int) × Int × List (ByteArray × (Int × Int × Int) × Int)) (x1 : ByteArray) : Option (((Int × Int) × (Int × Int) × Int × Int) × Int × Unit) := bridle_Anchor_b lpK jnK bridle_minus bridle_pull ratio_Mul x0 x1
noncomputable def c25 : Ctr := ⟨[T26, .str], [], [], .tup [T55, i64], fun x _ _ => bridle_Anchor x.1 x.2.1⟩
theorem e25 (lp : Lp) (jn : Jn) (bridle_minus : (Int × Int × Int) → (Int × Int × Int) → Option (Int × Int × Int)) (bridle_pull : ((Int × Int × Int) × Int × List (ByteArray × (Int × Int × Int) × Int)) → (ByteArray) → Option (Int × (Int × Int) × Int × Unit)) (ratio_Mul : (Int × Int) → (Int × Int) → Option ((Int × Int) × Int × Unit)) : ∀ (x : TsS c25.as) (F : TsF c25.fs) (y : TsS c25.cs), bridle_Anchor_b lp jn bridle_minus bridle_pull ratio_Mul x.1 x.2.1 = runC lp jn (ctxOf prog shs inls [(22, ⟨[T48, T48], [], [], .tup [T48, i64], fun x _ _ => ratio_Mul x.1 x.2.1⟩), (59, ⟨[T26, .str], [], [], .tup [i64, T48, i64], fun x _ _ => bridle_pull x.1 x.2.1⟩), (63, ⟨[T23, T23], [], [], .one T23, fun x _ _ => bridle_minus x.1 x.2.1⟩)] [(36, r36), (18, r18)]) hints 4 25 f25 c25 x F y := fun x F y => by kernel_rfl
theorem l25 : (ctxOf prog shs inls [(22, c22), (59, c59), (63, c63)] [(36, r36), (18, r18)]).ok := ctxOf_cons (ctxOf_cons (ctxOf_cons (q36) (by kernel_rfl) ok63) (by kernel_rfl) ok59) (by kernel_rfl) ok22
theorem ok25 : c25.ok prog 25 := Ctr.of_den l25 hmix (hl := hints) (d := 4) func25 rfl (by decide) (e25 lpK jnK bridle_minus bridle_pull ratio_Mul)

/-- loftblock loftblockref02.Of -/
noncomputable def ref02_Of_b (_ : Lp) (_ : Jn) (x0 : Int) : Option (Int × Int) :=
  some (x0, (1 : Int))
noncomputable def ref02_Of (x0 : Int) : Option (Int × Int) := ref02_Of_b lpK jnK x0
noncomputable def c67 : Ctr := ⟨[i64], [], [], .one T48, fun x _ _ => ref02_Of x.1⟩
theorem e67 (lp : Lp) (jn : Jn) : ∀ (x : TsS c67.as) (F : TsF c67.fs) (y : TsS c67.cs), ref02_Of_b lp jn x.1 = runC lp jn (ctxOf prog shs inls [] [(36, r36), (18, r18)]) hints 4 67 f67 c67 x F y := fun x F y => by kernel_rfl
theorem l67 : (ctxOf prog shs inls [] [(36, r36), (18, r18)]).ok := q36
theorem ok67 : c67.ok prog 67 := Ctr.of_den l67 hmix (hl := hints) (d := 4) func67 rfl (by decide) (e67 lpK jnK)

/-- loftblock loftblockref02.Half -/
noncomputable def ref02_Half_b (_ : Lp) (_ : Jn) (x0 : Int × Int) : Option (Int × Int) :=
  
  let v3 : Int := (2 : Int) ^ (1 : Nat);
  let v4 : Bool := decide ((0 : Int) ≤ (1 : Int)); bif v4 then bif v4 then bif decide ((0 : Int) ≤ (63 : Int)) then some (Int.fdiv x0.fst v3, IntKind.wrap IntKind.u64 (Int.fdiv x0.snd v3 +
    IntKind.wrap IntKind.u64 (x0.fst * (2 : Int) ^ (63 : Nat)))) else none else none else none
noncomputable def ref02_Half (x0 : Int × Int) : Option (Int × Int) := ref02_Half_b lpK jnK x0
noncomputable def c121 : Ctr := ⟨[T137], [], [], .one T137, fun x _ _ => ref02_Half x.1⟩
theorem e121 (lp : Lp) (jn : Jn) : ∀ (x : TsS c121.as) (F : TsF c121.fs) (y : TsS c121.cs), ref02_Half_b lp jn x.1 = runC lp jn (ctxOf prog shs inls [] [(36, r36), (18, r18)]) hints 4 121 f121 c121 x F y := fun x F y => by kernel_rfl
theorem l121 : (ctxOf prog shs inls [] [(36, r36), (18, r18)]).ok := q36
theorem ok121 : c121.ok prog 121 := Ctr.of_den l121 hmix (hl := hints) (d := 4) func121 rfl (by decide) (e121 lpK jnK)

/-- loftblock loftblockref02.Less -/
noncomputable def ref02_Less_b (_ : Lp) (_ : Jn) (x0 : Int × Int) (x1 : Int × Int) : Option Bool :=
  
  let v4 : Bool := decide (x0.fst = x1.fst);
  let v5 : Bool := decide (x0.fst < x1.fst);
  let v6 : Bool := !v5;
  let v7 : Bool := !v6;
  let v8 : Bool := v6 && v4;
  let v9 : Bool := v7 || v6;
  let v10 : Bool := !v8 || v8; bif v9 then bif v9 then bif v9 && v9 then bif v9 then bif v10 then bif v10 then bif v10 && v10 then bif (v7 || v9) && (v7 || (!v4 || (v7 || v8))) then bif v5
    || v6 then some (bif v5 then true else bif v4 then decide (x0.snd < x1.snd) else false) else none else none else none else none else none else none else none else none else none
noncomputable def ref02_Less (x0 : Int × Int) (x1 : Int × Int) : Option Bool := ref02_Less_b lpK jnK x0 x1
noncomputable def c122 : Ctr := ⟨[T137, T137], [], [], .one .bool, fun x _ _ => ref02_Less x.1 x.2.1⟩
theorem e122 (lp : Lp) (jn : Jn) : ∀ (x : TsS c122.as) (F : TsF c122.fs) (y : TsS c122.cs), ref02_Less_b lp jn x.1 x.2.1 = runC lp jn (ctxOf prog shs inls [] [(36, r36), (18, r18)]) hints 4 122 f122 c122 x F y := fun x F y => by kernel_rfl
theorem l122 : (ctxOf prog shs inls [] [(36, r36), (18, r18)]).ok := q36
theorem ok122 : c122.ok prog 122 := Ctr.of_den l122 hmix (hl := hints) (d := 4) func122 rfl (by decide) (e122 lpK jnK)

/-- loftblock loftblockref02.Minus -/
noncomputable def ref02_Minus_b (_ : Lp) (_ : Jn) (x0 : Int × Int) (x1 : Int × Int) : Option (Int × Int) :=
  
  let v4 : Int := IntKind.wrap IntKind.u64 (x0.fst - x1.fst);
  let v5 : Int := IntKind.wrap IntKind.u64 (x0.snd - x1.snd); bif decide (x0.snd < x1.snd) then some (IntKind.wrap IntKind.u64 (v4 - (1 : Int)), v5) else some (v4, v5)
noncomputable def ref02_Minus (x0 : Int × Int) (x1 : Int × Int) : Option (Int × Int) := ref02_Minus_b lpK jnK x0 x1
noncomputable def c123 : Ctr := ⟨[T137, T137], [], [], .one T137, fun x _ _ => ref02_Minus x.1 x.2.1⟩
theorem e123 (lp : Lp) (jn : Jn) : ∀ (x : TsS c123.as) (F : TsF c123.fs) (y : TsS c123.cs), ref02_Minus_b lp jn x.1 x.2.1 = runC lp jn (ctxOf prog shs inls [] [(36, r36), (18, r18)]) hints 4 123 f123 c123 x F y := fun x F y => by kernel_rfl
theorem l123 : (ctxOf prog shs inls [] [(36, r36), (18, r18)]).ok := q36
theorem ok123 : c123.ok prog 123 := Ctr.of_den l123 hmix (hl := hints) (d := 4) func123 rfl (by decide) (e123 lpK jnK)

/-- loftblock loftblockref02.Plus -/
noncomputable def ref02_Plus_b (_ : Lp) (_ : Jn) (x0 : Int × Int) (x1 : Int × Int) : Option (Int × Int) :=
  
  let v4 : Int := IntKind.wrap IntKind.u64 (x0.fst + x1.fst);
  let v5 : Int := IntKind.wrap IntKind.u64 (x0.snd + x1.snd); bif decide (v5 < x0.snd) then some (IntKind.wrap IntKind.u64 (v4 + (1 : Int)), v5) else some (v4, v5)
noncomputable def ref02_Plus (x0 : Int × Int) (x1 : Int × Int) : Option (Int × Int) := ref02_Plus_b lpK jnK x0 x1
noncomputable def c124 : Ctr := ⟨[T137, T137], [], [], .one T137, fun x _ _ => ref02_Plus x.1 x.2.1⟩
theorem e124 (lp : Lp) (jn : Jn) : ∀ (x : TsS c124.as) (F : TsF c124.fs) (y : TsS c124.cs), ref02_Plus_b lp jn x.1 x.2.1 = runC lp jn (ctxOf prog shs inls [] [(36, r36), (18, r18)]) hints 4 124 f124 c124 x F y := fun x F y => by kernel_rfl
theorem l124 : (ctxOf prog shs inls [] [(36, r36), (18, r18)]).ok := q36
theorem ok124 : c124.ok prog 124 := Ctr.of_den l124 hmix (hl := hints) (d := 4) func124 rfl (by decide) (e124 lpK jnK)

/-- loftblock loftblockref02.Gcd -/
noncomputable def ref02_Gcd_b (lp : Lp) (_ : Jn) (ref02_Half : (Int × Int) → Option (Int × Int)) (ref02_Less : (Int × Int) → (Int × Int) → Option (Bool)) (ref02_Minus : (Int × Int) → (Int × Int) → Option (Int × Int)) (ref02_Plus : (Int × Int) → (Int × Int) → Option (Int × Int)) (x0 : Int × Int) (x1 : Int × Int) : Option (Int × Int) :=
  bif decide (x0.fst = (0 : Int)) && (decide (x0.snd = (0 : Int)) && true) then some x1 else lp (Int × (Int × Int) × (Int × Int) × PUnit) (Int × Int) (fun (again : Int × (Int × Int) × (Int ×
    Int) × PUnit → Option (Int × Int)) (x : Int × (Int × Int) × (Int × Int) × PUnit) =>
  let v6 : Bool := decide (IntKind.wrap IntKind.u64 (↑(Nat.land (Int.toNat (x.snd.fst.snd % Int.ofNat (18446744073709551616 : Nat))) (Int.toNat ((1 : Int) % Int.ofNat (18446744073709551616
    : Nat)))) : Int) = (0 : Int));
  let v7 : Bool := !v6 || v6; bif v7 then bif v7 then bif v7 then bif v7 then bif bif v6 then decide (IntKind.wrap IntKind.u64 (↑(Nat.land (Int.toNat (x.snd.snd.fst.snd % Int.ofNat
    (18446744073709551616 : Nat))) (Int.toNat ((1 : Int) % Int.ofNat (18446744073709551616 : Nat)))) : Int) = (0 : Int)) else false then obind (ref02_Half x.snd.fst) fun (t : Int × Int) =>
    obind (ref02_Half x.snd.snd.fst) fun (t_1 : Int × Int) => again (IntKind.wrap IntKind.i64 (x.fst + (1 : Int)), t, t_1, PUnit.unit) else lp ((Int × Int) × (Int × Int) × PUnit) (Int ×
    Int) (fun (again : (Int × Int) × (Int × Int) × PUnit → Option (Int × Int)) (x_1 : (Int × Int) × (Int × Int) × PUnit) =>
  let v10 : (Int × Int) × PUnit := (x_1.snd.fst, PUnit.unit); bif !(decide (x_1.fst.fst = (0 : Int)) && (decide (x_1.fst.snd = (0 : Int)) && true)) then lp ((Int × Int) × PUnit) (Int × Int)
    (fun (again_1 : (Int × Int) × PUnit → Option (Int × Int)) (x : (Int × Int) × PUnit) => bif decide (IntKind.wrap IntKind.u64 (↑(Nat.land (Int.toNat (x.fst.snd % Int.ofNat
    (18446744073709551616 : Nat))) (Int.toNat ((1 : Int) % Int.ofNat (18446744073709551616 : Nat)))) : Int) = (0 : Int)) then obind (ref02_Half x.fst) fun (t : Int × Int) => again_1 (t,
    PUnit.unit) else lp ((Int × Int) × PUnit) (Int × Int) (fun (again_2 : (Int × Int) × PUnit → Option (Int × Int)) (x_2 : (Int × Int) × PUnit) => bif decide (IntKind.wrap IntKind.u64
    (↑(Nat.land (Int.toNat (x_2.fst.snd % Int.ofNat (18446744073709551616 : Nat))) (Int.toNat ((1 : Int) % Int.ofNat (18446744073709551616 : Nat)))) : Int) = (0 : Int)) then obind
    (ref02_Half x_2.fst) fun (t : Int × Int) => again_2 (t, PUnit.unit) else obind (ref02_Less x.fst x_2.fst) fun (t : Bool) => bif t then obind (ref02_Minus x_2.fst x.fst) fun (t : Int ×
    Int) => again (t, x.fst, PUnit.unit) else obind (ref02_Minus x.fst x_2.fst) fun (t : Int × Int) => again (t, x_2.fst, PUnit.unit)) v10) (x_1.fst, PUnit.unit) else lp (Int × (Int × Int)
    × PUnit) (Int × Int) (fun (again : Int × (Int × Int) × PUnit → Option (Int × Int)) (x : Int × (Int × Int) × PUnit) => bif decide (x.fst > (0 : Int)) then obind (ref02_Plus x.snd.fst
    x.snd.fst) fun (t : Int × Int) => again (IntKind.wrap IntKind.i64 (x.fst - (1 : Int)), t, PUnit.unit) else some x.snd.fst) (x.fst, v10)) (x.snd.fst, x.snd.snd.fst, PUnit.unit) else none
    else none else none else none) ((0 : Int), x0, x1, PUnit.unit)
noncomputable def ref02_Gcd (x0 : Int × Int) (x1 : Int × Int) : Option (Int × Int) := ref02_Gcd_b lpK jnK ref02_Half ref02_Less ref02_Minus ref02_Plus x0 x1
noncomputable def c116 : Ctr := ⟨[T137, T137], [], [], .one T137, fun x _ _ => ref02_Gcd x.1 x.2.1⟩
theorem e116 (lp : Lp) (jn : Jn) (ref02_Half : (Int × Int) → Option (Int × Int)) (ref02_Less : (Int × Int) → (Int × Int) → Option (Bool)) (ref02_Minus : (Int × Int) → (Int × Int) → Option (Int × Int)) (ref02_Plus : (Int × Int) → (Int × Int) → Option (Int × Int)) : ∀ (x : TsS c116.as) (F : TsF c116.fs) (y : TsS c116.cs), ref02_Gcd_b lp jn ref02_Half ref02_Less ref02_Minus ref02_Plus x.1 x.2.1 = runC lp jn (ctxOf prog shs inls [(124, ⟨[T137, T137], [], [], .one T137, fun x _ _ => ref02_Plus x.1 x.2.1⟩), (123, ⟨[T137, T137], [], [], .one T137, fun x _ _ => ref02_Minus x.1 x.2.1⟩), (122, ⟨[T137, T137], [], [], .one .bool, fun x _ _ => ref02_Less x.1 x.2.1⟩), (121, ⟨[T137], [], [], .one T137, fun x _ _ => ref02_Half x.1⟩)] [(36, r36), (18, r18)]) hints 4 116 f116 c116 x F y := fun x F y => by kernel_rfl
theorem l116 : (ctxOf prog shs inls [(124, c124), (123, c123), (122, c122), (121, c121)] [(36, r36), (18, r18)]).ok := ctxOf_cons (ctxOf_cons (ctxOf_cons (ctxOf_cons (q36) (by kernel_rfl) ok121) (by kernel_rfl) ok122) (by kernel_rfl) ok123) (by kernel_rfl) ok124
theorem ok116 : c116.ok prog 116 := Ctr.of_den l116 hmix (hl := hints) (d := 4) func116 rfl (by decide) (e116 lpK jnK ref02_Half ref02_Less ref02_Minus ref02_Plus)

/-- loftblock loftblockref02.Div -/
noncomputable def ref02_Div_b (lp : Lp) (_ : Jn) (ref02_Less : (Int × Int) → (Int × Int) → Option (Bool)) (ref02_Minus : (Int × Int) → (Int × Int) → Option (Int × Int)) (x0 : Int × Int) (x1 : Int × Int) : Option ((Int × Int) × (Int × Int) × Unit) :=
  
  let v4 : Bool := nzB x1.snd;
  let v5 : Int := (2 : Int) ^ (63 : Nat);
  let v6 : Int := (2 : Int) ^ (1 : Nat);
  let v7 : Bool := decide (x0.fst = (0 : Int));
  let v8 : Bool := decide ((0 : Int) ≤ (63 : Int));
  let v9 : Bool := decide ((0 : Int) ≤ (1 : Int));
  let v10 : Bool := !v7 || v7; bif v10 then bif v10 then bif v10 then bif bif v7 then decide (x1.fst = (0 : Int)) else false then bif v4 then bif v4 then some (((0 : Int), IntKind.wrap
    IntKind.u64 (Int.tdiv x0.snd x1.snd)), ((0 : Int), Int.tmod x0.snd x1.snd), PUnit.unit) else none else none else lp (Int × (Int × Int) × (Int × Int) × (Int × Int) × PUnit) ((Int × Int)
    × (Int × Int) × PUnit) (fun (again : Int × (Int × Int) × (Int × Int) × (Int × Int) × PUnit → Option ((Int × Int) × (Int × Int) × PUnit)) (x : Int × (Int × Int) × (Int × Int) × (Int ×
    Int) × PUnit) =>
  let v13 : Int := IntKind.wrap IntKind.i64 (x.fst + (1 : Int));
  let v14 : Int := IntKind.wrap IntKind.u64 (x.snd.snd.fst.snd * v6);
  let v15 : Int := IntKind.wrap IntKind.u64 (IntKind.wrap IntKind.u64 (x.snd.snd.fst.fst * v6) + Int.fdiv x.snd.snd.fst.snd v5);
  let v16 : Bool := decide (Int.fdiv x.snd.snd.snd.fst.fst v5 > (0 : Int));
  let v17 : Bool := !v16;
  let v18 : Int × Int := (IntKind.wrap IntKind.u64 (IntKind.wrap IntKind.u64 (x.snd.fst.fst * v6) + Int.fdiv x.snd.fst.snd v5), IntKind.wrap IntKind.u64 (x.snd.fst.snd * v6));
  let v19 : Int × Int := (IntKind.wrap IntKind.u64 (IntKind.wrap IntKind.u64 (x.snd.snd.snd.fst.fst * v6) + Int.fdiv x.snd.snd.snd.fst.snd v5), IntKind.wrap IntKind.u64 (IntKind.wrap
    IntKind.u64 (x.snd.snd.snd.fst.snd * v6) + Int.fdiv x.snd.fst.fst v5));
  let v20 : Bool := !v17 || v17; bif decide (x.fst < (128 : Int)) then bif v8 then bif v9 then bif v8 then bif v9 then bif v8 then bif v9 then bif v8 then bif v9 then bif v9 then bif v8
    then bif v9 then bif v20 && v20 then obind (bif v17 then ref02_Less v19 x1 else some false) fun (t : Bool) => bif v20 then bif v16 || v17 then bif bif v16 then true else !t then obind
    (ref02_Minus v19 x1) fun (t : Int × Int) => again (v13, v18, (v15, IntKind.wrap IntKind.u64 (v14 + (1 : Int))), t, PUnit.unit) else again (v13, v18, (v15, v14), v19, PUnit.unit) else
    none else none else none else none else none else none else none else none else none else none else none else none else none else none else some (x.snd.snd.fst, x.snd.snd.snd.fst,
    PUnit.unit)) ((0 : Int), x0, ((0 : Int), (0 : Int)), ((0 : Int), (0 : Int)), PUnit.unit) else none else none else none
noncomputable def ref02_Div (x0 : Int × Int) (x1 : Int × Int) : Option ((Int × Int) × (Int × Int) × Unit) := ref02_Div_b lpK jnK ref02_Less ref02_Minus x0 x1
noncomputable def c117 : Ctr := ⟨[T137, T137], [], [], .tup [T137, T137], fun x _ _ => ref02_Div x.1 x.2.1⟩
theorem e117 (lp : Lp) (jn : Jn) (ref02_Less : (Int × Int) → (Int × Int) → Option (Bool)) (ref02_Minus : (Int × Int) → (Int × Int) → Option (Int × Int)) : ∀ (x : TsS c117.as) (F : TsF c117.fs) (y : TsS c117.cs), ref02_Div_b lp jn ref02_Less ref02_Minus x.1 x.2.1 = runC lp jn (ctxOf prog shs inls [(123, ⟨[T137, T137], [], [], .one T137, fun x _ _ => ref02_Minus x.1 x.2.1⟩), (122, ⟨[T137, T137], [], [], .one .bool, fun x _ _ => ref02_Less x.1 x.2.1⟩)] [(36, r36), (18, r18)]) hints 4 117 f117 c117 x F y := fun x F y => by kernel_rfl
theorem l117 : (ctxOf prog shs inls [(123, c123), (122, c122)] [(36, r36), (18, r18)]).ok := ctxOf_cons (ctxOf_cons (q36) (by kernel_rfl) ok122) (by kernel_rfl) ok123
theorem ok117 : c117.ok prog 117 := Ctr.of_den l117 hmix (hl := hints) (d := 4) func117 rfl (by decide) (e117 lpK jnK ref02_Less ref02_Minus)

/-- loftblock loftblockref02.Made -/
noncomputable def ref02_Made_b (_ : Lp) (_ : Jn) (ref02_Gcd : (Int × Int) → (Int × Int) → Option (Int × Int)) (ref02_Div : (Int × Int) → (Int × Int) → Option ((Int × Int) × (Int × Int) × Unit)) (x0 : Int × Int) (x1 : Bool) (x2 : Int × Int) : Option ((Int × Int) × Int × Unit) :=
  bif decide (x2.fst = (0 : Int)) && (decide (x2.snd = (0 : Int)) && true) then some (((0 : Int), (0 : Int)), (16 : Int), PUnit.unit) else obind (ref02_Gcd x0 x2) fun (t : Int × Int) => obind
    (ref02_Div x0 t) fun (t_1 : (Int × Int) × (Int × Int) × PUnit) =>
  let v7 : Int := IntKind.wrap IntKind.i64 t_1.fst.snd;
  let v8 : Bool := decide (t_1.fst.fst > (0 : Int));
  let v9 : Bool := !v8;
  let v10 : Bool := bif v8 then true else decide (t_1.fst.snd > (1152921504606846976 : Int));
  let v11 : Bool := !v9 || v9;
  let v12 : Bool := !v10;
  let v13 : Bool := !v12 || v12; obind (ref02_Div x2 t) fun (t : (Int × Int) × (Int × Int) × PUnit) =>
  let v15 : Int := IntKind.wrap IntKind.i64 t.fst.snd;
  let v16 : Bool := bif v10 then true else decide (t.fst.fst > (0 : Int));
  let v17 : Bool := !v16;
  let v18 : Bool := !v17 || v17; bif v11 then bif v11 then bif v8 || v9 then bif v13 then bif v13 then bif v10 || v12 then bif v18 then bif v18 then bif v16 || v17 then bif bif v16 then
    true else decide (t.fst.snd > (1152921504606846976 : Int)) then some (((0 : Int), (0 : Int)), (5 : Int), PUnit.unit) else bif x1 then some ((IntKind.wrap IntKind.i64 ((0 : Int) - v7),
    v15), (0 : Int), PUnit.unit) else some ((v7, v15), (0 : Int), PUnit.unit) else none else none else none else none else none else none else none else none else none
noncomputable def ref02_Made (x0 : Int × Int) (x1 : Bool) (x2 : Int × Int) : Option ((Int × Int) × Int × Unit) := ref02_Made_b lpK jnK ref02_Gcd ref02_Div x0 x1 x2
noncomputable def c99 : Ctr := ⟨[T137, .bool, T137], [], [], .tup [T48, i64], fun x _ _ => ref02_Made x.1 x.2.1 x.2.2.1⟩
theorem e99 (lp : Lp) (jn : Jn) (ref02_Gcd : (Int × Int) → (Int × Int) → Option (Int × Int)) (ref02_Div : (Int × Int) → (Int × Int) → Option ((Int × Int) × (Int × Int) × Unit)) : ∀ (x : TsS c99.as) (F : TsF c99.fs) (y : TsS c99.cs), ref02_Made_b lp jn ref02_Gcd ref02_Div x.1 x.2.1 x.2.2.1 = runC lp jn (ctxOf prog shs inls [(117, ⟨[T137, T137], [], [], .tup [T137, T137], fun x _ _ => ref02_Div x.1 x.2.1⟩), (116, ⟨[T137, T137], [], [], .one T137, fun x _ _ => ref02_Gcd x.1 x.2.1⟩)] [(36, r36), (18, r18)]) hints 4 99 f99 c99 x F y := fun x F y => by kernel_rfl
theorem l99 : (ctxOf prog shs inls [(117, c117), (116, c116)] [(36, r36), (18, r18)]).ok := ctxOf_cons (ctxOf_cons (q36) (by kernel_rfl) ok116) (by kernel_rfl) ok117
theorem ok99 : c99.ok prog 99 := Ctr.of_den l99 hmix (hl := hints) (d := 4) func99 rfl (by decide) (e99 lpK jnK ref02_Gcd ref02_Div)

/-- loftblock loftblockref02.Size -/
noncomputable def ref02_Size_b (_ : Lp) (_ : Jn) (x0 : Int) : Option Int :=
  
  let v3 : Int := IntKind.wrap IntKind.u64 x0; bif decide (x0 < (0 : Int)) then some (IntKind.wrap IntKind.u64 ((0 : Int) - v3)) else some v3
noncomputable def ref02_Size (x0 : Int) : Option Int := ref02_Size_b lpK jnK x0
noncomputable def c101 : Ctr := ⟨[i64], [], [], .one (.int .u64), fun x _ _ => ref02_Size x.1⟩
theorem e101 (lp : Lp) (jn : Jn) : ∀ (x : TsS c101.as) (F : TsF c101.fs) (y : TsS c101.cs), ref02_Size_b lp jn x.1 = runC lp jn (ctxOf prog shs inls [] [(36, r36), (18, r18)]) hints 4 101 f101 c101 x F y := fun x F y => by kernel_rfl
theorem l101 : (ctxOf prog shs inls [] [(36, r36), (18, r18)]).ok := q36
theorem ok101 : c101.ok prog 101 := Ctr.of_den l101 hmix (hl := hints) (d := 4) func101 rfl (by decide) (e101 lpK jnK)

/-- loftblock loftblockref02.Make -/
noncomputable def ref02_Make_b (_ : Lp) (_ : Jn) (ref02_Made : (Int × Int) → (Bool) → (Int × Int) → Option ((Int × Int) × Int × Unit)) (ref02_Size : (Int) → Option (Int)) (x0 : Int) (x1 : Int) : Option ((Int × Int) × Int × Unit) :=
  obind (ref02_Size x0) fun (t : Int) => obind (ref02_Size x1) fun (t_1 : Int) => obind (ref02_Made ((0 : Int), t) (!decide (decide (x0 < (0 : Int)) = decide (x1 < (0 : Int)))) ((0 : Int),
    t_1)) fun (t : (Int × Int) × Int × PUnit) => some (t.fst, t.snd.fst, PUnit.unit)
noncomputable def ref02_Make (x0 : Int) (x1 : Int) : Option ((Int × Int) × Int × Unit) := ref02_Make_b lpK jnK ref02_Made ref02_Size x0 x1
noncomputable def c114 : Ctr := ⟨[i64, i64], [], [], .tup [T48, i64], fun x _ _ => ref02_Make x.1 x.2.1⟩
theorem e114 (lp : Lp) (jn : Jn) (ref02_Made : (Int × Int) → (Bool) → (Int × Int) → Option ((Int × Int) × Int × Unit)) (ref02_Size : (Int) → Option (Int)) : ∀ (x : TsS c114.as) (F : TsF c114.fs) (y : TsS c114.cs), ref02_Make_b lp jn ref02_Made ref02_Size x.1 x.2.1 = runC lp jn (ctxOf prog shs inls [(101, ⟨[i64], [], [], .one (.int .u64), fun x _ _ => ref02_Size x.1⟩), (99, ⟨[T137, .bool, T137], [], [], .tup [T48, i64], fun x _ _ => ref02_Made x.1 x.2.1 x.2.2.1⟩)] [(36, r36), (18, r18)]) hints 4 114 f114 c114 x F y := fun x F y => by kernel_rfl
theorem l114 : (ctxOf prog shs inls [(101, c101), (99, c99)] [(36, r36), (18, r18)]).ok := ctxOf_cons (ctxOf_cons (q36) (by kernel_rfl) ok99) (by kernel_rfl) ok101
theorem ok114 : c114.ok prog 114 := Ctr.of_den l114 hmix (hl := hints) (d := 4) func114 rfl (by decide) (e114 lpK jnK ref02_Made ref02_Size)

/-- loftblock loftblockref18.quotient -/
noncomputable def ref18_quotient_b (_ : Lp) (_ : Jn) (ref02_Make : (Int) → (Int) → Option ((Int × Int) × Int × Unit)) (x0 : Int) (x1 : Int) (x2 : Int) : Option (Int × Int) :=
  obind (ref02_Make (IntKind.wrap IntKind.i64 (x0 * x1)) x2) fun (t : (Int × Int) × Int × PUnit) => some t.fst
noncomputable def ref18_quotient (x0 : Int) (x1 : Int) (x2 : Int) : Option (Int × Int) := ref18_quotient_b lpK jnK ref02_Make x0 x1 x2
noncomputable def c111 : Ctr := ⟨[i64, i64, i64], [], [], .one T48, fun x _ _ => ref18_quotient x.1 x.2.1 x.2.2.1⟩
theorem e111 (lp : Lp) (jn : Jn) (ref02_Make : (Int) → (Int) → Option ((Int × Int) × Int × Unit)) : ∀ (x : TsS c111.as) (F : TsF c111.fs) (y : TsS c111.cs), ref18_quotient_b lp jn ref02_Make x.1 x.2.1 x.2.2.1 = runC lp jn (ctxOf prog shs inls [(114, ⟨[i64, i64], [], [], .tup [T48, i64], fun x _ _ => ref02_Make x.1 x.2.1⟩)] [(36, r36), (18, r18)]) hints 4 111 f111 c111 x F y := fun x F y => by kernel_rfl
theorem l111 : (ctxOf prog shs inls [(114, c114)] [(36, r36), (18, r18)]).ok := ctxOf_cons (q36) (by kernel_rfl) ok114
theorem ok111 : c111.ok prog 111 := Ctr.of_den l111 hmix (hl := hints) (d := 4) func111 rfl (by decide) (e111 lpK jnK ref02_Make)

/-- loftblock loftblockref18.one -/
noncomputable def ref18_one_b (_ : Lp) (_ : Jn) (ref02_Of : (Int) → Option (Int × Int)) (ref18_quotient : (Int) → (Int) → (Int) → Option (Int × Int)) (x0 : Int) (x1 : Int × Int × Int) : Option ((List (Int × Int)) × Int × Unit) :=
  
  let v4 : Bool := !decide (x1.fst = (0 : Int));
  let v5 : Bool := !v4;
  let v6 : Bool := !v5 || v5; bif decide (x0 = (0 : Int)) then obind (ref02_Of (0 : Int)) fun (t : Int × Int) => some ([t], (0 : Int), PUnit.unit) else bif v6 then bif v6 then bif v4 || v5
    then bif bif v4 then true else !decide (x1.snd.fst = (0 : Int)) then some ([], (22 : Int), PUnit.unit) else obind (ref18_quotient x0 (1 : Int) x1.snd.snd) fun (t : Int × Int) => some
    ([t], (0 : Int), PUnit.unit) else none else none else none
noncomputable def ref18_one (x0 : Int) (x1 : Int × Int × Int) : Option ((List (Int × Int)) × Int × Unit) := ref18_one_b lpK jnK ref02_Of ref18_quotient x0 x1
noncomputable def c94 : Ctr := ⟨[i64, T40], [], [], .tup [(.sl T48), i64], fun x _ _ => ref18_one x.1 x.2.1⟩
theorem e94 (lp : Lp) (jn : Jn) (ref02_Of : (Int) → Option (Int × Int)) (ref18_quotient : (Int) → (Int) → (Int) → Option (Int × Int)) : ∀ (x : TsS c94.as) (F : TsF c94.fs) (y : TsS c94.cs), ref18_one_b lp jn ref02_Of ref18_quotient x.1 x.2.1 = runC lp jn (ctxOf prog shs inls [(111, ⟨[i64, i64, i64], [], [], .one T48, fun x _ _ => ref18_quotient x.1 x.2.1 x.2.2.1⟩), (67, ⟨[i64], [], [], .one T48, fun x _ _ => ref02_Of x.1⟩)] [(36, r36), (18, r18)]) hints 4 94 f94 c94 x F y := fun x F y => by kernel_rfl
theorem l94 : (ctxOf prog shs inls [(111, c111), (67, c67)] [(36, r36), (18, r18)]).ok := ctxOf_cons (ctxOf_cons (q36) (by kernel_rfl) ok67) (by kernel_rfl) ok111
theorem ok94 : c94.ok prog 94 := Ctr.of_den l94 hmix (hl := hints) (d := 4) func94 rfl (by decide) (e94 lpK jnK ref02_Of ref18_quotient)

/-- loftblock loftblockref18.Cross -/
noncomputable def ref18_Cross_b (_ : Lp) (_ : Jn) (x0 : Int × Int × Int) (x1 : Int × Int × Int) : Option (Int × Int × Int) :=
  some (IntKind.wrap IntKind.i64 (IntKind.wrap IntKind.i64 (x0.snd.fst * x1.snd.snd) - IntKind.wrap IntKind.i64 (x0.snd.snd * x1.snd.fst)), IntKind.wrap IntKind.i64 (IntKind.wrap IntKind.i64
    (x0.snd.snd * x1.fst) - IntKind.wrap IntKind.i64 (x0.fst * x1.snd.snd)), IntKind.wrap IntKind.i64 (IntKind.wrap IntKind.i64 (x0.fst * x1.snd.fst) - IntKind.wrap IntKind.i64 (x0.snd.fst
    * x1.fst)))
noncomputable def ref18_Cross (x0 : Int × Int × Int) (x1 : Int × Int × Int) : Option (Int × Int × Int) := ref18_Cross_b lpK jnK x0 x1
noncomputable def c112 : Ctr := ⟨[T40, T40], [], [], .one T40, fun x _ _ => ref18_Cross x.1 x.2.1⟩
theorem e112 (lp : Lp) (jn : Jn) : ∀ (x : TsS c112.as) (F : TsF c112.fs) (y : TsS c112.cs), ref18_Cross_b lp jn x.1 x.2.1 = runC lp jn (ctxOf prog shs inls [] [(36, r36), (18, r18)]) hints 4 112 f112 c112 x F y := fun x F y => by kernel_rfl
theorem l112 : (ctxOf prog shs inls [] [(36, r36), (18, r18)]).ok := q36
theorem ok112 : c112.ok prog 112 := Ctr.of_den l112 hmix (hl := hints) (d := 4) func112 rfl (by decide) (e112 lpK jnK)

/-- loftblock loftblockref18.upright -/
noncomputable def ref18_upright_b (_ : Lp) (_ : Jn) (x0 : Int × Int × Int) : Option Bool :=
  
  let v3 : Bool := decide (x0.fst = (0 : Int));
  let v4 : Bool := !v3 || v3; bif v4 then bif v4 then bif v4 then some (bif v3 then decide (x0.snd.fst = (0 : Int)) else false) else none else none else none
noncomputable def ref18_upright (x0 : Int × Int × Int) : Option Bool := ref18_upright_b lpK jnK x0
noncomputable def c113 : Ctr := ⟨[T40], [], [], .one .bool, fun x _ _ => ref18_upright x.1⟩
theorem e113 (lp : Lp) (jn : Jn) : ∀ (x : TsS c113.as) (F : TsF c113.fs) (y : TsS c113.cs), ref18_upright_b lp jn x.1 = runC lp jn (ctxOf prog shs inls [] [(36, r36), (18, r18)]) hints 4 113 f113 c113 x F y := fun x F y => by kernel_rfl
theorem l113 : (ctxOf prog shs inls [] [(36, r36), (18, r18)]).ok := q36
theorem ok113 : c113.ok prog 113 := Ctr.of_den l113 hmix (hl := hints) (d := 4) func113 rfl (by decide) (e113 lpK jnK)

/-- loftblock loftblockref18.two -/
noncomputable def ref18_two_b (_ : Lp) (_ : Jn) (ref02_Of : (Int) → Option (Int × Int)) (ref18_quotient : (Int) → (Int) → (Int) → Option (Int × Int)) (ref18_Cross : (Int × Int × Int) → (Int × Int × Int) → Option (Int × Int × Int)) (ref18_upright : (Int × Int × Int) → Option (Bool)) (x0 : Int) (x1 : Int × Int × Int) (x2 : Int × Int × Int) : Option ((List (Int × Int)) × Int × Unit) :=
  
  let v5 : Bool := decide (x0 = (0 : Int));
  let v6 : Bool := !v5;
  let v7 : Int := IntKind.wrap IntKind.i64 (IntKind.wrap IntKind.i64 (x1.fst * x2.snd.snd) - IntKind.wrap IntKind.i64 (x1.snd.snd * x2.fst));
  let v8 : Int := IntKind.wrap IntKind.i64 (IntKind.wrap IntKind.i64 (x1.snd.fst * x2.snd.snd) - IntKind.wrap IntKind.i64 (x1.snd.snd * x2.snd.fst)); obind (ref18_Cross x1 x2) fun (t : Int
    × Int × Int) =>
  let v10 : Bool := decide (t.snd.fst = (0 : Int));
  let v11 : Bool := decide (t.snd.snd = (0 : Int)); bif decide (t.fst = (0 : Int)) && (v10 && (v11 && true)) then bif !v6 || v6 then obind (bif v6 then ref18_upright x1 else some false) fun
    (t : Bool) => bif v5 || v6 then bif bif v5 then true else t then some ([], (21 : Int), PUnit.unit) else some ([], (22 : Int), PUnit.unit) else none else none else bif v5 then obind
    (ref02_Of (0 : Int)) fun (t : Int × Int) => obind (ref02_Of (0 : Int)) fun (t_1 : Int × Int) => some ([t, t_1], (0 : Int), PUnit.unit) else bif !v11 then some ([], (22 : Int),
    PUnit.unit) else bif !v10 then obind (ref18_quotient x0 (IntKind.wrap IntKind.i64 ((0 : Int) - x2.fst)) v7) fun (t : Int × Int) => obind (ref18_quotient x0 x1.fst v7) fun (t_1 : Int ×
    Int) => some ([t, t_1], (0 : Int), PUnit.unit) else obind (ref18_quotient x0 (IntKind.wrap IntKind.i64 ((0 : Int) - x2.snd.fst)) v8) fun (t : Int × Int) => obind (ref18_quotient x0
    x1.snd.fst v8) fun (t_1 : Int × Int) => some ([t, t_1], (0 : Int), PUnit.unit)
noncomputable def ref18_two (x0 : Int) (x1 : Int × Int × Int) (x2 : Int × Int × Int) : Option ((List (Int × Int)) × Int × Unit) := ref18_two_b lpK jnK ref02_Of ref18_quotient ref18_Cross ref18_upright x0 x1 x2
noncomputable def c95 : Ctr := ⟨[i64, T40, T40], [], [], .tup [(.sl T48), i64], fun x _ _ => ref18_two x.1 x.2.1 x.2.2.1⟩
theorem e95 (lp : Lp) (jn : Jn) (ref02_Of : (Int) → Option (Int × Int)) (ref18_quotient : (Int) → (Int) → (Int) → Option (Int × Int)) (ref18_Cross : (Int × Int × Int) → (Int × Int × Int) → Option (Int × Int × Int)) (ref18_upright : (Int × Int × Int) → Option (Bool)) : ∀ (x : TsS c95.as) (F : TsF c95.fs) (y : TsS c95.cs), ref18_two_b lp jn ref02_Of ref18_quotient ref18_Cross ref18_upright x.1 x.2.1 x.2.2.1 = runC lp jn (ctxOf prog shs inls [(113, ⟨[T40], [], [], .one .bool, fun x _ _ => ref18_upright x.1⟩), (112, ⟨[T40, T40], [], [], .one T40, fun x _ _ => ref18_Cross x.1 x.2.1⟩), (111, ⟨[i64, i64, i64], [], [], .one T48, fun x _ _ => ref18_quotient x.1 x.2.1 x.2.2.1⟩), (67, ⟨[i64], [], [], .one T48, fun x _ _ => ref02_Of x.1⟩)] [(36, r36), (18, r18)]) hints 4 95 f95 c95 x F y := fun x F y => by kernel_rfl
theorem l95 : (ctxOf prog shs inls [(113, c113), (112, c112), (111, c111), (67, c67)] [(36, r36), (18, r18)]).ok := ctxOf_cons (ctxOf_cons (ctxOf_cons (ctxOf_cons (q36) (by kernel_rfl) ok67) (by kernel_rfl) ok111) (by kernel_rfl) ok112) (by kernel_rfl) ok113
theorem ok95 : c95.ok prog 95 := Ctr.of_den l95 hmix (hl := hints) (d := 4) func95 rfl (by decide) (e95 lpK jnK ref02_Of ref18_quotient ref18_Cross ref18_upright)

/-- loftblock loftblockref18.three -/
noncomputable def ref18_three_b (_ : Lp) (_ : Jn) (ref18_dot : (Int × Int × Int) → (Int × Int × Int) → Option (Int)) (ref18_quotient : (Int) → (Int) → (Int) → Option (Int × Int)) (ref18_Cross : (Int × Int × Int) → (Int × Int × Int) → Option (Int × Int × Int)) (ref18_upright : (Int × Int × Int) → Option (Bool)) (x0 : Int) (x1 : Int × Int × Int) (x2 : Int × Int × Int) (x3 : Int × Int × Int) : Option ((List (Int × Int)) × Int × Unit) :=
  obind (ref18_Cross x2 x3) fun (t : Int × Int × Int) =>
  let v7 : Bool := decide (t.snd.snd = (0 : Int));
  let v8 : Bool := !v7;
  let v9 : Bool := !v8;
  let v10 : Bool := !v9 || v9;
  let v11 : Bool := decide (t.fst = (0 : Int)) && (decide (t.snd.fst = (0 : Int)) && (v7 && true));
  let v12 : Bool := !v11 || v11; obind (ref18_Cross x3 x1) fun (t_1 : Int × Int × Int) =>
  let v14 : Bool := decide (t_1.snd.snd = (0 : Int));
  let v15 : Bool := bif v8 then true else !v14;
  let v16 : Bool := !v15;
  let v17 : Bool := !v16 || v16;
  let v18 : Bool := bif v11 then decide (t_1.fst = (0 : Int)) && (decide (t_1.snd.fst = (0 : Int)) && (v14 && true)) else false;
  let v19 : Bool := !v18 || v18; obind (ref18_Cross x1 x2) fun (t_2 : Int × Int × Int) =>
  let v21 : Bool := decide (t_2.snd.snd = (0 : Int)); obind (ref18_dot x1 t) fun (t_3 : Int) => bif !decide (t_3 = (0 : Int)) then obind (ref18_quotient x0 t.snd.snd t_3) fun (t : Int ×
    Int) => obind (ref18_quotient x0 t_1.snd.snd t_3) fun (t_4 : Int × Int) => obind (ref18_quotient x0 t_2.snd.snd t_3) fun (t_5 : Int × Int) => some ([t, t_4, t_5], (0 : Int), PUnit.unit)
    else bif decide (x0 = (0 : Int)) then some ([], (21 : Int), PUnit.unit) else bif v12 && v12 then bif v12 then bif v19 && v19 then bif v19 then bif bif v18 then decide (t_2.fst = (0 :
    Int)) && (decide (t_2.snd.fst = (0 : Int)) && (v21 && true)) else false then obind (ref18_upright x1) fun (t : Bool) => bif t then some ([], (21 : Int), PUnit.unit) else some ([], (22 :
    Int), PUnit.unit) else bif v10 then bif v10 then bif v8 || v9 then bif v17 then bif v17 then bif v15 || v16 then bif bif v15 then true else !v21 then some ([], (22 : Int), PUnit.unit)
    else some ([], (21 : Int), PUnit.unit) else none else none else none else none else none else none else none else none else none else none
noncomputable def ref18_three (x0 : Int) (x1 : Int × Int × Int) (x2 : Int × Int × Int) (x3 : Int × Int × Int) : Option ((List (Int × Int)) × Int × Unit) := ref18_three_b lpK jnK ref18_dot ref18_quotient ref18_Cross ref18_upright x0 x1 x2 x3
noncomputable def c96 : Ctr := ⟨[i64, T40, T40, T40], [], [], .tup [(.sl T48), i64], fun x _ _ => ref18_three x.1 x.2.1 x.2.2.1 x.2.2.2.1⟩
theorem e96 (lp : Lp) (jn : Jn) (ref18_dot : (Int × Int × Int) → (Int × Int × Int) → Option (Int)) (ref18_quotient : (Int) → (Int) → (Int) → Option (Int × Int)) (ref18_Cross : (Int × Int × Int) → (Int × Int × Int) → Option (Int × Int × Int)) (ref18_upright : (Int × Int × Int) → Option (Bool)) : ∀ (x : TsS c96.as) (F : TsF c96.fs) (y : TsS c96.cs), ref18_three_b lp jn ref18_dot ref18_quotient ref18_Cross ref18_upright x.1 x.2.1 x.2.2.1 x.2.2.2.1 = runC lp jn (ctxOf prog shs inls [(113, ⟨[T40], [], [], .one .bool, fun x _ _ => ref18_upright x.1⟩), (112, ⟨[T40, T40], [], [], .one T40, fun x _ _ => ref18_Cross x.1 x.2.1⟩), (111, ⟨[i64, i64, i64], [], [], .one T48, fun x _ _ => ref18_quotient x.1 x.2.1 x.2.2.1⟩), (52, ⟨[T40, T40], [], [], .one i64, fun x _ _ => ref18_dot x.1 x.2.1⟩)] [(36, r36), (18, r18)]) hints 4 96 f96 c96 x F y := fun x F y => by kernel_rfl
theorem l96 : (ctxOf prog shs inls [(113, c113), (112, c112), (111, c111), (52, c52)] [(36, r36), (18, r18)]).ok := ctxOf_cons (ctxOf_cons (ctxOf_cons (ctxOf_cons (q36) (by kernel_rfl) ok52) (by kernel_rfl) ok111) (by kernel_rfl) ok112) (by kernel_rfl) ok113
theorem ok96 : c96.ok prog 96 := Ctr.of_den l96 hmix (hl := hints) (d := 4) func96 rfl (by decide) (e96 lpK jnK ref18_dot ref18_quotient ref18_Cross ref18_upright)

/-- loftblock loftblockref18.Pulls -/
noncomputable def ref18_Pulls_b (_ : Lp) (_ : Jn) (ref18_Arm : ((Int × Int × Int) × Int × List (ByteArray × (Int × Int × Int) × Int)) → (Int) → Option (Int × Int × Int)) (ref18_one : (Int) → (Int × Int × Int) → Option ((List (Int × Int)) × Int × Unit)) (ref18_two : (Int) → (Int × Int × Int) → (Int × Int × Int) → Option ((List (Int × Int)) × Int × Unit)) (ref18_three : (Int) → (Int × Int × Int) → (Int × Int × Int) → (Int × Int × Int) → Option ((List (Int × Int)) × Int × Unit)) (x0 : (Int × Int × Int) × Int × List (ByteArray × (Int × Int × Int) × Int)) : Option ((List (Int × Int)) × Int × Unit) :=
  bif decide ((↑(List.length x0.snd.snd) : Int) = (1 : Int)) then obind (ref18_Arm x0 (0 : Int)) fun (t : Int × Int × Int) => obind (ref18_one x0.snd.fst t) fun (t : List (Int × Int) × Int ×
    PUnit) => some (t.fst, t.snd.fst, PUnit.unit) else bif decide ((↑(List.length x0.snd.snd) : Int) = (2 : Int)) then obind (ref18_Arm x0 (0 : Int)) fun (t : Int × Int × Int) => obind
    (ref18_Arm x0 (1 : Int)) fun (t_1 : Int × Int × Int) => obind (ref18_two x0.snd.fst t t_1) fun (t : List (Int × Int) × Int × PUnit) => some (t.fst, t.snd.fst, PUnit.unit) else obind
    (ref18_Arm x0 (0 : Int)) fun (t : Int × Int × Int) => obind (ref18_Arm x0 (1 : Int)) fun (t_1 : Int × Int × Int) => obind (ref18_Arm x0 (2 : Int)) fun (t_2 : Int × Int × Int) => obind
    (ref18_three x0.snd.fst t t_1 t_2) fun (t : List (Int × Int) × Int × PUnit) => some (t.fst, t.snd.fst, PUnit.unit)
noncomputable def ref18_Pulls (x0 : (Int × Int × Int) × Int × List (ByteArray × (Int × Int × Int) × Int)) : Option ((List (Int × Int)) × Int × Unit) := ref18_Pulls_b lpK jnK ref18_Arm ref18_one ref18_two ref18_three x0
noncomputable def c64 : Ctr := ⟨[T26], [], [], .tup [(.sl T48), i64], fun x _ _ => ref18_Pulls x.1⟩
theorem e64 (lp : Lp) (jn : Jn) (ref18_Arm : ((Int × Int × Int) × Int × List (ByteArray × (Int × Int × Int) × Int)) → (Int) → Option (Int × Int × Int)) (ref18_one : (Int) → (Int × Int × Int) → Option ((List (Int × Int)) × Int × Unit)) (ref18_two : (Int) → (Int × Int × Int) → (Int × Int × Int) → Option ((List (Int × Int)) × Int × Unit)) (ref18_three : (Int) → (Int × Int × Int) → (Int × Int × Int) → (Int × Int × Int) → Option ((List (Int × Int)) × Int × Unit)) : ∀ (x : TsS c64.as) (F : TsF c64.fs) (y : TsS c64.cs), ref18_Pulls_b lp jn ref18_Arm ref18_one ref18_two ref18_three x.1 = runC lp jn (ctxOf prog shs inls [(96, ⟨[i64, T40, T40, T40], [], [], .tup [(.sl T48), i64], fun x _ _ => ref18_three x.1 x.2.1 x.2.2.1 x.2.2.2.1⟩), (95, ⟨[i64, T40, T40], [], [], .tup [(.sl T48), i64], fun x _ _ => ref18_two x.1 x.2.1 x.2.2.1⟩), (94, ⟨[i64, T40], [], [], .tup [(.sl T48), i64], fun x _ _ => ref18_one x.1 x.2.1⟩), (19, ⟨[T26, i64], [], [], .one T40, fun x _ _ => ref18_Arm x.1 x.2.1⟩)] [(36, r36), (18, r18)]) hints 4 64 f64 c64 x F y := fun x F y => by kernel_rfl
theorem l64 : (ctxOf prog shs inls [(96, c96), (95, c95), (94, c94), (19, c19)] [(36, r36), (18, r18)]).ok := ctxOf_cons (ctxOf_cons (ctxOf_cons (ctxOf_cons (q36) (by kernel_rfl) ok19) (by kernel_rfl) ok94) (by kernel_rfl) ok95) (by kernel_rfl) ok96
theorem ok64 : c64.ok prog 64 := Ctr.of_den l64 hmix (hl := hints) (d := 4) func64 rfl (by decide) (e64 lpK jnK ref18_Arm ref18_one ref18_two ref18_three)

/-- loftblock loftblockref02.Floor -/
noncomputable def ref02_Floor_b (_ : Lp) (_ : Jn) (x0 : Int × Int) : Option Int :=
  
  let v3 : Int := IntKind.wrap IntKind.i64 (Int.tdiv x0.fst x0.snd); bif nzB x0.snd then bif decide (IntKind.wrap IntKind.i64 (v3 * x0.snd) > x0.fst) then some (IntKind.wrap IntKind.i64 (v3
    - (1 : Int))) else some v3 else none
noncomputable def ref02_Floor (x0 : Int × Int) : Option Int := ref02_Floor_b lpK jnK x0
noncomputable def c33 : Ctr := ⟨[T48], [], [], .one i64, fun x _ _ => ref02_Floor x.1⟩
theorem e33 (lp : Lp) (jn : Jn) : ∀ (x : TsS c33.as) (F : TsF c33.fs) (y : TsS c33.cs), ref02_Floor_b lp jn x.1 = runC lp jn (ctxOf prog shs inls [] [(36, r36), (18, r18)]) hints 4 33 f33 c33 x F y := fun x F y => by kernel_rfl
theorem l33 : (ctxOf prog shs inls [] [(36, r36), (18, r18)]).ok := q36
theorem ok33 : c33.ok prog 33 := Ctr.of_den l33 hmix (hl := hints) (d := 4) func33 rfl (by decide) (e33 lpK jnK)

/-- loftblock loftblockref02.Mul -/
noncomputable def ref02_Mul_b (_ : Lp) (_ : Jn) (x0 : Int) (x1 : Int) : Option (Int × Int) :=
  
  let v4 : Int := (2 : Int) ^ (32 : Nat);
  let v5 : Int := Int.fdiv x0 v4;
  let v6 : Int := Int.fdiv x1 v4;
  let v7 : Bool := decide ((0 : Int) ≤ (32 : Int));
  let v8 : Int := IntKind.wrap IntKind.u64 (↑(Nat.land (Int.toNat (x1 % Int.ofNat (18446744073709551616 : Nat))) (Int.toNat ((4294967295 : Int) % Int.ofNat (18446744073709551616 : Nat)))) :
    Int);
  let v9 : Int := IntKind.wrap IntKind.u64 (↑(Nat.land (Int.toNat (x0 % Int.ofNat (18446744073709551616 : Nat))) (Int.toNat ((4294967295 : Int) % Int.ofNat (18446744073709551616 : Nat)))) :
    Int);
  let v10 : Int := IntKind.wrap IntKind.u64 (v9 * v8);
  let v11 : Int := IntKind.wrap IntKind.u64 (IntKind.wrap IntKind.u64 (v5 * v8) + Int.fdiv v10 v4);
  let v12 : Int := IntKind.wrap IntKind.u64 (IntKind.wrap IntKind.u64 (v9 * v6) + IntKind.wrap IntKind.u64 (↑(Nat.land (Int.toNat (v11 % Int.ofNat (18446744073709551616 : Nat))) (Int.toNat
    ((4294967295 : Int) % Int.ofNat (18446744073709551616 : Nat)))) : Int)); bif v7 then bif v7 then bif v7 then bif v7 then bif v7 then bif v7 then some (IntKind.wrap IntKind.u64
    (IntKind.wrap IntKind.u64 (IntKind.wrap IntKind.u64 (v5 * v6) + Int.fdiv v11 v4) + Int.fdiv v12 v4), IntKind.wrap IntKind.u64 (IntKind.wrap IntKind.u64 (v12 * v4) + IntKind.wrap
    IntKind.u64 (↑(Nat.land (Int.toNat (v10 % Int.ofNat (18446744073709551616 : Nat))) (Int.toNat ((4294967295 : Int) % Int.ofNat (18446744073709551616 : Nat)))) : Int))) else none else
    none else none else none else none else none
noncomputable def ref02_Mul (x0 : Int) (x1 : Int) : Option (Int × Int) := ref02_Mul_b lpK jnK x0 x1
noncomputable def c100 : Ctr := ⟨[(.int .u64), (.int .u64)], [], [], .one T137, fun x _ _ => ref02_Mul x.1 x.2.1⟩
theorem e100 (lp : Lp) (jn : Jn) : ∀ (x : TsS c100.as) (F : TsF c100.fs) (y : TsS c100.cs), ref02_Mul_b lp jn x.1 x.2.1 = runC lp jn (ctxOf prog shs inls [] [(36, r36), (18, r18)]) hints 4 100 f100 c100 x F y := fun x F y => by kernel_rfl
theorem l100 : (ctxOf prog shs inls [] [(36, r36), (18, r18)]).ok := q36
theorem ok100 : c100.ok prog 100 := Ctr.of_den l100 hmix (hl := hints) (d := 4) func100 rfl (by decide) (e100 lpK jnK)

/-- loftblock loftblockref02.Times -/
noncomputable def ref02_Times_b (_ : Lp) (_ : Jn) (ref02_Made : (Int × Int) → (Bool) → (Int × Int) → Option ((Int × Int) × Int × Unit)) (ref02_Size : (Int) → Option (Int)) (ref02_Mul : (Int) → (Int) → Option (Int × Int)) (x0 : Int × Int) (x1 : Int × Int) : Option ((Int × Int) × Int × Unit) :=
  obind (ref02_Size x0.fst) fun (t : Int) => obind (ref02_Size x1.fst) fun (t_1 : Int) => obind (ref02_Mul t t_1) fun (t : Int × Int) => obind (ref02_Size x0.snd) fun (t_2 : Int) => obind
    (ref02_Size x1.snd) fun (t_3 : Int) => obind (ref02_Mul t_2 t_3) fun (t_4 : Int × Int) => obind (ref02_Made t (!decide (decide (x0.fst < (0 : Int)) = decide (x1.fst < (0 : Int)))) t_4)
    fun (t : (Int × Int) × Int × PUnit) => some (t.fst, t.snd.fst, PUnit.unit)
noncomputable def ref02_Times (x0 : Int × Int) (x1 : Int × Int) : Option ((Int × Int) × Int × Unit) := ref02_Times_b lpK jnK ref02_Made ref02_Size ref02_Mul x0 x1
noncomputable def c66 : Ctr := ⟨[T48, T48], [], [], .tup [T48, i64], fun x _ _ => ref02_Times x.1 x.2.1⟩
theorem e66 (lp : Lp) (jn : Jn) (ref02_Made : (Int × Int) → (Bool) → (Int × Int) → Option ((Int × Int) × Int × Unit)) (ref02_Size : (Int) → Option (Int)) (ref02_Mul : (Int) → (Int) → Option (Int × Int)) : ∀ (x : TsS c66.as) (F : TsF c66.fs) (y : TsS c66.cs), ref02_Times_b lp jn ref02_Made ref02_Size ref02_Mul x.1 x.2.1 = runC lp jn (ctxOf prog shs inls [(100, ⟨[(.int .u64), (.int .u64)], [], [], .one T137, fun x _ _ => ref02_Mul x.1 x.2.1⟩), (101, ⟨[i64], [], [], .one (.int .u64), fun x _ _ => ref02_Size x.1⟩), (99, ⟨[T137, .bool, T137], [], [], .tup [T48, i64], fun x _ _ => ref02_Made x.1 x.2.1 x.2.2.1⟩)] [(36, r36), (18, r18)]) hints 4 66 f66 c66 x F y := fun x F y => by kernel_rfl
theorem l66 : (ctxOf prog shs inls [(100, c100), (101, c101), (99, c99)] [(36, r36), (18, r18)]).ok := ctxOf_cons (ctxOf_cons (ctxOf_cons (q36) (by kernel_rfl) ok99) (by kernel_rfl) ok101) (by kernel_rfl) ok100
theorem ok66 : c66.ok prog 66 := Ctr.of_den l66 hmix (hl := hints) (d := 4) func66 rfl (by decide) (e66 lpK jnK ref02_Made ref02_Size ref02_Mul)

/-- loftblock loftblockref18.times -/
noncomputable def ref18_times_b (_ : Lp) (_ : Jn) (ref02_Make : (Int) → (Int) → Option ((Int × Int) × Int × Unit)) (ref02_Times : (Int × Int) → (Int × Int) → Option ((Int × Int) × Int × Unit)) (x0 : Int × Int) (x1 : Int) : Option ((Int × Int) × Int × Unit) :=
  obind (ref02_Make x1 (1000 : Int)) fun (t : (Int × Int) × Int × PUnit) => obind (ref02_Times x0 t.fst) fun (t : (Int × Int) × Int × PUnit) => some (t.fst, t.snd.fst, PUnit.unit)
noncomputable def ref18_times (x0 : Int × Int) (x1 : Int) : Option ((Int × Int) × Int × Unit) := ref18_times_b lpK jnK ref02_Make ref02_Times x0 x1
noncomputable def c97 : Ctr := ⟨[T48, i64], [], [], .tup [T48, i64], fun x _ _ => ref18_times x.1 x.2.1⟩
theorem e97 (lp : Lp) (jn : Jn) (ref02_Make : (Int) → (Int) → Option ((Int × Int) × Int × Unit)) (ref02_Times : (Int × Int) → (Int × Int) → Option ((Int × Int) × Int × Unit)) : ∀ (x : TsS c97.as) (F : TsF c97.fs) (y : TsS c97.cs), ref18_times_b lp jn ref02_Make ref02_Times x.1 x.2.1 = runC lp jn (ctxOf prog shs inls [(66, ⟨[T48, T48], [], [], .tup [T48, i64], fun x _ _ => ref02_Times x.1 x.2.1⟩), (114, ⟨[i64, i64], [], [], .tup [T48, i64], fun x _ _ => ref02_Make x.1 x.2.1⟩)] [(36, r36), (18, r18)]) hints 4 97 f97 c97 x F y := fun x F y => by kernel_rfl
theorem l97 : (ctxOf prog shs inls [(66, c66), (114, c114)] [(36, r36), (18, r18)]).ok := ctxOf_cons (ctxOf_cons (q36) (by kernel_rfl) ok114) (by kernel_rfl) ok66
theorem ok97 : c97.ok prog 97 := Ctr.of_den l97 hmix (hl := hints) (d := 4) func97 rfl (by decide) (e97 lpK jnK ref02_Make ref02_Times)

/-- loftblock loftblockref02.Neg -/
noncomputable def ref02_Neg_b (_ : Lp) (_ : Jn) (x0 : Int × Int) : Option (Int × Int) :=
  some (IntKind.wrap IntKind.i64 ((0 : Int) - x0.fst), x0.snd)
noncomputable def ref02_Neg (x0 : Int × Int) : Option (Int × Int) := ref02_Neg_b lpK jnK x0
noncomputable def c115 : Ctr := ⟨[T48], [], [], .one T48, fun x _ _ => ref02_Neg x.1⟩
theorem e115 (lp : Lp) (jn : Jn) : ∀ (x : TsS c115.as) (F : TsF c115.fs) (y : TsS c115.cs), ref02_Neg_b lp jn x.1 = runC lp jn (ctxOf prog shs inls [] [(36, r36), (18, r18)]) hints 4 115 f115 c115 x F y := fun x F y => by kernel_rfl
theorem l115 : (ctxOf prog shs inls [] [(36, r36), (18, r18)]).ok := q36
theorem ok115 : c115.ok prog 115 := Ctr.of_den l115 hmix (hl := hints) (d := 4) func115 rfl (by decide) (e115 lpK jnK)

/-- loftblock loftblockref02.Ceil -/
noncomputable def ref02_Ceil_b (_ : Lp) (_ : Jn) (ref02_Floor : (Int × Int) → Option (Int)) (ref02_Neg : (Int × Int) → Option (Int × Int)) (x0 : Int × Int) : Option Int :=
  obind (ref02_Neg x0) fun (t : Int × Int) => obind (ref02_Floor t) fun (t : Int) => some (IntKind.wrap IntKind.i64 ((0 : Int) - t))
noncomputable def ref02_Ceil (x0 : Int × Int) : Option Int := ref02_Ceil_b lpK jnK ref02_Floor ref02_Neg x0
noncomputable def c98 : Ctr := ⟨[T48], [], [], .one i64, fun x _ _ => ref02_Ceil x.1⟩
theorem e98 (lp : Lp) (jn : Jn) (ref02_Floor : (Int × Int) → Option (Int)) (ref02_Neg : (Int × Int) → Option (Int × Int)) : ∀ (x : TsS c98.as) (F : TsF c98.fs) (y : TsS c98.cs), ref02_Ceil_b lp jn ref02_Floor ref02_Neg x.1 = runC lp jn (ctxOf prog shs inls [(115, ⟨[T48], [], [], .one T48, fun x _ _ => ref02_Neg x.1⟩), (33, ⟨[T48], [], [], .one i64, fun x _ _ => ref02_Floor x.1⟩)] [(36, r36), (18, r18)]) hints 4 98 f98 c98 x F y := fun x F y => by kernel_rfl
theorem l98 : (ctxOf prog shs inls [(115, c115), (33, c33)] [(36, r36), (18, r18)]).ok := ctxOf_cons (ctxOf_cons (q36) (by kernel_rfl) ok33) (by kernel_rfl) ok115
theorem ok98 : c98.ok prog 98 := Ctr.of_den l98 hmix (hl := hints) (d := 4) func98 rfl (by decide) (e98 lpK jnK ref02_Floor ref02_Neg)

/-- loftblock loftblockref18.Span -/
noncomputable def ref18_Span_b (_ : Lp) (_ : Jn) (ref18_Length : ((Int × Int × Int) × Int × List (ByteArray × (Int × Int × Int) × Int)) → (Int) → Option (Int × Int)) (ref02_Floor : (Int × Int) → Option (Int)) (ref18_times : (Int × Int) → (Int) → Option ((Int × Int) × Int × Unit)) (ref02_Ceil : (Int × Int) → Option (Int)) (x0 : (Int × Int × Int) × Int × List (ByteArray × (Int × Int × Int) × Int)) (x1 : Int) (x2 : Int × Int) : Option ((Int × Int) × Int × Unit) :=
  obind (ref18_Length x0 x1) fun (t : Int × Int) => obind (ref18_times x2 t.fst) fun (t_1 : (Int × Int) × Int × PUnit) => bif !decide (t_1.snd.fst = (0 : Int)) then some (((0 : Int), (0 :
    Int)), t_1.snd.fst, PUnit.unit) else obind (ref18_times x2 t.snd) fun (t : (Int × Int) × Int × PUnit) => bif !decide (t.snd.fst = (0 : Int)) then some (((0 : Int), (0 : Int)),
    t.snd.fst, PUnit.unit) else obind (ref02_Floor t_1.fst) fun (t_2 : Int) => obind (ref02_Ceil t.fst) fun (t : Int) => some ((t_2, t), (0 : Int), PUnit.unit)
noncomputable def ref18_Span (x0 : (Int × Int × Int) × Int × List (ByteArray × (Int × Int × Int) × Int)) (x1 : Int) (x2 : Int × Int) : Option ((Int × Int) × Int × Unit) := ref18_Span_b lpK jnK ref18_Length ref02_Floor ref18_times ref02_Ceil x0 x1 x2
noncomputable def c65 : Ctr := ⟨[T26, i64, T48], [], [], .tup [T30, i64], fun x _ _ => ref18_Span x.1 x.2.1 x.2.2.1⟩
theorem e65 (lp : Lp) (jn : Jn) (ref18_Length : ((Int × Int × Int) × Int × List (ByteArray × (Int × Int × Int) × Int)) → (Int) → Option (Int × Int)) (ref02_Floor : (Int × Int) → Option (Int)) (ref18_times : (Int × Int) → (Int) → Option ((Int × Int) × Int × Unit)) (ref02_Ceil : (Int × Int) → Option (Int)) : ∀ (x : TsS c65.as) (F : TsF c65.fs) (y : TsS c65.cs), ref18_Span_b lp jn ref18_Length ref02_Floor ref18_times ref02_Ceil x.1 x.2.1 x.2.2.1 = runC lp jn (ctxOf prog shs inls [(98, ⟨[T48], [], [], .one i64, fun x _ _ => ref02_Ceil x.1⟩), (97, ⟨[T48, i64], [], [], .tup [T48, i64], fun x _ _ => ref18_times x.1 x.2.1⟩), (33, ⟨[T48], [], [], .one i64, fun x _ _ => ref02_Floor x.1⟩), (15, ⟨[T26, i64], [], [], .one T30, fun x _ _ => ref18_Length x.1 x.2.1⟩)] [(36, r36), (18, r18)]) hints 4 65 f65 c65 x F y := fun x F y => by kernel_rfl
theorem l65 : (ctxOf prog shs inls [(98, c98), (97, c97), (33, c33), (15, c15)] [(36, r36), (18, r18)]).ok := ctxOf_cons (ctxOf_cons (ctxOf_cons (ctxOf_cons (q36) (by kernel_rfl) ok15) (by kernel_rfl) ok33) (by kernel_rfl) ok97) (by kernel_rfl) ok98
theorem ok65 : c65.ok prog 65 := Ctr.of_den l65 hmix (hl := hints) (d := 4) func65 rfl (by decide) (e65 lpK jnK ref18_Length ref02_Floor ref18_times ref02_Ceil)

/-- loftblock loftblockref18.Tension -/
noncomputable def ref18_Tension_b (_ : Lp) (_ : Jn) (ref18_Find : ((Int × Int × Int) × Int × List (ByteArray × (Int × Int × Int) × Int)) → (ByteArray) → Option (Int)) (ref18_Given : ((Int × Int × Int) × Int × List (ByteArray × (Int × Int × Int) × Int)) → (ByteArray) → Option (Int)) (ref18_Pulls : ((Int × Int × Int) × Int × List (ByteArray × (Int × Int × Int) × Int)) → Option ((List (Int × Int)) × Int × Unit)) (ref18_Span : ((Int × Int × Int) × Int × List (ByteArray × (Int × Int × Int) × Int)) → (Int) → (Int × Int) → Option ((Int × Int) × Int × Unit)) (x0 : (Int × Int × Int) × Int × List (ByteArray × (Int × Int × Int) × Int)) (x1 : ByteArray) : Option ((Int × Int) × Int × Unit) :=
  obind (ref18_Given x0 x1) fun (t : Int) => bif !decide (t = (0 : Int)) then some (((0 : Int), (0 : Int)), t, PUnit.unit) else obind (ref18_Pulls x0) fun (t : List (Int × Int) × Int × PUnit)
    => bif !decide (t.snd.fst = (0 : Int)) then some (((0 : Int), (0 : Int)), t.snd.fst, PUnit.unit) else obind (ref18_Find x0 x1) fun (t_1 : Int) =>
  let v7 : Bool := inB t_1 (List.length t.fst); bif v7 then bif decide ((List.getD t.fst (Int.toNat t_1) ((0 : Int), (0 : Int))).fst < (0 : Int)) then some (((0 : Int), (0 : Int)), (13 :
    Int), PUnit.unit) else bif v7 then obind (ref18_Span x0 t_1 (List.getD t.fst (Int.toNat t_1) ((0 : Int), (0 : Int)))) fun (t : (Int × Int) × Int × PUnit) => some (t.fst, t.snd.fst,
    PUnit.unit) else none else none
noncomputable def ref18_Tension (x0 : (Int × Int × Int) × Int × List (ByteArray × (Int × Int × Int) × Int)) (x1 : ByteArray) : Option ((Int × Int) × Int × Unit) := ref18_Tension_b lpK jnK ref18_Find ref18_Given ref18_Pulls ref18_Span x0 x1
noncomputable def c26 : Ctr := ⟨[T26, .str], [], [], .tup [T30, i64], fun x _ _ => ref18_Tension x.1 x.2.1⟩
theorem e26 (lp : Lp) (jn : Jn) (ref18_Find : ((Int × Int × Int) × Int × List (ByteArray × (Int × Int × Int) × Int)) → (ByteArray) → Option (Int)) (ref18_Given : ((Int × Int × Int) × Int × List (ByteArray × (Int × Int × Int) × Int)) → (ByteArray) → Option (Int)) (ref18_Pulls : ((Int × Int × Int) × Int × List (ByteArray × (Int × Int × Int) × Int)) → Option ((List (Int × Int)) × Int × Unit)) (ref18_Span : ((Int × Int × Int) × Int × List (ByteArray × (Int × Int × Int) × Int)) → (Int) → (Int × Int) → Option ((Int × Int) × Int × Unit)) : ∀ (x : TsS c26.as) (F : TsF c26.fs) (y : TsS c26.cs), ref18_Tension_b lp jn ref18_Find ref18_Given ref18_Pulls ref18_Span x.1 x.2.1 = runC lp jn (ctxOf prog shs inls [(65, ⟨[T26, i64, T48], [], [], .tup [T30, i64], fun x _ _ => ref18_Span x.1 x.2.1 x.2.2.1⟩), (64, ⟨[T26], [], [], .tup [(.sl T48), i64], fun x _ _ => ref18_Pulls x.1⟩), (14, ⟨[T26, .str], [], [], .one i64, fun x _ _ => ref18_Given x.1 x.2.1⟩), (16, ⟨[T26, .str], [], [], .one i64, fun x _ _ => ref18_Find x.1 x.2.1⟩)] [(36, r36), (18, r18)]) hints 4 26 f26 c26 x F y := fun x F y => by kernel_rfl
theorem l26 : (ctxOf prog shs inls [(65, c65), (64, c64), (14, c14), (16, c16)] [(36, r36), (18, r18)]).ok := ctxOf_cons (ctxOf_cons (ctxOf_cons (ctxOf_cons (q36) (by kernel_rfl) ok16) (by kernel_rfl) ok14) (by kernel_rfl) ok64) (by kernel_rfl) ok65
theorem ok26 : c26.ok prog 26 := Ctr.of_den l26 hmix (hl := hints) (d := 4) func26 rfl (by decide) (e26 lpK jnK ref18_Find ref18_Given ref18_Pulls ref18_Span)

/-- loftblock loftblockref18.Within -/
noncomputable def ref18_Within_b (lp : Lp) (_ : Jn) (ref18_Valid : ((Int × Int × Int) × Int × List (ByteArray × (Int × Int × Int) × Int)) → Option (Bool)) (ref18_Pulls : ((Int × Int × Int) × Int × List (ByteArray × (Int × Int × Int) × Int)) → Option ((List (Int × Int)) × Int × Unit)) (ref18_Span : ((Int × Int × Int) × Int × List (ByteArray × (Int × Int × Int) × Int)) → (Int) → (Int × Int) → Option ((Int × Int) × Int × Unit)) (x0 : (Int × Int × Int) × Int × List (ByteArray × (Int × Int × Int) × Int)) : Option (Bool × Int × Unit) :=
  obind (ref18_Valid x0) fun (t : Bool) => bif !t then some (false, (1 : Int), PUnit.unit) else obind (ref18_Pulls x0) fun (t : List (Int × Int) × Int × PUnit) => bif !decide (t.snd.fst = (0
    : Int)) then some (false, t.snd.fst, PUnit.unit) else lp (Int × PUnit) (Bool × Int × PUnit) (fun (again : Int × PUnit → Option (Bool × Int × PUnit)) (x : Int × PUnit) => bif decide
    (x.fst < (↑(List.length t.fst) : Int)) then bif inB x.fst (List.length t.fst) then bif decide ((List.getD t.fst (Int.toNat x.fst) ((0 : Int), (0 : Int))).fst < (0 : Int)) then some
    (false, (0 : Int), PUnit.unit) else again (IntKind.wrap IntKind.i64 (x.fst + (1 : Int)), PUnit.unit) else none else lp (Bool × Int × PUnit) (Bool × Int × PUnit) (fun (again : Bool × Int
    × PUnit → Option (Bool × Int × PUnit)) (x : Bool × Int × PUnit) =>
  let v9 : Bool := !x.fst;
  let v10 : Bool := v9 || x.fst; bif decide (x.snd.fst < (↑(List.length t.fst) : Int)) then bif inB x.snd.fst (List.length t.fst) then obind (ref18_Span x0 x.snd.fst (List.getD t.fst
    (Int.toNat x.snd.fst) ((0 : Int), (0 : Int)))) fun (t : (Int × Int) × Int × PUnit) => bif !decide (t.snd.fst = (0 : Int)) then some (false, t.snd.fst, PUnit.unit) else bif v10 then bif
    v10 then bif v10 && (v10 && (v9 || inB x.snd.fst (List.length x0.snd.snd))) then bif v10 then bif v10 then bif v10 && v10 then bif v10 then again (bif x.fst then decide (t.fst.snd ≤
    (List.getD x0.snd.snd (Int.toNat x.snd.fst) ({ data := { toList := [] } }, ((0 : Int), (0 : Int), (0 : Int)), (0 : Int))).snd.snd) else false, IntKind.wrap IntKind.i64 (x.snd.fst + (1 :
    Int)), PUnit.unit) else none else none else none else none else none else none else none else none else some (x.fst, (0 : Int), PUnit.unit)) (true, (0 : Int), PUnit.unit)) ((0 : Int),
    PUnit.unit)
noncomputable def ref18_Within (x0 : (Int × Int × Int) × Int × List (ByteArray × (Int × Int × Int) × Int)) : Option (Bool × Int × Unit) := ref18_Within_b lpK jnK ref18_Valid ref18_Pulls ref18_Span x0
noncomputable def c27 : Ctr := ⟨[T26], [], [], .tup [.bool, i64], fun x _ _ => ref18_Within x.1⟩
theorem e27 (lp : Lp) (jn : Jn) (ref18_Valid : ((Int × Int × Int) × Int × List (ByteArray × (Int × Int × Int) × Int)) → Option (Bool)) (ref18_Pulls : ((Int × Int × Int) × Int × List (ByteArray × (Int × Int × Int) × Int)) → Option ((List (Int × Int)) × Int × Unit)) (ref18_Span : ((Int × Int × Int) × Int × List (ByteArray × (Int × Int × Int) × Int)) → (Int) → (Int × Int) → Option ((Int × Int) × Int × Unit)) : ∀ (x : TsS c27.as) (F : TsF c27.fs) (y : TsS c27.cs), ref18_Within_b lp jn ref18_Valid ref18_Pulls ref18_Span x.1 = runC lp jn (ctxOf prog shs inls [(65, ⟨[T26, i64, T48], [], [], .tup [T30, i64], fun x _ _ => ref18_Span x.1 x.2.1 x.2.2.1⟩), (64, ⟨[T26], [], [], .tup [(.sl T48), i64], fun x _ _ => ref18_Pulls x.1⟩), (13, ⟨[T26], [], [], .one .bool, fun x _ _ => ref18_Valid x.1⟩)] [(36, r36), (18, r18)]) hints 4 27 f27 c27 x F y := fun x F y => by kernel_rfl
theorem l27 : (ctxOf prog shs inls [(65, c65), (64, c64), (13, c13)] [(36, r36), (18, r18)]).ok := ctxOf_cons (ctxOf_cons (ctxOf_cons (q36) (by kernel_rfl) ok13) (by kernel_rfl) ok64) (by kernel_rfl) ok65
theorem ok27 : c27.ok prog 27 := Ctr.of_den l27 hmix (hl := hints) (d := 4) func27 rfl (by decide) (e27 lpK jnK ref18_Valid ref18_Pulls ref18_Span)

/-- loftblock loftblockref18.along -/
noncomputable def ref18_along_b (_ : Lp) (_ : Jn) (x0 : Int × Int × Int) (x1 : Int) : Option Int :=
  bif decide (x1 = (0 : Int)) then some x0.fst else bif decide (x1 = (1 : Int)) then some x0.snd.fst else some x0.snd.snd
noncomputable def ref18_along (x0 : Int × Int × Int) (x1 : Int) : Option Int := ref18_along_b lpK jnK x0 x1
noncomputable def c68 : Ctr := ⟨[T40, i64], [], [], .one i64, fun x _ _ => ref18_along x.1 x.2.1⟩
theorem e68 (lp : Lp) (jn : Jn) : ∀ (x : TsS c68.as) (F : TsF c68.fs) (y : TsS c68.cs), ref18_along_b lp jn x.1 x.2.1 = runC lp jn (ctxOf prog shs inls [] [(36, r36), (18, r18)]) hints 4 68 f68 c68 x F y := fun x F y => by kernel_rfl
theorem l68 : (ctxOf prog shs inls [] [(36, r36), (18, r18)]).ok := q36
theorem ok68 : c68.ok prog 68 := Ctr.of_den l68 hmix (hl := hints) (d := 4) func68 rfl (by decide) (e68 lpK jnK)

/-- loftblock loftblockref18.Anchor -/
noncomputable def ref18_Anchor_b (lp : Lp) (_ : Jn) (ref18_Find : ((Int × Int × Int) × Int × List (ByteArray × (Int × Int × Int) × Int)) → (ByteArray) → Option (Int)) (ref18_Arm : ((Int × Int × Int) × Int × List (ByteArray × (Int × Int × Int) × Int)) → (Int) → Option (Int × Int × Int)) (ref18_Given : ((Int × Int × Int) × Int × List (ByteArray × (Int × Int × Int) × Int)) → (ByteArray) → Option (Int)) (ref02_Of : (Int) → Option (Int × Int)) (ref18_Pulls : ((Int × Int × Int) × Int × List (ByteArray × (Int × Int × Int) × Int)) → Option ((List (Int × Int)) × Int × Unit)) (ref02_Times : (Int × Int) → (Int × Int) → Option ((Int × Int) × Int × Unit)) (ref18_along : (Int × Int × Int) → (Int) → Option (Int)) (x0 : (Int × Int × Int) × Int × List (ByteArray × (Int × Int × Int) × Int)) (x1 : ByteArray) : Option (((Int × Int) × (Int × Int) × Int × Int) × Int × Unit) :=
  obind (ref18_Given x0 x1) fun (t : Int) => bif !decide (t = (0 : Int)) then some ((((0 : Int), (0 : Int)), ((0 : Int), (0 : Int)), (0 : Int), (0 : Int)), t, PUnit.unit) else obind
    (ref18_Pulls x0) fun (t : List (Int × Int) × Int × PUnit) => bif !decide (t.snd.fst = (0 : Int)) then some ((((0 : Int), (0 : Int)), ((0 : Int), (0 : Int)), (0 : Int), (0 : Int)),
    t.snd.fst, PUnit.unit) else obind (ref18_Find x0 x1) fun (t_1 : Int) => lp (Int × ((Int × Int) × (Int × Int) × Int × Int) × ((Int × Int) × (Int × Int) × Int × Int) × PUnit) (((Int ×
    Int) × (Int × Int) × Int × Int) × Int × PUnit) (fun (again : Int × ((Int × Int) × (Int × Int) × Int × Int) × ((Int × Int) × (Int × Int) × Int × Int) × PUnit → Option (((Int × Int) ×
    (Int × Int) × Int × Int) × Int × PUnit)) (x : Int × ((Int × Int) × (Int × Int) × Int × Int) × ((Int × Int) × (Int × Int) × Int × Int) × PUnit) => bif decide (x.fst < (3 : Int)) then bif
    inB t_1 (List.length t.fst) then obind (ref18_Arm x0 t_1) fun (t_2 : Int × Int × Int) => obind (ref18_along t_2 x.fst) fun (t_3 : Int) => obind (ref02_Of (IntKind.wrap IntKind.i64 ((0 :
    Int) - t_3))) fun (t_4 : Int × Int) => obind (ref02_Times (List.getD t.fst (Int.toNat t_1) ((0 : Int), (0 : Int))) t_4) fun (t : (Int × Int) × Int × PUnit) => bif !decide (t.snd.fst =
    (0 : Int)) then some ((((0 : Int), (0 : Int)), ((0 : Int), (0 : Int)), (0 : Int), (0 : Int)), t.snd.fst, PUnit.unit) else bif inB x.fst (3 : Nat) then bif Nat.ble (Nat.succ (Int.toNat
    x.fst)) (3 : Nat) then again (IntKind.wrap IntKind.i64 (x.fst + (1 : Int)), x.snd.fst, (bif Nat.beq (Int.toNat x.fst) (0 : Nat) then t.fst else x.snd.snd.fst.fst, bif Nat.beq (Int.toNat
    x.fst) (1 : Nat) then t.fst else x.snd.snd.fst.snd.fst, bif Nat.beq (Int.toNat x.fst) (2 : Nat) then t.fst else x.snd.snd.fst.snd.snd), PUnit.unit) else none else none else none else
    some (x.snd.snd.fst, (0 : Int), PUnit.unit)) ((0 : Int), (((0 : Int), (0 : Int)), ((0 : Int), (0 : Int)), (0 : Int), (0 : Int)), (((0 : Int), (0 : Int)), ((0 : Int), (0 : Int)), (0 :
    Int), (0 : Int)), PUnit.unit)
noncomputable def ref18_Anchor (x0 : (Int × Int × Int) × Int × List (ByteArray × (Int × Int × Int) × Int)) (x1 : ByteArray) : Option (((Int × Int) × (Int × Int) × Int × Int) × Int × Unit) := ref18_Anchor_b lpK jnK ref18_Find ref18_Arm ref18_Given ref02_Of ref18_Pulls ref02_Times ref18_along x0 x1
noncomputable def c28 : Ctr := ⟨[T26, .str], [], [], .tup [T55, i64], fun x _ _ => ref18_Anchor x.1 x.2.1⟩
theorem e28 (lp : Lp) (jn : Jn) (ref18_Find : ((Int × Int × Int) × Int × List (ByteArray × (Int × Int × Int) × Int)) → (ByteArray) → Option (Int)) (ref18_Arm : ((Int × Int × Int) × Int × List (ByteArray × (Int × Int × Int) × Int)) → (Int) → Option (Int × Int × Int)) (ref18_Given : ((Int × Int × Int) × Int × List (ByteArray × (Int × Int × Int) × Int)) → (ByteArray) → Option (Int)) (ref02_Of : (Int) → Option (Int × Int)) (ref18_Pulls : ((Int × Int × Int) × Int × List (ByteArray × (Int × Int × Int) × Int)) → Option ((List (Int × Int)) × Int × Unit)) (ref02_Times : (Int × Int) → (Int × Int) → Option ((Int × Int) × Int × Unit)) (ref18_along : (Int × Int × Int) → (Int) → Option (Int)) : ∀ (x : TsS c28.as) (F : TsF c28.fs) (y : TsS c28.cs), ref18_Anchor_b lp jn ref18_Find ref18_Arm ref18_Given ref02_Of ref18_Pulls ref02_Times ref18_along x.1 x.2.1 = runC lp jn (ctxOf prog shs inls [(68, ⟨[T40, i64], [], [], .one i64, fun x _ _ => ref18_along x.1 x.2.1⟩), (66, ⟨[T48, T48], [], [], .tup [T48, i64], fun x _ _ => ref02_Times x.1 x.2.1⟩), (64, ⟨[T26], [], [], .tup [(.sl T48), i64], fun x _ _ => ref18_Pulls x.1⟩), (67, ⟨[i64], [], [], .one T48, fun x _ _ => ref02_Of x.1⟩), (14, ⟨[T26, .str], [], [], .one i64, fun x _ _ => ref18_Given x.1 x.2.1⟩), (19, ⟨[T26, i64], [], [], .one T40, fun x _ _ => ref18_Arm x.1 x.2.1⟩), (16, ⟨[T26, .str], [], [], .one i64, fun x _ _ => ref18_Find x.1 x.2.1⟩)] [(36, r36), (18, r18)]) hints 4 28 f28 c28 x F y := fun x F y => by kernel_rfl
theorem l28 : (ctxOf prog shs inls [(68, c68), (66, c66), (64, c64), (67, c67), (14, c14), (19, c19), (16, c16)] [(36, r36), (18, r18)]).ok := ctxOf_cons (ctxOf_cons (ctxOf_cons (ctxOf_cons (ctxOf_cons (ctxOf_cons (ctxOf_cons (q36) (by kernel_rfl) ok16) (by kernel_rfl) ok19) (by kernel_rfl) ok14) (by kernel_rfl) ok67) (by kernel_rfl) ok64) (by kernel_rfl) ok66) (by kernel_rfl) ok68
theorem ok28 : c28.ok prog 28 := Ctr.of_den l28 hmix (hl := hints) (d := 4) func28 rfl (by decide) (e28 lpK jnK ref18_Find ref18_Arm ref18_Given ref02_Of ref18_Pulls ref02_Times ref18_along)

/-- loftblock loftblocklaw18.BridleTensions -/
noncomputable def law18_BridleTensions_b (_ : Lp) (_ : Jn) (bridle_Tension : ((Int × Int × Int) × Int × List (ByteArray × (Int × Int × Int) × Int)) → (ByteArray) → Option ((Int × Int) × Int × Unit)) (bridle_Within : ((Int × Int × Int) × Int × List (ByteArray × (Int × Int × Int) × Int)) → Option (Bool × Int × Unit)) (law18_awake : Option (Bool)) (law18_long : ((Int × Int × Int) × Int × List (ByteArray × (Int × Int × Int) × Int)) → Option (Bool)) (bridle_Anchor : ((Int × Int × Int) × Int × List (ByteArray × (Int × Int × Int) × Int)) → (ByteArray) → Option (((Int × Int) × (Int × Int) × Int × Int) × Int × Unit)) (ref18_Tension : ((Int × Int × Int) × Int × List (ByteArray × (Int × Int × Int) × Int)) → (ByteArray) → Option ((Int × Int) × Int × Unit)) (ref18_Within : ((Int × Int × Int) × Int × List (ByteArray × (Int × Int × Int) × Int)) → Option (Bool × Int × Unit)) (ref18_Anchor : ((Int × Int × Int) × Int × List (ByteArray × (Int × Int × Int) × Int)) → (ByteArray) → Option (((Int × Int) × (Int × Int) × Int × Int) × Int × Unit)) (x0 : (Int × Int × Int) × Int × List (ByteArray × (Int × Int × Int) × Int)) (x1 : ByteArray) : Option Bool :=
  obind law18_awake fun (t : Bool) => bif !t then some false else obind (law18_long x0) fun (t : Bool) =>
  let v6 : Bool := !t;
  let v7 : Bool := !v6 || v6; bif v7 then bif v7 then bif t || v6 then bif bif t then true else decide ((↑(ByteArray.size x1) : Int) > (100 : Int)) then some true else obind (bridle_Tension
    x0 x1) fun (t : (Int × Int) × Int × PUnit) => obind (bridle_Within x0) fun (t_1 : Bool × Int × PUnit) => obind (bridle_Anchor x0 x1) fun (t_2 : ((Int × Int) × (Int × Int) × Int × Int) ×
    Int × PUnit) => obind (ref18_Tension x0 x1) fun (t_3 : (Int × Int) × Int × PUnit) =>
  let v12 : Bool := decide (t.fst.fst = t_3.fst.fst) && (decide (t.fst.snd = t_3.fst.snd) && true);
  let v13 : Bool := bif v12 then decide (t.snd.fst = t_3.snd.fst) else false;
  let v14 : Bool := !v12 || v12;
  let v15 : Bool := !v13 || v13; obind (ref18_Within x0) fun (t : Bool × Int × PUnit) =>
  let v17 : Bool := bif v13 then decide (t_1.fst = t.fst) else false;
  let v18 : Bool := !v17 || v17;
  let v19 : Bool := bif v17 then decide (t_1.snd.fst = t.snd.fst) else false;
  let v20 : Bool := !v19 || v19; obind (ref18_Anchor x0 x1) fun (t : ((Int × Int) × (Int × Int) × Int × Int) × Int × PUnit) =>
  let v22 : Bool := bif v19 then decide (t_2.fst.fst.fst = t.fst.fst.fst) && (decide (t_2.fst.fst.snd = t.fst.fst.snd) && true) && (decide (t_2.fst.snd.fst.fst = t.fst.snd.fst.fst) &&
    (decide (t_2.fst.snd.fst.snd = t.fst.snd.fst.snd) && true) && (decide (t_2.fst.snd.snd.fst = t.fst.snd.snd.fst) && (decide (t_2.fst.snd.snd.snd = t.fst.snd.snd.snd) && true) && true))
    else false;
  let v23 : Bool := !v22 || v22; bif v14 && v14 then bif v14 then bif v15 && v15 then bif v15 then bif v18 && v18 then bif v18 then bif v20 && v20 then bif v20 then bif v23 && v23 then bif
    v23 then some (bif v22 then decide (t_2.snd.fst = t.snd.fst) else false) else none else none else none else none else none else none else none else none else none else none else none
    else none else none
noncomputable def law18_BridleTensions (x0 : (Int × Int × Int) × Int × List (ByteArray × (Int × Int × Int) × Int)) (x1 : ByteArray) : Option Bool := law18_BridleTensions_b lpK jnK bridle_Tension bridle_Within law18_awake law18_long bridle_Anchor ref18_Tension ref18_Within ref18_Anchor x0 x1
noncomputable def c5 : Ctr := ⟨[T26, .str], [], [], .one .bool, fun x _ _ => law18_BridleTensions x.1 x.2.1⟩
theorem e5 (lp : Lp) (jn : Jn) (bridle_Tension : ((Int × Int × Int) × Int × List (ByteArray × (Int × Int × Int) × Int)) → (ByteArray) → Option ((Int × Int) × Int × Unit)) (bridle_Within : ((Int × Int × Int) × Int × List (ByteArray × (Int × Int × Int) × Int)) → Option (Bool × Int × Unit)) (law18_awake : Option (Bool)) (law18_long : ((Int × Int × Int) × Int × List (ByteArray × (Int × Int × Int) × Int)) → Option (Bool)) (bridle_Anchor : ((Int × Int × Int) × Int × List (ByteArray × (Int × Int × Int) × Int)) → (ByteArray) → Option (((Int × Int) × (Int × Int) × Int × Int) × Int × Unit)) (ref18_Tension : ((Int × Int × Int) × Int × List (ByteArray × (Int × Int × Int) × Int)) → (ByteArray) → Option ((Int × Int) × Int × Unit)) (ref18_Within : ((Int × Int × Int) × Int × List (ByteArray × (Int × Int × Int) × Int)) → Option (Bool × Int × Unit)) (ref18_Anchor : ((Int × Int × Int) × Int × List (ByteArray × (Int × Int × Int) × Int)) → (ByteArray) → Option (((Int × Int) × (Int × Int) × Int × Int) × Int × Unit)) : ∀ (x : TsS c5.as) (F : TsF c5.fs) (y : TsS c5.cs), law18_BridleTensions_b lp jn bridle_Tension bridle_Within law18_awake law18_long bridle_Anchor ref18_Tension ref18_Within ref18_Anchor x.1 x.2.1 = runC lp jn (ctxOf prog shs inls [(28, ⟨[T26, .str], [], [], .tup [T55, i64], fun x _ _ => ref18_Anchor x.1 x.2.1⟩), (27, ⟨[T26], [], [], .tup [.bool, i64], fun x _ _ => ref18_Within x.1⟩), (26, ⟨[T26, .str], [], [], .tup [T30, i64], fun x _ _ => ref18_Tension x.1 x.2.1⟩), (25, ⟨[T26, .str], [], [], .tup [T55, i64], fun x _ _ => bridle_Anchor x.1 x.2.1⟩), (10, ⟨[T26], [], [], .one .bool, fun x _ _ => law18_long x.1⟩), (9, ⟨[], [], [], .one .bool, fun _ _ _ => law18_awake⟩), (24, ⟨[T26], [], [], .tup [.bool, i64], fun x _ _ => bridle_Within x.1⟩), (23, ⟨[T26, .str], [], [], .tup [T30, i64], fun x _ _ => bridle_Tension x.1 x.2.1⟩)] [(36, r36), (18, r18)]) hints 4 5 f5 c5 x F y := fun x F y => by kernel_rfl
theorem l5 : (ctxOf prog shs inls [(28, c28), (27, c27), (26, c26), (25, c25), (10, c10), (9, c9), (24, c24), (23, c23)] [(36, r36), (18, r18)]).ok := ctxOf_cons (ctxOf_cons (ctxOf_cons (ctxOf_cons (ctxOf_cons (ctxOf_cons (ctxOf_cons (ctxOf_cons (q36) (by kernel_rfl) ok23) (by kernel_rfl) ok24) (by kernel_rfl) ok9) (by kernel_rfl) ok10) (by kernel_rfl) ok25) (by kernel_rfl) ok26) (by kernel_rfl) ok27) (by kernel_rfl) ok28
theorem ok5 : c5.ok prog 5 := Ctr.of_den l5 hmix (hl := hints) (d := 4) func5 rfl (by decide) (e5 lpK jnK bridle_Tension bridle_Within law18_awake law18_long bridle_Anchor ref18_Tension ref18_Within ref18_Anchor)

/-- loftblock loftblocklaw18.BridleMoved$1 -/
noncomputable def law18_BridleMoved_1_b (_ : Lp) (_ : Jn) (x0 : Int × Int × Int) (y0 : Int) (y1 : Int) (y2 : Int) : Option (Int × Int × Int) :=
  some (IntKind.wrap IntKind.i64 (x0.fst + IntKind.wrap IntKind.i64 y0), IntKind.wrap IntKind.i64 (x0.snd.fst + IntKind.wrap IntKind.i64 y1), IntKind.wrap IntKind.i64 (x0.snd.snd +
    IntKind.wrap IntKind.i64 y2))
noncomputable def law18_BridleMoved_1 (x0 : Int × Int × Int) (y0 : Int) (y1 : Int) (y2 : Int) : Option (Int × Int × Int) := law18_BridleMoved_1_b lpK jnK x0 y0 y1 y2
noncomputable def c29 : Ctr := ⟨[T23], [], [(.int .i16), (.int .i16), (.int .i16)], .one T23, fun x _ y => law18_BridleMoved_1 x.1 y.1 y.2.1 y.2.2.1⟩
theorem e29 (lp : Lp) (jn : Jn) : ∀ (x : TsS c29.as) (F : TsF c29.fs) (y : TsS c29.cs), law18_BridleMoved_1_b lp jn x.1 y.1 y.2.1 y.2.2.1 = runC lp jn (ctxOf prog shs inls [] [(36, r36), (18, r18)]) hints 4 29 f29 c29 x F y := fun x F y => by kernel_rfl
theorem l29 : (ctxOf prog shs inls [] [(36, r36), (18, r18)]).ok := q36
theorem ok29 : c29.ok prog 29 := Ctr.of_den l29 hmix (hl := hints) (d := 4) func29 rfl (by decide) (e29 lpK jnK)

/-- loftblock loftblocklaw18.BridleMoved$2 -/
noncomputable def law18_BridleMoved_2_b (_ : Lp) (_ : Jn) (x0 : Int × Int × Int) : Option (Int × Int × Int) :=
  some (IntKind.wrap IntKind.i64 ((0 : Int) - x0.snd.fst), x0.fst, x0.snd.snd)
noncomputable def law18_BridleMoved_2 (x0 : Int × Int × Int) : Option (Int × Int × Int) := law18_BridleMoved_2_b lpK jnK x0
noncomputable def c30 : Ctr := ⟨[T23], [], [], .one T23, fun x _ _ => law18_BridleMoved_2 x.1⟩
theorem e30 (lp : Lp) (jn : Jn) : ∀ (x : TsS c30.as) (F : TsF c30.fs) (y : TsS c30.cs), law18_BridleMoved_2_b lp jn x.1 = runC lp jn (ctxOf prog shs inls [] [(36, r36), (18, r18)]) hints 4 30 f30 c30 x F y := fun x F y => by kernel_rfl
theorem l30 : (ctxOf prog shs inls [] [(36, r36), (18, r18)]).ok := q36
theorem ok30 : c30.ok prog 30 := Ctr.of_den l30 hmix (hl := hints) (d := 4) func30 rfl (by decide) (e30 lpK jnK)

/-- loftblock loftblocklaw18.BridleMoved -/
noncomputable def law18_BridleMoved_b (lp : Lp) (_ : Jn) (bridle_Length : ((Int × Int × Int) × Int × List (ByteArray × (Int × Int × Int) × Int)) → (ByteArray) → Option ((Int × Int) × Int × Unit)) (bridle_Tension : ((Int × Int × Int) × Int × List (ByteArray × (Int × Int × Int) × Int)) → (ByteArray) → Option ((Int × Int) × Int × Unit)) (law18_awake : Option (Bool)) (ref18_Valid : ((Int × Int × Int) × Int × List (ByteArray × (Int × Int × Int) × Int)) → Option (Bool)) (law18_ready : ((Int × Int × Int) × Int × List (ByteArray × (Int × Int × Int) × Int)) → Option (Bool)) (law18_BridleMoved_1 : (Int × Int × Int) → (Int) → (Int) → (Int) → Option (Int × Int × Int)) (law18_BridleMoved_2 : (Int × Int × Int) → Option (Int × Int × Int)) (slices_Clone_18 : (List (ByteArray × (Int × Int × Int) × Int)) → Option (List (ByteArray × (Int × Int × Int) × Int))) (x0 : (Int × Int × Int) × Int × List (ByteArray × (Int × Int × Int) × Int)) (x1 : Int) (x2 : Int) (x3 : Int) : Option Bool :=
  
  let v6 : List ((Int × Int × Int) × Int × List (ByteArray × (Int × Int × Int) × Int)) := []; obind law18_awake fun (t : Bool) => bif !t then some false else obind (law18_ready x0) fun (t :
    Bool) => bif !t then some true else obind (slices_Clone_18 x0.snd.snd) fun (t : List (ByteArray × (Int × Int × Int) × Int)) => obind (slices_Clone_18 x0.snd.snd) fun (t_1 : List
    (ByteArray × (Int × Int × Int) × Int)) => obind (slices_Clone_18 x0.snd.snd) fun (t_2 : List (ByteArray × (Int × Int × Int) × Int)) => obind (law18_BridleMoved_1 x0.fst x1 x2 x3) fun
    (t_3 : Int × Int × Int) => obind (law18_BridleMoved_2 x0.fst) fun (t_4 : Int × Int × Int) => lp (Int × List (ByteArray × (Int × Int × Int) × Int) × List (ByteArray × (Int × Int × Int) ×
    Int) × PUnit) Bool (fun (again : Int × List (ByteArray × (Int × Int × Int) × Int) × List (ByteArray × (Int × Int × Int) × Int) × PUnit → Option Bool) (x : Int × List (ByteArray × (Int ×
    Int × Int) × Int) × List (ByteArray × (Int × Int × Int) × Int) × PUnit) =>
  let v16 : (Int × Int × Int) × Int × List (ByteArray × (Int × Int × Int) × Int) := (t_3, x0.snd.fst, x.snd.fst);
  let v17 : (Int × Int × Int) × Int × List (ByteArray × (Int × Int × Int) × Int) := (t_4, x0.snd.fst, x.snd.snd.fst);
  let v18 : ByteArray × (Int × Int × Int) × Int := List.getD x.snd.fst (Int.toNat x.fst) ({ data := { toList := [] } }, ((0 : Int), (0 : Int), (0 : Int)), (0 : Int));
  let v19 : ByteArray × (Int × Int × Int) × Int := List.getD x.snd.snd.fst (Int.toNat x.fst) ({ data := { toList := [] } }, ((0 : Int), (0 : Int), (0 : Int)), (0 : Int)); bif decide (x.fst
    < (↑(List.length x0.snd.snd) : Int)) then bif inB x.fst (List.length x0.snd.snd) then obind (law18_BridleMoved_1 (List.getD x0.snd.snd (Int.toNat x.fst) ({ data := { toList := [] } },
    ((0 : Int), (0 : Int), (0 : Int)), (0 : Int))).snd.fst x1 x2 x3) fun (t : Int × Int × Int) => obind (law18_BridleMoved_2 (List.getD x0.snd.snd (Int.toNat x.fst) ({ data := { toList :=
    [] } }, ((0 : Int), (0 : Int), (0 : Int)), (0 : Int))).snd.fst) fun (t_5 : Int × Int × Int) => bif inB x.fst (List.length x.snd.fst) then bif Nat.ble (Nat.succ (Int.toNat x.fst))
    (List.length x.snd.fst) then bif inB x.fst (List.length x.snd.snd.fst) then bif Nat.ble (Nat.succ (Int.toNat x.fst)) (List.length x.snd.snd.fst) then again (IntKind.wrap IntKind.i64
    (x.fst + (1 : Int)), List.set x.snd.fst (Int.toNat x.fst) (v18.fst, t, v18.snd.snd), List.set x.snd.snd.fst (Int.toNat x.fst) (v19.fst, t_5, v19.snd.snd), PUnit.unit) else none else
    none else none else none else none else lp (Int × Int × List (ByteArray × (Int × Int × Int) × Int) × PUnit) Bool (fun (again : Int × Int × List (ByteArray × (Int × Int × Int) × Int) ×
    PUnit → Option Bool) (x : Int × Int × List (ByteArray × (Int × Int × Int) × Int) × PUnit) =>
  let v22 : Bool := inB x.fst (List.length x.snd.snd.fst);
  let v23 : Bool := Nat.ble (Nat.succ (Int.toNat x.fst)) (List.length x.snd.snd.fst);
  let v24 : Bool := inB x.snd.fst (List.length x.snd.snd.fst);
  let v25 : Bool := Nat.ble (Nat.succ (Int.toNat x.snd.fst)) (List.length x.snd.snd.fst);
  let v26 : List ((Int × Int × Int) × Int × List (ByteArray × (Int × Int × Int) × Int)) := v16 :: v17 :: (x0.fst, x0.snd.fst, x.snd.snd.fst) :: v6; bif decide (x.fst < x.snd.fst) then bif
    v24 then bif v25 then bif v22 then bif v23 then bif v22 then bif v23 then bif v24 then bif v25 then again (IntKind.wrap IntKind.i64 (x.fst + (1 : Int)), IntKind.wrap IntKind.i64
    (x.snd.fst - (1 : Int)), List.set (List.set x.snd.snd.fst (Int.toNat x.fst) (List.getD x.snd.snd.fst (Int.toNat x.snd.fst) ({ data := { toList := [] } }, ((0 : Int), (0 : Int), (0 :
    Int)), (0 : Int)))) (Int.toNat x.snd.fst) (List.getD x.snd.snd.fst (Int.toNat x.fst) ({ data := { toList := [] } }, ((0 : Int), (0 : Int), (0 : Int)), (0 : Int))), PUnit.unit) else none
    else none else none else none else none else none else none else none else lp (Int × PUnit) Bool (fun (again : Int × PUnit → Option Bool) (x : Int × PUnit) => bif decide (x.fst <
    (↑(List.length x0.snd.snd) : Int)) then bif inB x.fst (List.length x0.snd.snd) then obind (bridle_Tension x0 (List.getD x0.snd.snd (Int.toNat x.fst) ({ data := { toList := [] } }, ((0 :
    Int), (0 : Int), (0 : Int)), (0 : Int))).fst) fun (t : (Int × Int) × Int × PUnit) => obind (bridle_Length x0 (List.getD x0.snd.snd (Int.toNat x.fst) ({ data := { toList := [] } }, ((0 :
    Int), (0 : Int), (0 : Int)), (0 : Int))).fst) fun (t_5 : (Int × Int) × Int × PUnit) => lp (Int × PUnit) Bool (fun (again_1 : Int × PUnit → Option Bool) (x_1 : Int × PUnit) =>
  let v33 : (Int × Int × Int) × Int × List (ByteArray × (Int × Int × Int) × Int) := List.getD v26 (Int.toNat x_1.fst) (((0 : Int), (0 : Int), (0 : Int)), (0 : Int), []); bif decide (x_1.fst
    < (↑(3 : Nat) : Int)) then bif inB x_1.fst (3 : Nat) then obind (ref18_Valid v33) fun (t_6 : Bool) => bif !t_6 then again_1 (IntKind.wrap IntKind.i64 (x_1.fst + (1 : Int)), PUnit.unit)
    else obind (bridle_Tension v33 (List.getD x0.snd.snd (Int.toNat x.fst) ({ data := { toList := [] } }, ((0 : Int), (0 : Int), (0 : Int)), (0 : Int))).fst) fun (t_7 : (Int × Int) × Int ×
    PUnit) =>
  let v36 : Bool := !(decide (t_7.fst.fst = t.fst.fst) && (decide (t_7.fst.snd = t.fst.snd) && true));
  let v37 : Bool := !v36;
  let v38 : Bool := bif v36 then true else !decide (t_7.snd.fst = t.snd.fst);
  let v39 : Bool := !v38;
  let v40 : Bool := !v37 || v37;
  let v41 : Bool := !v39 || v39; obind (bridle_Length v33 (List.getD x0.snd.snd (Int.toNat x.fst) ({ data := { toList := [] } }, ((0 : Int), (0 : Int), (0 : Int)), (0 : Int))).fst) fun (t :
    (Int × Int) × Int × PUnit) =>
  let v43 : Bool := bif v38 then true else !(decide (t.fst.fst = t_5.fst.fst) && (decide (t.fst.snd = t_5.fst.snd) && true));
  let v44 : Bool := !v43;
  let v45 : Bool := !v44 || v44; bif v40 && v40 then bif v36 || v37 then bif v41 && v41 then bif v38 || v39 then bif v45 && v45 then bif v43 || v44 then bif bif v43 then true else !decide
    (t.snd.fst = t_5.snd.fst) then some false else again_1 (IntKind.wrap IntKind.i64 (x_1.fst + (1 : Int)), PUnit.unit) else none else none else none else none else none else none else none
    else again (IntKind.wrap IntKind.i64 (x.fst + (1 : Int)), PUnit.unit)) ((0 : Int), PUnit.unit) else none else some true) ((0 : Int), PUnit.unit)) ((0 : Int), IntKind.wrap IntKind.i64
    ((↑(List.length t_2) : Int) - (1 : Int)), t_2, PUnit.unit)) ((0 : Int), t, t_1, PUnit.unit)
noncomputable def law18_BridleMoved (x0 : (Int × Int × Int) × Int × List (ByteArray × (Int × Int × Int) × Int)) (x1 : Int) (x2 : Int) (x3 : Int) : Option Bool := law18_BridleMoved_b lpK jnK bridle_Length bridle_Tension law18_awake ref18_Valid law18_ready law18_BridleMoved_1 law18_BridleMoved_2 slices_Clone_18 x0 x1 x2 x3
noncomputable def c6 : Ctr := ⟨[T26, (.int .i16), (.int .i16), (.int .i16)], [], [], .one .bool, fun x _ _ => law18_BridleMoved x.1 x.2.1 x.2.2.1 x.2.2.2.1⟩
theorem e6 (lp : Lp) (jn : Jn) (bridle_Length : ((Int × Int × Int) × Int × List (ByteArray × (Int × Int × Int) × Int)) → (ByteArray) → Option ((Int × Int) × Int × Unit)) (bridle_Tension : ((Int × Int × Int) × Int × List (ByteArray × (Int × Int × Int) × Int)) → (ByteArray) → Option ((Int × Int) × Int × Unit)) (law18_awake : Option (Bool)) (ref18_Valid : ((Int × Int × Int) × Int × List (ByteArray × (Int × Int × Int) × Int)) → Option (Bool)) (law18_ready : ((Int × Int × Int) × Int × List (ByteArray × (Int × Int × Int) × Int)) → Option (Bool)) (law18_BridleMoved_1 : (Int × Int × Int) → (Int) → (Int) → (Int) → Option (Int × Int × Int)) (law18_BridleMoved_2 : (Int × Int × Int) → Option (Int × Int × Int)) (slices_Clone_18 : (List (ByteArray × (Int × Int × Int) × Int)) → Option (List (ByteArray × (Int × Int × Int) × Int))) : ∀ (x : TsS c6.as) (F : TsF c6.fs) (y : TsS c6.cs), law18_BridleMoved_b lp jn bridle_Length bridle_Tension law18_awake ref18_Valid law18_ready law18_BridleMoved_1 law18_BridleMoved_2 slices_Clone_18 x.1 x.2.1 x.2.2.1 x.2.2.2.1 = runC lp jn (ctxOf prog shs inls [(30, ⟨[T23], [], [], .one T23, fun x _ _ => law18_BridleMoved_2 x.1⟩), (29, ⟨[T23], [], [(.int .i16), (.int .i16), (.int .i16)], .one T23, fun x _ y => law18_BridleMoved_1 x.1 y.1 y.2.1 y.2.2.1⟩), (17, ⟨[T26], [], [], .one .bool, fun x _ _ => law18_ready x.1⟩), (13, ⟨[T26], [], [], .one .bool, fun x _ _ => ref18_Valid x.1⟩), (9, ⟨[], [], [], .one .bool, fun _ _ _ => law18_awake⟩), (23, ⟨[T26, .str], [], [], .tup [T30, i64], fun x _ _ => bridle_Tension x.1 x.2.1⟩), (11, ⟨[T26, .str], [], [], .tup [T30, i64], fun x _ _ => bridle_Length x.1 x.2.1⟩)] [(36, r36), (18, ⟨[(.sl T39)], 39, T39, fun x => slices_Clone_18 x.1⟩)]) hints 4 6 f6 c6 x F y := fun x F y => by kernel_rfl
theorem l6 : (ctxOf prog shs inls [(30, c30), (29, c29), (17, c17), (13, c13), (9, c9), (23, c23), (11, c11)] [(36, r36), (18, r18)]).ok := ctxOf_cons (ctxOf_cons (ctxOf_cons (ctxOf_cons (ctxOf_cons (ctxOf_cons (ctxOf_cons (q36) (by kernel_rfl) ok11) (by kernel_rfl) ok23) (by kernel_rfl) ok9) (by kernel_rfl) ok13) (by kernel_rfl) ok17) (by kernel_rfl) ok29) (by kernel_rfl) ok30
theorem ok6 : c6.ok prog 6 := Ctr.of_den l6 hmix (hl := hints) (d := 4) func6 rfl (by decide) (e6 lpK jnK bridle_Length bridle_Tension law18_awake ref18_Valid law18_ready law18_BridleMoved_1 law18_BridleMoved_2 slices_Clone_18)

/-- loftblock points.Length -/
noncomputable def points_Length_b (_ : Lp) (_ : Jn) (points_Square : (Int × Int × Int) → (Int × Int × Int) → Option (Int × Int × Unit)) (points_Root : (Int) → Option ((Int × Int) × Int × Unit)) (x0 : Int × Int × Int) (x1 : Int × Int × Int) : Option ((Int × Int) × Int × Unit) :=
  obind (points_Square x0 x1) fun (t : Int × Int × PUnit) => bif !decide (t.snd.fst = (0 : Int)) then some (((0 : Int), (0 : Int)), t.snd.fst, PUnit.unit) else obind (points_Root t.fst) fun
    (t : (Int × Int) × Int × PUnit) => some (t.fst, t.snd.fst, PUnit.unit)
noncomputable def points_Length (x0 : Int × Int × Int) (x1 : Int × Int × Int) : Option ((Int × Int) × Int × Unit) := points_Length_b lpK jnK points_Square points_Root x0 x1
noncomputable def c32 : Ctr := ⟨[T23, T23], [], [], .tup [T30, i64], fun x _ _ => points_Length x.1 x.2.1⟩
theorem e32 (lp : Lp) (jn : Jn) (points_Square : (Int × Int × Int) → (Int × Int × Int) → Option (Int × Int × Unit)) (points_Root : (Int) → Option ((Int × Int) × Int × Unit)) : ∀ (x : TsS c32.as) (F : TsF c32.fs) (y : TsS c32.cs), points_Length_b lp jn points_Square points_Root x.1 x.2.1 = runC lp jn (ctxOf prog shs inls [(70, ⟨[i64], [], [], .tup [T30, i64], fun x _ _ => points_Root x.1⟩), (69, ⟨[T23, T23], [], [], .tup [i64, i64], fun x _ _ => points_Square x.1 x.2.1⟩)] [(36, r36), (18, r18)]) hints 4 32 f32 c32 x F y := fun x F y => by kernel_rfl
theorem l32 : (ctxOf prog shs inls [(70, c70), (69, c69)] [(36, r36), (18, r18)]).ok := ctxOf_cons (ctxOf_cons (q36) (by kernel_rfl) ok69) (by kernel_rfl) ok70
theorem ok32 : c32.ok prog 32 := Ctr.of_den l32 hmix (hl := hints) (d := 4) func32 rfl (by decide) (e32 lpK jnK points_Square points_Root)

/-- loftblock loftblocklaw18.BridleStrong -/
noncomputable def law18_BridleStrong_b (lp : Lp) (_ : Jn) (bridle_Pulls : ((Int × Int × Int) × Int × List (ByteArray × (Int × Int × Int) × Int)) → Option ((List (Int × Int)) × Int × Unit)) (ratio_Mul : (Int × Int) → (Int × Int) → Option ((Int × Int) × Int × Unit)) (bridle_Tension : ((Int × Int × Int) × Int × List (ByteArray × (Int × Int × Int) × Int)) → (ByteArray) → Option ((Int × Int) × Int × Unit)) (bridle_Within : ((Int × Int × Int) × Int × List (ByteArray × (Int × Int × Int) × Int)) → Option (Bool × Int × Unit)) (law18_awake : Option (Bool)) (law18_ready : ((Int × Int × Int) × Int × List (ByteArray × (Int × Int × Int) × Int)) → Option (Bool)) (ref02_Floor : (Int × Int) → Option (Int)) (points_Length : (Int × Int × Int) → (Int × Int × Int) → Option ((Int × Int) × Int × Unit)) (slices_Clone_18 : (List (ByteArray × (Int × Int × Int) × Int)) → Option (List (ByteArray × (Int × Int × Int) × Int))) (x0 : (Int × Int × Int) × Int × List (ByteArray × (Int × Int × Int) × Int)) (x1 : Int) : Option Bool :=
  obind law18_awake fun (t : Bool) => bif !t then some false else obind (law18_ready x0) fun (t : Bool) => bif !t then some true else obind (bridle_Within x0) fun (t : Bool × Int × PUnit) =>
  let v7 : Bool := !t.fst;
  let v8 : Bool := !v7;
  let v9 : Bool := v8 || v7; obind (bridle_Pulls x0) fun (t_1 : List (Int × Int) × Int × PUnit) =>
  let v11 : Bool := !decide (t_1.snd.fst = (0 : Int));
  let v12 : Bool := !v11;
  let v13 : Bool := decide (t_1.snd.fst = t.snd.fst);
  let v14 : Bool := v7 && !v13;
  let v15 : Bool := !v12 || v12; bif !decide (t.snd.fst = (0 : Int)) then bif v9 && v9 then bif v9 then bif !v14 || v14 then bif (v8 || v9) && (v8 || (v13 || (v8 || v14))) then bif v9 then
    some (bif v7 then bif v13 then true else decide (t.snd.fst = (5 : Int)) else false) else none else none else none else none else none else bif v15 then bif v15 then bif v15 then bif v15
    && v15 then bif v11 || v12 then bif bif v11 then true else !decide ((↑(List.length t_1.fst) : Int) = (↑(List.length x0.snd.snd) : Int)) then some false else lp (Bool × Int × PUnit) Bool
    (fun (again : Bool × Int × PUnit → Option Bool) (x : Bool × Int × PUnit) =>
  let v18 : Bool := !x.fst || x.fst;
  let v19 : Bool := inB x.snd.fst (List.length t_1.fst);
  let v20 : Int × PUnit := (IntKind.wrap IntKind.i64 (x.snd.fst + (1 : Int)), PUnit.unit);
  let v21 : ByteArray × (Int × Int × Int) × Int := List.getD x0.snd.snd (Int.toNat x.snd.fst) ({ data := { toList := [] } }, ((0 : Int), (0 : Int), (0 : Int)), (0 : Int));
  let v22 : Int := if IntKind.wrap IntKind.i64 (v21.snd.fst.snd.snd - x0.fst.snd.snd) > (0 : Int) then IntKind.wrap IntKind.i64 (v21.snd.fst.snd.snd - x0.fst.snd.snd) else (0 : Int); bif
    decide (x.snd.fst < (↑(List.length x0.snd.snd) : Int)) then bif inB x.snd.fst (List.length x0.snd.snd) then obind (bridle_Tension x0 v21.fst) fun (t : (Int × Int) × Int × PUnit) =>
  let v24 : Bool := decide (t.fst.fst < (0 : Int));
  let v25 : Bool := !v24;
  let v26 : Bool := !v25 || v25; bif v19 then bif decide ((List.getD t_1.fst (Int.toNat x.snd.fst) ((0 : Int), (0 : Int))).fst < (0 : Int)) then bif !decide (t.snd.fst = (13 : Int)) then
    some false else again (false, v20) else bif !decide (t.snd.fst = (0 : Int)) then some (decide (t.snd.fst = (5 : Int))) else bif v18 then bif v18 then bif v18 && v18 then bif v18 then
    bif v26 then bif v26 then bif v26 && v26 then bif v24 || v25 then bif bif v24 then true else decide (t.fst.fst > t.fst.snd) then some false else obind (points_Length x0.fst v21.snd.fst)
    fun (t_2 : (Int × Int) × Int × PUnit) =>
  let v28 : Bool := !decide (t_2.snd.fst = (0 : Int));
  let v29 : Bool := !v28;
  let v30 : Bool := !v29 || v29; bif v30 then bif v30 && v30 then bif v28 || v29 then bif bif v28 then true else decide (t_2.fst.snd < v22) then some false else bif v19 then obind
    (ratio_Mul (List.getD t_1.fst (Int.toNat x.snd.fst) ((0 : Int), (0 : Int))) (v22, (1 : Int))) fun (t_3 : (Int × Int) × Int × PUnit) =>
  let v32 : Bool := decide (t_3.snd.fst = (0 : Int));
  let v33 : Bool := !v32 || v32; bif v33 then obind (bif v32 then ref02_Floor t_3.fst else some (0 : Int)) fun (t_4 : Int) => bif v33 then bif v33 && v33 then bif v33 then bif bif v32 then
    decide (t_4 > t.fst.snd) else false then some false else again (bif x.fst then decide (t.fst.snd ≤ v21.snd.snd) else false, v20) else none else none else none else none else none else
    none else none else none else none else none else none else none else none else none else none else none else none else none else bif !decide (t.fst = x.fst) then some false else obind
    (slices_Clone_18 x0.snd.snd) fun (t : List (ByteArray × (Int × Int × Int) × Int)) => lp (Int × List (ByteArray × (Int × Int × Int) × Int) × PUnit) Bool (fun (again : Int × List
    (ByteArray × (Int × Int × Int) × Int) × PUnit → Option Bool) (x : Int × List (ByteArray × (Int × Int × Int) × Int) × PUnit) =>
  let v26 : Bool := inB x.fst (List.length x.snd.fst);
  let v27 : Bool := Nat.ble (Nat.succ (Int.toNat x.fst)) (List.length x.snd.fst);
  let v28 : ByteArray × (Int × Int × Int) × Int := List.getD x.snd.fst (Int.toNat x.fst) ({ data := { toList := [] } }, ((0 : Int), (0 : Int), (0 : Int)), (0 : Int)); bif decide (x.fst <
    (↑(List.length t) : Int)) then bif v26 then bif v27 then bif v26 then bif v27 then again (IntKind.wrap IntKind.i64 (x.fst + (1 : Int)), List.set x.snd.fst (Int.toNat x.fst) (v28.fst,
    v28.snd.fst, if IntKind.wrap IntKind.i64 (v28.snd.snd + IntKind.wrap IntKind.i64 x1) < (67108864 : Int) then IntKind.wrap IntKind.i64 (v28.snd.snd + IntKind.wrap IntKind.i64 x1) else
    (67108864 : Int)), PUnit.unit) else none else none else none else none else obind (bridle_Within (x0.fst, x0.snd.fst, x.snd.fst)) fun (t : Bool × Int × PUnit) =>
  let v30 : Bool := decide (t.snd.fst = (0 : Int));
  let v31 : Bool := !v30;
  let v32 : Bool := v30 && !t.fst;
  let v33 : Bool := v31 || v30; bif v33 then bif !v32 || v32 then bif (v31 || v33) && (v31 || (t.fst || (v31 || v32))) then bif v33 then some (bif v30 then bif t.fst then true else v7 else
    false) else none else none else none else none) ((0 : Int), t, PUnit.unit)) (true, (0 : Int), PUnit.unit) else none else none else none else none else none
noncomputable def law18_BridleStrong (x0 : (Int × Int × Int) × Int × List (ByteArray × (Int × Int × Int) × Int)) (x1 : Int) : Option Bool := law18_BridleStrong_b lpK jnK bridle_Pulls ratio_Mul bridle_Tension bridle_Within law18_awake law18_ready ref02_Floor points_Length slices_Clone_18 x0 x1
noncomputable def c7 : Ctr := ⟨[T26, (.int .u16)], [], [], .one .bool, fun x _ _ => law18_BridleStrong x.1 x.2.1⟩
theorem e7 (lp : Lp) (jn : Jn) (bridle_Pulls : ((Int × Int × Int) × Int × List (ByteArray × (Int × Int × Int) × Int)) → Option ((List (Int × Int)) × Int × Unit)) (ratio_Mul : (Int × Int) → (Int × Int) → Option ((Int × Int) × Int × Unit)) (bridle_Tension : ((Int × Int × Int) × Int × List (ByteArray × (Int × Int × Int) × Int)) → (ByteArray) → Option ((Int × Int) × Int × Unit)) (bridle_Within : ((Int × Int × Int) × Int × List (ByteArray × (Int × Int × Int) × Int)) → Option (Bool × Int × Unit)) (law18_awake : Option (Bool)) (law18_ready : ((Int × Int × Int) × Int × List (ByteArray × (Int × Int × Int) × Int)) → Option (Bool)) (ref02_Floor : (Int × Int) → Option (Int)) (points_Length : (Int × Int × Int) → (Int × Int × Int) → Option ((Int × Int) × Int × Unit)) (slices_Clone_18 : (List (ByteArray × (Int × Int × Int) × Int)) → Option (List (ByteArray × (Int × Int × Int) × Int))) : ∀ (x : TsS c7.as) (F : TsF c7.fs) (y : TsS c7.cs), law18_BridleStrong_b lp jn bridle_Pulls ratio_Mul bridle_Tension bridle_Within law18_awake law18_ready ref02_Floor points_Length slices_Clone_18 x.1 x.2.1 = runC lp jn (ctxOf prog shs inls [(32, ⟨[T23, T23], [], [], .tup [T30, i64], fun x _ _ => points_Length x.1 x.2.1⟩), (33, ⟨[T48], [], [], .one i64, fun x _ _ => ref02_Floor x.1⟩), (17, ⟨[T26], [], [], .one .bool, fun x _ _ => law18_ready x.1⟩), (9, ⟨[], [], [], .one .bool, fun _ _ _ => law18_awake⟩), (24, ⟨[T26], [], [], .tup [.bool, i64], fun x _ _ => bridle_Within x.1⟩), (23, ⟨[T26, .str], [], [], .tup [T30, i64], fun x _ _ => bridle_Tension x.1 x.2.1⟩), (22, ⟨[T48, T48], [], [], .tup [T48, i64], fun x _ _ => ratio_Mul x.1 x.2.1⟩), (20, ⟨[T26], [], [], .tup [(.sl T48), i64], fun x _ _ => bridle_Pulls x.1⟩)] [(36, r36), (18, ⟨[(.sl T39)], 39, T39, fun x => slices_Clone_18 x.1⟩)]) hints 4 7 f7 c7 x F y := fun x F y => by kernel_rfl
theorem l7 : (ctxOf prog shs inls [(32, c32), (33, c33), (17, c17), (9, c9), (24, c24), (23, c23), (22, c22), (20, c20)] [(36, r36), (18, r18)]).ok := ctxOf_cons (ctxOf_cons (ctxOf_cons (ctxOf_cons (ctxOf_cons (ctxOf_cons (ctxOf_cons (ctxOf_cons (q36) (by kernel_rfl) ok20) (by kernel_rfl) ok22) (by kernel_rfl) ok23) (by kernel_rfl) ok24) (by kernel_rfl) ok9) (by kernel_rfl) ok17) (by kernel_rfl) ok33) (by kernel_rfl) ok32
theorem ok7 : c7.ok prog 7 := Ctr.of_den l7 hmix (hl := hints) (d := 4) func7 rfl (by decide) (e7 lpK jnK bridle_Pulls ratio_Mul bridle_Tension bridle_Within law18_awake law18_ready ref02_Floor points_Length slices_Clone_18)

/-- loftblock ratio.plus -/
noncomputable def ratio_plus_b (_ : Lp) (_ : Jn) (x0 : Int × Int) (x1 : Int × Int) : Option (Int × Int) :=
  bif decide ((0 : Int) ≤ (0 : Int)) && decide ((0 : Int) ≤ (1 : Int)) then bif decide ((0 : Int) ≤ addC x0.snd x1.snd (0 : Int)) && decide (addC x0.snd x1.snd (0 : Int) ≤ (1 : Int)) then
    some (addO x0.fst x1.fst (addC x0.snd x1.snd (0 : Int)), addO x0.snd x1.snd (0 : Int)) else none else none
noncomputable def ratio_plus (x0 : Int × Int) (x1 : Int × Int) : Option (Int × Int) := ratio_plus_b lpK jnK x0 x1
noncomputable def c72 : Ctr := ⟨[T94, T94], [], [], .one T94, fun x _ _ => ratio_plus x.1 x.2.1⟩
theorem e72 (lp : Lp) (jn : Jn) : ∀ (x : TsS c72.as) (F : TsF c72.fs) (y : TsS c72.cs), ratio_plus_b lp jn x.1 x.2.1 = runC lp jn (ctxOf prog shs inls [] [(36, r36), (18, r18)]) hints 4 72 f72 c72 x F y := fun x F y => by kernel_rfl
theorem l72 : (ctxOf prog shs inls [] [(36, r36), (18, r18)]).ok := q36
theorem ok72 : c72.ok prog 72 := Ctr.of_den l72 hmix (hl := hints) (d := 4) func72 rfl (by decide) (e72 lpK jnK)

/-- loftblock ratio.less -/
noncomputable def ratio_less_b (_ : Lp) (_ : Jn) (x0 : Int × Int) (x1 : Int × Int) : Option Bool :=
  
  let v4 : Bool := decide (x0.fst = x1.fst);
  let v5 : Bool := decide (x0.fst < x1.fst);
  let v6 : Bool := !v5;
  let v7 : Bool := !v6;
  let v8 : Bool := v6 && v4;
  let v9 : Bool := v7 || v6;
  let v10 : Bool := !v8 || v8; bif v9 then bif v9 then bif v9 && v9 then bif v9 then bif v10 then bif v10 then bif v10 && v10 then bif (v7 || v9) && (v7 || (!v4 || (v7 || v8))) then bif v5
    || v6 then some (bif v5 then true else bif v4 then decide (x0.snd < x1.snd) else false) else none else none else none else none else none else none else none else none else none
noncomputable def ratio_less (x0 : Int × Int) (x1 : Int × Int) : Option Bool := ratio_less_b lpK jnK x0 x1
noncomputable def c73 : Ctr := ⟨[T94, T94], [], [], .one .bool, fun x _ _ => ratio_less x.1 x.2.1⟩
theorem e73 (lp : Lp) (jn : Jn) : ∀ (x : TsS c73.as) (F : TsF c73.fs) (y : TsS c73.cs), ratio_less_b lp jn x.1 x.2.1 = runC lp jn (ctxOf prog shs inls [] [(36, r36), (18, r18)]) hints 4 73 f73 c73 x F y := fun x F y => by kernel_rfl
theorem l73 : (ctxOf prog shs inls [] [(36, r36), (18, r18)]).ok := q36
theorem ok73 : c73.ok prog 73 := Ctr.of_den l73 hmix (hl := hints) (d := 4) func73 rfl (by decide) (e73 lpK jnK)

/-- loftblock ratio.minus -/
noncomputable def ratio_minus_b (_ : Lp) (_ : Jn) (x0 : Int × Int) (x1 : Int × Int) : Option (Int × Int) :=
  bif decide ((0 : Int) ≤ (0 : Int)) && decide ((0 : Int) ≤ (1 : Int)) then bif decide ((0 : Int) ≤ subC x0.snd x1.snd (0 : Int)) && decide (subC x0.snd x1.snd (0 : Int) ≤ (1 : Int)) then
    some (subO x0.fst x1.fst (subC x0.snd x1.snd (0 : Int)), subO x0.snd x1.snd (0 : Int)) else none else none
noncomputable def ratio_minus (x0 : Int × Int) (x1 : Int × Int) : Option (Int × Int) := ratio_minus_b lpK jnK x0 x1
noncomputable def c74 : Ctr := ⟨[T94, T94], [], [], .one T94, fun x _ _ => ratio_minus x.1 x.2.1⟩
theorem e74 (lp : Lp) (jn : Jn) : ∀ (x : TsS c74.as) (F : TsF c74.fs) (y : TsS c74.cs), ratio_minus_b lp jn x.1 x.2.1 = runC lp jn (ctxOf prog shs inls [] [(36, r36), (18, r18)]) hints 4 74 f74 c74 x F y := fun x F y => by kernel_rfl
theorem l74 : (ctxOf prog shs inls [] [(36, r36), (18, r18)]).ok := q36
theorem ok74 : c74.ok prog 74 := Ctr.of_den l74 hmix (hl := hints) (d := 4) func74 rfl (by decide) (e74 lpK jnK)

/-- math bits.Len64 -/
noncomputable def bits_Len64_b (_ : Lp) (jn : Jn) (x0 : Int) : Option Int :=
  jn (Int × Int × PUnit) Int (fun (x : Int × Int × PUnit) => jn (Int × Int × PUnit) Int (fun (x : Int × Int × PUnit) =>
  let v5 : Int := IntKind.wrap IntKind.u8 x.fst;
  let v6 : Int := IntKind.wrap IntKind.u8 (Int.fdiv x.fst ((2 : Int) ^ (8 : Nat))); bif decide (x.fst ≥ (256 : Int)) then bif decide ((0 : Int) ≤ (8 : Int)) then bif inB v6 (256 : Nat) then
    some (IntKind.wrap IntKind.i64 (IntKind.wrap IntKind.i64 (x.snd.fst + (8 : Int)) + IntKind.wrap IntKind.i64 (byteAt { data := List.toArray (List.append (List.append [(0 : UInt8), (1 :
    UInt8), (2 : UInt8), (2 : UInt8), (3 : UInt8), (3 : UInt8), (3 : UInt8), (3 : UInt8), (4 : UInt8), (4 : UInt8), (4 : UInt8), (4 : UInt8), (4 : UInt8), (4 : UInt8), (4 : UInt8), (4 :
    UInt8), (5 : UInt8), (5 : UInt8), (5 : UInt8), (5 : UInt8), (5 : UInt8), (5 : UInt8), (5 : UInt8), (5 : UInt8), (5 : UInt8), (5 : UInt8), (5 : UInt8), (5 : UInt8), (5 : UInt8), (5 :
    UInt8), (5 : UInt8), (5 : UInt8), (6 : UInt8), (6 : UInt8), (6 : UInt8), (6 : UInt8), (6 : UInt8), (6 : UInt8), (6 : UInt8), (6 : UInt8), (6 : UInt8), (6 : UInt8), (6 : UInt8), (6 :
    UInt8), (6 : UInt8), (6 : UInt8), (6 : UInt8), (6 : UInt8), (6 : UInt8), (6 : UInt8), (6 : UInt8), (6 : UInt8), (6 : UInt8), (6 : UInt8), (6 : UInt8), (6 : UInt8), (6 : UInt8), (6 :
    UInt8), (6 : UInt8), (6 : UInt8), (6 : UInt8), (6 : UInt8), (6 : UInt8), (6 : UInt8)] [(7 : UInt8), (7 : UInt8), (7 : UInt8), (7 : UInt8), (7 : UInt8), (7 : UInt8), (7 : UInt8), (7 :
    UInt8), (7 : UInt8), (7 : UInt8), (7 : UInt8), (7 : UInt8), (7 : UInt8), (7 : UInt8), (7 : UInt8), (7 : UInt8), (7 : UInt8), (7 : UInt8), (7 : UInt8), (7 : UInt8), (7 : UInt8), (7 :
    UInt8), (7 : UInt8), (7 : UInt8), (7 : UInt8), (7 : UInt8), (7 : UInt8), (7 : UInt8), (7 : UInt8), (7 : UInt8), (7 : UInt8), (7 : UInt8), (7 : UInt8), (7 : UInt8), (7 : UInt8), (7 :
    UInt8), (7 : UInt8), (7 : UInt8), (7 : UInt8), (7 : UInt8), (7 : UInt8), (7 : UInt8), (7 : UInt8), (7 : UInt8), (7 : UInt8), (7 : UInt8), (7 : UInt8), (7 : UInt8), (7 : UInt8), (7 :
    UInt8), (7 : UInt8), (7 : UInt8), (7 : UInt8), (7 : UInt8), (7 : UInt8), (7 : UInt8), (7 : UInt8), (7 : UInt8), (7 : UInt8), (7 : UInt8), (7 : UInt8), (7 : UInt8), (7 : UInt8), (7 :
    UInt8)]) (List.append [(8 : UInt8), (8 : UInt8), (8 : UInt8), (8 : UInt8), (8 : UInt8), (8 : UInt8), (8 : UInt8), (8 : UInt8), (8 : UInt8), (8 : UInt8), (8 : UInt8), (8 : UInt8), (8 :
    UInt8), (8 : UInt8), (8 : UInt8), (8 : UInt8), (8 : UInt8), (8 : UInt8), (8 : UInt8), (8 : UInt8), (8 : UInt8), (8 : UInt8), (8 : UInt8), (8 : UInt8), (8 : UInt8), (8 : UInt8), (8 :
    UInt8), (8 : UInt8), (8 : UInt8), (8 : UInt8), (8 : UInt8), (8 : UInt8), (8 : UInt8), (8 : UInt8), (8 : UInt8), (8 : UInt8), (8 : UInt8), (8 : UInt8), (8 : UInt8), (8 : UInt8), (8 :
    UInt8), (8 : UInt8), (8 : UInt8), (8 : UInt8), (8 : UInt8), (8 : UInt8), (8 : UInt8), (8 : UInt8), (8 : UInt8), (8 : UInt8), (8 : UInt8), (8 : UInt8), (8 : UInt8), (8 : UInt8), (8 :
    UInt8), (8 : UInt8), (8 : UInt8), (8 : UInt8), (8 : UInt8), (8 : UInt8), (8 : UInt8), (8 : UInt8), (8 : UInt8), (8 : UInt8)] [(8 : UInt8), (8 : UInt8), (8 : UInt8), (8 : UInt8), (8 :
    UInt8), (8 : UInt8), (8 : UInt8), (8 : UInt8), (8 : UInt8), (8 : UInt8), (8 : UInt8), (8 : UInt8), (8 : UInt8), (8 : UInt8), (8 : UInt8), (8 : UInt8), (8 : UInt8), (8 : UInt8), (8 :
    UInt8), (8 : UInt8), (8 : UInt8), (8 : UInt8), (8 : UInt8), (8 : UInt8), (8 : UInt8), (8 : UInt8), (8 : UInt8), (8 : UInt8), (8 : UInt8), (8 : UInt8), (8 : UInt8), (8 : UInt8), (8 :
    UInt8), (8 : UInt8), (8 : UInt8), (8 : UInt8), (8 : UInt8), (8 : UInt8), (8 : UInt8), (8 : UInt8), (8 : UInt8), (8 : UInt8), (8 : UInt8), (8 : UInt8), (8 : UInt8), (8 : UInt8), (8 :
    UInt8), (8 : UInt8), (8 : UInt8), (8 : UInt8), (8 : UInt8), (8 : UInt8), (8 : UInt8), (8 : UInt8), (8 : UInt8), (8 : UInt8), (8 : UInt8), (8 : UInt8), (8 : UInt8), (8 : UInt8), (8 :
    UInt8), (8 : UInt8), (8 : UInt8), (8 : UInt8)])) } (Int.toNat v6)))) else none else none else bif inB v5 (256 : Nat) then some (IntKind.wrap IntKind.i64 (x.snd.fst + IntKind.wrap
    IntKind.i64 (byteAt { data := List.toArray (List.append (List.append [(0 : UInt8), (1 : UInt8), (2 : UInt8), (2 : UInt8), (3 : UInt8), (3 : UInt8), (3 : UInt8), (3 : UInt8), (4 :
    UInt8), (4 : UInt8), (4 : UInt8), (4 : UInt8), (4 : UInt8), (4 : UInt8), (4 : UInt8), (4 : UInt8), (5 : UInt8), (5 : UInt8), (5 : UInt8), (5 : UInt8), (5 : UInt8), (5 : UInt8), (5 :
    UInt8), (5 : UInt8), (5 : UInt8), (5 : UInt8), (5 : UInt8), (5 : UInt8), (5 : UInt8), (5 : UInt8), (5 : UInt8), (5 : UInt8), (6 : UInt8), (6 : UInt8), (6 : UInt8), (6 : UInt8), (6 :
    UInt8), (6 : UInt8), (6 : UInt8), (6 : UInt8), (6 : UInt8), (6 : UInt8), (6 : UInt8), (6 : UInt8), (6 : UInt8), (6 : UInt8), (6 : UInt8), (6 : UInt8), (6 : UInt8), (6 : UInt8), (6 :
    UInt8), (6 : UInt8), (6 : UInt8), (6 : UInt8), (6 : UInt8), (6 : UInt8), (6 : UInt8), (6 : UInt8), (6 : UInt8), (6 : UInt8), (6 : UInt8), (6 : UInt8), (6 : UInt8), (6 : UInt8)] [(7 :
    UInt8), (7 : UInt8), (7 : UInt8), (7 : UInt8), (7 : UInt8), (7 : UInt8), (7 : UInt8), (7 : UInt8), (7 : UInt8), (7 : UInt8), (7 : UInt8), (7 : UInt8), (7 : UInt8), (7 : UInt8), (7 :
    UInt8), (7 : UInt8), (7 : UInt8), (7 : UInt8), (7 : UInt8), (7 : UInt8), (7 : UInt8), (7 : UInt8), (7 : UInt8), (7 : UInt8), (7 : UInt8), (7 : UInt8), (7 : UInt8), (7 : UInt8), (7 :
    UInt8), (7 : UInt8), (7 : UInt8), (7 : UInt8), (7 : UInt8), (7 : UInt8), (7 : UInt8), (7 : UInt8), (7 : UInt8), (7 : UInt8), (7 : UInt8), (7 : UInt8), (7 : UInt8), (7 : UInt8), (7 :
    UInt8), (7 : UInt8), (7 : UInt8), (7 : UInt8), (7 : UInt8), (7 : UInt8), (7 : UInt8), (7 : UInt8), (7 : UInt8), (7 : UInt8), (7 : UInt8), (7 : UInt8), (7 : UInt8), (7 : UInt8), (7 :
    UInt8), (7 : UInt8), (7 : UInt8), (7 : UInt8), (7 : UInt8), (7 : UInt8), (7 : UInt8), (7 : UInt8)]) (List.append [(8 : UInt8), (8 : UInt8), (8 : UInt8), (8 : UInt8), (8 : UInt8), (8 :
    UInt8), (8 : UInt8), (8 : UInt8), (8 : UInt8), (8 : UInt8), (8 : UInt8), (8 : UInt8), (8 : UInt8), (8 : UInt8), (8 : UInt8), (8 : UInt8), (8 : UInt8), (8 : UInt8), (8 : UInt8), (8 :
    UInt8), (8 : UInt8), (8 : UInt8), (8 : UInt8), (8 : UInt8), (8 : UInt8), (8 : UInt8), (8 : UInt8), (8 : UInt8), (8 : UInt8), (8 : UInt8), (8 : UInt8), (8 : UInt8), (8 : UInt8), (8 :
    UInt8), (8 : UInt8), (8 : UInt8), (8 : UInt8), (8 : UInt8), (8 : UInt8), (8 : UInt8), (8 : UInt8), (8 : UInt8), (8 : UInt8), (8 : UInt8), (8 : UInt8), (8 : UInt8), (8 : UInt8), (8 :
    UInt8), (8 : UInt8), (8 : UInt8), (8 : UInt8), (8 : UInt8), (8 : UInt8), (8 : UInt8), (8 : UInt8), (8 : UInt8), (8 : UInt8), (8 : UInt8), (8 : UInt8), (8 : UInt8), (8 : UInt8), (8 :
    UInt8), (8 : UInt8), (8 : UInt8)] [(8 : UInt8), (8 : UInt8), (8 : UInt8), (8 : UInt8), (8 : UInt8), (8 : UInt8), (8 : UInt8), (8 : UInt8), (8 : UInt8), (8 : UInt8), (8 : UInt8), (8 :
    UInt8), (8 : UInt8), (8 : UInt8), (8 : UInt8), (8 : UInt8), (8 : UInt8), (8 : UInt8), (8 : UInt8), (8 : UInt8), (8 : UInt8), (8 : UInt8), (8 : UInt8), (8 : UInt8), (8 : UInt8), (8 :
    UInt8), (8 : UInt8), (8 : UInt8), (8 : UInt8), (8 : UInt8), (8 : UInt8), (8 : UInt8), (8 : UInt8), (8 : UInt8), (8 : UInt8), (8 : UInt8), (8 : UInt8), (8 : UInt8), (8 : UInt8), (8 :
    UInt8), (8 : UInt8), (8 : UInt8), (8 : UInt8), (8 : UInt8), (8 : UInt8), (8 : UInt8), (8 : UInt8), (8 : UInt8), (8 : UInt8), (8 : UInt8), (8 : UInt8), (8 : UInt8), (8 : UInt8), (8 :
    UInt8), (8 : UInt8), (8 : UInt8), (8 : UInt8), (8 : UInt8), (8 : UInt8), (8 : UInt8), (8 : UInt8), (8 : UInt8), (8 : UInt8), (8 : UInt8)])) } (Int.toNat v5)))) else none) fun (j : Int ×
    Int × PUnit → Option Int) => bif decide (x.fst ≥ (65536 : Int)) then bif decide ((0 : Int) ≤ (16 : Int)) then j (Int.fdiv x.fst ((2 : Int) ^ (16 : Nat)), IntKind.wrap IntKind.i64
    (x.snd.fst + (16 : Int)), PUnit.unit) else none else j (x.fst, x.snd.fst, PUnit.unit)) fun (j : Int × Int × PUnit → Option Int) => bif decide (x0 ≥ (4294967296 : Int)) then bif decide
    ((0 : Int) ≤ (32 : Int)) then j (Int.fdiv x0 ((2 : Int) ^ (32 : Nat)), (32 : Int), PUnit.unit) else none else j (x0, (0 : Int), PUnit.unit)
noncomputable def bits_Len64 (x0 : Int) : Option Int := bits_Len64_b lpK jnK x0
noncomputable def c126 : Ctr := ⟨[(.int .u64)], [], [], .one i64, fun x _ _ => bits_Len64 x.1⟩
theorem e126 (lp : Lp) (jn : Jn) : ∀ (x : TsS c126.as) (F : TsF c126.fs) (y : TsS c126.cs), bits_Len64_b lp jn x.1 = runC lp jn (ctxOf prog shs inls [] [(36, r36), (18, r18)]) hints 4 126 f126 c126 x F y := fun x F y => by kernel_rfl
theorem l126 : (ctxOf prog shs inls [] [(36, r36), (18, r18)]).ok := q36
theorem ok126 : c126.ok prog 126 := Ctr.of_den l126 hmix (hl := hints) (d := 4) func126 rfl (by decide) (e126 lpK jnK)

/-- math bits.LeadingZeros64 -/
noncomputable def bits_LeadingZeros64_b (_ : Lp) (_ : Jn) (bits_Len64 : (Int) → Option (Int)) (x0 : Int) : Option Int :=
  obind (bits_Len64 x0) fun (t : Int) => some (IntKind.wrap IntKind.i64 ((64 : Int) - t))
noncomputable def bits_LeadingZeros64 (x0 : Int) : Option Int := bits_LeadingZeros64_b lpK jnK bits_Len64 x0
noncomputable def c120 : Ctr := ⟨[(.int .u64)], [], [], .one i64, fun x _ _ => bits_LeadingZeros64 x.1⟩
theorem e120 (lp : Lp) (jn : Jn) (bits_Len64 : (Int) → Option (Int)) : ∀ (x : TsS c120.as) (F : TsF c120.fs) (y : TsS c120.cs), bits_LeadingZeros64_b lp jn bits_Len64 x.1 = runC lp jn (ctxOf prog shs inls [(126, ⟨[(.int .u64)], [], [], .one i64, fun x _ _ => bits_Len64 x.1⟩)] [(36, r36), (18, r18)]) hints 4 120 f120 c120 x F y := fun x F y => by kernel_rfl
theorem l120 : (ctxOf prog shs inls [(126, c126)] [(36, r36), (18, r18)]).ok := ctxOf_cons (q36) (by kernel_rfl) ok126
theorem ok120 : c120.ok prog 120 := Ctr.of_den l120 hmix (hl := hints) (d := 4) func120 rfl (by decide) (e120 lpK jnK bits_Len64)

/-- math bits.Div64 -/
noncomputable def bits_Div64_b (lp : Lp) (jn : Jn) (bits_LeadingZeros64 : (Int) → Option (Int)) (x0 : Int) (x1 : Int) (x2 : Int) : Option (Int × Int × Unit) :=
  
  let v5 : Bool := nzB x2;
  let v6 : Int := (2 : Int) ^ (32 : Nat);
  let v7 : Bool := decide ((0 : Int) ≤ (32 : Int)); jn PUnit (Int × Int × PUnit) (fun (x : PUnit) => jn PUnit (Int × Int × PUnit) (fun (x : PUnit) => bif decide (x0 = (0 : Int)) then bif v5
    then bif v5 then some (IntKind.wrap IntKind.u64 (Int.tdiv x1 x2), Int.tmod x1 x2, PUnit.unit) else none else none else obind (bits_LeadingZeros64 x2) fun (t : Int) =>
  let v11 : Int := IntKind.wrap IntKind.u64 t;
  let v12 : Bool := decide ((0 : Int) ≤ v11);
  let v13 : Int := (2 : Int) ^ min (Int.toNat v11) (64 : Nat);
  let v14 : Int := IntKind.wrap IntKind.u64 (x2 * v13);
  let v15 : Int := IntKind.wrap IntKind.u64 (x1 * v13);
  let v16 : Int := Int.fdiv v14 v6;
  let v17 : Int := Int.fdiv v15 v6;
  let v18 : Bool := nzB v16;
  let v19 : Int := IntKind.wrap IntKind.u64 (↑(Nat.land (Int.toNat (v15 % Int.ofNat (18446744073709551616 : Nat))) (Int.toNat ((4294967295 : Int) % Int.ofNat (18446744073709551616 : Nat))))
    : Int);
  let v20 : Int := IntKind.wrap IntKind.u64 (↑(Nat.land (Int.toNat (v14 % Int.ofNat (18446744073709551616 : Nat))) (Int.toNat ((4294967295 : Int) % Int.ofNat (18446744073709551616 : Nat))))
    : Int);
  let v21 : Int := IntKind.wrap IntKind.u64 (↑(Nat.lor (Int.toNat (IntKind.wrap IntKind.u64 (x0 * v13) % Int.ofNat (18446744073709551616 : Nat))) (Int.toNat (Int.fdiv x1 ((2 : Int) ^ min
    (Int.toNat (IntKind.wrap IntKind.u64 ((64 : Int) - v11))) (64 : Nat)) % Int.ofNat (18446744073709551616 : Nat)))) : Int);
  let v22 : Int := IntKind.wrap IntKind.u64 (Int.tdiv v21 v16); bif v12 then bif v7 then bif v12 then bif decide ((0 : Int) ≤ IntKind.wrap IntKind.u64 ((64 : Int) - v11)) then bif v12 then
    bif v7 then bif v18 then jn (Int × PUnit) (Int × Int × PUnit) (fun (x : Int × PUnit) =>
  let v24 : Int := IntKind.wrap IntKind.u64 (IntKind.wrap IntKind.u64 (IntKind.wrap IntKind.u64 (v21 * (4294967296 : Int)) + v17) - IntKind.wrap IntKind.u64 (x.fst * v14));
  let v25 : Int := IntKind.wrap IntKind.u64 (Int.tdiv v24 v16); bif v18 then jn (Int × PUnit) (Int × Int × PUnit) (fun (x_1 : Int × PUnit) => bif v12 then some (IntKind.wrap IntKind.u64
    (IntKind.wrap IntKind.u64 (x.fst * (4294967296 : Int)) + x_1.fst), Int.fdiv (IntKind.wrap IntKind.u64 (IntKind.wrap IntKind.u64 (IntKind.wrap IntKind.u64 (v24 * (4294967296 : Int)) +
    v19) - IntKind.wrap IntKind.u64 (x_1.fst * v14))) v13, PUnit.unit) else none) fun (j : Int × PUnit → Option (Int × Int × PUnit)) => lp (Int × Int × PUnit) (Int × Int × PUnit) (fun
    (again : Int × Int × PUnit → Option (Int × Int × PUnit)) (x : Int × Int × PUnit) =>
  let v29 : Int × PUnit := (IntKind.wrap IntKind.u64 (x.snd.fst - (1 : Int)), PUnit.unit);
  let v30 : Bool := decide (x.snd.fst ≥ (4294967296 : Int));
  let v31 : Bool := !v30;
  let v32 : Bool := !v31 || v31;
  let v33 : Bool := v32 && v32; bif v33 then bif v32 then bif v33 then bif v33 then bif v30 || v31 then bif bif v30 then true else decide (IntKind.wrap IntKind.u64 (x.snd.fst * v20) >
    IntKind.wrap IntKind.u64 (IntKind.wrap IntKind.u64 ((4294967296 : Int) * x.fst) + v19)) then bif decide (IntKind.wrap IntKind.u64 (x.fst + v16) ≥ (4294967296 : Int)) then j v29 else
    again (IntKind.wrap IntKind.u64 (x.fst + v16), v29) else j (x.snd.fst, PUnit.unit) else none else none else none else none else none) (IntKind.wrap IntKind.u64 (v24 - IntKind.wrap
    IntKind.u64 (v25 * v16)), v25, PUnit.unit) else none) fun (j : Int × PUnit → Option (Int × Int × PUnit)) => lp (Int × Int × PUnit) (Int × Int × PUnit) (fun (again : Int × Int × PUnit →
    Option (Int × Int × PUnit)) (x : Int × Int × PUnit) =>
  let v26 : Int := IntKind.wrap IntKind.u64 (x.fst - (1 : Int));
  let v27 : Bool := decide (x.fst ≥ (4294967296 : Int));
  let v28 : Bool := !v27;
  let v29 : Bool := !v28 || v28;
  let v30 : Bool := v29 && v29; bif v30 then bif v29 then bif v30 then bif v30 then bif v27 || v28 then bif bif v27 then true else decide (IntKind.wrap IntKind.u64 (x.fst * v20) >
    IntKind.wrap IntKind.u64 (IntKind.wrap IntKind.u64 ((4294967296 : Int) * x.snd.fst) + v17)) then bif decide (IntKind.wrap IntKind.u64 (x.snd.fst + v16) ≥ (4294967296 : Int)) then j
    (v26, PUnit.unit) else again (v26, IntKind.wrap IntKind.u64 (x.snd.fst + v16), PUnit.unit) else j (x.fst, PUnit.unit) else none else none else none else none else none) (v22,
    IntKind.wrap IntKind.u64 (v21 - IntKind.wrap IntKind.u64 (v22 * v16)), PUnit.unit) else none else none else none else none else none else none else none) fun (j : PUnit → Option (Int ×
    Int × PUnit)) => bif decide (x2 ≤ x0) then none else j PUnit.unit) fun (j : PUnit → Option (Int × Int × PUnit)) => bif decide (x2 = (0 : Int)) then none else j PUnit.unit
noncomputable def bits_Div64 (x0 : Int) (x1 : Int) (x2 : Int) : Option (Int × Int × Unit) := bits_Div64_b lpK jnK bits_LeadingZeros64 x0 x1 x2
noncomputable def c106 : Ctr := ⟨[(.int .u64), (.int .u64), (.int .u64)], [], [], .tup [(.int .u64), (.int .u64)], fun x _ _ => bits_Div64 x.1 x.2.1 x.2.2.1⟩
theorem e106 (lp : Lp) (jn : Jn) (bits_LeadingZeros64 : (Int) → Option (Int)) : ∀ (x : TsS c106.as) (F : TsF c106.fs) (y : TsS c106.cs), bits_Div64_b lp jn bits_LeadingZeros64 x.1 x.2.1 x.2.2.1 = runC lp jn (ctxOf prog shs inls [(120, ⟨[(.int .u64)], [], [], .one i64, fun x _ _ => bits_LeadingZeros64 x.1⟩)] [(36, r36), (18, r18)]) hints 4 106 f106 c106 x F y := fun x F y => by kernel_rfl
theorem l106 : (ctxOf prog shs inls [(120, c120)] [(36, r36), (18, r18)]).ok := ctxOf_cons (q36) (by kernel_rfl) ok120
theorem ok106 : c106.ok prog 106 := Ctr.of_den l106 hmix (hl := hints) (d := 4) func106 rfl (by decide) (e106 lpK jnK bits_LeadingZeros64)

/-- loftblock ratio.over -/
noncomputable def ratio_over_b (_ : Lp) (_ : Jn) (bits_Div64 : (Int) → (Int) → (Int) → Option (Int × Int × Unit)) (x0 : Int × Int) (x1 : Int) : Option ((Int × Int) × Int × Unit) :=
  
  let v4 : Bool := nzB x1; bif v4 then obind (bits_Div64 (Int.tmod x0.fst x1) x0.snd x1) fun (t : Int × Int × PUnit) => bif v4 then some ((IntKind.wrap IntKind.u64 (Int.tdiv x0.fst x1),
    t.fst), t.snd.fst, PUnit.unit) else none else none
noncomputable def ratio_over (x0 : Int × Int) (x1 : Int) : Option ((Int × Int) × Int × Unit) := ratio_over_b lpK jnK bits_Div64 x0 x1
noncomputable def c75 : Ctr := ⟨[T94, (.int .u64)], [], [], .tup [T94, (.int .u64)], fun x _ _ => ratio_over x.1 x.2.1⟩
theorem e75 (lp : Lp) (jn : Jn) (bits_Div64 : (Int) → (Int) → (Int) → Option (Int × Int × Unit)) : ∀ (x : TsS c75.as) (F : TsF c75.fs) (y : TsS c75.cs), ratio_over_b lp jn bits_Div64 x.1 x.2.1 = runC lp jn (ctxOf prog shs inls [(106, ⟨[(.int .u64), (.int .u64), (.int .u64)], [], [], .tup [(.int .u64), (.int .u64)], fun x _ _ => bits_Div64 x.1 x.2.1 x.2.2.1⟩)] [(36, r36), (18, r18)]) hints 4 75 f75 c75 x F y := fun x F y => by kernel_rfl
theorem l75 : (ctxOf prog shs inls [(106, c106)] [(36, r36), (18, r18)]).ok := ctxOf_cons (q36) (by kernel_rfl) ok106
theorem ok75 : c75.ok prog 75 := Ctr.of_den l75 hmix (hl := hints) (d := 4) func75 rfl (by decide) (e75 lpK jnK bits_Div64)

/-- loftblock ratio.Add -/
noncomputable def ratio_Add_b (_ : Lp) (jn : Jn) (ratio_size : (Int) → Option (Int)) (ratio_gcd : (Int) → (Int) → Option (Int)) (ratio_signed : (Bool) → (Int) → (Int) → Option ((Int × Int) × Int × Unit)) (ratio_Valid : (Int × Int) → Option (Bool)) (ratio_product : (Int) → (Int) → Option (Int × Int)) (ratio_plus : (Int × Int) → (Int × Int) → Option (Int × Int)) (ratio_less : (Int × Int) → (Int × Int) → Option (Bool)) (ratio_minus : (Int × Int) → (Int × Int) → Option (Int × Int)) (ratio_over : (Int × Int) → (Int) → Option ((Int × Int) × Int × Unit)) (x0 : Int × Int) (x1 : Int × Int) : Option ((Int × Int) × Int × Unit) :=
  
  let v4 : Int := IntKind.wrap IntKind.u64 x0.snd;
  let v5 : Int := IntKind.wrap IntKind.u64 x1.snd;
  let v6 : Bool := decide (x0.fst < (0 : Int)); obind (ratio_Valid x0) fun (t : Bool) =>
  let v8 : Bool := !t;
  let v9 : Bool := !v8;
  let v10 : Bool := !v9 || v9; bif v10 then obind (bif v9 then ratio_Valid x1 else some false) fun (t : Bool) => bif v10 then bif v8 || v9 then bif bif v8 then true else !t then some (((0 :
    Int), (0 : Int)), (1 : Int), PUnit.unit) else obind (ratio_gcd v4 v5) fun (t : Int) =>
  let v13 : Bool := nzB t;
  let v14 : Int := IntKind.wrap IntKind.u64 (Int.tdiv v4 t); obind (ratio_size x0.fst) fun (t_1 : Int) => bif v13 then obind (ratio_product t_1 (IntKind.wrap IntKind.u64 (Int.tdiv v5 t)))
    fun (t_2 : Int × Int) => obind (ratio_size x1.fst) fun (t_3 : Int) => bif v13 then obind (ratio_product t_3 v14) fun (t_4 : Int × Int) => jn (Bool × (Int × Int) × PUnit) ((Int × Int) ×
    Int × PUnit) (fun (x : Bool × (Int × Int) × PUnit) => bif decide (x.snd.fst.fst = (0 : Int)) && (decide (x.snd.fst.snd = (0 : Int)) && true) then some (((0 : Int), (1 : Int)), (0 :
    Int), PUnit.unit) else obind (ratio_over x.snd.fst t) fun (t_5 : (Int × Int) × Int × PUnit) => obind (ratio_gcd t t_5.snd.fst) fun (t : Int) => obind (ratio_over x.snd.fst t) fun (t_6 :
    (Int × Int) × Int × PUnit) =>
  let v23 : Bool := decide (t_6.fst.fst > (0 : Int));
  let v24 : Bool := !v23;
  let v25 : Bool := !v24 || v24; bif v13 then bif nzB t then obind (ratio_product v14 (IntKind.wrap IntKind.u64 (Int.tdiv v5 t))) fun (t : Int × Int) => bif v25 then bif v25 then bif v23 ||
    v24 then bif bif v23 then true else decide (t.fst > (0 : Int)) then some (((0 : Int), (0 : Int)), (5 : Int), PUnit.unit) else obind (ratio_signed x.fst t_6.fst.snd t.snd) fun (t : (Int
    × Int) × Int × PUnit) => some (t.fst, t.snd.fst, PUnit.unit) else none else none else none else none else none) fun (j : Bool × (Int × Int) × PUnit → Option ((Int × Int) × Int × PUnit))
    => bif decide (v6 = decide (x1.fst < (0 : Int))) then obind (ratio_plus t_2 t_4) fun (t : Int × Int) => j (v6, t, PUnit.unit) else obind (ratio_less t_2 t_4) fun (t : Bool) => jn (Bool
    × (Int × Int) × PUnit) ((Int × Int) × Int × PUnit) (fun (x : Bool × (Int × Int) × PUnit) => j (x.fst, x.snd.fst, PUnit.unit)) fun (j : Bool × (Int × Int) × PUnit → Option ((Int × Int) ×
    Int × PUnit)) => bif t then obind (ratio_minus t_4 t_2) fun (t : Int × Int) => j (!v6, t, PUnit.unit) else obind (ratio_minus t_2 t_4) fun (t : Int × Int) => j (v6, t, PUnit.unit) else
    none else none else none else none else none
noncomputable def ratio_Add (x0 : Int × Int) (x1 : Int × Int) : Option ((Int × Int) × Int × Unit) := ratio_Add_b lpK jnK ratio_size ratio_gcd ratio_signed ratio_Valid ratio_product ratio_plus ratio_less ratio_minus ratio_over x0 x1
noncomputable def c35 : Ctr := ⟨[T48, T48], [], [], .tup [T48, i64], fun x _ _ => ratio_Add x.1 x.2.1⟩
theorem e35 (lp : Lp) (jn : Jn) (ratio_size : (Int) → Option (Int)) (ratio_gcd : (Int) → (Int) → Option (Int)) (ratio_signed : (Bool) → (Int) → (Int) → Option ((Int × Int) × Int × Unit)) (ratio_Valid : (Int × Int) → Option (Bool)) (ratio_product : (Int) → (Int) → Option (Int × Int)) (ratio_plus : (Int × Int) → (Int × Int) → Option (Int × Int)) (ratio_less : (Int × Int) → (Int × Int) → Option (Bool)) (ratio_minus : (Int × Int) → (Int × Int) → Option (Int × Int)) (ratio_over : (Int × Int) → (Int) → Option ((Int × Int) × Int × Unit)) : ∀ (x : TsS c35.as) (F : TsF c35.fs) (y : TsS c35.cs), ratio_Add_b lp jn ratio_size ratio_gcd ratio_signed ratio_Valid ratio_product ratio_plus ratio_less ratio_minus ratio_over x.1 x.2.1 = runC lp jn (ctxOf prog shs inls [(75, ⟨[T94, (.int .u64)], [], [], .tup [T94, (.int .u64)], fun x _ _ => ratio_over x.1 x.2.1⟩), (74, ⟨[T94, T94], [], [], .one T94, fun x _ _ => ratio_minus x.1 x.2.1⟩), (73, ⟨[T94, T94], [], [], .one .bool, fun x _ _ => ratio_less x.1 x.2.1⟩), (72, ⟨[T94, T94], [], [], .one T94, fun x _ _ => ratio_plus x.1 x.2.1⟩), (58, ⟨[(.int .u64), (.int .u64)], [], [], .one T94, fun x _ _ => ratio_product x.1 x.2.1⟩), (57, ⟨[T48], [], [], .one .bool, fun x _ _ => ratio_Valid x.1⟩), (56, ⟨[.bool, (.int .u64), (.int .u64)], [], [], .tup [T48, i64], fun x _ _ => ratio_signed x.1 x.2.1 x.2.2.1⟩), (55, ⟨[(.int .u64), (.int .u64)], [], [], .one (.int .u64), fun x _ _ => ratio_gcd x.1 x.2.1⟩), (54, ⟨[i64], [], [], .one (.int .u64), fun x _ _ => ratio_size x.1⟩)] [(36, r36), (18, r18)]) hints 4 35 f35 c35 x F y := fun x F y => by kernel_rfl
theorem l35 : (ctxOf prog shs inls [(75, c75), (74, c74), (73, c73), (72, c72), (58, c58), (57, c57), (56, c56), (55, c55), (54, c54)] [(36, r36), (18, r18)]).ok := ctxOf_cons (ctxOf_cons (ctxOf_cons (ctxOf_cons (ctxOf_cons (ctxOf_cons (ctxOf_cons (ctxOf_cons (ctxOf_cons (q36) (by kernel_rfl) ok54) (by kernel_rfl) ok55) (by kernel_rfl) ok56) (by kernel_rfl) ok57) (by kernel_rfl) ok58) (by kernel_rfl) ok72) (by kernel_rfl) ok73) (by kernel_rfl) ok74) (by kernel_rfl) ok75
theorem ok35 : c35.ok prog 35 := Ctr.of_den l35 hmix (hl := hints) (d := 4) func35 rfl (by decide) (e35 lpK jnK ratio_size ratio_gcd ratio_signed ratio_Valid ratio_product ratio_plus ratio_less ratio_minus ratio_over)

/-- loftblock bridle.Check$1 -/
noncomputable def bridle_Check_1_b (_ : Lp) (_ : Jn) (ratio_Valid : (Int × Int) → Option (Bool)) (x0 : Int × Int) : Option Bool :=
  obind (ratio_Valid x0) fun (t : Bool) => some !t
noncomputable def bridle_Check_1 (x0 : Int × Int) : Option Bool := bridle_Check_1_b lpK jnK ratio_Valid x0
noncomputable def c71 : Ctr := ⟨[T48], [], [], .one .bool, fun x _ _ => bridle_Check_1 x.1⟩
theorem e71 (lp : Lp) (jn : Jn) (ratio_Valid : (Int × Int) → Option (Bool)) : ∀ (x : TsS c71.as) (F : TsF c71.fs) (y : TsS c71.cs), bridle_Check_1_b lp jn ratio_Valid x.1 = runC lp jn (ctxOf prog shs inls [(57, ⟨[T48], [], [], .one .bool, fun x _ _ => ratio_Valid x.1⟩)] [(36, r36), (18, r18)]) hints 4 71 f71 c71 x F y := fun x F y => by kernel_rfl
theorem l71 : (ctxOf prog shs inls [(57, c57)] [(36, r36), (18, r18)]).ok := ctxOf_cons (q36) (by kernel_rfl) ok57
theorem ok71 : c71.ok prog 71 := Ctr.of_den l71 hmix (hl := hints) (d := 4) func71 rfl (by decide) (e71 lpK jnK ratio_Valid)

/-- loftblock bridle.Check -/
noncomputable def bridle_Check_b (lp : Lp) (_ : Jn) (bridle_arm : ((Int × Int × Int) × Int × List (ByteArray × (Int × Int × Int) × Int)) → (Int) → Option (Int × Int × Int)) (bridle_Valid : ((Int × Int × Int) × Int × List (ByteArray × (Int × Int × Int) × Int)) → Option (Bool)) (ratio_Mul : (Int × Int) → (Int × Int) → Option ((Int × Int) × Int × Unit)) (slices_ContainsFunc_61 : (List (Int × Int)) → ((((Int × Int) × Unit) → Option Bool)) → Option (Bool)) (ratio_Add : (Int × Int) → (Int × Int) → Option ((Int × Int) × Int × Unit)) (bridle_Check_1 : (Int × Int) → Option (Bool)) (x0 : (Int × Int × Int) × Int × List (ByteArray × (Int × Int × Int) × Int)) (x1 : List (Int × Int)) : Option (Bool × Int × Unit) :=
  obind (bridle_Valid x0) fun (t : Bool) =>
  let v5 : Bool := !t;
  let v6 : Bool := !v5; bif !v6 || v6 then obind (bif v6 then slices_ContainsFunc_61 x1 fun (x : (Int × Int) × PUnit) => bridle_Check_1 x.fst else some false) fun (t : Bool) => bif v5 || v6
    then bif bif v5 then true else t then some (false, (1 : Int), PUnit.unit) else bif !decide ((↑(List.length x1) : Int) = (↑(List.length x0.snd.snd) : Int)) then some (false, (3 : Int),
    PUnit.unit) else lp (Bool × Int × PUnit) (Bool × Int × PUnit) (fun (again : Bool × Int × PUnit → Option (Bool × Int × PUnit)) (x : Bool × Int × PUnit) =>
  let v10 : Bool := !x.fst || x.fst;
  let v11 : Bool := inB x.snd.fst (3 : Nat);
  let v12 : Int := List.getD [(0 : Int), (0 : Int), x0.snd.fst] (Int.toNat x.snd.fst) (0 : Int); bif decide (x.snd.fst < (3 : Int)) then bif v11 then lp (Int × (Int × Int) × PUnit) (Bool ×
    Int × PUnit) (fun (again_1 : Int × (Int × Int) × PUnit → Option (Bool × Int × PUnit)) (x_1 : Int × (Int × Int) × PUnit) => bif decide (x_1.fst < (↑(List.length x1) : Int)) then bif inB
    x_1.fst (List.length x1) then obind (bridle_arm x0 x_1.fst) fun (t : Int × Int × Int) => bif v11 then obind (ratio_Mul (List.getD x1 (Int.toNat x_1.fst) ((0 : Int), (0 : Int)))
    (List.getD [t.fst, t.snd.fst, t.snd.snd] (Int.toNat x.snd.fst) (0 : Int), (1 : Int))) fun (t : (Int × Int) × Int × PUnit) => bif !decide (t.snd.fst = (0 : Int)) then some (false,
    t.snd.fst, PUnit.unit) else obind (ratio_Add x_1.snd.fst t.fst) fun (t : (Int × Int) × Int × PUnit) => bif !decide (t.snd.fst = (0 : Int)) then some (false, t.snd.fst, PUnit.unit) else
    again_1 (IntKind.wrap IntKind.i64 (x_1.fst + (1 : Int)), t.fst, PUnit.unit) else none else none else bif v10 then bif v10 && v10 then bif v10 then again (bif x.fst then decide
    (x_1.snd.fst.fst = v12) && (decide (x_1.snd.fst.snd = (1 : Int)) && true) else false, IntKind.wrap IntKind.i64 (x.snd.fst + (1 : Int)), PUnit.unit) else none else none else none) ((0 :
    Int), ((0 : Int), (1 : Int)), PUnit.unit) else none else some (x.fst, (0 : Int), PUnit.unit)) (true, (0 : Int), PUnit.unit) else none else none
noncomputable def bridle_Check (x0 : (Int × Int × Int) × Int × List (ByteArray × (Int × Int × Int) × Int)) (x1 : List (Int × Int)) : Option (Bool × Int × Unit) := bridle_Check_b lpK jnK bridle_arm bridle_Valid ratio_Mul slices_ContainsFunc_61 ratio_Add bridle_Check_1 x0 x1
noncomputable def c34 : Ctr := ⟨[T26, (.sl T48)], [], [], .tup [.bool, i64], fun x _ _ => bridle_Check x.1 x.2.1⟩
theorem e34 (lp : Lp) (jn : Jn) (bridle_arm : ((Int × Int × Int) × Int × List (ByteArray × (Int × Int × Int) × Int)) → (Int) → Option (Int × Int × Int)) (bridle_Valid : ((Int × Int × Int) × Int × List (ByteArray × (Int × Int × Int) × Int)) → Option (Bool)) (ratio_Mul : (Int × Int) → (Int × Int) → Option ((Int × Int) × Int × Unit)) (slices_ContainsFunc_61 : (List (Int × Int)) → ((((Int × Int) × Unit) → Option Bool)) → Option (Bool)) (ratio_Add : (Int × Int) → (Int × Int) → Option ((Int × Int) × Int × Unit)) (bridle_Check_1 : (Int × Int) → Option (Bool)) : ∀ (x : TsS c34.as) (F : TsF c34.fs) (y : TsS c34.cs), bridle_Check_b lp jn bridle_arm bridle_Valid ratio_Mul slices_ContainsFunc_61 ratio_Add bridle_Check_1 x.1 x.2.1 = runC lp jn (ctxOf prog shs inls [(71, ⟨[T48], [], [], .one .bool, fun x _ _ => bridle_Check_1 x.1⟩), (35, ⟨[T48, T48], [], [], .tup [T48, i64], fun x _ _ => ratio_Add x.1 x.2.1⟩), (61, ⟨[(.sl T48)], [([T48], .bool)], [], .one .bool, fun x F _ => slices_ContainsFunc_61 x.1 F.1⟩), (22, ⟨[T48, T48], [], [], .tup [T48, i64], fun x _ _ => ratio_Mul x.1 x.2.1⟩), (12, ⟨[T26], [], [], .one .bool, fun x _ _ => bridle_Valid x.1⟩), (47, ⟨[T26, i64], [], [], .one T23, fun x _ _ => bridle_arm x.1 x.2.1⟩)] [(36, r36), (18, r18)]) hints 4 34 f34 c34 x F y := fun x F y => by kernel_rfl
theorem l34 : (ctxOf prog shs inls [(71, c71), (35, c35), (61, c61), (22, c22), (12, c12), (47, c47)] [(36, r36), (18, r18)]).ok := ctxOf_cons (ctxOf_cons (ctxOf_cons (ctxOf_cons (ctxOf_cons (ctxOf_cons (q36) (by kernel_rfl) ok47) (by kernel_rfl) ok12) (by kernel_rfl) ok22) (by kernel_rfl) ok61) (by kernel_rfl) ok35) (by kernel_rfl) ok71
theorem ok34 : c34.ok prog 34 := Ctr.of_den l34 hmix (hl := hints) (d := 4) func34 rfl (by decide) (e34 lpK jnK bridle_arm bridle_Valid ratio_Mul slices_ContainsFunc_61 ratio_Add bridle_Check_1)

/-- loftblock loftblocklaw18.BridleHolds -/
noncomputable def law18_BridleHolds_b (lp : Lp) (_ : Jn) (bridle_Pulls : ((Int × Int × Int) × Int × List (ByteArray × (Int × Int × Int) × Int)) → Option ((List (Int × Int)) × Int × Unit)) (law18_awake : Option (Bool)) (law18_ready : ((Int × Int × Int) × Int × List (ByteArray × (Int × Int × Int) × Int)) → Option (Bool)) (bridle_Anchor : ((Int × Int × Int) × Int × List (ByteArray × (Int × Int × Int) × Int)) → (ByteArray) → Option (((Int × Int) × (Int × Int) × Int × Int) × Int × Unit)) (ratio_Add : (Int × Int) → (Int × Int) → Option ((Int × Int) × Int × Unit)) (bridle_Check : ((Int × Int × Int) × Int × List (ByteArray × (Int × Int × Int) × Int)) → (List (Int × Int)) → Option (Bool × Int × Unit)) (slices_Clone_36 : (List (Int × Int)) → Option (List (Int × Int))) (x0 : (Int × Int × Int) × Int × List (ByteArray × (Int × Int × Int) × Int)) (x1 : Int) (x2 : Int) : Option Bool :=
  
  let v5 : Int := IntKind.wrap IntKind.i64 x1;
  let v6 : Int := IntKind.wrap IntKind.i64 ((0 : Int) - x0.snd.fst); obind law18_awake fun (t : Bool) => bif !t then some false else obind (law18_ready x0) fun (t : Bool) => bif !t then
    some true else obind (bridle_Pulls x0) fun (t : List (Int × Int) × Int × PUnit) => bif !decide (t.snd.fst = (0 : Int)) then some (decide ((↑(List.length t.fst) : Int) = (0 : Int))) else
    obind (bridle_Check x0 t.fst) fun (t_1 : Bool × Int × PUnit) =>
  let v11 : Bool := !decide (t_1.snd.fst = (0 : Int));
  let v12 : Bool := !v11;
  let v13 : Bool := bif v11 then true else !t_1.fst;
  let v14 : Bool := !v13;
  let v15 : Bool := !v14 || v14; bif decide (t_1.snd.fst = (5 : Int)) then some true else bif !v12 || v12 then bif v11 || v12 then bif v15 then bif v15 then bif v15 then bif v15 && v15 then
    bif v13 || v14 then bif bif v13 then true else !decide ((↑(List.length t.fst) : Int) = (↑(List.length x0.snd.snd) : Int)) then some false else lp (Int × ((Int × Int) × (Int × Int) × Int
    × Int) × PUnit) Bool (fun (again : Int × ((Int × Int) × (Int × Int) × Int × Int) × PUnit → Option Bool) (x : Int × ((Int × Int) × (Int × Int) × Int × Int) × PUnit) => bif decide (x.fst
    < (↑(List.length x0.snd.snd) : Int)) then bif inB x.fst (List.length x0.snd.snd) then obind (bridle_Anchor x0 (List.getD x0.snd.snd (Int.toNat x.fst) ({ data := { toList := [] } }, ((0
    : Int), (0 : Int), (0 : Int)), (0 : Int))).fst) fun (t : ((Int × Int) × (Int × Int) × Int × Int) × Int × PUnit) => bif !decide (t.snd.fst = (0 : Int)) then some (decide (t.snd.fst = (5
    : Int))) else lp (Int × ((Int × Int) × (Int × Int) × Int × Int) × PUnit) Bool (fun (again_1 : Int × ((Int × Int) × (Int × Int) × Int × Int) × PUnit → Option Bool) (x_1 : Int × ((Int ×
    Int) × (Int × Int) × Int × Int) × PUnit) =>
  let v21 : Bool := inB x_1.fst (3 : Nat);
  let v22 : Bool := Nat.ble (Nat.succ (Int.toNat x_1.fst)) (3 : Nat); bif decide (x_1.fst < (3 : Int)) then bif v21 then bif v22 then bif v21 then bif v22 then obind (ratio_Add (List.getD
    [x_1.snd.fst.fst, x_1.snd.fst.snd.fst, x_1.snd.fst.snd.snd] (Int.toNat x_1.fst) ((0 : Int), (0 : Int))) (List.getD [t.fst.fst, t.fst.snd.fst, t.fst.snd.snd] (Int.toNat x_1.fst) ((0 :
    Int), (0 : Int)))) fun (t : (Int × Int) × Int × PUnit) => bif v21 then bif v22 then bif !decide (t.snd.fst = (0 : Int)) then some (decide (t.snd.fst = (5 : Int))) else again_1
    (IntKind.wrap IntKind.i64 (x_1.fst + (1 : Int)), (bif Nat.beq (Int.toNat x_1.fst) (0 : Nat) then t.fst else x_1.snd.fst.fst, bif Nat.beq (Int.toNat x_1.fst) (1 : Nat) then t.fst else
    x_1.snd.fst.snd.fst, bif Nat.beq (Int.toNat x_1.fst) (2 : Nat) then t.fst else x_1.snd.fst.snd.snd), PUnit.unit) else none else none else none else none else none else none else again
    (IntKind.wrap IntKind.i64 (x.fst + (1 : Int)), x_1.snd.fst, PUnit.unit)) ((0 : Int), x.snd.fst, PUnit.unit) else none else bif !(decide (x.snd.fst.fst.fst = (0 : Int)) && (decide
    (x.snd.fst.fst.snd = (1 : Int)) && true) && (decide (x.snd.fst.snd.fst.fst = (0 : Int)) && (decide (x.snd.fst.snd.fst.snd = (1 : Int)) && true) && (decide (x.snd.fst.snd.snd.fst = v6)
    && (decide (x.snd.fst.snd.snd.snd = (1 : Int)) && true) && true))) then some false else obind (slices_Clone_36 t.fst) fun (t : List (Int × Int)) =>
  let v19 : Int := Int.tmod v5 (↑(List.length t) : Int);
  let v20 : Bool := inB v19 (List.length t);
  let v21 : Bool := Nat.ble (Nat.succ (Int.toNat v19)) (List.length t); bif nzB (↑(List.length t) : Int) then bif v20 then bif v21 then obind (ratio_Add (List.getD t (Int.toNat v19) ((0 :
    Int), (0 : Int))) (IntKind.wrap IntKind.i64 x2, (1 : Int))) fun (t_2 : (Int × Int) × Int × PUnit) =>
  let v23 : Bool := !decide (t_2.snd.fst = (0 : Int));
  let v24 : Bool := !v23; bif !v24 || v24 then bif v23 || v24 then bif bif v23 then true else decide (x2 = (0 : Int)) then some true else bif v20 then bif v21 then obind (bridle_Check x0
    (List.set t (Int.toNat v19) t_2.fst)) fun (t : Bool × Int × PUnit) =>
  let v26 : Bool := decide (t.snd.fst = (5 : Int));
  let v27 : Bool := decide (t.snd.fst = (0 : Int));
  let v28 : Bool := !v26;
  let v29 : Bool := !v28;
  let v30 : Bool := v28 && v27;
  let v31 : Bool := v29 || v28; bif v31 then bif v31 then bif !v30 || v30 then bif (v29 || v31) && (v29 || (!v27 || (v29 || v30))) then bif v26 || v28 then some (bif v26 then true else bif
    v27 then !t.fst else false) else none else none else none else none else none else none else none else none else none else none else none else none) ((0 : Int), (((0 : Int), (1 : Int)),
    ((0 : Int), (1 : Int)), (0 : Int), (1 : Int)), PUnit.unit) else none else none else none else none else none else none else none
noncomputable def law18_BridleHolds (x0 : (Int × Int × Int) × Int × List (ByteArray × (Int × Int × Int) × Int)) (x1 : Int) (x2 : Int) : Option Bool := law18_BridleHolds_b lpK jnK bridle_Pulls law18_awake law18_ready bridle_Anchor ratio_Add bridle_Check slices_Clone_36 x0 x1 x2
noncomputable def c8 : Ctr := ⟨[T26, (.int .u8), (.int .i8)], [], [], .one .bool, fun x _ _ => law18_BridleHolds x.1 x.2.1 x.2.2.1⟩
theorem e8 (lp : Lp) (jn : Jn) (bridle_Pulls : ((Int × Int × Int) × Int × List (ByteArray × (Int × Int × Int) × Int)) → Option ((List (Int × Int)) × Int × Unit)) (law18_awake : Option (Bool)) (law18_ready : ((Int × Int × Int) × Int × List (ByteArray × (Int × Int × Int) × Int)) → Option (Bool)) (bridle_Anchor : ((Int × Int × Int) × Int × List (ByteArray × (Int × Int × Int) × Int)) → (ByteArray) → Option (((Int × Int) × (Int × Int) × Int × Int) × Int × Unit)) (ratio_Add : (Int × Int) → (Int × Int) → Option ((Int × Int) × Int × Unit)) (bridle_Check : ((Int × Int × Int) × Int × List (ByteArray × (Int × Int × Int) × Int)) → (List (Int × Int)) → Option (Bool × Int × Unit)) (slices_Clone_36 : (List (Int × Int)) → Option (List (Int × Int))) : ∀ (x : TsS c8.as) (F : TsF c8.fs) (y : TsS c8.cs), law18_BridleHolds_b lp jn bridle_Pulls law18_awake law18_ready bridle_Anchor ratio_Add bridle_Check slices_Clone_36 x.1 x.2.1 x.2.2.1 = runC lp jn (ctxOf prog shs inls [(34, ⟨[T26, (.sl T48)], [], [], .tup [.bool, i64], fun x _ _ => bridle_Check x.1 x.2.1⟩), (35, ⟨[T48, T48], [], [], .tup [T48, i64], fun x _ _ => ratio_Add x.1 x.2.1⟩), (25, ⟨[T26, .str], [], [], .tup [T55, i64], fun x _ _ => bridle_Anchor x.1 x.2.1⟩), (17, ⟨[T26], [], [], .one .bool, fun x _ _ => law18_ready x.1⟩), (9, ⟨[], [], [], .one .bool, fun _ _ _ => law18_awake⟩), (20, ⟨[T26], [], [], .tup [(.sl T48), i64], fun x _ _ => bridle_Pulls x.1⟩)] [(36, ⟨[(.sl T48)], 48, T48, fun x => slices_Clone_36 x.1⟩), (18, r18)]) hints 4 8 f8 c8 x F y := fun x F y => by kernel_rfl
theorem l8 : (ctxOf prog shs inls [(34, c34), (35, c35), (25, c25), (17, c17), (9, c9), (20, c20)] [(36, r36), (18, r18)]).ok := ctxOf_cons (ctxOf_cons (ctxOf_cons (ctxOf_cons (ctxOf_cons (ctxOf_cons (q36) (by kernel_rfl) ok20) (by kernel_rfl) ok9) (by kernel_rfl) ok17) (by kernel_rfl) ok25) (by kernel_rfl) ok35) (by kernel_rfl) ok34
theorem ok8 : c8.ok prog 8 := Ctr.of_den l8 hmix (hl := hints) (d := 4) func8 rfl (by decide) (e8 lpK jnK bridle_Pulls law18_awake law18_ready bridle_Anchor ratio_Add bridle_Check slices_Clone_36)

end Go.Proofs.Ytghjblbkbelcfaa

namespace Go.Proofs.Ytghjblbkbelcfaa
namespace Dn

section
variable {T R α σ : Type}

theorem obind_some' {t : T} {k : T → Option R} : obind (some t) k = k t := rfl
theorem obind_none' {k : T → Option R} : obind none k = none := rfl

/-- The loop answers 'g', where every round does, given that it answers so wherever the measure is less. -/
theorem loopF_eq {F : (α → Option R) → α → Option R} {g : α → Option R} (I : α → Prop) (μ : α → Nat)
    (h : ∀ x rec, I x → (∀ y, I y → μ y < μ x → rec y = g y) → F rec x = g x) : ∀ {n : Nat} {x : α}, I x → μ x < n → loopF F n x = g x
  | 0, x, _, hn => by omega
  | n + 1, x, hx, hn => by
    rw [loopF_succ]
    exact h x _ hx fun y hy hlt => loopF_eq I μ h hy (by omega)

theorem lpK_loop {F : (α → Option R) → α → Option R} {g : α → Option R} (I : α → Prop) (μ : α → Nat)
    (h : ∀ x rec, I x → (∀ y, I y → μ y < μ x → rec y = g y) → F rec x = g x) {x : α} (hx : I x) (hn : μ x < 1180591620717411303424) : lpK α R F x = g x := loopF_eq I μ h hx hn
theorem jnK_eq' {j : α → Option R} {f : (α → Option R) → Option R} : jnK α R j f = f j := rfl

theorem wrap_id {x : Int} (h1 : -9223372036854775808 ≤ x) (h2 : x < 9223372036854775808) : IntKind.wrap .i64 x = x := by
  rw [IntKind.wrap_i64]; omega

/-- What a loop over 0..n-1 answers: a round may answer, or go on with another state. -/
def upF (b : Nat → σ → (σ → Option R) → Option R) (f : σ → Option R) : Nat → Nat → σ → Option R
  | 0, _, s => f s
  | k + 1, i, s => b i s (upF b f k (i + 1))

theorem loopF_up {F : (α → Option R) → α → Option R} (n : Nat) (hn : n ≤ 1180591620717411303423) (enc : Nat → σ → α) (b : Nat → σ → (σ → Option R) → Option R) (f : σ → Option R)
    (hb : ∀ again (i : Nat) s, i < n → F again (enc i s) = b i s (fun s' => again (enc (i + 1) s'))) (hf : ∀ again s, F again (enc n s) = f s) (s : σ) :
    loopF F K0 (enc 0 s) = upF b f n 0 s := by
  have key : ∀ (k : Nat) (i : Nat) (m : Nat) (s : σ), i + k = n → k < m → loopF F m (enc i s) = upF b f k i s := by
    intro k
    induction k with
    | zero =>
      intro i m s h1 h2
      obtain ⟨m, rfl⟩ : ∃ m', m = m' + 1 := ⟨m - 1, by omega⟩
      have : i = n := by omega
      subst this
      simp only [loopF_succ, hf, upF]
    | succ k ih =>
      intro i m s h1 h2
      obtain ⟨m, rfl⟩ : ∃ m', m = m' + 1 := ⟨m - 1, by omega⟩
      simp only [loopF_succ, upF]
      rw [hb _ _ _ (by omega)]
      congr 1
      funext s'
      exact ih (i + 1) m s' (by omega) (by omega)
  exact key n 0 K0 s (by omega) (by unfold K0; omega)
theorem loopF_K0 {F : (α → Option R) → α → Option R} {x : α} : loopF F K0 x = F (loopF F 1180591620717411303423) x := rfl
theorem loopF_K1 {F : (α → Option R) → α → Option R} {x : α} : loopF F 1180591620717411303423 x = F (loopF F 1180591620717411303422) x := rfl
theorem loopF_K2 {F : (α → Option R) → α → Option R} {x : α} : loopF F 1180591620717411303422 x = F (loopF F 1180591620717411303421) x := rfl
theorem loopF_K3 {F : (α → Option R) → α → Option R} {x : α} : loopF F 1180591620717411303421 x = F (loopF F 1180591620717411303420) x := rfl

theorem joinF_eq {j : α → Option R} {f : (α → Option R) → Option R} {r : Option R} (g : α → Option R) (h : ∀ x, j x = g x) (hf : f g = r) : joinF j f = r := by
  rw [show j = g from funext h]
  exact hf

theorem inB_nat {i n : Nat} : inB (i : Int) n = decide (i < n) := by
  rw [Bool.eq_iff_iff, inB_iff, decide_eq_true_iff]; omega
theorem inB_of {i : Int} {n : Nat} (h1 : 0 ≤ i) (h2 : i < n) : inB i n = true := inB_iff.2 ⟨h1, h2⟩
theorem nzB_of {n : Int} (h : n ≠ 0) : nzB n = true := nzB_iff.2 h
theorem slB_of {lo hi : Int} {n : Nat} (h1 : 0 ≤ lo) (h2 : lo ≤ hi) (h3 : hi ≤ n) : slB lo hi n = true := slB_iff.2 ⟨h1, h2, h3⟩
theorem fitB_of {n k : Nat} (h : n * k ≤ 140737488355328) : fitB n k = true := fitB_iff.2 h

theorem ble_of {n m : Nat} (h : n ≤ m) : Nat.ble n m = true := by rw [Nat.ble_eq]; exact h
/-- As 'cond_true', 'cond_false', but not by computation: for rewriting under loops. -/
theorem cT0 {α : Sort _} {c : Bool} (h : c = true) (a b : α) : cond c a b = a := by subst h; rfl
theorem cT {α : Sort _} (a b : α) : cond true a b = a := cT0 (Eq.trans rfl rfl) a b
theorem cF0 {α : Sort _} {c : Bool} (h : c = false) (a b : α) : cond c a b = b := by subst h; rfl
theorem cF {α : Sort _} (a b : α) : cond false a b = b := cF0 (Eq.trans rfl rfl) a b
theorem or_self_not {b : Bool} : (b || !b) = true := by cases b <;> rfl
theorem not_or_self' {b : Bool} : (!b || b) = true := by cases b <;> rfl
theorem bif_false' {b : Bool} {c : Bool} : (bif b then c else false) = (b && c) := by cases b <;> rfl
theorem bif_true' {b : Bool} {c : Bool} : (bif b then true else c) = (b || c) := by cases b <;> rfl

theorem ite_max {a b : Int} : (if b > a then b else a) = max a b := by omega
theorem ite_min {a b : Int} : (if b < a then b else a) = min a b := by omega
theorem getD_nat {l : List α} {d : α} {i : Nat} (h : i < l.length) : l.getD i d = l[i] := by simp [List.getD, h]

theorem lget_set_self {l : List α} {d a : α} {i : Nat} (h : i < l.length) : (l.set i a).getD i d = a := by simp [List.getD, h]
theorem lget_set_ne {l : List α} {d a : α} {i j : Nat} (h : i ≠ j) : (l.set i a).getD j d = l.getD j d := by simp [List.getD, List.getElem?_set_ne h]

/-- A search through a list: the first place that a round answers at. -/
theorem upF_find {b : Nat → σ → (σ → Option R) → Option R} {f : σ → Option R} {p : Nat → Bool} {r : Nat → Option R} {s : σ} (hb : ∀ i (k : σ → Option R), b i s k = bif p i then r i else k s) :
    ∀ (k i : Nat), upF b f k i s = match (List.range' i k).find? p with | some j => r j | none => f s
  | 0, i => rfl
  | k + 1, i => by
    simp only [upF, hb, List.range'_succ, List.find?_cons]
    cases hp : p i with
    | true => rfl
    | false => exact upF_find hb k (i + 1)

end

/-- As 'upF_find', for the rounds within the bound only. -/
theorem upF_findR {R σ : Type} {b : Nat → σ → (σ → Option R) → Option R} {f : σ → Option R} {p : Nat → Bool} {r : Nat → Option R} {s : σ} (n : Nat) (hb : ∀ i (k : σ → Option R), i < n → b i s k = bif p i then r i else k s) :
    ∀ (k i : Nat), i + k ≤ n → upF b f k i s = match (List.range' i k).find? p with | some j => r j | none => f s
  | 0, i, _ => rfl
  | k + 1, i, h => by
    simp only [upF, hb i _ (by omega), List.range'_succ, List.find?_cons]
    cases hp : p i with
    | true => rfl
    | false => exact upF_findR n hb k (i + 1) (by omega)

end Dn
end Go.Proofs.Ytghjblbkbelcfaa

namespace Go.Proofs.Ytghjblbkbelcfaa
namespace Dn

abbrev Fq := Int × Int

/-- A pair in lowest terms that fits. -/
def okF (a : Fq) : Prop := (1 ≤ a.2 ∧ a.2 ≤ 1152921504606846976) ∧ (-1152921504606846976 ≤ a.1 ∧ a.1 ≤ 1152921504606846976) ∧ Nat.gcd a.1.natAbs a.2.natAbs = 1
instance (a : Fq) : Decidable (okF a) := by unfold okF; infer_instance

def qv (a : Fq) : Rat := mkRat a.1 a.2.toNat
def fitsQ (q : Rat) : Prop := q.num.natAbs ≤ 1152921504606846976 ∧ q.den ≤ 1152921504606846976
instance (q : Rat) : Decidable (fitsQ q) := by unfold fitsQ; infer_instance
def prQ (q : Rat) : Fq := (q.num, (q.den : Int))
/-- What an operation with the result 'q' answers. -/
def fitQ (q : Rat) : Fq × Int × Unit := if fitsQ q then (prQ q, 0, ()) else ((0, 0), 5, ())

theorem okF_num {a : Fq} (h : okF a) : (qv a).num = a.1 := by
  obtain ⟨⟨h1, h2⟩, _, h3⟩ := h
  have h0 : a.2.toNat ≠ 0 := by omega
  have h4 : Nat.gcd a.2.toNat a.1.natAbs = 1 := by rw [Nat.gcd_comm, show a.2.toNat = a.2.natAbs by omega]; exact h3
  rw [qv, Rat.num_mkRat, if_neg h0, h4]
  simp
theorem okF_den {a : Fq} (h : okF a) : ((qv a).den : Int) = a.2 := by
  obtain ⟨⟨h1, h2⟩, _, h3⟩ := h
  have h0 : a.2.toNat ≠ 0 := by omega
  have h4 : Nat.gcd a.2.toNat a.1.natAbs = 1 := by rw [Nat.gcd_comm, show a.2.toNat = a.2.natAbs by omega]; exact h3
  rw [qv, Rat.den_mkRat, if_neg h0, h4]
  simp; omega
theorem prQ_qv {a : Fq} (h : okF a) : prQ (qv a) = a := by
  unfold prQ
  rw [okF_num h, okF_den h]
theorem qv_prQ (q : Rat) : qv (prQ q) = q := by
  unfold qv prQ
  simp only [Int.toNat_natCast]
  exact Rat.mkRat_self q
theorem okF_prQ {q : Rat} (h : fitsQ q) : okF (prQ q) := by
  obtain ⟨h1, h2⟩ := h
  have := q.den_pos
  refine ⟨⟨?_, ?_⟩, ⟨?_, ?_⟩, ?_⟩
  · simp only [prQ]; omega
  · simp only [prQ]; omega
  · simp only [prQ]; omega
  · simp only [prQ]; omega
  · simp only [prQ]
    rw [Int.natAbs_natCast]
    exact q.reduced
theorem fitsQ_qv {a : Fq} (h : okF a) : fitsQ (qv a) := by
  unfold fitsQ
  have h1 := okF_num h
  have h2 := okF_den h
  obtain ⟨⟨_, _⟩, ⟨_, _⟩, _⟩ := h
  rw [h1]
  omega
theorem fitQ_qv {a : Fq} (h : okF a) : fitQ (qv a) = (a, 0, ()) := by
  unfold fitQ
  rw [if_pos (fitsQ_qv h), prQ_qv h]
theorem qv_inj {a b : Fq} (ha : okF a) (hb : okF b) (h : qv a = qv b) : a = b := by
  rw [← prQ_qv ha, ← prQ_qv hb, h]
theorem qv_iff {a b : Fq} (ha : okF a) (hb : okF b) : qv a = qv b ↔ a = b := ⟨qv_inj ha hb, fun h => by rw [h]⟩
theorem fitQ_cases (q : Rat) : (fitsQ q ∧ fitQ q = (prQ q, 0, ())) ∨ (¬ fitsQ q ∧ fitQ q = ((0, 0), 5, ())) := by
  unfold fitQ
  by_cases h : fitsQ q
  · exact .inl ⟨h, by rw [if_pos h]⟩
  · exact .inr ⟨h, by rw [if_neg h]⟩

theorem qv_int (n : Int) : qv (n, 1) = (n : Rat) := by
  show mkRat n 1 = (n : Rat)
  rw [Rat.mkRat_eq_div]
  show (n : Rat) / ((1 : Nat) : Rat) = n
  rw [show ((1 : Nat) : Rat) = 1 from rfl]
  grind
theorem okF_int {n : Int} (h1 : -1152921504606846976 ≤ n) (h2 : n ≤ 1152921504606846976) : okF (n, 1) := ⟨⟨by simp, by simp⟩, ⟨h1, h2⟩, by simp⟩
theorem prQ_int (n : Int) : prQ (n : Rat) = (n, 1) := rfl

theorem okF_nonneg {a : Fq} (h : okF a) : 0 ≤ qv a ↔ 0 ≤ a.1 := by rw [← Rat.num_nonneg, okF_num h]
theorem okF_zero {a : Fq} (h : okF a) : qv a = 0 ↔ a.1 = 0 := by rw [← Rat.num_eq_zero, okF_num h]
theorem okF_neg {a : Fq} (h : okF a) : qv a < 0 ↔ a.1 < 0 := by
  rw [← Rat.not_le, okF_nonneg h]; omega
theorem okF_le {a b : Fq} (ha : okF a) (hb : okF b) : qv a ≤ qv b ↔ a.1 * b.2 ≤ b.1 * a.2 := by
  rw [Rat.le_iff, okF_num ha, okF_num hb, okF_den ha, okF_den hb]
theorem okF_lt {a b : Fq} (ha : okF a) (hb : okF b) : qv a < qv b ↔ a.1 * b.2 < b.1 * a.2 := by
  rw [Rat.lt_iff, okF_num ha, okF_num hb, okF_den ha, okF_den hb]

/-! ### Numbers by their size and their sign -/

/-- A number with a sign. -/
def sgn (s : Bool) (n : Nat) : Int := if s then -(n : Int) else n

/-- A quotient in lowest terms is the rational number. -/
theorem mkQ_low {s : Bool} {n d : Nat} (hd : 0 < d) (hc : Nat.gcd n d = 1) : (mkRat (sgn s n) d).num = sgn s n ∧ (mkRat (sgn s n) d).den = d := by
  have h0 : d ≠ 0 := by omega
  have ha : (sgn s n).natAbs = n := by unfold sgn; split <;> simp
  have hg : Nat.gcd d (sgn s n).natAbs = 1 := by rw [ha, Nat.gcd_comm]; exact hc
  rw [Rat.num_mkRat, Rat.den_mkRat, if_neg h0, if_neg h0, hg]
  simp

theorem mkQ_div {s : Bool} {n d : Nat} (hd : 0 < d) : mkRat (sgn s n) d = mkRat (sgn s (n / Nat.gcd n d)) (d / Nat.gcd n d) ∧ 0 < d / Nat.gcd n d ∧ Nat.gcd (n / Nat.gcd n d) (d / Nat.gcd n d) = 1 := by
  have hg : 0 < Nat.gcd n d := Nat.gcd_pos_of_pos_right _ hd
  have h1 : n / Nat.gcd n d * Nat.gcd n d = n := Nat.div_mul_cancel (Nat.gcd_dvd_left n d)
  have h2 : d / Nat.gcd n d * Nat.gcd n d = d := Nat.div_mul_cancel (Nat.gcd_dvd_right n d)
  refine ⟨?_, Nat.div_pos (Nat.le_of_dvd hd (Nat.gcd_dvd_right n d)) hg, Nat.gcd_div_gcd_div_gcd_of_pos_right hd⟩
  have h3 : sgn s n = sgn s (n / Nat.gcd n d) * (Nat.gcd n d : Int) := by
    unfold sgn
    split
    · rw [Int.neg_mul, ← Int.natCast_mul, h1]
    · rw [← Int.natCast_mul, h1]
  have h4 : mkRat (sgn s n) d = mkRat (sgn s (n / Nat.gcd n d) * (Nat.gcd n d : Int)) (d / Nat.gcd n d * Nat.gcd n d) := by rw [← h3, h2]
  rw [h4]
  exact Rat.mkRat_mul_right (by omega)

theorem mkQ_congr {s : Bool} {n d m e : Nat} (hd : 0 < d) (he : 0 < e) (h : n * e = m * d) : mkRat (sgn s n) d = mkRat (sgn s m) e := by
  rw [Rat.mkRat_eq_iff (by omega) (by omega)]
  unfold sgn
  split
  · rw [Int.neg_mul, Int.neg_mul, ← Int.natCast_mul, ← Int.natCast_mul, h]
  · rw [← Int.natCast_mul, ← Int.natCast_mul, h]

/-- What the two sizes in lowest terms answer. -/
theorem fit_low {s : Bool} {n d : Nat} (hd : 0 < d) (hc : Nat.gcd n d = 1) : fitQ (mkRat (sgn s n) d) = if n ≤ 1152921504606846976 ∧ d ≤ 1152921504606846976 then ((sgn s n, (d : Int)), 0, ()) else ((0, 0), 5, ()) := by
  obtain ⟨h1, h2⟩ := mkQ_low (s := s) hd hc
  have ha : (sgn s n).natAbs = n := by unfold sgn; split <;> simp
  unfold fitQ
  have e : fitsQ (mkRat (sgn s n) d) ↔ n ≤ 1152921504606846976 ∧ d ≤ 1152921504606846976 := by unfold fitsQ; rw [h1, h2, ha]
  have e2 : prQ (mkRat (sgn s n) d) = (sgn s n, (d : Int)) := by unfold prQ; rw [h1, h2]
  rw [e2]
  by_cases h : n ≤ 1152921504606846976 ∧ d ≤ 1152921504606846976
  · rw [if_pos h, if_pos (e.2 h)]
  · rw [if_neg h, if_neg (fun hh => h (e.1 hh))]

theorem size_sgn (n : Int) : n = sgn (decide (n < 0)) n.natAbs := by
  unfold sgn
  by_cases h : n < 0
  · simp [h]; omega
  · simp [h]; omega

theorem okF_mkQ (a : Fq) : qv a = mkRat (sgn (decide (a.1 < 0)) a.1.natAbs) a.2.toNat := by
  unfold qv
  rw [← size_sgn]

theorem mul_sgn {s t : Bool} {m n : Nat} : sgn s m * sgn t n = sgn (s != t) (m * n) := by
  unfold sgn
  cases s <;> cases t <;> simp [Int.neg_mul, Int.mul_neg]

/-- A product of two quotients. -/
theorem mkQ_mul {s t : Bool} {m n d e : Nat} : mkRat (sgn s m) d * mkRat (sgn t n) e = mkRat (sgn (s != t) (m * n)) (d * e) := by
  rw [Rat.mkRat_mul_mkRat, mul_sgn]

theorem sgn_zero (s t : Bool) : sgn s 0 = sgn t 0 := by unfold sgn; cases s <;> cases t <;> rfl

end Dn
end Go.Proofs.Ytghjblbkbelcfaa

namespace Go.Proofs.Ytghjblbkbelcfaa
open Try Dn Dn.Sh

theorem u_wrap {x : Int} (h1 : 0 ≤ x) (h2 : x < 18446744073709551616) : IntKind.wrap .u64 x = x := by
  rw [IntKind.wrap_u64]; omega

theorem size_ok {x : Int} (h1 : -9223372036854775808 ≤ x) (h2 : x < 9223372036854775808) : ratio_size x = some (x.natAbs : Int) := by
  simp only [ratio_size, ratio_size_b]
  by_cases h : x < 0
  · simp only [h, decide_true, cond_true]
    rw [IntKind.wrap_u64, IntKind.wrap_u64]
    congr 1; omega
  · simp only [h, decide_false, cond_false]
    rw [u_wrap (by omega) (by omega)]
    congr 1; omega

theorem gcd_ok (m n : Nat) (hn : n < 18446744073709551616) : ratio_gcd (m : Int) (n : Int) = some ((Nat.gcd m n : Nat) : Int) := by
  simp only [ratio_gcd, ratio_gcd_b]
  refine lpK_loop (g := fun x => some ((Nat.gcd x.1.toNat x.2.1.toNat : Nat) : Int)) (I := fun (x : Int × Int × PUnit) => 0 ≤ x.1 ∧ 0 ≤ x.2.1) (μ := fun (x : Int × Int × PUnit) => x.2.1.toNat) (x := ((m : Int), (n : Int), PUnit.unit)) ?_ ⟨Int.natCast_nonneg _, Int.natCast_nonneg _⟩ (by simp only; omega)
  rintro ⟨a, b, _⟩ rec ⟨h1, h2⟩ hrec
  simp only at h1 h2 ⊢
  by_cases hb : b = 0
  · subst hb
    simp only [decide_true, Bool.not_true, cond_false, Int.toNat_zero, Nat.gcd_zero_right]
    congr 1; omega
  · rw [decide_eq_false hb, nzB_of hb, Int.tmod_eq_emod_of_nonneg h1]
    simp only [Bool.not_false, cT]
    have h3 : 0 ≤ a % b := Int.emod_nonneg _ hb
    have h4 : a % b < b := Int.emod_lt_of_pos _ (by omega)
    rw [hrec _ ⟨by simp only; omega, by simp only; omega⟩ (by simp only; omega)]
    simp only
    congr 2
    rw [Int.toNat_emod h1 h2, Nat.gcd_comm a.toNat, Nat.gcd_rec b.toNat a.toNat, Nat.gcd_comm]

theorem signed_ok (s : Bool) (n d : Nat) (h1 : n < 18446744073709551616) (h2 : d < 18446744073709551616) :
    ratio_signed s (n : Int) (d : Int) = some (if n ≤ 1152921504606846976 ∧ d ≤ 1152921504606846976 then ((sgn s n, (d : Int)), 0, ()) else ((0, 0), 5, ())) := by
  simp only [ratio_signed, ratio_signed_b, not_or_self', or_self_not, cond_true]
  by_cases hn : n ≤ 1152921504606846976
  · by_cases hd : d ≤ 1152921504606846976
    · have e1 : decide ((n : Int) > 1152921504606846976) = false := decide_eq_false (by omega)
      have e2 : decide ((d : Int) > 1152921504606846976) = false := decide_eq_false (by omega)
      rw [wrap_id (x := (n : Int)) (by omega) (by omega), wrap_id (x := (d : Int)) (by omega) (by omega), wrap_id (x := 0 - (n : Int)) (by omega) (by omega)]
      simp only [e1, e2, cond_false, hn, hd, and_self, if_true]
      cases s <;> simp [sgn]
    · have e2 : decide ((d : Int) > 1152921504606846976) = true := decide_eq_true (by omega)
      simp only [e2, bif_true', Bool.or_true, cond_true, hd, and_false, if_false]
  · have e1 : decide ((n : Int) > 1152921504606846976) = true := decide_eq_true (by omega)
    simp only [e1, cond_true, hn, false_and, if_false]

/-- The quotient of two numbers. -/
def divQ (n d : Int) : Rat := mkRat (sgn (decide (n < 0) != decide (d < 0)) n.natAbs) d.natAbs

theorem divQ_eq {n d : Int} (hd : d ≠ 0) : divQ n d = (n : Rat) / d := by
  unfold divQ
  rw [← Rat.divInt_eq_div, show mkRat (sgn (decide (n < 0) != decide (d < 0)) n.natAbs) d.natAbs = Rat.divInt (sgn (decide (n < 0) != decide (d < 0)) n.natAbs) (d.natAbs : Int) from (Rat.divInt_ofNat _ _).symm]
  rw [Rat.divInt_eq_divInt_iff (by omega) hd]
  unfold sgn
  by_cases h1 : n < 0 <;> by_cases h2 : d < 0
  · rw [show ((n.natAbs : Nat) : Int) = -n by omega, show ((d.natAbs : Nat) : Int) = -d by omega]
    simp [h1, h2, Int.neg_mul, Int.mul_neg]
  · rw [show ((n.natAbs : Nat) : Int) = -n by omega, show ((d.natAbs : Nat) : Int) = d by omega]
    simp [h1, h2]
  · rw [show ((n.natAbs : Nat) : Int) = n by omega, show ((d.natAbs : Nat) : Int) = -d by omega]
    simp [h1, h2, Int.neg_mul, Int.mul_neg]
  · rw [show ((n.natAbs : Nat) : Int) = n by omega, show ((d.natAbs : Nat) : Int) = d by omega]
    simp [h1, h2]

theorem tdiv_nat (m n : Nat) : Int.tdiv (m : Int) (n : Int) = ((m / n : Nat) : Int) := by
  rw [Int.tdiv_eq_ediv_of_nonneg (by omega)]
  rfl

theorem Make_ok {n d : Int} (h1 : -9223372036854775808 ≤ n) (h2 : n < 9223372036854775808) (h3 : -9223372036854775808 ≤ d) (h4 : d < 9223372036854775808) :
    ratio_Make n d = some (if d = 0 then ((0, 0), 16, ()) else fitQ (divQ n d)) := by
  simp only [ratio_Make, ratio_Make_b, not_or_self', Bool.and_self, cond_true]
  by_cases hd : d = 0
  · simp only [hd, decide_true, cond_true, if_true]
  · simp only [hd, decide_false, cond_false, if_false]
    rw [size_ok h1 h2, obind_some', size_ok h3 h4, obind_some', gcd_ok _ _ (by omega), obind_some']
    have hg : 0 < Nat.gcd n.natAbs d.natAbs := Nat.gcd_pos_of_pos_right _ (by omega)
    have a1 : n.natAbs / Nat.gcd n.natAbs d.natAbs ≤ n.natAbs := Nat.div_le_self _ _
    have a2 : d.natAbs / Nat.gcd n.natAbs d.natAbs ≤ d.natAbs := Nat.div_le_self _ _
    have hz : nzB ((Nat.gcd n.natAbs d.natAbs : Nat) : Int) = true := nzB_of (by omega)
    obtain ⟨m1, m2, m3⟩ := mkQ_div (s := decide (n < 0) != decide (d < 0)) (n := n.natAbs) (d := d.natAbs) (by omega)
    have hs : n = 0 → n.natAbs / Nat.gcd n.natAbs d.natAbs = 0 := fun h => by subst h; simp
    rw [hz, cond_true, cond_true, tdiv_nat, tdiv_nat]
    unfold divQ
    rw [m1]
    generalize n.natAbs / Nat.gcd n.natAbs d.natAbs = p at *
    generalize d.natAbs / Nat.gcd n.natAbs d.natAbs = q at *
    rw [u_wrap (by omega) (by omega), u_wrap (by omega) (by omega), signed_ok _ _ _ (by omega) (by omega), obind_some', fit_low m2 m3]
    have hs : sgn (bif !decide (n = 0) then !decide (decide (n < 0) = decide (d < 0)) else false) p = sgn (decide (n < 0) != decide (d < 0)) p := by
      by_cases h0 : n = 0
      · rw [hs h0]
        exact sgn_zero _ _
      · simp only [h0, decide_false, Bool.not_false, cond_true]
        cases decide (n < 0) <;> cases decide (d < 0) <;> rfl
    rw [hs]

theorem Valid_ok {a : Fq} : ratio_Valid a = some (decide (okF a)) := by
  simp only [ratio_Valid, ratio_Valid_b, not_or_self', Bool.and_self, cond_true, bif_false']
  unfold okF
  by_cases h1 : 1 ≤ a.2
  · by_cases h2 : a.2 ≤ 1152921504606846976
    · by_cases h3 : -1152921504606846976 ≤ a.1
      · by_cases h4 : a.1 ≤ 1152921504606846976
        · have e : IntKind.wrap .u64 a.2 = ((a.2.natAbs : Nat) : Int) := by rw [u_wrap (by omega) (by omega)]; omega
          simp only [ge_iff_le, h1, h2, h3, h4, decide_true, Bool.and_self, cond_true]
          rw [size_ok (by omega) (by omega), obind_some', e, gcd_ok _ _ (by omega), obind_some']
          congr 1
          rw [Bool.eq_iff_iff]
          simp only [Bool.true_and, decide_eq_true_eq, true_and]
          generalize Nat.gcd a.1.natAbs a.2.natAbs = g
          omega
        · simp [obind_some', h4]
      · simp [obind_some', h3]
    · simp [obind_some', h2]
  · simp [obind_some', h1]

end Go.Proofs.Ytghjblbkbelcfaa

namespace Go.Proofs.Ytghjblbkbelcfaa
open Try Dn Dn.Sh

theorem land32 {x : Int} (h1 : 0 ≤ x) (h2 : x < 18446744073709551616) : ((Nat.land (Int.toNat (x % Int.ofNat 18446744073709551616)) (Int.toNat ((4294967295 : Int) % Int.ofNat 18446744073709551616)) : Nat) : Int) = x % 4294967296 := by
  have e1 : x % Int.ofNat 18446744073709551616 = x := Int.emod_eq_of_lt h1 h2
  have e2 : Int.toNat ((4294967295 : Int) % Int.ofNat 18446744073709551616) = 2 ^ 32 - 1 := by decide
  rw [e1, e2]
  have : Nat.land x.toNat (2 ^ 32 - 1) = x.toNat % 2 ^ 32 := Nat.and_two_pow_sub_one_eq_mod x.toNat 32
  rw [this]
  omega

/-- A number of two words. -/
def hl (n : Nat) : Int × Int := (((n / 18446744073709551616 : Nat) : Int), ((n % 18446744073709551616 : Nat) : Int))

theorem mulW {x y : Int} (x0 : 0 ≤ x) (x1 : x < 18446744073709551616) (y0 : 0 ≤ y) (y1 : y < 18446744073709551616) : bits_Mul64 x y = some (x * y / 18446744073709551616, x * y % 18446744073709551616, ()) := by
  have p32 : (2 : Int) ^ (32 : Nat) = 4294967296 := by decide
  simp only [bits_Mul64, bits_Mul64_b, p32, show decide ((0 : Int) ≤ 32) = true from rfl, cond_true]
  obtain ⟨a, b, ha, hb, hx⟩ : ∃ a b, a = x / 4294967296 ∧ b = x % 4294967296 ∧ x = a * 4294967296 + b := ⟨_, _, rfl, rfl, by omega⟩
  obtain ⟨c, d, hc, hd, hy⟩ : ∃ c d, c = y / 4294967296 ∧ d = y % 4294967296 ∧ y = c * 4294967296 + d := ⟨_, _, rfl, rfl, by omega⟩
  have fd : ∀ n : Int, Int.fdiv n 4294967296 = n / 4294967296 := fun n => Int.fdiv_eq_ediv_of_nonneg n (by omega)
  rw [land32 x0 x1, land32 y0 y1, ← hb, ← hd]
  simp only [fd, ← ha, ← hc]
  have a0 : 0 ≤ a ∧ a ≤ 4294967295 := by omega
  have b0 : 0 ≤ b ∧ b ≤ 4294967295 := by omega
  have c0 : 0 ≤ c ∧ c ≤ 4294967295 := by omega
  have d0 : 0 ≤ d ∧ d ≤ 4294967295 := by omega
  have mb : ∀ {m n : Int}, 0 ≤ m ∧ m ≤ 4294967295 → 0 ≤ n ∧ n ≤ 4294967295 → 0 ≤ m * n ∧ m * n ≤ 18446744065119617025 := fun {m n} hm hn => ⟨Int.mul_nonneg hm.1 hn.1, Int.le_trans (Int.mul_le_mul hm.2 hn.2 hn.1 (by omega)) (by decide)⟩
  have e1 := mb a0 c0
  have e2 := mb a0 d0
  have e3 := mb b0 c0
  have e4 := mb b0 d0
  have hxy : x * y = a * c * 18446744073709551616 + (a * d + b * c) * 4294967296 + b * d := by rw [hx, hy]; grind
  rw [IntKind.wrap_u64 (x * y)]
  rw [hxy]
  rw [u_wrap (x := b) (by omega) (by omega), u_wrap (x := d) (by omega) (by omega)]
  rw [u_wrap (x := b * d) (by omega) (by omega), u_wrap (x := a * d) (by omega) (by omega), u_wrap (x := b * c) (by omega) (by omega), u_wrap (x := a * c) (by omega) (by omega)]
  generalize b * d = bd at *
  generalize a * d = ad at *
  generalize b * c = bc at *
  generalize a * c = ac at *
  rw [u_wrap (x := ad + bd / 4294967296) (by omega) (by omega)]
  generalize ht : ad + bd / 4294967296 = t
  rw [land32 (by omega) (by omega)]
  rw [u_wrap (x := t % 4294967296) (by omega) (by omega)]
  rw [u_wrap (x := t % 4294967296 + bc) (by omega) (by omega), u_wrap (x := ac + t / 4294967296) (by omega) (by omega)]
  rw [u_wrap (x := ac + t / 4294967296 + (t % 4294967296 + bc) / 4294967296) (by omega) (by omega)]
  congr 1
  ext
  · simp only; omega
  · rfl

theorem product_ok {m n : Nat} (hm : m < 18446744073709551616) (hn : n < 18446744073709551616) : ratio_product (m : Int) (n : Int) = some (hl (m * n)) := by
  simp only [ratio_product, ratio_product_b]
  rw [mulW (by omega) (by omega) (by omega) (by omega), obind_some', ← Int.natCast_mul]
  rfl

theorem hl_small {n : Nat} (h : n < 18446744073709551616) : hl n = (0, (n : Int)) := by
  unfold hl
  rw [Nat.div_eq_of_lt h, Nat.mod_eq_of_lt h]
  rfl
theorem hl_big {n : Nat} (h : ¬ n < 18446744073709551616) : (hl n).1 > 0 := by
  unfold hl
  simp only
  omega

theorem Mul_ok {a b : Fq} (ha : okF a) (hb : okF b) : ratio_Mul a b = some (fitQ (qv a * qv b)) := by
  simp only [ratio_Mul, ratio_Mul_b, Valid_ok, ha, hb, decide_true, obind_some', Bool.not_true, Bool.not_false, Bool.and_self, cond_true, cond_false, not_or_self', or_self_not]
  have ha' := ha
  have hb' := hb
  obtain ⟨⟨a1, a2⟩, ⟨a3, a4⟩, a5⟩ := ha'
  obtain ⟨⟨b1, b2⟩, ⟨b3, b4⟩, b5⟩ := hb'
  rw [okF_mkQ a, okF_mkQ b, mkQ_mul]
  obtain ⟨d, hd⟩ : ∃ d : Nat, a.2 = (d : Int) := ⟨a.2.toNat, by omega⟩
  obtain ⟨e, he⟩ : ∃ e : Nat, b.2 = (e : Int) := ⟨b.2.toNat, by omega⟩
  rw [size_ok (by omega) (by omega), size_ok (by omega) (by omega)]
  simp only [obind_some', hd, he, Int.toNat_natCast] at *
  rw [u_wrap (x := (d : Int)) (by omega) (by omega), u_wrap (x := (e : Int)) (by omega) (by omega), gcd_ok _ _ (by omega), obind_some', gcd_ok _ _ (by omega), obind_some']
  have sa : a.1.natAbs ≤ 1152921504606846976 := by omega
  have sb : b.1.natAbs ≤ 1152921504606846976 := by omega
  have za : a.1 = 0 ↔ a.1.natAbs = 0 := by omega
  have zb : b.1 = 0 ↔ b.1.natAbs = 0 := by omega
  have hlt : decide (a.1 < 0) = true → a.1.natAbs ≠ 0 := fun h => by have := of_decide_eq_true h; omega
  rw [Int.natAbs_natCast] at a5 b5
  generalize a.1.natAbs = m at *
  generalize b.1.natAbs = n at *
  generalize decide (a.1 < 0) = s at *
  generalize decide (b.1 < 0) = t at *
  have hd0 : 0 < d := by omega
  have he0 : 0 < e := by omega
  have hg : 0 < Nat.gcd m e := Nat.gcd_pos_of_pos_right _ he0
  have hh : 0 < Nat.gcd n d := Nat.gcd_pos_of_pos_right _ hd0
  rw [nzB_of (show ((Nat.gcd m e : Nat) : Int) ≠ 0 by omega), nzB_of (show ((Nat.gcd n d : Nat) : Int) ≠ 0 by omega)]
  simp only [cond_true, tdiv_nat]
  have m1 : m / Nat.gcd m e * Nat.gcd m e = m := Nat.div_mul_cancel (Nat.gcd_dvd_left m e)
  have e1 : e / Nat.gcd m e * Nat.gcd m e = e := Nat.div_mul_cancel (Nat.gcd_dvd_right m e)
  have n1 : n / Nat.gcd n d * Nat.gcd n d = n := Nat.div_mul_cancel (Nat.gcd_dvd_left n d)
  have d1 : d / Nat.gcd n d * Nat.gcd n d = d := Nat.div_mul_cancel (Nat.gcd_dvd_right n d)
  have c1 : Nat.Coprime (m / Nat.gcd m e) (e / Nat.gcd m e) := Nat.coprime_div_gcd_div_gcd hg
  have c2 : Nat.Coprime (n / Nat.gcd n d) (d / Nat.gcd n d) := Nat.coprime_div_gcd_div_gcd hh
  have q1 : m / Nat.gcd m e ≤ m := Nat.div_le_self _ _
  have q2 : e / Nat.gcd m e ≤ e := Nat.div_le_self _ _
  have q3 : n / Nat.gcd n d ≤ n := Nat.div_le_self _ _
  have q4 : d / Nat.gcd n d ≤ d := Nat.div_le_self _ _
  have p2 : 0 < e / Nat.gcd m e := Nat.div_pos (Nat.le_of_dvd he0 (Nat.gcd_dvd_right m e)) hg
  have p4 : 0 < d / Nat.gcd n d := Nat.div_pos (Nat.le_of_dvd hd0 (Nat.gcd_dvd_right n d)) hh
  have x1 : m / Nat.gcd m e ∣ m := Nat.div_dvd_of_dvd (Nat.gcd_dvd_left m e)
  have x2 : e / Nat.gcd m e ∣ e := Nat.div_dvd_of_dvd (Nat.gcd_dvd_right m e)
  have x3 : n / Nat.gcd n d ∣ n := Nat.div_dvd_of_dvd (Nat.gcd_dvd_left n d)
  have x4 : d / Nat.gcd n d ∣ d := Nat.div_dvd_of_dvd (Nat.gcd_dvd_right n d)
  generalize Nat.gcd m e = g at *
  generalize Nat.gcd n d = h at *
  generalize m / g = m' at *
  generalize e / g = e' at *
  generalize n / h = n' at *
  generalize d / h = d' at *
  have cop : Nat.gcd (m' * n') (d' * e') = 1 := by
    refine Nat.Coprime.mul_left (Nat.Coprime.mul_right ?_ c1) (Nat.Coprime.mul_right c2 ?_)
    · exact Nat.Coprime.coprime_dvd_left x1 (Nat.Coprime.coprime_dvd_right x4 a5)
    · exact Nat.Coprime.coprime_dvd_left x3 (Nat.Coprime.coprime_dvd_right x2 b5)
  have hq : mkRat (sgn (s != t) (m * n)) (d * e) = mkRat (sgn (s != t) (m' * n')) (d' * e') := by
    refine mkQ_congr (Nat.mul_pos hd0 he0) (Nat.mul_pos p4 p2) ?_
    rw [← m1, ← n1, ← d1, ← e1]
    grind
  rw [hq, fit_low (Nat.mul_pos p4 p2) cop]
  rw [u_wrap (by omega) (by omega), u_wrap (by omega) (by omega), product_ok (by omega) (by omega), obind_some', u_wrap (by omega) (by omega), u_wrap (by omega) (by omega), product_ok (by omega) (by omega), obind_some']
  by_cases hN : m' * n' < 18446744073709551616
  · rw [hl_small hN]
    by_cases hD : d' * e' < 18446744073709551616
    · rw [hl_small hD]
      simp only [show decide ((0 : Int) > 0) = false from rfl, cond_false]
      rw [signed_ok _ _ _ hN hD, obind_some']
      have hs : sgn (bif decide (((m' * n' : Nat) : Int) > 0) then !decide (s = t) else false) (m' * n') = sgn (s != t) (m' * n') := by
        by_cases h0 : m' * n' = 0
        · rw [h0]; exact sgn_zero _ _
        · rw [decide_eq_true (show ((m' * n' : Nat) : Int) > 0 by omega)]
          cases s <;> cases t <;> rfl
      rw [hs]
    · have := hl_big hD
      simp only [show decide ((0 : Int) > 0) = false from rfl, cond_false, decide_eq_true this, cond_true]
      rw [if_neg (by omega)]
  · have := hl_big hN
    simp only [decide_eq_true this, cond_true]
    rw [if_neg (by omega)]

theorem Mul_bad {a b : Fq} (h : ¬ (okF a ∧ okF b)) : ratio_Mul a b = some ((0, 0), 1, ()) := by
  simp only [ratio_Mul, ratio_Mul_b, Valid_ok, obind_some', not_or_self', or_self_not, cond_true]
  by_cases ha : okF a
  · have hb : ¬ okF b := fun hb => h ⟨ha, hb⟩
    simp [ha, hb, obind_some']
  · simp [ha, obind_some']

theorem floor_ok {n d : Int} (h1 : -9223372036854775807 ≤ n) (h2 : n < 9223372036854775808) (hd : 0 < d) : ratio_floor n d = some (n / d) := by
  simp only [ratio_floor, ratio_floor_b, nzB_of (show d ≠ 0 by omega), cond_true]
  have hq : -9223372036854775807 ≤ Int.tdiv n d ∧ Int.tdiv n d < 9223372036854775808 := by
    rcases Int.le_total 0 n with h | h
    · rw [Int.tdiv_eq_ediv_of_nonneg h]
      have := Int.ediv_le_self d h
      have := Int.ediv_nonneg h (show 0 ≤ d by omega)
      omega
    · obtain ⟨m, rfl⟩ : ∃ m, n = -m := ⟨-n, by omega⟩
      rw [Int.neg_tdiv, Int.tdiv_eq_ediv_of_nonneg (by omega)]
      have := Int.ediv_le_self d (show 0 ≤ m by omega)
      have := Int.ediv_nonneg (show 0 ≤ m by omega) (show 0 ≤ d by omega)
      omega
  rw [wrap_id (x := Int.tdiv n d) (by omega) (by omega)]
  have e1 := Int.mul_tdiv_add_tmod n d
  have e2 := Int.mul_ediv_add_emod n d
  have b1 := Int.emod_nonneg n (show d ≠ 0 by omega)
  have b2 := Int.emod_lt_of_pos n hd
  have b3 : -d < Int.tmod n d ∧ Int.tmod n d < d := by
    rcases Int.le_total 0 n with h | h
    · rw [Int.tmod_eq_emod_of_nonneg h]; omega
    · obtain ⟨m, rfl⟩ : ∃ m, n = -m := ⟨-n, by omega⟩
      rw [Int.neg_tmod, Int.tmod_eq_emod_of_nonneg (by omega)]
      have := Int.emod_nonneg m (show d ≠ 0 by omega)
      have := Int.emod_lt_of_pos m hd
      omega
  have hb : -9223372036854775808 ≤ n / d ∧ n / d < 9223372036854775808 := by
    constructor
    · rw [Int.le_ediv_iff_mul_le hd]
      have := Int.mul_le_mul_of_nonneg_left (show 1 ≤ d by omega) (show (0 : Int) ≤ 9223372036854775808 by omega)
      omega
    · rw [Int.ediv_lt_iff_lt_mul hd]
      have := Int.mul_le_mul_of_nonneg_left (show 1 ≤ d by omega) (show (0 : Int) ≤ 9223372036854775808 by omega)
      omega
  obtain ⟨hb1, hb2⟩ := hb
  generalize Int.tdiv n d = q at *
  generalize Int.tmod n d = r at *
  generalize n / d = q' at *
  generalize n % d = r' at *
  have key : d * (q - q') = r' - r := by rw [Int.mul_sub]; omega
  by_cases hr : r < 0
  · have h3 : q - q' = 1 := by
      have l1 : d * 0 < d * (q - q') := by omega
      have l2 : d * (q - q') < d * 2 := by omega
      have := Int.lt_of_mul_lt_mul_left l1 (show 0 ≤ d by omega)
      have := Int.lt_of_mul_lt_mul_left l2 (show 0 ≤ d by omega)
      omega
    have hq2 : q - 1 = q' := by omega
    rw [decide_eq_true hr, cond_true, hq2, wrap_id (x := q') hb1 hb2]
  · rw [decide_eq_false hr, cond_false]
    have h3 : q - q' = 0 := by
      have l1 : d * (-1) < d * (q - q') := by omega
      have l2 : d * (q - q') < d * 1 := by omega
      have := Int.lt_of_mul_lt_mul_left l1 (show 0 ≤ d by omega)
      have := Int.lt_of_mul_lt_mul_left l2 (show 0 ≤ d by omega)
      omega
    congr 1; omega

theorem Floor_ok {a : Fq} (ha : okF a) : ratio_Floor a = some ((qv a).floor, 0, ()) := by
  simp only [ratio_Floor, ratio_Floor_b, Valid_ok, ha, decide_true, obind_some', Bool.not_true, cond_false]
  have e1 := okF_num ha
  have e2 := okF_den ha
  obtain ⟨⟨a1, a2⟩, ⟨a3, a4⟩, _⟩ := ha
  rw [floor_ok (by omega) (by omega) (by omega), obind_some', Rat.floor_def, e1, e2]

theorem Ceil_ok {a : Fq} (ha : okF a) : ratio_Ceil a = some ((qv a).ceil, 0, ()) := by
  simp only [ratio_Ceil, ratio_Ceil_b, Valid_ok, ha, decide_true, obind_some', Bool.not_true, cond_false]
  have e1 := okF_num ha
  have e2 := okF_den ha
  obtain ⟨⟨a1, a2⟩, ⟨a3, a4⟩, _⟩ := ha
  rw [wrap_id (x := 0 - a.1) (by omega) (by omega), Int.zero_sub, floor_ok (by omega) (by omega) (by omega), obind_some', Rat.ceil_eq_neg_floor_neg, Rat.floor_def, Rat.neg_num, Rat.neg_den, e1, e2]
  have h1 : -1152921504606846976 ≤ -a.1 / a.2 ∧ -a.1 / a.2 ≤ 1152921504606846976 := by
    constructor
    · rw [Int.le_ediv_iff_mul_le (by omega)]
      have := Int.mul_le_mul_of_nonneg_left (show 1 ≤ a.2 by omega) (show (0 : Int) ≤ 1152921504606846976 by omega)
      omega
    · rw [← Int.lt_add_one_iff, Int.ediv_lt_iff_lt_mul (by omega)]
      have := Int.mul_le_mul_of_nonneg_left (show 1 ≤ a.2 by omega) (show (0 : Int) ≤ 1152921504606846977 by omega)
      omega
  rw [wrap_id (by omega) (by omega), Int.zero_sub]

end Go.Proofs.Ytghjblbkbelcfaa

namespace Go.Proofs.Ytghjblbkbelcfaa
open Try Dn Dn.Sh

theorem fdiv_of {n d : Int} (h : 0 ≤ d) : Int.fdiv n d = n / d := Int.fdiv_eq_ediv_of_nonneg n h

theorem Half_ok {n : Nat} (_ : n < 340282366920938463463374607431768211456) : ref02_Half (hl n) = some (hl (n / 2)) := by
  simp only [ref02_Half, ref02_Half_b, show decide ((0 : Int) ≤ 1) = true from rfl, show decide ((0 : Int) ≤ 63) = true from rfl, cond_true, show (2 : Int) ^ (1 : Nat) = 2 from rfl, show (2 : Int) ^ (63 : Nat) = 9223372036854775808 from rfl, IntKind.wrap_u64, fdiv_of (show (0 : Int) ≤ 2 by omega), hl]
  congr 1
  ext <;> simp only <;> omega

theorem Less_ok {a b : Nat} : ref02_Less (hl a) (hl b) = some (decide (a < b)) := by
  simp only [ref02_Less, ref02_Less_b]
  have e : decide (a < b) = (bif decide ((hl a).1 < (hl b).1) then true else bif decide ((hl a).1 = (hl b).1) then decide ((hl a).2 < (hl b).2) else false) := by
    by_cases c1 : (hl a).1 < (hl b).1
    · simp only [c1, decide_true, cond_true]
      simp only [hl] at c1
      exact decide_eq_true (by omega)
    · by_cases c2 : (hl a).1 = (hl b).1
      · rw [decide_eq_false c1, decide_eq_true c2, cond_true, cond_false]
        have e2 : a < b ↔ (hl a).2 < (hl b).2 := by
          simp only [hl] at c1 c2 ⊢
          omega
        rw [Bool.eq_iff_iff, decide_eq_true_iff, decide_eq_true_iff]
        exact e2
      · simp only [c1, c2, decide_false, cond_false]
        simp only [hl] at c1 c2
        exact decide_eq_false (by omega)
  rw [e]
  cases decide ((hl a).1 < (hl b).1) <;> cases decide ((hl a).1 = (hl b).1) <;> rfl

theorem Minus_ok {a b : Nat} (h : b ≤ a) (ha : a < 340282366920938463463374607431768211456) : ref02_Minus (hl a) (hl b) = some (hl (a - b)) := by
  simp only [ref02_Minus, ref02_Minus_b]
  by_cases hc : (hl a).2 < (hl b).2
  · rw [decide_eq_true hc, cond_true]
    simp only [IntKind.wrap_u64, hl] at hc ⊢
    congr 1
    ext <;> simp only <;> omega
  · rw [decide_eq_false hc, cond_false]
    simp only [IntKind.wrap_u64, hl] at hc ⊢
    congr 1
    ext <;> simp only <;> omega

/-- A difference that lost a bit in front. -/
theorem Minus_over {a b : Nat} (h : b ≤ a) (hb : a - b < 340282366920938463463374607431768211456) (_ : b < 340282366920938463463374607431768211456) : ref02_Minus (hl (a % 340282366920938463463374607431768211456)) (hl b) = some (hl (a - b)) := by
  simp only [ref02_Minus, ref02_Minus_b]
  by_cases hc : (hl (a % 340282366920938463463374607431768211456)).2 < (hl b).2
  · rw [decide_eq_true hc, cond_true]
    simp only [IntKind.wrap_u64, hl] at hc ⊢
    congr 1
    ext <;> simp only <;> omega
  · rw [decide_eq_false hc, cond_false]
    simp only [IntKind.wrap_u64, hl] at hc ⊢
    congr 1
    ext <;> simp only <;> omega

theorem Plus_ok {m n : Nat} (h : m + n < 340282366920938463463374607431768211456) : ref02_Plus (hl m) (hl n) = some (hl (m + n)) := by
  simp only [ref02_Plus, ref02_Plus_b]
  by_cases hc : IntKind.wrap .u64 ((hl m).2 + (hl n).2) < (hl m).2
  · rw [decide_eq_true hc, cond_true]
    simp only [IntKind.wrap_u64, hl] at hc ⊢
    congr 1
    ext <;> simp only <;> omega
  · rw [decide_eq_false hc, cond_false]
    simp only [IntKind.wrap_u64, hl] at hc ⊢
    congr 1
    ext <;> simp only <;> omega

theorem low1 {x : Int} (h1 : 0 ≤ x) (h2 : x < 18446744073709551616) : IntKind.wrap .u64 ((Nat.land (Int.toNat (x % Int.ofNat 18446744073709551616)) (Int.toNat ((1 : Int) % Int.ofNat 18446744073709551616)) : Nat) : Int) = x % 2 := by
  have e1 : x % Int.ofNat 18446744073709551616 = x := Int.emod_eq_of_lt h1 h2
  have e2 : Int.toNat ((1 : Int) % Int.ofNat 18446744073709551616) = 2 ^ 1 - 1 := by decide
  rw [e1, e2]
  have : Nat.land x.toNat (2 ^ 1 - 1) = x.toNat % 2 ^ 1 := Nat.and_two_pow_sub_one_eq_mod x.toNat 1
  rw [this, IntKind.wrap_u64]
  omega
theorem even_hl {n : Nat} : decide (IntKind.wrap .u64 ((Nat.land (Int.toNat ((hl n).2 % Int.ofNat 18446744073709551616)) (Int.toNat ((1 : Int) % Int.ofNat 18446744073709551616)) : Nat) : Int) = 0) = decide (n % 2 = 0) := by
  rw [low1 (by simp only [hl]; omega) (by simp only [hl]; omega)]
  rw [Bool.eq_iff_iff, decide_eq_true_iff, decide_eq_true_iff]
  simp only [hl]
  omega
theorem zero_hl {n : Nat} (h : n < 340282366920938463463374607431768211456) : (decide ((hl n).1 = 0) && (decide ((hl n).2 = 0) && true)) = decide (n = 0) := by
  rw [Bool.and_true, Bool.eq_iff_iff, Bool.and_eq_true, decide_eq_true_iff, decide_eq_true_iff, decide_eq_true_iff]
  simp only [hl]
  omega

/-- The number that two words are. -/
def unhl (p : Int × Int) : Nat := p.1.toNat * 18446744073709551616 + p.2.toNat
theorem unhl_hl {n : Nat} : unhl (hl n) = n := by
  simp only [unhl, hl]; omega

theorem gcd_half {a b : Nat} (ha : a % 2 = 0) (h : Nat.gcd a b % 2 = 1) : Nat.gcd (a / 2) b = Nat.gcd a b := by
  have h2 : a / 2 ∣ a := Nat.div_dvd_of_dvd (Nat.dvd_of_mod_eq_zero ha)
  refine Nat.dvd_antisymm (Nat.dvd_gcd (Nat.dvd_trans (Nat.gcd_dvd_left _ _) h2) (Nat.gcd_dvd_right _ _)) (Nat.dvd_gcd ?_ (Nat.gcd_dvd_right _ _))
  have h3 : Nat.gcd a b ∣ 2 * (a / 2) := by rw [show 2 * (a / 2) = a by omega]; exact Nat.gcd_dvd_left _ _
  refine Nat.Coprime.dvd_of_dvd_mul_left ?_ h3
  show Nat.gcd (Nat.gcd a b) 2 = 1
  rw [Nat.gcd_comm, Nat.gcd_rec, h]
  rfl

theorem log2_half {a : Nat} (h : 2 ≤ a) : Nat.log2 (a / 2) + 1 = Nat.log2 a := by
  conv => rhs; rw [Nat.log2_def]
  rw [if_pos h]
theorem log2_mono {a b : Nat} (h : a ≤ b) : Nat.log2 a ≤ Nat.log2 b := by
  by_cases ha : a = 0
  · subst ha; simp
  · have hb : b ≠ 0 := by omega
    rw [Nat.le_log2 hb]
    exact Nat.le_trans ((Nat.le_log2 ha).1 (Nat.le_refl _)) h
theorem log2_dbl {a b : Nat} (ha : 0 < a) (h : 2 * a ≤ b) : Nat.log2 a + 1 ≤ Nat.log2 b := by
  have h1 := log2_half (a := b) (by omega)
  have := log2_mono (show a ≤ b / 2 by omega)
  omega
theorem log2_128 {a : Nat} (h : a < 340282366920938463463374607431768211456) : Nat.log2 a ≤ 127 := by
  by_cases ha : a = 0
  · subst ha; simp
  · have : Nat.log2 a < 128 := (Nat.log2_lt ha).2 h
    omega

theorem Gcd_ok {A B : Nat} (hA : A < 340282366920938463463374607431768211456) (hB0 : 0 < B) (hB : B < 340282366920938463463374607431768211456) : ref02_Gcd (hl A) (hl B) = some (hl (Nat.gcd A B)) := by
  simp only [ref02_Gcd, ref02_Gcd_b]
  rw [zero_hl hA]
  by_cases hA0 : A = 0
  · rw [decide_eq_true hA0, cond_true, hA0, Nat.gcd_zero_left]
  rw [decide_eq_false hA0, cond_false]
  have hG : Nat.gcd A B ≤ B := Nat.le_of_dvd hB0 (Nat.gcd_dvd_right A B)
  have hGdef : ∃ G, G = Nat.gcd A B := ⟨_, rfl⟩
  obtain ⟨G, hGd⟩ := hGdef
  rw [← hGd]
  refine lpK_loop (g := fun _ => some (hl G)) (I := fun (x : Int × (Int × Int) × (Int × Int) × PUnit) => ∃ t a b : Nat, x = ((t : Int), hl a, hl b, ⟨⟩) ∧ 0 < a ∧ a < 340282366920938463463374607431768211456 ∧ 0 < b ∧ b < 340282366920938463463374607431768211456 ∧ 2 ^ t * Nat.gcd a b = G ∧ t + Nat.log2 a ≤ 127)
    (μ := fun (x : Int × (Int × Int) × (Int × Int) × PUnit) => Nat.log2 (unhl x.2.1)) (x := ((0 : Int), hl A, hl B, PUnit.unit)) ?_ ⟨0, A, B, rfl, by omega, hA, hB0, hB, by rw [hGd]; simp, by have := log2_128 hA; omega⟩ (by simp only [unhl_hl]; have := log2_128 hA; omega)
  rintro _ rec ⟨t, a, b, rfl, a0, a1, b0, b1, hg, ht⟩ hrec
  simp only [even_hl, not_or_self', cond_true]
  by_cases hev : a % 2 = 0 ∧ b % 2 = 0
  · rw [decide_eq_true hev.1, cond_true, decide_eq_true hev.2, cond_true, Half_ok a1, obind_some', Half_ok b1, obind_some', wrap_id (by omega) (by omega)]
    have hl2 := log2_half (a := a) (by omega)
    refine hrec _ ⟨t + 1, a / 2, b / 2, by rfl, by omega, by omega, by omega, by omega, ?_, by omega⟩ (by simp only [unhl_hl]; omega)
    rw [← hg, Nat.pow_succ, Nat.mul_assoc, ← Nat.gcd_mul_left, show 2 * (a / 2) = a by omega, show 2 * (b / 2) = b by omega]
  have hodd : Nat.gcd a b % 2 = 1 := by
    rcases Nat.mod_two_eq_zero_or_one (Nat.gcd a b) with h | h
    · exfalso
      have h2 := Nat.dvd_of_mod_eq_zero h
      exact hev ⟨Nat.mod_eq_zero_of_dvd (Nat.dvd_trans h2 (Nat.gcd_dvd_left a b)), Nat.mod_eq_zero_of_dvd (Nat.dvd_trans h2 (Nat.gcd_dvd_right a b))⟩
    · exact h
  have hcond : (bif decide (a % 2 = 0) then decide (b % 2 = 0) else false) = false := by
    rw [Bool.eq_false_iff]
    intro h
    by_cases h2 : a % 2 = 0
    · rw [decide_eq_true h2, cond_true, decide_eq_true_iff] at h
      exact hev ⟨h2, h⟩
    · rw [decide_eq_false h2, cond_false] at h
      cases h
  rw [hcond, cond_false]
  clear hcond hrec
  generalize hgd : Nat.gcd a b = g at *
  refine lpK_loop (g := fun _ => some (hl G)) (I := fun (x : (Int × Int) × (Int × Int) × PUnit) => ∃ a b : Nat, x = (hl a, hl b, ⟨⟩) ∧ a < 340282366920938463463374607431768211456 ∧ 0 < b ∧ b < 340282366920938463463374607431768211456 ∧ Nat.gcd a b = g)
    (μ := fun (x : (Int × Int) × (Int × Int) × PUnit) => Nat.log2 (unhl x.1) + Nat.log2 (unhl x.2.1) + unhl x.1 % 2) (x := (hl a, hl b, PUnit.unit)) ?_ ⟨a, b, rfl, a1, b0, b1, hgd⟩ (by simp only [unhl_hl]; have := log2_128 a1; have := log2_128 b1; omega)
  clear hgd hev a0 a1 b0 b1
  rintro _ rec ⟨a, b, rfl, a1, b0, b1, hgd⟩ hrec
  simp only [zero_hl a1]
  by_cases ha0 : a = 0
  · rw [decide_eq_true ha0, Bool.not_true, cond_false]
    have hbg : b = g := by rw [← hgd, ha0, Nat.gcd_zero_left]
    refine lpK_loop (g := fun _ => some (hl G)) (I := fun (x : Int × (Int × Int) × PUnit) => ∃ t b : Nat, x = ((t : Int), hl b, ⟨⟩) ∧ 0 < b ∧ 2 ^ t * b = G ∧ t ≤ 127)
      (μ := fun (x : Int × (Int × Int) × PUnit) => x.1.toNat) (x := ((t : Int), hl b, PUnit.unit)) ?_ ⟨t, b, rfl, b0, by rw [hbg]; exact hg, by omega⟩ (by simp only; omega)
    rintro _ rec ⟨t, b, rfl, b0, hg, ht⟩ hrec
    simp only
    by_cases ht0 : t = 0
    · rw [decide_eq_false (by omega), cond_false, ← hg, ht0]; simp
    · rw [decide_eq_true (by omega), cond_true]
      obtain ⟨s, rfl⟩ : ∃ s, t = s + 1 := ⟨t - 1, by omega⟩
      have h2 : 2 ^ s * (b + b) = G := by rw [← hg, Nat.pow_succ, Nat.mul_assoc]; congr 1; omega
      have h3 : b + b ≤ G := by
        rw [← h2]
        exact Nat.le_mul_of_pos_left _ (Nat.pow_pos (by omega))
      rw [Plus_ok (by omega), obind_some', wrap_id (by omega) (by omega)]
      exact hrec _ ⟨s, b + b, by simp only [Prod.mk.injEq, and_true]; omega, by omega, h2, by omega⟩ (by simp only; omega)
  rw [decide_eq_false ha0, Bool.not_false, cond_true]
  refine lpK_loop (g := fun _ => some (hl G)) (I := fun (x : (Int × Int) × PUnit) => ∃ c : Nat, x = (hl c, ⟨⟩) ∧ 0 < c ∧ c < 340282366920938463463374607431768211456 ∧ Nat.gcd c b = g ∧ (c = a ∨ 2 * c ≤ a))
    (μ := fun (x : (Int × Int) × PUnit) => Nat.log2 (unhl x.1)) (x := (hl a, PUnit.unit)) ?_ ⟨a, rfl, by omega, a1, hgd, .inl rfl⟩ (by simp only [unhl_hl]; have := log2_128 a1; omega)
  rintro _ rec3 ⟨c, rfl, c0, c1, hgc, hca⟩ hrec3
  simp only [even_hl]
  by_cases hce : c % 2 = 0
  · rw [decide_eq_true hce, cond_true, Half_ok c1, obind_some']
    have hl2 := log2_half (a := c) (by omega)
    exact hrec3 _ ⟨c / 2, rfl, by omega, by omega, by rw [gcd_half hce (by rw [hgc]; exact hodd), hgc], .inr (by omega)⟩ (by simp only [unhl_hl]; omega)
  rw [decide_eq_false hce, cond_false]
  clear hrec3
  refine lpK_loop (g := fun _ => some (hl G)) (I := fun (x : (Int × Int) × PUnit) => ∃ d : Nat, x = (hl d, ⟨⟩) ∧ 0 < d ∧ d ≤ b ∧ Nat.gcd c d = g)
    (μ := fun (x : (Int × Int) × PUnit) => Nat.log2 (unhl x.1)) (x := (hl b, PUnit.unit)) ?_ ⟨b, rfl, b0, Nat.le_refl _, hgc⟩ (by simp only [unhl_hl]; have := log2_128 b1; omega)
  rintro _ rec4 ⟨d, rfl, d0, d1, hgd'⟩ hrec4
  simp only [even_hl]
  by_cases hde : d % 2 = 0
  · rw [decide_eq_true hde, cond_true, Half_ok (by omega), obind_some']
    have hl2 := log2_half (a := d) (by omega)
    exact hrec4 _ ⟨d / 2, rfl, by omega, by omega, by rw [Nat.gcd_comm, gcd_half hde (by rw [Nat.gcd_comm, hgd']; exact hodd), Nat.gcd_comm, hgd']⟩ (by simp only [unhl_hl]; omega)
  rw [decide_eq_false hde, cond_false, Less_ok, obind_some']
  clear hrec4
  have lb := log2_mono d1
  have la : Nat.log2 c + 1 ≤ Nat.log2 a + a % 2 := by
    rcases hca with rfl | h
    · omega
    · have := log2_dbl c0 h; omega
  by_cases hlt : c < d
  · rw [decide_eq_true hlt, cond_true, Minus_ok (by omega) (by omega), obind_some']
    have l1 := log2_mono (show d - c ≤ d by omega)
    exact hrec _ ⟨d - c, c, rfl, by omega, c0, c1, by rw [Nat.gcd_sub_self_left (by omega), Nat.gcd_comm, hgd']⟩ (by simp only [unhl_hl]; omega)
  · rw [decide_eq_false hlt, cond_false, Minus_ok (by omega) (by omega), obind_some']
    have l1 := log2_mono (show c - d ≤ c by omega)
    exact hrec _ ⟨c - d, d, rfl, by omega, d0, by omega, by rw [Nat.gcd_sub_self_left (by omega), hgd']⟩ (by simp only [unhl_hl]; omega)

end Go.Proofs.Ytghjblbkbelcfaa

namespace Go.Proofs.Ytghjblbkbelcfaa
open Try Dn Dn.Sh

theorem dbl_hl {n : Nat} : (IntKind.wrap .u64 (IntKind.wrap .u64 ((hl n).1 * 2) + (hl n).2 / 9223372036854775808), IntKind.wrap .u64 ((hl n).2 * 2)) = hl (2 * n % 340282366920938463463374607431768211456) := by
  simp only [IntKind.wrap_u64, hl]
  ext <;> simp only <;> omega
theorem dblb_hl {r a : Nat} (_ : r < 340282366920938463463374607431768211456) (ha : a < 340282366920938463463374607431768211456) : (IntKind.wrap .u64 (IntKind.wrap .u64 ((hl r).1 * 2) + (hl r).2 / 9223372036854775808), IntKind.wrap .u64 (IntKind.wrap .u64 ((hl r).2 * 2) + (hl a).1 / 9223372036854775808)) = hl ((2 * r + 2 * a / 340282366920938463463374607431768211456) % 340282366920938463463374607431768211456) := by
  simp only [IntKind.wrap_u64, hl]
  ext <;> simp only <;> omega
theorem dbl1_hl {q : Nat} (hq : 2 * q + 1 < 340282366920938463463374607431768211456) : (IntKind.wrap .u64 (IntKind.wrap .u64 ((hl q).1 * 2) + (hl q).2 / 9223372036854775808), IntKind.wrap .u64 (IntKind.wrap .u64 ((hl q).2 * 2) + 1)) = hl (2 * q + 1) := by
  simp only [IntKind.wrap_u64, hl]
  ext <;> simp only <;> omega
theorem over_hl {r a : Nat} (hr : r < 340282366920938463463374607431768211456) (ha : a < 340282366920938463463374607431768211456) : decide ((hl r).1 / 9223372036854775808 > 0) = decide (340282366920938463463374607431768211456 ≤ 2 * r + 2 * a / 340282366920938463463374607431768211456) := by
  rw [Bool.eq_iff_iff, decide_eq_true_iff, decide_eq_true_iff]
  simp only [hl]
  omega

theorem divMod_of {t b q r : Nat} (hr : r < b) (h : t = q * b + r) : t / b = q ∧ t % b = r := by
  subst h
  constructor
  · rw [Nat.mul_comm, Nat.mul_add_div (by omega), Nat.div_eq_of_lt hr, Nat.add_zero]
  · rw [Nat.mul_comm, Nat.mul_add_mod, Nat.mod_eq_of_lt hr]

theorem RDiv_ok {A B : Nat} (hA : A < 340282366920938463463374607431768211456) (hB0 : 0 < B) (hB : B < 340282366920938463463374607431768211456) : ref02_Div (hl A) (hl B) = some (hl (A / B), hl (A % B), ()) := by
  simp only [ref02_Div, ref02_Div_b, show decide ((0 : Int) ≤ 1) = true from rfl, show decide ((0 : Int) ≤ 63) = true from rfl, cond_true, not_or_self', show (2 : Int) ^ (1 : Nat) = 2 from rfl, show (2 : Int) ^ (63 : Nat) = 9223372036854775808 from rfl, fdiv_of (show (0 : Int) ≤ 9223372036854775808 by omega), Bool.and_self]
  by_cases hs : A < 18446744073709551616 ∧ B < 18446744073709551616
  · rw [hl_small hs.1, hl_small hs.2]
    have q1 : A / B ≤ A := Nat.div_le_self _ _
    have q2 : A % B ≤ A := Nat.mod_le _ _
    simp only [decide_true, cond_true, nzB_of (show (B : Int) ≠ 0 by omega), tdiv_nat]
    have hq : ((A / B : Nat) : Int) < 18446744073709551616 := by
      generalize A / B = z at *
      omega
    rw [hl_small (show A / B < 18446744073709551616 by omega), hl_small (show A % B < 18446744073709551616 by omega), u_wrap (Int.natCast_nonneg _) hq, Int.tmod_eq_emod_of_nonneg (by omega), Int.natCast_emod]
  · have hc : (bif decide ((hl A).1 = 0) then decide ((hl B).1 = 0) else false) = false := by
      rw [Bool.eq_false_iff]
      intro h
      by_cases h1 : (hl A).1 = 0
      · rw [decide_eq_true h1, cond_true, decide_eq_true_iff] at h
        simp only [hl] at h1 h
        omega
      · rw [decide_eq_false h1, cond_false] at h
        cases h
    rw [hc, cond_false]
    refine lpK_loop (g := fun _ => some (hl (A / B), hl (A % B), ())) (I := fun (x : Int × (Int × Int) × (Int × Int) × (Int × Int) × PUnit) => ∃ i X : Nat, i ≤ 128 ∧ X = A * 2 ^ i ∧ x = ((i : Int), hl (X % 340282366920938463463374607431768211456), hl (X / 340282366920938463463374607431768211456 / B), hl (X / 340282366920938463463374607431768211456 % B), ⟨⟩))
      (μ := fun (x : Int × (Int × Int) × (Int × Int) × (Int × Int) × PUnit) => (128 - x.1).toNat) (x := ((0 : Int), hl A, ((0 : Int), (0 : Int)), ((0 : Int), (0 : Int)), PUnit.unit)) ?_ ⟨0, A, by omega, by simp, by
        rw [Nat.mod_eq_of_lt hA, Nat.div_eq_of_lt hA, Nat.zero_div, Nat.zero_mod]; rfl⟩ (by simp only; omega)
    rintro _ rec ⟨i, X, hi, hX, rfl⟩ hrec
    simp only
    by_cases hlt : i < 128
    · rw [decide_eq_true (show (i : Int) < 128 by omega), cond_true]
      have hX2 : 2 * X = A * 2 ^ (i + 1) := by rw [hX, Nat.pow_succ]; grind
      have hT : 2 * X / 340282366920938463463374607431768211456 ≤ A := by
        have : A * 2 ^ (i + 1) ≤ A * 2 ^ 128 := Nat.mul_le_mul_left _ (Nat.pow_le_pow_right (by omega) (by omega))
        rw [hX2]
        refine Nat.div_le_of_le_mul ?_
        rw [show (2 : Nat) ^ 128 = 340282366920938463463374607431768211456 from rfl, Nat.mul_comm A 340282366920938463463374607431768211456] at this
        exact this
      have ha := Nat.mod_lt X (show 340282366920938463463374607431768211456 > 0 by omega)
      have hr := Nat.mod_lt (X / 340282366920938463463374607431768211456) hB0
      have e1 : 2 * X % 340282366920938463463374607431768211456 = 2 * (X % 340282366920938463463374607431768211456) % 340282366920938463463374607431768211456 := by omega
      have e2 : 2 * X / 340282366920938463463374607431768211456 = 2 * (X / 340282366920938463463374607431768211456) + 2 * (X % 340282366920938463463374607431768211456) / 340282366920938463463374607431768211456 := by omega
      have e3 : X / 340282366920938463463374607431768211456 = X / 340282366920938463463374607431768211456 / B * B + X / 340282366920938463463374607431768211456 % B := by rw [Nat.mul_comm]; exact (Nat.div_add_mod _ _).symm
      have hq : X / 340282366920938463463374607431768211456 / B ≤ X / 340282366920938463463374607431768211456 := Nat.div_le_self _ _
      rw [wrap_id (x := (i : Int) + 1) (by omega) (by omega)]
      have bit : 2 * (X % 340282366920938463463374607431768211456) / 340282366920938463463374607431768211456 ≤ 1 := by omega
      have step : ∀ q r, r < B → 2 * X / 340282366920938463463374607431768211456 = q * B + r → rec ((i : Int) + 1, hl (2 * (X % 340282366920938463463374607431768211456) % 340282366920938463463374607431768211456), hl q, hl r, PUnit.unit) = some (hl (A / B), hl (A % B), ()) := fun q r h1 h2 => by
        obtain ⟨h3, h4⟩ := divMod_of h1 h2
        exact hrec _ ⟨i + 1, 2 * X, by omega, hX2, by rw [h3, h4, e1]; rfl⟩ (by simp only; omega)
      generalize hTd : X / 340282366920938463463374607431768211456 = T at *
      generalize hαd : X % 340282366920938463463374607431768211456 = α at *
      generalize hqd : T / B = q at *
      generalize hrd : T % B = r at *
      have hq2 : 2 * q + 1 < 340282366920938463463374607431768211456 := by
        by_cases hq0 : q = 0
        · omega
        · have h1 : q * 1 ≤ q * B := Nat.mul_le_mul_left _ hB0
          have h2 : A ≤ 340282366920938463463374607431768211455 := by omega
          omega
      rw [over_hl (r := r) (a := α) (by omega) ha, dbl_hl (n := α), dblb_hl (r := r) (a := α) (by omega) ha]
      have hmul2 : 2 * (q * B) = 2 * q * B := by rw [Nat.mul_assoc]
      have hmul3 : (2 * q + 1) * B = 2 * q * B + B := by rw [Nat.add_mul, Nat.one_mul]
      by_cases ho : 340282366920938463463374607431768211456 ≤ 2 * r + 2 * α / 340282366920938463463374607431768211456
      · simp only [decide_eq_true ho, Bool.not_true, Bool.not_false, cond_true, cond_false, Bool.or_self, Bool.and_self, obind_some', Bool.or_true]
        rw [Minus_over (a := 2 * r + 2 * α / 340282366920938463463374607431768211456) (b := B) (by omega) (by omega) hB, obind_some', dbl1_hl hq2]
        exact step _ _ (by omega) (by rw [hmul3]; omega)
      · have hR : (2 * r + 2 * α / 340282366920938463463374607431768211456) % 340282366920938463463374607431768211456 = 2 * r + 2 * α / 340282366920938463463374607431768211456 := Nat.mod_eq_of_lt (by omega)
        simp only [decide_eq_false ho, hR, Bool.not_true, Bool.not_false, cond_true, cond_false, Bool.or_self, Bool.and_self, obind_some', Bool.or_true, Less_ok]
        by_cases hl2 : 2 * r + 2 * α / 340282366920938463463374607431768211456 < B
        · simp only [decide_eq_true hl2, Bool.not_true, cond_false]
          have e := dbl_hl (n := q)
          rw [Nat.mod_eq_of_lt (show 2 * q < 340282366920938463463374607431768211456 by omega)] at e
          rw [e]
          exact step _ _ (by omega) (by omega)
        · simp only [decide_eq_false hl2, Bool.not_false, cond_true]
          rw [Minus_ok (by omega) (by omega), obind_some', dbl1_hl hq2]
          exact step _ _ (by omega) (by rw [hmul3]; omega)
    · have : i = 128 := by omega
      subst this
      have hx : X / 340282366920938463463374607431768211456 = A := by
        rw [hX]
        exact Nat.mul_div_cancel A (by decide)
      rw [decide_eq_false (by omega), cond_false, hx]

theorem RMade_ok {s : Bool} {n d : Nat} (hn : n < 340282366920938463463374607431768211456) (hd0 : 0 < d) (hd : d < 340282366920938463463374607431768211456) : ref02_Made (hl n) s (hl d) = some (fitQ (mkRat (sgn s n) d)) := by
  have hG0 : 0 < Nat.gcd n d := Nat.gcd_pos_of_pos_right _ hd0
  have hG : Nat.gcd n d ≤ d := Nat.le_of_dvd hd0 (Nat.gcd_dvd_right n d)
  simp only [ref02_Made, ref02_Made_b, not_or_self', or_self_not, cond_true]
  rw [zero_hl hd, decide_eq_false (show ¬ d = 0 by omega), cond_false, Gcd_ok hn hd0 hd, obind_some', RDiv_ok hn hG0 (by omega), obind_some', RDiv_ok hd hG0 (by omega), obind_some']
  obtain ⟨m1, m2, m3⟩ := mkQ_div (s := s) (n := n) (d := d) hd0
  rw [m1, fit_low m2 m3]
  have q1 : n / Nat.gcd n d ≤ n := Nat.div_le_self _ _
  have q2 : d / Nat.gcd n d ≤ d := Nat.div_le_self _ _
  generalize n / Nat.gcd n d = p at *
  generalize d / Nat.gcd n d = q at *
  simp only
  have big : ∀ {x : Nat}, x < 340282366920938463463374607431768211456 → (bif decide ((hl x).1 > 0) then true else decide ((hl x).2 > 1152921504606846976)) = decide (¬ x ≤ 1152921504606846976) := fun {x} hx => by
    by_cases h1 : (hl x).1 > 0
    · rw [decide_eq_true h1, cond_true]
      simp only [hl] at h1
      exact (decide_eq_true (by omega)).symm
    · rw [decide_eq_false h1, cond_false, Bool.eq_iff_iff, decide_eq_true_iff, decide_eq_true_iff]
      simp only [hl] at h1 ⊢
      omega
  rw [big (show p < 340282366920938463463374607431768211456 by omega)]
  by_cases hp : p ≤ 1152921504606846976
  · simp only [hp, not_true_eq_false, decide_false, cond_false, true_and]
    rw [big (show q < 340282366920938463463374607431768211456 by omega)]
    by_cases hq : q ≤ 1152921504606846976
    · simp only [hq, not_true_eq_false, decide_false, cond_false, if_true]
      rw [hl_small (show p < 18446744073709551616 by omega), hl_small (show q < 18446744073709551616 by omega)]
      simp only
      rw [wrap_id (x := (p : Int)) (by omega) (by omega), wrap_id (x := (q : Int)) (by omega) (by omega), wrap_id (x := 0 - (p : Int)) (by omega) (by omega)]
      cases s <;> simp [sgn]
    · simp only [hq, not_false_eq_true, decide_true, cond_true, if_false]
  · simp only [hp, not_false_eq_true, decide_true, cond_true, false_and, if_false]

theorem RMade_zero {s : Bool} {n : Int × Int} : ref02_Made n s (0, 0) = some ((0, 0), 16, ()) := by
  simp only [ref02_Made, ref02_Made_b]
  rfl

theorem RSize_ok {x : Int} (h1 : -9223372036854775808 ≤ x) (h2 : x < 9223372036854775808) : ref02_Size x = some (x.natAbs : Int) := by
  simp only [ref02_Size, ref02_Size_b]
  by_cases h : x < 0
  · simp only [h, decide_true, cond_true]
    rw [IntKind.wrap_u64, IntKind.wrap_u64]
    congr 1; omega
  · simp only [h, decide_false, cond_false]
    rw [u_wrap (by omega) (by omega)]
    congr 1; omega

theorem not_dec_eq {a b : Prop} [Decidable a] [Decidable b] : (!decide (decide a = decide b)) = (decide a != decide b) := by
  cases decide a <;> cases decide b <;> rfl

theorem RMake_ok {n d : Int} (h1 : -9223372036854775808 ≤ n) (h2 : n < 9223372036854775808) (h3 : -9223372036854775808 ≤ d) (h4 : d < 9223372036854775808) :
    ref02_Make n d = some (if d = 0 then ((0, 0), 16, ()) else fitQ (divQ n d)) := by
  simp only [ref02_Make, ref02_Make_b]
  rw [RSize_ok h1 h2, obind_some', RSize_ok h3 h4, obind_some', not_dec_eq]
  by_cases hd : d = 0
  · subst hd
    rw [if_pos rfl, show ((0 : Int), (((0 : Int).natAbs : Nat) : Int)) = (0, 0) from rfl, RMade_zero, obind_some']
  · rw [if_neg hd, ← hl_small (show n.natAbs < 18446744073709551616 by omega), ← hl_small (show d.natAbs < 18446744073709551616 by omega), RMade_ok (by omega) (by omega) (by omega), obind_some']
    rfl

theorem RMul_ok {m n : Nat} (hm : m < 18446744073709551616) (hn : n < 18446744073709551616) : ref02_Mul (m : Int) (n : Int) = some (hl (m * n)) := by
  have x0 : 0 ≤ (m : Int) := by omega
  have x1 : (m : Int) < 18446744073709551616 := by omega
  have y0 : 0 ≤ (n : Int) := by omega
  have y1 : (n : Int) < 18446744073709551616 := by omega
  have hmn : ((m * n : Nat) : Int) = (m : Int) * n := Int.natCast_mul m n
  simp only [hl, Int.natCast_ediv, Int.natCast_emod, hmn]
  generalize (m : Int) = x at *
  generalize (n : Int) = y at *
  have p32 : (2 : Int) ^ (32 : Nat) = 4294967296 := by decide
  simp only [ref02_Mul, ref02_Mul_b, p32, show decide ((0 : Int) ≤ 32) = true from rfl, cond_true]
  obtain ⟨a, b, ha, hb, hx⟩ : ∃ a b, a = x / 4294967296 ∧ b = x % 4294967296 ∧ x = a * 4294967296 + b := ⟨_, _, rfl, rfl, by omega⟩
  obtain ⟨c, d, hc, hd, hy⟩ : ∃ c d, c = y / 4294967296 ∧ d = y % 4294967296 ∧ y = c * 4294967296 + d := ⟨_, _, rfl, rfl, by omega⟩
  rw [land32 x0 x1, land32 y0 y1, ← hb, ← hd]
  simp only [fdiv_of (show (0 : Int) ≤ 4294967296 by omega), ← ha, ← hc]
  have a0 : 0 ≤ a ∧ a ≤ 4294967295 := by omega
  have b0 : 0 ≤ b ∧ b ≤ 4294967295 := by omega
  have c0 : 0 ≤ c ∧ c ≤ 4294967295 := by omega
  have d0 : 0 ≤ d ∧ d ≤ 4294967295 := by omega
  have mb : ∀ {m n : Int}, 0 ≤ m ∧ m ≤ 4294967295 → 0 ≤ n ∧ n ≤ 4294967295 → 0 ≤ m * n ∧ m * n ≤ 18446744065119617025 := fun {m n} hm hn => ⟨Int.mul_nonneg hm.1 hn.1, Int.le_trans (Int.mul_le_mul hm.2 hn.2 hn.1 (by omega)) (by decide)⟩
  have e1 := mb a0 c0
  have e2 := mb a0 d0
  have e3 := mb b0 c0
  have e4 := mb b0 d0
  have hxy : x * y = a * c * 18446744073709551616 + (a * d + b * c) * 4294967296 + b * d := by rw [hx, hy]; grind
  rw [hxy]
  rw [u_wrap (x := b) (by omega) (by omega), u_wrap (x := d) (by omega) (by omega)]
  rw [u_wrap (x := b * d) (by omega) (by omega), u_wrap (x := a * d) (by omega) (by omega), u_wrap (x := b * c) (by omega) (by omega), u_wrap (x := a * c) (by omega) (by omega)]
  generalize b * d = bd at *
  generalize a * d = ad at *
  generalize b * c = bc at *
  generalize a * c = ac at *
  rw [u_wrap (x := ad + bd / 4294967296) (by omega) (by omega)]
  generalize ht : ad + bd / 4294967296 = t
  rw [land32 (by omega) (by omega), land32 (by omega) (by omega)]
  rw [u_wrap (x := t % 4294967296) (by omega) (by omega), u_wrap (x := bd % 4294967296) (by omega) (by omega)]
  rw [u_wrap (x := bc + t % 4294967296) (by omega) (by omega), u_wrap (x := ac + t / 4294967296) (by omega) (by omega)]
  rw [u_wrap (x := ac + t / 4294967296 + (bc + t % 4294967296) / 4294967296) (by omega) (by omega)]
  rw [IntKind.wrap_u64 ((bc + t % 4294967296) * 4294967296), IntKind.wrap_u64]
  congr 1
  ext <;> simp only <;> omega

theorem RTimes_ok {a b : Fq} (ha : okF a) (hb : okF b) : ref02_Times a b = some (fitQ (qv a * qv b)) := by
  have ha' := ha
  have hb' := hb
  obtain ⟨⟨a1, a2⟩, ⟨a3, a4⟩, _⟩ := ha'
  obtain ⟨⟨b1, b2⟩, ⟨b3, b4⟩, _⟩ := hb'
  simp only [ref02_Times, ref02_Times_b]
  rw [RSize_ok (by omega) (by omega), obind_some', RSize_ok (by omega) (by omega), obind_some', RMul_ok (by omega) (by omega), obind_some', RSize_ok (by omega) (by omega), obind_some', RSize_ok (by omega) (by omega), obind_some', RMul_ok (by omega) (by omega), obind_some', not_dec_eq]
  have bd : ∀ {x y : Nat}, x ≤ 1152921504606846976 → y ≤ 1152921504606846976 → x * y < 340282366920938463463374607431768211456 := fun {x y} hx hy => Nat.lt_of_le_of_lt (Nat.mul_le_mul hx hy) (by decide)
  rw [RMade_ok (bd (by omega) (by omega)) (Nat.mul_pos (by omega) (by omega)) (bd (by omega) (by omega)), obind_some', okF_mkQ a, okF_mkQ b, mkQ_mul, show a.2.natAbs = a.2.toNat by omega, show b.2.natAbs = b.2.toNat by omega]

theorem RFloor_ok {a : Fq} (ha : okF a) : ref02_Floor a = some (qv a).floor := by
  have e1 := okF_num ha
  have e2 := okF_den ha
  obtain ⟨⟨a1, a2⟩, ⟨a3, a4⟩, _⟩ := ha
  have hf := floor_ok (n := a.1) (d := a.2) (by omega) (by omega) (by omega)
  simp only [ratio_floor, ratio_floor_b, nzB_of (show a.2 ≠ 0 by omega), cond_true] at hf
  rw [Rat.floor_def, e1, e2, ← hf]
  simp only [ref02_Floor, ref02_Floor_b, nzB_of (show a.2 ≠ 0 by omega), cond_true]
  have h1 := Int.mul_tdiv_add_tmod a.1 a.2
  have hq : -9223372036854775807 ≤ Int.tdiv a.1 a.2 ∧ Int.tdiv a.1 a.2 < 9223372036854775808 := by
    rcases Int.le_total 0 a.1 with h | h
    · rw [Int.tdiv_eq_ediv_of_nonneg h]
      have := Int.ediv_le_self a.2 h
      have := Int.ediv_nonneg h (show 0 ≤ a.2 by omega)
      omega
    · obtain ⟨m, hm⟩ : ∃ m, a.1 = -m := ⟨-a.1, by omega⟩
      rw [hm, Int.neg_tdiv, Int.tdiv_eq_ediv_of_nonneg (by omega)]
      have := Int.ediv_le_self a.2 (show 0 ≤ m by omega)
      have := Int.ediv_nonneg (show 0 ≤ m by omega) (show 0 ≤ a.2 by omega)
      omega
  have b3 : -a.2 < Int.tmod a.1 a.2 ∧ Int.tmod a.1 a.2 < a.2 := by
    rcases Int.le_total 0 a.1 with h | h
    · rw [Int.tmod_eq_emod_of_nonneg h]
      have := Int.emod_nonneg a.1 (show a.2 ≠ 0 by omega)
      have := Int.emod_lt_of_pos a.1 (show 0 < a.2 by omega)
      omega
    · obtain ⟨m, hm⟩ : ∃ m, a.1 = -m := ⟨-a.1, by omega⟩
      rw [hm, Int.neg_tmod, Int.tmod_eq_emod_of_nonneg (by omega)]
      have := Int.emod_nonneg m (show a.2 ≠ 0 by omega)
      have := Int.emod_lt_of_pos m (show 0 < a.2 by omega)
      omega
  rw [wrap_id (x := Int.tdiv a.1 a.2) (by omega) (by omega), Int.mul_comm (Int.tdiv a.1 a.2) a.2, wrap_id (x := a.2 * Int.tdiv a.1 a.2) (by omega) (by omega)]
  have e : decide (a.2 * Int.tdiv a.1 a.2 > a.1) = decide (Int.tmod a.1 a.2 < 0) := by
    rw [Bool.eq_iff_iff, decide_eq_true_iff, decide_eq_true_iff]; omega
  rw [e]

theorem RNeg_ok {a : Fq} (ha : okF a) : ref02_Neg a = some (-a.1, a.2) ∧ okF (-a.1, a.2) ∧ qv (-a.1, a.2) = - qv a := by
  obtain ⟨⟨a1, a2⟩, ⟨a3, a4⟩, a5⟩ := ha
  refine ⟨?_, ⟨⟨a1, a2⟩, ⟨by simp only; omega, by simp only; omega⟩, by simpa using a5⟩, ?_⟩
  · simp only [ref02_Neg, ref02_Neg_b]
    rw [wrap_id (by omega) (by omega), Int.zero_sub]
  · simp only [qv]
    rw [Rat.neg_mkRat]

theorem RCeil_ok {a : Fq} (ha : okF a) : ref02_Ceil a = some (qv a).ceil := by
  obtain ⟨h1, h2, h3⟩ := RNeg_ok ha
  simp only [ref02_Ceil, ref02_Ceil_b]
  have hc := Ceil_ok ha
  rw [h1, obind_some', RFloor_ok h2, obind_some', h3, Rat.ceil_eq_neg_floor_neg]
  have e1 := okF_num ha
  have e2 := okF_den ha
  obtain ⟨⟨a1, a2⟩, ⟨a3, a4⟩, _⟩ := ha
  have hb : -1152921504606846976 ≤ (-qv a).floor ∧ (-qv a).floor ≤ 1152921504606846976 := by
    rw [Rat.floor_def, Rat.neg_num, Rat.neg_den, e1, e2]
    constructor
    · rw [Int.le_ediv_iff_mul_le (by omega)]
      have := Int.mul_le_mul_of_nonneg_left (show 1 ≤ a.2 by omega) (show (0 : Int) ≤ 1152921504606846976 by omega)
      omega
    · rw [← Int.lt_add_one_iff, Int.ediv_lt_iff_lt_mul (by omega)]
      have := Int.mul_le_mul_of_nonneg_left (show 1 ≤ a.2 by omega) (show (0 : Int) ≤ 1152921504606846977 by omega)
      omega
  rw [wrap_id (by omega) (by omega), Int.zero_sub]

end Go.Proofs.Ytghjblbkbelcfaa

namespace Go.Proofs.Ytghjblbkbelcfaa
open Try Dn Dn.Sh

theorem rLess_ok {a b : Nat} : ratio_less (hl a) (hl b) = some (decide (a < b)) := by
  simp only [ratio_less, ratio_less_b]
  have e : decide (a < b) = (bif decide ((hl a).1 < (hl b).1) then true else bif decide ((hl a).1 = (hl b).1) then decide ((hl a).2 < (hl b).2) else false) := by
    by_cases c1 : (hl a).1 < (hl b).1
    · simp only [c1, decide_true, cond_true]
      simp only [hl] at c1
      exact decide_eq_true (by omega)
    · by_cases c2 : (hl a).1 = (hl b).1
      · rw [decide_eq_false c1, decide_eq_true c2, cond_true, cond_false]
        have e2 : a < b ↔ (hl a).2 < (hl b).2 := by
          simp only [hl] at c1 c2 ⊢
          omega
        rw [Bool.eq_iff_iff, decide_eq_true_iff, decide_eq_true_iff]
        exact e2
      · simp only [c1, c2, decide_false, cond_false]
        simp only [hl] at c1 c2
        exact decide_eq_false (by omega)
  rw [e]
  cases decide ((hl a).1 < (hl b).1) <;> cases decide ((hl a).1 = (hl b).1) <;> rfl

theorem addC_hl {m n : Nat} : addC (hl m).2 (hl n).2 0 = (((m % 18446744073709551616 + n % 18446744073709551616) / 18446744073709551616 : Nat) : Int) := by
  simp only [addC, hl, Int.toNat_natCast, Int.toNat_zero, Nat.add_zero]
  rfl
theorem subC_hl {m n : Nat} : subC (hl m).2 (hl n).2 0 = (((if m % 18446744073709551616 < n % 18446744073709551616 then 1 else 0 : Nat) : Nat) : Int) := by
  simp only [subC, hl, Int.toNat_natCast, Int.toNat_zero, Nat.add_zero]
  cases h : Nat.blt (m % 18446744073709551616) (n % 18446744073709551616) with
  | true =>
    have h' : m % 18446744073709551616 < n % 18446744073709551616 := by simpa [Nat.blt_eq] using h
    rw [if_pos h']; rfl
  | false =>
    have h' : ¬ m % 18446744073709551616 < n % 18446744073709551616 := by
      intro h2
      have : Nat.blt (m % 18446744073709551616) (n % 18446744073709551616) = true := by simpa [Nat.blt_eq] using h2
      rw [this] at h; cases h
    rw [if_neg h']; rfl

theorem rPlus_ok {m n : Nat} (h : m + n < 340282366920938463463374607431768211456) : ratio_plus (hl m) (hl n) = some (hl (m + n)) := by
  simp only [ratio_plus, ratio_plus_b, addC_hl]
  have c1 : decide ((0 : Int) ≤ (0 : Int)) = true := rfl
  have c2 : decide ((0 : Int) ≤ (1 : Int)) = true := rfl
  rw [c1, c2, decide_eq_true (show (0 : Int) ≤ (((m % 18446744073709551616 + n % 18446744073709551616) / 18446744073709551616 : Nat) : Int) by omega), decide_eq_true (show (((m % 18446744073709551616 + n % 18446744073709551616) / 18446744073709551616 : Nat) : Int) ≤ 1 by omega)]
  simp only [Bool.and_self, cT, Option.some.injEq, addO, hl, Int.toNat_natCast, Int.toNat_zero, Nat.add_zero, Prod.mk.injEq]
  constructor
  · show ((_ : Nat) : Int) = ((_ : Nat) : Int)
    omega
  · show ((_ : Nat) : Int) = ((_ : Nat) : Int)
    omega
theorem rMinus_ok {m n : Nat} (h : n ≤ m) (hm : m < 340282366920938463463374607431768211456) : ratio_minus (hl m) (hl n) = some (hl (m - n)) := by
  simp only [ratio_minus, ratio_minus_b, subC_hl]
  have c1 : decide ((0 : Int) ≤ (0 : Int)) = true := rfl
  have c2 : decide ((0 : Int) ≤ (1 : Int)) = true := rfl
  have hb : (if m % 18446744073709551616 < n % 18446744073709551616 then 1 else 0 : Nat) ≤ 1 := by split <;> omega
  have hc : (if m % 18446744073709551616 < n % 18446744073709551616 then 1 else 0 : Nat) = 1 ∧ m % 18446744073709551616 < n % 18446744073709551616 ∨ (if m % 18446744073709551616 < n % 18446744073709551616 then 1 else 0 : Nat) = 0 ∧ ¬ m % 18446744073709551616 < n % 18446744073709551616 := by split <;> simp_all
  generalize (if m % 18446744073709551616 < n % 18446744073709551616 then 1 else 0 : Nat) = c at *
  rw [c1, c2, decide_eq_true (show (0 : Int) ≤ (c : Int) by omega), decide_eq_true (show (c : Int) ≤ 1 by omega)]
  simp only [Bool.and_self, cT, Option.some.injEq, subO, hl, Int.toNat_natCast, Int.toNat_zero, Nat.sub_zero, Prod.mk.injEq]
  constructor
  · show ((_ : Nat) : Int) = ((_ : Nat) : Int)
    omega
  · show ((_ : Nat) : Int) = ((_ : Nat) : Int)
    omega

noncomputable def lenT (T : ByteArray) (a b : Int) : Option Int :=
  bif decide (a ≥ (256 : Int)) then bif decide ((0 : Int) ≤ (8 : Int)) then bif inB (IntKind.wrap .u8 (Int.fdiv a ((2 : Int) ^ (8 : Nat)))) (256 : Nat) then
    some (IntKind.wrap .i64 (IntKind.wrap .i64 (b + (8 : Int)) + IntKind.wrap .i64 (byteAt T (Int.toNat (IntKind.wrap .u8 (Int.fdiv a ((2 : Int) ^ (8 : Nat)))))))) else none else none
  else bif inB (IntKind.wrap .u8 a) (256 : Nat) then some (IntKind.wrap .i64 (b + IntKind.wrap .i64 (byteAt T (Int.toNat (IntKind.wrap .u8 a))))) else none
noncomputable def lenU (T : ByteArray) (a b : Int) : Option Int := bif decide (a ≥ (65536 : Int)) then bif decide ((0 : Int) ≤ (16 : Int)) then lenT T (Int.fdiv a ((2 : Int) ^ (16 : Nat))) (IntKind.wrap .i64 (b + (16 : Int))) else none else lenT T a b
theorem len_table : ∃ T : ByteArray, (∀ i, i < 256 → 0 ≤ byteAt T i ∧ byteAt T i ≤ 8 ∧ (0 < i → i < 2 ^ (byteAt T i).toNat ∧ 2 ^ (byteAt T i).toNat ≤ 2 * i)) ∧
    ∀ x, bits_Len64 x = bif decide (x ≥ (4294967296 : Int)) then bif decide ((0 : Int) ≤ (32 : Int)) then lenU T (Int.fdiv x ((2 : Int) ^ (32 : Nat))) 32 else none else lenU T x 0 :=
  ⟨_, by decide +kernel, fun _ => rfl⟩

/-- The length of a number that is not 0. -/
def isLen (n L : Nat) : Prop := n < 2 ^ L ∧ 2 ^ L ≤ 2 * n
theorem isLen_shift {n k L : Nat} (h : isLen (n / 2 ^ k) L) : isLen n (L + k) := by
  obtain ⟨h1, h2⟩ := h
  have hk : 0 < 2 ^ k := Nat.two_pow_pos k
  unfold isLen
  rw [Nat.pow_add]
  constructor
  · exact (Nat.div_lt_iff_lt_mul hk).1 h1
  · have h3 : n / 2 ^ k * 2 ^ k ≤ n := Nat.div_mul_le_self n _
    have h4 := Nat.mul_le_mul_right (2 ^ k) h2
    rw [Nat.mul_assoc] at h4
    omega
theorem u8_wrap {x : Int} (h1 : 0 ≤ x) (h2 : x < 256) : IntKind.wrap .u8 x = x := by
  rw [IntKind.wrap_u8]; omega
theorem Len64_ok {n : Nat} (h0 : 0 < n) (h1 : n < 18446744073709551616) : ∃ L : Nat, bits_Len64 (n : Int) = some (L : Int) ∧ isLen n L ∧ L ≤ 64 := by
  obtain ⟨T, hT, hx⟩ := len_table
  have tab : ∀ i : Nat, 0 < i → i < 256 → ∃ L : Nat, byteAt T i = L ∧ L ≤ 8 ∧ isLen i L := fun i h2 h3 => by
    obtain ⟨a1, a2, a3⟩ := hT i h3
    exact ⟨(byteAt T i).toNat, by omega, by omega, a3 h2⟩
  have p8 : (2 : Int) ^ (8 : Nat) = 256 := by decide
  have p16 : (2 : Int) ^ (16 : Nat) = 65536 := by decide
  have p32 : (2 : Int) ^ (32 : Nat) = 4294967296 := by decide
  have stepT : ∀ a b : Nat, 0 < a → a < 65536 → b ≤ 48 → ∃ L : Nat, lenT T (a : Int) (b : Int) = some ((L + b : Nat) : Int) ∧ isLen a L ∧ L ≤ 16 := fun a b ha hb hb2 => by
    unfold lenT
    by_cases h : a < 256
    · obtain ⟨L, e1, e2, e3⟩ := tab a ha h
      rw [decide_eq_false (show ¬ (a : Int) ≥ 256 by omega), cond_false, u8_wrap (by omega) (by omega), inB_of (by omega) (by omega), cond_true, Int.toNat_natCast, e1, wrap_id (x := (L : Int)) (by omega) (by omega), wrap_id (by omega) (by omega)]
      exact ⟨L, by congr 1; omega, e3, by omega⟩
    · obtain ⟨L, e1, e2, e3⟩ := tab (a / 256) (by omega) (by omega)
      rw [decide_eq_true (show (a : Int) ≥ 256 by omega), cond_true, show decide ((0 : Int) ≤ 8) = true from rfl, cond_true, p8, fdiv_of (by omega), u8_wrap (by omega) (by omega), inB_of (by omega) (by omega), cond_true, show ((a : Int) / 256).toNat = a / 256 by omega, e1, wrap_id (x := (L : Int)) (by omega) (by omega), wrap_id (x := (b : Int) + 8) (by omega) (by omega), wrap_id (by omega) (by omega)]
      exact ⟨L + 8, by congr 1; omega, isLen_shift (k := 8) e3, by omega⟩
  have stepU : ∀ a b : Nat, 0 < a → a < 4294967296 → b ≤ 32 → ∃ L : Nat, lenU T (a : Int) (b : Int) = some ((L + b : Nat) : Int) ∧ isLen a L ∧ L ≤ 32 := fun a b ha hb hb2 => by
    unfold lenU
    by_cases h : a < 65536
    · obtain ⟨L, e1, e2, e3⟩ := stepT a b ha h (by omega)
      rw [decide_eq_false (show ¬ (a : Int) ≥ 65536 by omega), cond_false, e1]
      exact ⟨L, rfl, e2, by omega⟩
    · obtain ⟨L, e1, e2, e3⟩ := stepT (a / 65536) (b + 16) (by omega) (by omega) (by omega)
      rw [decide_eq_true (show (a : Int) ≥ 65536 by omega), cond_true, show decide ((0 : Int) ≤ 16) = true from rfl, cond_true, p16, fdiv_of (by omega), wrap_id (by omega) (by omega), show (a : Int) / 65536 = ((a / 65536 : Nat) : Int) by omega, show (b : Int) + 16 = ((b + 16 : Nat) : Int) by omega, e1]
      exact ⟨L + 16, by congr 1; omega, isLen_shift (k := 16) e2, by omega⟩
  rw [hx]
  by_cases h : n < 4294967296
  · obtain ⟨L, e1, e2, e3⟩ := stepU n 0 h0 h (by omega)
    rw [decide_eq_false (show ¬ (n : Int) ≥ 4294967296 by omega), cond_false]
    exact ⟨L, e1, e2, by omega⟩
  · obtain ⟨L, e1, e2, e3⟩ := stepU (n / 4294967296) 32 (by omega) (by omega) (by omega)
    rw [decide_eq_true (show (n : Int) ≥ 4294967296 by omega), cond_true, show decide ((0 : Int) ≤ 32) = true from rfl, cond_true, p32, fdiv_of (by omega), show (n : Int) / 4294967296 = ((n / 4294967296 : Nat) : Int) by omega]
    exact ⟨L + 32, e1, isLen_shift (k := 32) e2, by omega⟩

end Go.Proofs.Ytghjblbkbelcfaa

namespace Go.Proofs.Ytghjblbkbelcfaa
open Try Dn Dn.Sh

/-- One digit: the guess is not too small; what a round may conclude. -/
theorem digit_stop {q r U u y1 y0 : Int} (hq : q * y1 + r = U) (hu : 0 ≤ u) (hy : 0 < y1 * 4294967296 + y0) (hge : (U * 4294967296 + u) / (y1 * 4294967296 + y0) ≤ q) (ht : q * y0 ≤ 4294967296 * r + u) : q = (U * 4294967296 + u) / (y1 * 4294967296 + y0) := by
  refine Int.le_antisymm (Int.le_ediv_of_mul_le hy ?_) hge
  rw [Int.mul_add, ← Int.mul_assoc]
  omega
theorem digit_less {q r U u y1 y0 : Int} (hq : q * y1 + r = U) (hy : 0 < y1 * 4294967296 + y0) (hU : U * 4294967296 + u < (y1 * 4294967296 + y0) * 4294967296) (ht : q ≥ 4294967296 ∨ q * y0 > 4294967296 * r + u) : (U * 4294967296 + u) / (y1 * 4294967296 + y0) ≤ q - 1 := by
  have : (U * 4294967296 + u) / (y1 * 4294967296 + y0) < q := by
    refine Int.ediv_lt_of_lt_mul hy ?_
    rcases ht with ht | ht
    · exact Int.lt_of_lt_of_le hU (by rw [Int.mul_comm q]; exact Int.mul_le_mul_of_nonneg_left ht (by omega))
    · rw [Int.mul_add, ← Int.mul_assoc]
      omega
  omega
theorem digit_end {q r U u y1 y0 : Int} (hq : q * y1 + r = U) (hu : 0 ≤ u) (hy : 0 < y1 * 4294967296 + y0) (h0 : 0 ≤ y0 ∧ y0 < 4294967296) (hge : (U * 4294967296 + u) / (y1 * 4294967296 + y0) ≤ q - 1) (hr : r + y1 ≥ 4294967296) (hq2 : 1 ≤ q ∧ q ≤ 4294967297) : q - 1 = (U * 4294967296 + u) / (y1 * 4294967296 + y0) := by
  refine Int.le_antisymm (Int.le_ediv_of_mul_le hy ?_) hge
  have e1 : (q - 1) * y0 ≤ 4294967296 * 4294967295 := Int.mul_le_mul (by omega) (by omega) h0.1 (by omega)
  rw [Int.mul_add, ← Int.mul_assoc, Int.sub_mul q 1 y1, Int.one_mul]
  omega

theorem lor_add {s : Nat} {a b : Nat} (h : b < 2 ^ s) : Nat.lor (a * 2 ^ s) b = a * 2 ^ s + b := by
  have := Nat.two_pow_add_eq_or_of_lt h a
  rw [Nat.mul_comm a]
  exact this.symm

theorem digit_loop {α R : Type} {F : (α → Option R) → α → Option R} {J : Int → Option R} {U u y1 y0 : Int} (enc : Int → Int → α) (dec : α → Int) (hdec : ∀ q r, dec (enc q r) = q)
    (hu : 0 ≤ u) (h0 : 0 ≤ y0 ∧ y0 < 4294967296) (h1 : 2147483648 ≤ y1 ∧ y1 < 4294967296) (hU0 : 0 ≤ U) (hU : U * 4294967296 + u < (y1 * 4294967296 + y0) * 4294967296)
    (hF1 : ∀ again q r, 1 ≤ q → q ≤ 4294967297 → 0 ≤ r → r < 4294967296 → (q ≥ 4294967296 ∨ q * y0 > 4294967296 * r + u) → F again (enc q r) = bif decide (r + y1 ≥ 4294967296) then J (q - 1) else again (enc (q - 1) (r + y1)))
    (hF2 : ∀ again q r, 0 ≤ q → q < 4294967296 → 0 ≤ r → r < 4294967296 → ¬ q * y0 > 4294967296 * r + u → F again (enc q r) = J q)
    {q r : Int} (hq : q * y1 + r = U) (hq0 : 0 ≤ q) (hq2 : q ≤ 4294967297) (hr0 : 0 ≤ r) (hr1 : r < 4294967296) (hge : (U * 4294967296 + u) / (y1 * 4294967296 + y0) ≤ q) :
    lpK α R F (enc q r) = J ((U * 4294967296 + u) / (y1 * 4294967296 + y0)) := by
  have hD : 0 ≤ (U * 4294967296 + u) / (y1 * 4294967296 + y0) := Int.ediv_nonneg (by omega) (by omega)
  refine lpK_loop (g := fun _ => J ((U * 4294967296 + u) / (y1 * 4294967296 + y0))) (I := fun x => ∃ q r, x = enc q r ∧ q * y1 + r = U ∧ 0 ≤ q ∧ q ≤ 4294967297 ∧ 0 ≤ r ∧ r < 4294967296 ∧ (U * 4294967296 + u) / (y1 * 4294967296 + y0) ≤ q) (μ := fun x => (dec x).toNat) ?_ ⟨q, r, rfl, hq, hq0, hq2, hr0, hr1, hge⟩ (by rw [hdec]; omega)
  rintro _ rec ⟨q, r, rfl, hq, hq0, hq2, hr0, hr1, hge⟩ hrec
  have hy : 0 < y1 * 4294967296 + y0 := by omega
  by_cases ht : q ≥ 4294967296 ∨ q * y0 > 4294967296 * r + u
  · have hl := digit_less hq hy hU ht
    rw [hF1 _ _ _ (by omega) hq2 hr0 hr1 ht]
    by_cases hr : r + y1 ≥ 4294967296
    · rw [decide_eq_true hr, cond_true, digit_end hq hu hy h0 hl hr ⟨by omega, hq2⟩]
    · rw [decide_eq_false hr, cond_false]
      refine hrec _ ⟨q - 1, r + y1, rfl, ?_, by omega, by omega, by omega, by omega, hl⟩ (by rw [hdec, hdec]; omega)
      rw [Int.sub_mul, Int.one_mul]; omega
  · rw [not_or] at ht
    rw [hF2 _ _ _ hq0 (by omega) hr0 hr1 ht.2, ← digit_stop hq hu hy hge (by omega)]

/-- What the first guess of a digit is. -/
theorem digit_init {U u y1 y0 : Int} (hu : 0 ≤ u ∧ u < 4294967296) (h0 : 0 ≤ y0 ∧ y0 < 4294967296) (h1 : 2147483648 ≤ y1 ∧ y1 < 4294967296) (hU0 : 0 ≤ U) (hU : U < y1 * 4294967296 + y0) :
    (U / y1) * y1 + (U - U / y1 * y1) = U ∧ 0 ≤ U / y1 ∧ U / y1 ≤ 4294967297 ∧ 0 ≤ U - U / y1 * y1 ∧ U - U / y1 * y1 < 4294967296 ∧ (U * 4294967296 + u) / (y1 * 4294967296 + y0) ≤ U / y1 := by
  have e1 := Int.mul_ediv_add_emod U y1
  have e2 := Int.emod_nonneg U (show y1 ≠ 0 by omega)
  have e3 := Int.emod_lt_of_pos U (show 0 < y1 by omega)
  rw [Int.mul_comm] at e1
  refine ⟨by omega, Int.ediv_nonneg hU0 (by omega), ?_, by omega, by omega, ?_⟩
  · have : U / y1 < 4294967298 := Int.ediv_lt_of_lt_mul (by omega) (by omega)
    omega
  · have : (U * 4294967296 + u) / (y1 * 4294967296 + y0) < U / y1 + 1 := by
      refine Int.ediv_lt_of_lt_mul (by omega) ?_
      have hq : 0 ≤ U / y1 := Int.ediv_nonneg hU0 (by omega)
      have e4 : 0 ≤ (U / y1 + 1) * y0 := Int.mul_nonneg (by omega) h0.1
      rw [Int.mul_add, ← Int.mul_assoc, Int.add_mul (U / y1) 1 y1, Int.one_mul]
      omega
    omega

/-- The second loop of 'Div64', and what follows it. -/
noncomputable def dv2E (y1 y0 Y u0 P q1 un : Int) (q : Int) : Option (Int × Int × Unit) := some (IntKind.wrap .u64 (IntKind.wrap .u64 (q1 * 4294967296) + q), Int.fdiv (IntKind.wrap .u64 (IntKind.wrap .u64 (IntKind.wrap .u64 (un * 4294967296) + u0) - IntKind.wrap .u64 (q * Y))) P, ())
noncomputable def dv2 (y1 y0 Y u0 P q1 un : Int) : Option (Int × Int × Unit) := lpK (Int × Int × PUnit) (Int × Int × PUnit) (fun again x => bif (bif decide (x.2.1 ≥ 4294967296) then true else decide (IntKind.wrap .u64 (x.2.1 * y0) > IntKind.wrap .u64 (IntKind.wrap .u64 (4294967296 * x.1) + u0))) then
  (bif decide (IntKind.wrap .u64 (x.1 + y1) ≥ 4294967296) then dv2E y1 y0 Y u0 P q1 un (IntKind.wrap .u64 (x.2.1 - 1)) else again (IntKind.wrap .u64 (x.1 + y1), IntKind.wrap .u64 (x.2.1 - 1), PUnit.unit)) else dv2E y1 y0 Y u0 P q1 un x.2.1)
  (IntKind.wrap .u64 (un - IntKind.wrap .u64 (IntKind.wrap .u64 (Int.tdiv un y1) * y1)), IntKind.wrap .u64 (Int.tdiv un y1), PUnit.unit)
theorem dv2_ok {y1 y0 u0 P q1 un : Int} (hu : 0 ≤ u0 ∧ u0 < 4294967296) (h0 : 0 ≤ y0 ∧ y0 < 4294967296) (h1 : 2147483648 ≤ y1 ∧ y1 < 4294967296) (hU0 : 0 ≤ un) (hU : un < y1 * 4294967296 + y0) :
    dv2 y1 y0 (y1 * 4294967296 + y0) u0 P q1 un = dv2E y1 y0 (y1 * 4294967296 + y0) u0 P q1 un ((un * 4294967296 + u0) / (y1 * 4294967296 + y0)) := by
  obtain ⟨i1, i2, i3, i4, i5, i6⟩ := digit_init (U := un) hu h0 h1 hU0 hU
  unfold dv2
  rw [Int.tdiv_eq_ediv_of_nonneg hU0]
  have hm : un / y1 * y1 ≤ un := by omega
  have hm0 : 0 ≤ un / y1 * y1 := Int.mul_nonneg i2 (by omega)
  rw [u_wrap (x := un / y1) i2 (by omega), u_wrap (x := un / y1 * y1) hm0 (by omega), u_wrap (x := un - un / y1 * y1) (by omega) (by omega)]
  refine digit_loop (α := Int × Int × PUnit) (enc := fun q r => (r, q, PUnit.unit)) (dec := fun x => x.2.1) (fun _ _ => rfl) hu.1 h0 h1 hU0 (by omega) ?_ ?_ i1 i2 i3 i4 i5 i6
  · intro again q r g1 g2 g3 g4 g5
    have e1 : 0 ≤ q * y0 := Int.mul_nonneg (by omega) h0.1
    have e2 : q * y0 ≤ 4294967297 * 4294967295 := Int.mul_le_mul g2 (by omega) h0.1 (by omega)
    simp only
    rw [u_wrap (x := q * y0) e1 (by omega), u_wrap (x := 4294967296 * r) (by omega) (by omega), u_wrap (x := 4294967296 * r + u0) (by omega) (by omega), u_wrap (x := r + y1) (by omega) (by omega), u_wrap (x := q - 1) (by omega) (by omega)]
    have e : (bif decide (q ≥ 4294967296) then true else decide (q * y0 > 4294967296 * r + u0)) = true := by
      rcases g5 with ht | ht
      · rw [decide_eq_true ht]; rfl
      · rw [decide_eq_true ht]; cases decide (q ≥ 4294967296) <;> rfl
    rw [e, cT]
  · intro again q r g1 g2 g3 g4 g5
    have e1 : 0 ≤ q * y0 := Int.mul_nonneg (by omega) h0.1
    have e2 : q * y0 ≤ 4294967297 * 4294967295 := Int.mul_le_mul (by omega) (by omega) h0.1 (by omega)
    simp only
    rw [u_wrap (x := q * y0) e1 (by omega), u_wrap (x := 4294967296 * r) (by omega) (by omega), u_wrap (x := 4294967296 * r + u0) (by omega) (by omega)]
    rw [decide_eq_false (show ¬ q ≥ 4294967296 by omega), decide_eq_false g5, cF, cF]

/-- The first loop of 'Div64', and what follows it. -/
noncomputable def dv1E (y1 y0 Y u1 u0 P U : Int) (q1 : Int) : Option (Int × Int × Unit) := dv2 y1 y0 Y u0 P q1 (IntKind.wrap .u64 (IntKind.wrap .u64 (IntKind.wrap .u64 (U * 4294967296) + u1) - IntKind.wrap .u64 (q1 * Y)))
noncomputable def dv1 (y1 y0 Y u1 u0 P U : Int) : Option (Int × Int × Unit) := lpK (Int × Int × PUnit) (Int × Int × PUnit) (fun again x => bif (bif decide (x.1 ≥ 4294967296) then true else decide (IntKind.wrap .u64 (x.1 * y0) > IntKind.wrap .u64 (IntKind.wrap .u64 (4294967296 * x.2.1) + u1))) then
  (bif decide (IntKind.wrap .u64 (x.2.1 + y1) ≥ 4294967296) then dv1E y1 y0 Y u1 u0 P U (IntKind.wrap .u64 (x.1 - 1)) else again (IntKind.wrap .u64 (x.1 - 1), IntKind.wrap .u64 (x.2.1 + y1), PUnit.unit)) else dv1E y1 y0 Y u1 u0 P U x.1)
  (IntKind.wrap .u64 (Int.tdiv U y1), IntKind.wrap .u64 (U - IntKind.wrap .u64 (IntKind.wrap .u64 (Int.tdiv U y1) * y1)), PUnit.unit)
theorem dv1_ok {y1 y0 u1 u0 P U : Int} (hu : 0 ≤ u1 ∧ u1 < 4294967296) (h0 : 0 ≤ y0 ∧ y0 < 4294967296) (h1 : 2147483648 ≤ y1 ∧ y1 < 4294967296) (hU0 : 0 ≤ U) (hU : U < y1 * 4294967296 + y0) :
    dv1 y1 y0 (y1 * 4294967296 + y0) u1 u0 P U = dv1E y1 y0 (y1 * 4294967296 + y0) u1 u0 P U ((U * 4294967296 + u1) / (y1 * 4294967296 + y0)) := by
  obtain ⟨i1, i2, i3, i4, i5, i6⟩ := digit_init (U := U) hu h0 h1 hU0 hU
  unfold dv1
  rw [Int.tdiv_eq_ediv_of_nonneg hU0]
  have hm : U / y1 * y1 ≤ U := by omega
  have hm0 : 0 ≤ U / y1 * y1 := Int.mul_nonneg i2 (by omega)
  rw [u_wrap (x := U / y1) i2 (by omega), u_wrap (x := U / y1 * y1) hm0 (by omega), u_wrap (x := U - U / y1 * y1) (by omega) (by omega)]
  refine digit_loop (α := Int × Int × PUnit) (enc := fun q r => (q, r, PUnit.unit)) (dec := fun x => x.1) (fun _ _ => rfl) hu.1 h0 h1 hU0 (by omega) ?_ ?_ i1 i2 i3 i4 i5 i6
  · intro again q r g1 g2 g3 g4 g5
    have e1 : 0 ≤ q * y0 := Int.mul_nonneg (by omega) h0.1
    have e2 : q * y0 ≤ 4294967297 * 4294967295 := Int.mul_le_mul g2 (by omega) h0.1 (by omega)
    simp only
    rw [u_wrap (x := q * y0) e1 (by omega), u_wrap (x := 4294967296 * r) (by omega) (by omega), u_wrap (x := 4294967296 * r + u1) (by omega) (by omega), u_wrap (x := r + y1) (by omega) (by omega), u_wrap (x := q - 1) (by omega) (by omega)]
    have e : (bif decide (q ≥ 4294967296) then true else decide (q * y0 > 4294967296 * r + u1)) = true := by
      rcases g5 with ht | ht
      · rw [decide_eq_true ht]; rfl
      · rw [decide_eq_true ht]; cases decide (q ≥ 4294967296) <;> rfl
    rw [e, cT]
  · intro again q r g1 g2 g3 g4 g5
    have e1 : 0 ≤ q * y0 := Int.mul_nonneg (by omega) h0.1
    have e2 : q * y0 ≤ 4294967297 * 4294967295 := Int.mul_le_mul (by omega) (by omega) h0.1 (by omega)
    simp only
    rw [u_wrap (x := q * y0) e1 (by omega), u_wrap (x := 4294967296 * r) (by omega) (by omega), u_wrap (x := 4294967296 * r + u1) (by omega) (by omega)]
    rw [decide_eq_false (show ¬ q ≥ 4294967296 by omega), decide_eq_false g5, cF, cF]

/-- Both digits. -/
theorem dv_ok {U W Y P : Nat} (hY : 9223372036854775808 ≤ Y) (hY2 : Y < 18446744073709551616) (hW : W < 18446744073709551616) (hU : U < Y) :
    dv1 ((Y : Int) / 4294967296) ((Y : Int) % 4294967296) (Y : Int) ((W : Int) / 4294967296) ((W : Int) % 4294967296) (P : Int) (U : Int) = some ((((U * 18446744073709551616 + W) / Y : Nat) : Int), (((U * 18446744073709551616 + W) % Y / P : Nat) : Int), ()) := by
  have eY : (Y : Int) / 4294967296 * 4294967296 + (Y : Int) % 4294967296 = Y := by omega
  have h1 := dv1_ok (y1 := (Y : Int) / 4294967296) (y0 := (Y : Int) % 4294967296) (u1 := (W : Int) / 4294967296) (u0 := (W : Int) % 4294967296) (P := (P : Int)) (U := (U : Int)) (by omega) (by omega) (by omega) (by omega) (by omega)
  rw [eY] at h1
  rw [h1]
  unfold dv1E
  obtain ⟨A, hA⟩ : ∃ A : Nat, A = U * 4294967296 + W / 4294967296 := ⟨_, rfl⟩
  have hAi : (U : Int) * 4294967296 + (W : Int) / 4294967296 = (A : Int) := by omega
  rw [hAi]
  have hq1 : A / Y < 4294967296 := (Nat.div_lt_iff_lt_mul (by omega)).2 (by omega)
  have d1 := Nat.div_add_mod A Y
  have d2 := Nat.mod_lt A (show Y > 0 by omega)
  rw [show (A : Int) / (Y : Int) = ((A / Y : Nat) : Int) from rfl]
  have hun : IntKind.wrap .u64 (IntKind.wrap .u64 (IntKind.wrap .u64 ((U : Int) * 4294967296) + (W : Int) / 4294967296) - IntKind.wrap .u64 (((A / Y : Nat) : Int) * (Y : Int))) = ((A % Y : Nat) : Int) := by
    rw [← Int.natCast_mul, Nat.mul_comm (A / Y)]
    generalize A / Y = q1 at *
    generalize Y * q1 = m at *
    rw [IntKind.wrap_u64, IntKind.wrap_u64, IntKind.wrap_u64, IntKind.wrap_u64]
    omega
  rw [hun]
  have h2 := dv2_ok (y1 := (Y : Int) / 4294967296) (y0 := (Y : Int) % 4294967296) (u0 := (W : Int) % 4294967296) (P := (P : Int)) (q1 := ((A / Y : Nat) : Int)) (un := ((A % Y : Nat) : Int)) (by omega) (by omega) (by omega) (by omega) (by omega)
  rw [eY] at h2
  rw [h2]
  unfold dv2E
  obtain ⟨B, hB⟩ : ∃ B : Nat, B = A % Y * 4294967296 + W % 4294967296 := ⟨_, rfl⟩
  have hBi : ((A % Y : Nat) : Int) * 4294967296 + (W : Int) % 4294967296 = (B : Int) := by omega
  rw [hBi, show (B : Int) / (Y : Int) = ((B / Y : Nat) : Int) from rfl]
  have hq0 : B / Y < 4294967296 := (Nat.div_lt_iff_lt_mul (by omega)).2 (by omega)
  have d3 := Nat.div_add_mod B Y
  have d4 := Nat.mod_lt B (show Y > 0 by omega)
  have hN : U * 18446744073709551616 + W = (A / Y * 4294967296 + B / Y) * Y + B % Y := by
    rw [Nat.add_mul, Nat.mul_right_comm, Nat.mul_comm (A / Y), Nat.mul_comm (B / Y)]
    omega
  obtain ⟨n1, n2⟩ := divMod_of d4 hN
  rw [n1, n2]
  have hrest : IntKind.wrap .u64 (IntKind.wrap .u64 (IntKind.wrap .u64 (((A % Y : Nat) : Int) * 4294967296) + (W : Int) % 4294967296) - IntKind.wrap .u64 (((B / Y : Nat) : Int) * (Y : Int))) = ((B % Y : Nat) : Int) := by
    rw [← Int.natCast_mul, Nat.mul_comm (B / Y)]
    generalize B / Y = q0 at *
    generalize Y * q0 = m at *
    generalize A % Y = r1 at *
    rw [IntKind.wrap_u64, IntKind.wrap_u64, IntKind.wrap_u64, IntKind.wrap_u64]
    omega
  rw [hrest, fdiv_of (by omega)]
  generalize A / Y = q1 at *
  generalize B / Y = q0 at *
  rw [u_wrap (x := (q1 : Int) * 4294967296) (by omega) (by omega), u_wrap (by omega) (by omega)]
  rfl

theorem tmod_nat (m n : Nat) : Int.tmod (m : Int) (n : Int) = ((m % n : Nat) : Int) := by
  rw [Int.tmod_eq_emod_of_nonneg (by omega)]
  rfl

/-- As 'jnK_eq'', but not by computation. -/
theorem jnT {α R : Type} (j : α → Option R) (f : (α → Option R) → Option R) : jnK α R j f = f j := Eq.trans rfl rfl

theorem Div64_ok {h l y : Nat} (hy : h < y) (hy2 : y < 18446744073709551616) (hl0 : l < 18446744073709551616) : bits_Div64 (h : Int) (l : Int) (y : Int) = some ((((h * 18446744073709551616 + l) / y : Nat) : Int), (((h * 18446744073709551616 + l) % y : Nat) : Int), ()) := by
  simp only [bits_Div64, bits_Div64_b, jnT]
  rw [decide_eq_false (show ¬ (y : Int) = 0 by omega), cF, decide_eq_false (show ¬ (y : Int) ≤ (h : Int) by omega), cF]
  have hz : nzB (y : Int) = true := nzB_of (by omega)
  by_cases h0 : h = 0
  · subst h0
    rw [decide_eq_true (show ((0 : Nat) : Int) = 0 from rfl), cT, hz, cT, cT, tdiv_nat, tmod_nat, Nat.zero_mul, Nat.zero_add]
    have := Nat.div_le_self l y
    generalize l / y = d at *
    rw [u_wrap (by omega) (by omega)]
  · rw [decide_eq_false (show ¬ (h : Int) = 0 by omega), cF]
    obtain ⟨L, e1, ⟨e2, e3⟩, e4⟩ := Len64_ok (n := y) (by omega) hy2
    simp only [bits_LeadingZeros64, bits_LeadingZeros64_b, e1, obind_some']
    rw [wrap_id (x := 64 - (L : Int)) (by omega) (by omega)]
    obtain ⟨s, hs⟩ : ∃ s : Nat, L + s = 64 := ⟨64 - L, by omega⟩
    have w1 : IntKind.wrap .u64 (64 - (L : Int)) = (s : Int) := by rw [u_wrap (by omega) (by omega)]; omega
    have w2 : IntKind.wrap .u64 (64 - (s : Int)) = (L : Int) := by rw [u_wrap (by omega) (by omega)]; omega
    have p2 : ∀ k : Nat, (2 : Int) ^ k = ((2 ^ k : Nat) : Int) := fun k => by rw [Int.natCast_pow]; rfl
    have p32 : (2 : Int) ^ (32 : Nat) = 4294967296 := by decide
    simp only [w1, w2, Int.toNat_natCast, Nat.min_eq_left (show s ≤ 64 by omega), Nat.min_eq_left (show L ≤ 64 by omega), p32]
    simp only [p2]
    have hPQ : 2 ^ s * 2 ^ L = 18446744073709551616 := by rw [← Nat.pow_add, show s + L = 64 by omega]
    have hP : 0 < 2 ^ s := Nat.two_pow_pos s
    have hQ : 0 < 2 ^ L := Nat.two_pow_pos L
    have hYlt : y * 2 ^ s < 18446744073709551616 := by rw [← hPQ, Nat.mul_comm (2 ^ s)]; exact Nat.mul_lt_mul_of_pos_right e2 hP
    have hYge : 9223372036854775808 ≤ y * 2 ^ s := by
      have := Nat.mul_le_mul_right (2 ^ s) e3
      rw [Nat.mul_comm (2 ^ L), hPQ, Nat.mul_assoc] at this
      omega
    have hhP : h * 2 ^ s + 2 ^ s ≤ y * 2 ^ s := by rw [← Nat.succ_mul]; exact Nat.mul_le_mul_right _ hy
    have hlQ : l / 2 ^ L < 2 ^ s := by rw [Nat.div_lt_iff_lt_mul hQ, hPQ]; exact hl0
    have hlor : IntKind.wrap .u64 ((Nat.lor (Int.toNat (IntKind.wrap .u64 ((h : Int) * ((2 ^ s : Nat) : Int)) % Int.ofNat 18446744073709551616)) (Int.toNat (Int.fdiv (l : Int) ((2 ^ L : Nat) : Int) % Int.ofNat 18446744073709551616)) : Nat) : Int) = ((h * 2 ^ s + l / 2 ^ L : Nat) : Int) := by
      have a1 : IntKind.wrap .u64 ((h : Int) * ((2 ^ s : Nat) : Int)) = ((h * 2 ^ s : Nat) : Int) := by rw [← Int.natCast_mul, u_wrap (by omega) (by omega)]
      have a2 : Int.fdiv (l : Int) ((2 ^ L : Nat) : Int) = ((l / 2 ^ L : Nat) : Int) := by rw [fdiv_of (by omega)]; rfl
      have a3 : ∀ n : Nat, n < 18446744073709551616 → Int.toNat ((n : Int) % Int.ofNat 18446744073709551616) = n := fun n hn => by
        rw [show Int.ofNat 18446744073709551616 = (18446744073709551616 : Int) from rfl]; omega
      rw [a1, a2, a3 (h * 2 ^ s) (by omega), a3 (l / 2 ^ L) (by omega), lor_add hlQ]
      exact u_wrap (Int.natCast_nonneg _) (by
        have h5 : h * 2 ^ s + l / 2 ^ L < 18446744073709551616 := by omega
        exact Int.ofNat_lt.2 h5)
    have hlo : IntKind.wrap .u64 ((l : Int) * ((2 ^ s : Nat) : Int)) = ((l % 2 ^ L * 2 ^ s : Nat) : Int) := by
      rw [← Int.natCast_mul, IntKind.wrap_u64]
      have a1 : l * 2 ^ s = (l / 2 ^ L) * 18446744073709551616 + l % 2 ^ L * 2 ^ s := by
        rw [← hPQ, Nat.mul_comm (2 ^ s), ← Nat.mul_assoc, ← Nat.add_mul, Nat.mul_comm (l / 2 ^ L), Nat.div_add_mod]
      have a2 : l % 2 ^ L * 2 ^ s < 18446744073709551616 := by rw [← hPQ, Nat.mul_comm (2 ^ s)]; exact Nat.mul_lt_mul_of_pos_right (Nat.mod_lt _ hQ) hP
      rw [a1]
      generalize l / 2 ^ L = A at *
      generalize l % 2 ^ L * 2 ^ s = B at *
      omega
    have hlolt : l % 2 ^ L * 2 ^ s < 18446744073709551616 := by rw [← hPQ, Nat.mul_comm (2 ^ s)]; exact Nat.mul_lt_mul_of_pos_right (Nat.mod_lt _ hQ) hP
    have hN : (h * 18446744073709551616 + l) * 2 ^ s = (h * 2 ^ s + l / 2 ^ L) * 18446744073709551616 + l % 2 ^ L * 2 ^ s := by
      have a1 : l * 2 ^ s = (l / 2 ^ L) * 18446744073709551616 + l % 2 ^ L * 2 ^ s := by
        rw [← hPQ, Nat.mul_comm (2 ^ s), ← Nat.mul_assoc, ← Nat.add_mul, Nat.mul_comm (l / 2 ^ L), Nat.div_add_mod]
      rw [Nat.add_mul, a1, Nat.add_mul, Nat.mul_right_comm]
      omega
    have hY : IntKind.wrap .u64 ((y : Int) * ((2 ^ s : Nat) : Int)) = ((y * 2 ^ s : Nat) : Int) := by rw [← Int.natCast_mul, u_wrap (by omega) (by omega)]
    have hdiv : (h * 18446744073709551616 + l) / y = ((h * 2 ^ s + l / 2 ^ L) * 18446744073709551616 + l % 2 ^ L * 2 ^ s) / (y * 2 ^ s) := by rw [← hN, Nat.mul_div_mul_right _ _ hP]
    have hmod : ((h * 18446744073709551616 + l) % y) * 2 ^ s = ((h * 2 ^ s + l / 2 ^ L) * 18446744073709551616 + l % 2 ^ L * 2 ^ s) % (y * 2 ^ s) := by rw [← hN, Nat.mul_mod_mul_right]
    rw [hlor, hlo, hY]
    have hU : h * 2 ^ s + l / 2 ^ L < y * 2 ^ s := by omega
    have hm : (h * 18446744073709551616 + l) % y = ((h * 2 ^ s + l / 2 ^ L) * 18446744073709551616 + l % 2 ^ L * 2 ^ s) % (y * 2 ^ s) / 2 ^ s := by rw [← hmod, Nat.mul_div_cancel _ hP]
    rw [hdiv, hm]
    generalize h * 2 ^ s + l / 2 ^ L = U at *
    generalize l % 2 ^ L * 2 ^ s = W at *
    generalize y * 2 ^ s = Y at *
    generalize 2 ^ s = P at *
    clear e2 e3 e1 hlor hlo hN hdiv hmod hm hlQ hPQ hhP hY
    have hdv := dv_ok (P := P) hYge hYlt hlolt hU
    rw [← hdv]
    have c1 : decide ((0 : Int) ≤ (s : Int)) = true := decide_eq_true (by omega)
    have c2 : decide ((0 : Int) ≤ (L : Int)) = true := decide_eq_true (by omega)
    have c3 : decide ((0 : Int) ≤ (32 : Int)) = true := rfl
    have c4 : nzB ((Y : Int) / 4294967296) = true := nzB_of (by omega)
    have m1 : ∀ n : Nat, n < 18446744073709551616 → IntKind.wrap .u64 ((Nat.land (Int.toNat ((n : Int) % Int.ofNat 18446744073709551616)) (Int.toNat ((4294967295 : Int) % Int.ofNat 18446744073709551616)) : Nat) : Int) = (n : Int) % 4294967296 := fun n hn => by
      rw [land32 (by omega) (by omega), u_wrap (by omega) (by omega)]
    simp only [fdiv_of (show (0 : Int) ≤ 4294967296 by omega), c1, c2, c3, c4, m1 Y hYlt, m1 W hlolt, not_or_self', or_self_not, Bool.not_not, Bool.and_self, cT]
    rfl

end Go.Proofs.Ytghjblbkbelcfaa

namespace Go.Proofs.Ytghjblbkbelcfaa
open Try Dn Dn.Sh

theorem over_ok {n b : Nat} (hb0 : 0 < b) (hb : b < 18446744073709551616) (hn : n < 340282366920938463463374607431768211456) : ratio_over (hl n) (b : Int) = some (hl (n / b), ((n % b : Nat) : Int), ()) := by
  have hz : nzB (b : Int) = true := nzB_of (by omega)
  obtain ⟨h, l, hh, hl', hnn⟩ : ∃ h l : Nat, h = n / 18446744073709551616 ∧ l = n % 18446744073709551616 ∧ n = h * 18446744073709551616 + l := ⟨_, _, rfl, rfl, by omega⟩
  have e : hl n = ((h : Int), (l : Int)) := by unfold hl; rw [hh, hl']
  rw [e]
  simp only [ratio_over, ratio_over_b]
  rw [hz, tmod_nat, Div64_ok (Nat.mod_lt h hb0) hb (by omega), obind_some']
  have d1 := Nat.div_add_mod h b
  have d2 := Nat.mod_lt h hb0
  obtain ⟨A, hA⟩ : ∃ A, A = h % b * 18446744073709551616 + l := ⟨_, rfl⟩
  rw [← hA]
  have d3 := Nat.div_add_mod A b
  have d4 := Nat.mod_lt A hb0
  have d5 : A / b < 18446744073709551616 := (Nat.div_lt_iff_lt_mul hb0).2 (by
    have : (h % b + 1) * 18446744073709551616 ≤ b * 18446744073709551616 := Nat.mul_le_mul_right _ d2
    rw [Nat.mul_comm 18446744073709551616 b]
    omega)
  have hN : n = (h / b * 18446744073709551616 + A / b) * b + A % b := by
    have e1 : (h / b * 18446744073709551616 + A / b) * b = b * (h / b) * 18446744073709551616 + b * (A / b) := by grind
    rw [e1, hnn]
    generalize b * (h / b) = x at *
    generalize b * (A / b) = y at *
    generalize A % b = r at *
    generalize h % b = r1 at *
    clear e hz hb0 hb hn hh hl' hnn d5 e1
    omega
  obtain ⟨n1, n2⟩ := divMod_of d4 hN
  rw [n1, n2, tdiv_nat]
  have d6 : h / b < 18446744073709551616 := Nat.lt_of_le_of_lt (Nat.div_le_self h b) (by omega)
  generalize h / b = x at *
  generalize A / b = y at *
  rw [u_wrap (x := (x : Int)) (by omega) (by omega)]
  unfold hl
  rw [show (x * 18446744073709551616 + y) / 18446744073709551616 = x by omega, show (x * 18446744073709551616 + y) % 18446744073709551616 = y by omega]
  rfl

theorem sum_cop {na nb : Int} {da A B : Nat} (ha : Nat.gcd na.natAbs da = 1) (hA : A ∣ da) (hAB : Nat.gcd A B = 1) : Nat.gcd (na * B + nb * A).natAbs A = 1 := by
  have d1 := Nat.gcd_dvd_left (na * B + nb * A).natAbs A
  have d2 := Nat.gcd_dvd_right (na * B + nb * A).natAbs A
  generalize Nat.gcd (na * B + nb * A).natAbs A = d at *
  have e1 : (d : Int) ∣ na * B + nb * A := Int.ofNat_dvd_left.2 d1
  have e2 : (d : Int) ∣ nb * A := Int.dvd_mul_of_dvd_right (Int.ofNat_dvd.2 d2)
  have e3 : (d : Int) ∣ na * B := (Int.dvd_iff_dvd_of_dvd_add e1).2 e2
  have e4 : d ∣ na.natAbs * B := by
    have := Int.ofNat_dvd_left.1 e3
    rwa [Int.natAbs_mul, Int.natAbs_natCast] at this
  have e5 : Nat.Coprime d na.natAbs := (Nat.Coprime.coprime_dvd_right (Nat.dvd_trans d2 hA) ha).symm
  have e6 : d ∣ B := Nat.Coprime.dvd_of_dvd_mul_left e5 e4
  have e7 := Nat.dvd_gcd d2 e6
  rw [hAB] at e7
  exact Nat.dvd_one.1 e7

theorem sum_plain {na nb : Int} {da db g A B : Nat} (ha : Nat.gcd na.natAbs da = 1) (hb : Nat.gcd nb.natAbs db = 1) (h1 : da = A * g) (h2 : db = B * g) (hAB : Nat.gcd A B = 1) (hg : 0 < g) (hA : 0 < A) (hB : 0 < B) {c : Nat} (hc : c = Nat.gcd g (na * B + nb * A).natAbs) :
    mkRat na da + mkRat nb db = mkRat (na * B + nb * A) (A * db) ∧ Nat.gcd ((na * B + nb * A).natAbs / c) (A * (db / c)) = 1 ∧ 0 < c ∧ c ∣ (na * B + nb * A).natAbs ∧ c ∣ db := by
  have hc0 : 0 < c := by rw [hc]; exact Nat.gcd_pos_of_pos_left _ hg
  have k1 : Nat.gcd (na * B + nb * A).natAbs A = 1 := sum_cop ha ⟨g, h1⟩ hAB
  have k2 : Nat.gcd (na * B + nb * A).natAbs B = 1 := by
    rw [Int.add_comm]
    exact sum_cop hb ⟨g, h2⟩ (by rw [Nat.gcd_comm]; exact hAB)
  have c1 : c ∣ (na * B + nb * A).natAbs := by rw [hc]; exact Nat.gcd_dvd_right _ _
  have c2 : c ∣ g := by rw [hc]; exact Nat.gcd_dvd_left _ _
  refine ⟨?_, ?_, hc0, c1, by rw [h2]; exact Nat.dvd_trans c2 (Nat.dvd_mul_left g B)⟩
  · have p1 : 0 < A * g := Nat.mul_pos hA hg
    have p2 : 0 < B * g := Nat.mul_pos hB hg
    have p3 : 0 < A * (B * g) := Nat.mul_pos hA p2
    rw [Rat.mkRat_add_mkRat _ _ (by omega) (by omega), h1, h2, Rat.mkRat_eq_iff (Nat.ne_of_gt (Nat.mul_pos p1 p2)) (by omega)]
    simp only [Int.natCast_mul]
    grind
  · have c3 : Nat.gcd ((na * B + nb * A).natAbs / c) (g / c) = 1 := by
      rw [hc, Nat.gcd_comm]
      exact Nat.gcd_div_gcd_div_gcd_of_pos_left hg
    have hdb : db / c = B * (g / c) := by rw [h2, Nat.mul_div_assoc _ c2]
    have dv : (na * B + nb * A).natAbs / c ∣ (na * B + nb * A).natAbs := Nat.div_dvd_of_dvd c1
    rw [hdb]
    exact Nat.Coprime.mul_right (Nat.Coprime.coprime_dvd_left dv k1) (Nat.Coprime.mul_right (Nat.Coprime.coprime_dvd_left dv k2) c3)

theorem zero_hl' {n : Nat} (h : n < 340282366920938463463374607431768211456) : (decide ((hl n).1 = 0) && (decide ((hl n).2 = 0) && true)) = decide (n = 0) := zero_hl h

theorem Add_ok {a b : Fq} (ha : okF a) (hb : okF b) : ratio_Add a b = some (fitQ (qv a + qv b)) := by
  obtain ⟨na, da'⟩ := a
  obtain ⟨nb, db'⟩ := b
  have ha' := ha
  have hb' := hb
  unfold okF at ha' hb'
  simp only at ha' hb'
  obtain ⟨⟨a1, a2⟩, ⟨a3, a4⟩, a5⟩ := ha'
  obtain ⟨⟨b1, b2⟩, ⟨b3, b4⟩, b5⟩ := hb'
  obtain ⟨da, rfl⟩ : ∃ da : Nat, da' = da := ⟨da'.toNat, by omega⟩
  obtain ⟨db, rfl⟩ : ∃ db : Nat, db' = db := ⟨db'.toNat, by omega⟩
  rw [Int.natAbs_natCast] at a5 b5
  simp only [ratio_Add, ratio_Add_b, Valid_ok, decide_eq_true ha, decide_eq_true hb, obind_some', Bool.not_true, Bool.not_false, Bool.or_false, Bool.or_true, Bool.false_or, Bool.true_or, cT, cF, jnT]
  rw [u_wrap (x := (da : Int)) (by omega) (by omega), u_wrap (x := (db : Int)) (by omega) (by omega), gcd_ok _ _ (by omega), obind_some', size_ok (by omega) (by omega), obind_some', size_ok (by omega) (by omega)]
  have hg : 0 < Nat.gcd da db := Nat.gcd_pos_of_pos_left _ (by omega)
  have hgl : Nat.gcd da db ≤ da := Nat.gcd_le_left _ (by omega)
  obtain ⟨A, hA⟩ : ∃ A, A = da / Nat.gcd da db := ⟨_, rfl⟩
  obtain ⟨B, hB⟩ : ∃ B, B = db / Nat.gcd da db := ⟨_, rfl⟩
  have hAg : da = A * Nat.gcd da db := by rw [hA, Nat.div_mul_cancel (Nat.gcd_dvd_left _ _)]
  have hBg : db = B * Nat.gcd da db := by rw [hB, Nat.div_mul_cancel (Nat.gcd_dvd_right _ _)]
  have hAB : Nat.gcd A B = 1 := by rw [hA, hB]; exact Nat.gcd_div_gcd_div_gcd_of_pos_left (by omega)
  have hA0 : 0 < A := by rw [hA]; exact Nat.div_pos (Nat.gcd_le_left _ (by omega)) hg
  have hB0 : 0 < B := by rw [hB]; exact Nat.div_pos (Nat.gcd_le_right _ (by omega)) hg
  have hAl : A ≤ da := by rw [hA]; exact Nat.div_le_self _ _
  have hBl : B ≤ db := by rw [hB]; exact Nat.div_le_self _ _
  have hz : nzB ((Nat.gcd da db : Nat) : Int) = true := nzB_of (by omega)
  rw [hz, cT, tdiv_nat, tdiv_nat, ← hA, ← hB, u_wrap (x := (A : Int)) (by omega) (by omega), u_wrap (x := (B : Int)) (by omega) (by omega)]
  have x1 : na.natAbs * B ≤ 1152921504606846976 * 1152921504606846976 := Nat.mul_le_mul (by omega) (by omega)
  have y1 : nb.natAbs * A ≤ 1152921504606846976 * 1152921504606846976 := Nat.mul_le_mul (by omega) (by omega)
  rw [product_ok (by omega) (by omega), obind_some', obind_some', cT, product_ok (by omega) (by omega), obind_some']
  have hsum := sum_plain (na := na) (nb := nb) a5 b5 hAg hBg hAB hg hA0 hB0 rfl
  generalize Nat.gcd da db = g at *
  have hv : qv (na, (da : Int)) + qv (nb, (db : Int)) = mkRat na da + mkRat nb db := rfl
  rw [hv, hsum.1]
  simp only [not_or_self', or_self_not, Bool.not_not, cT]
  have tail : ∀ (s : Bool) (N : Nat), N ≤ 2658455991569831745807614120560689152 → sgn s N = na * B + nb * A → (bif decide ((hl N).1 = 0) && (decide ((hl N).2 = 0) && true) then some (((0 : Int), (1 : Int)), (0 : Int), PUnit.unit) else
      obind (ratio_over (hl N) (g : Int)) fun t_5 => obind (ratio_gcd (g : Int) t_5.2.1) fun t_1 => obind (ratio_over (hl N) t_1) fun t_6 => bif nzB t_1 then obind (ratio_product (A : Int) (IntKind.wrap .u64 (Int.tdiv (db : Int) t_1))) fun t =>
        bif bif decide (t_6.1.1 > 0) then true else decide (t.1 > 0) then some (((0 : Int), (0 : Int)), (5 : Int), PUnit.unit) else obind (ratio_signed s t_6.1.2 t.2) fun t => some (t.1, t.2.1, PUnit.unit) else none) = some (fitQ (mkRat (na * B + nb * A) (A * db))) := by
    intro s N hN hs
    have hNT : (na * B + nb * A).natAbs = N := by rw [← hs]; unfold sgn; split <;> simp
    rw [hNT] at hsum
    rw [zero_hl (by omega)]
    by_cases h0 : N = 0
    · rw [decide_eq_true h0, cT, ← hs, h0, show sgn s 0 = 0 by unfold sgn; cases s <;> rfl, Rat.zero_mkRat]
      rfl
    · obtain ⟨c, hc⟩ : ∃ c, c = Nat.gcd g N := ⟨_, rfl⟩
      rw [← hc] at hsum
      obtain ⟨_, s2, s3, s4, s5⟩ := hsum
      have hcg : c ≤ g := by rw [hc]; exact Nat.gcd_le_left _ hg
      rw [decide_eq_false h0, cF, over_ok hg (by omega) (by omega), obind_some', gcd_ok _ _ (by have := Nat.mod_lt N hg; generalize N % g = w at *; omega), obind_some', Nat.gcd_comm, ← Nat.gcd_rec, ← hc, over_ok s3 (by omega) (by omega), obind_some', nzB_of (by omega), cT, tdiv_nat]
      have hdc : db / c ≤ db := Nat.div_le_self _ _
      have hdc0 : 0 < db / c := Nat.div_pos (Nat.le_of_dvd (by omega) s5) s3
      rw [u_wrap (by omega) (by generalize db / c = w at *; omega), product_ok (by omega) (by generalize db / c = w at *; omega), obind_some']
      have hNc : N / c ≤ N := Nat.div_le_self _ _
      have hval : mkRat (na * B + nb * A) (A * db) = mkRat (sgn s (N / c)) (A * (db / c)) := by
        rw [← hs]
        refine mkQ_congr (Nat.mul_pos hA0 (by omega)) (Nat.mul_pos hA0 hdc0) ?_
        obtain ⟨x, rfl⟩ := s4
        obtain ⟨y, rfl⟩ := s5
        rw [Nat.mul_div_cancel_left _ s3, Nat.mul_div_cancel_left _ s3]
        grind
      rw [hval, fit_low (Nat.mul_pos hA0 hdc0) s2]
      have hden : A * (db / c) ≤ 1152921504606846976 * 1152921504606846976 := Nat.mul_le_mul (by omega) (by omega)
      generalize N / c = n at *
      generalize A * (db / c) = d at *
      by_cases hn : n < 18446744073709551616
      · by_cases hd : d < 18446744073709551616
        · rw [hl_small hn, hl_small hd]
          simp only
          rw [show decide ((0 : Int) > 0) = false from rfl, cF, cF, signed_ok _ _ _ hn hd, obind_some']
        · rw [hl_small hn]
          simp only
          rw [show decide ((0 : Int) > 0) = false from rfl, decide_eq_true (hl_big hd), cF, cT, if_neg (by omega)]
      · rw [decide_eq_true (hl_big hn), cT, cT, if_neg (by omega)]
  have sx : ∀ {n : Int} {s : Bool}, s = decide (n < 0) → n = sgn s n.natAbs := fun {n s} h => by rw [h]; exact size_sgn n
  by_cases hsg : decide (na < 0) = decide (nb < 0)
  · rw [decide_eq_true hsg, cT, rPlus_ok (by omega), obind_some']
    refine tail _ _ (by omega) ?_
    have e1 : na = sgn (decide (na < 0)) na.natAbs := size_sgn na
    have e2 : nb = sgn (decide (na < 0)) nb.natAbs := by rw [hsg]; exact size_sgn nb
    generalize na.natAbs = m at *
    generalize nb.natAbs = n at *
    generalize decide (na < 0) = s at *
    rw [e1, e2]
    unfold sgn
    cases s
    · simp only [Bool.false_eq_true, if_false]
      rw [Int.natCast_add, Int.natCast_mul, Int.natCast_mul]
    · simp only [if_true]
      rw [Int.natCast_add, Int.natCast_mul, Int.natCast_mul]
      grind
  · have e1 : na = sgn (decide (na < 0)) na.natAbs := size_sgn na
    have e2 : nb = sgn (!decide (na < 0)) nb.natAbs := by
      have : (!decide (na < 0)) = decide (nb < 0) := by
        clear tail sx hsum hv ha hb
        revert hsg
        cases decide (na < 0) <;> cases decide (nb < 0) <;> simp
      rw [this]; exact size_sgn nb
    rw [decide_eq_false hsg, cF, rLess_ok, obind_some']
    by_cases hlt : na.natAbs * B < nb.natAbs * A
    · rw [decide_eq_true hlt, cT, rMinus_ok (by omega) (by omega), obind_some']
      refine tail _ _ (by omega) ?_
      generalize na.natAbs = m at *
      generalize nb.natAbs = n at *
      generalize decide (na < 0) = s at *
      rw [e1, e2]
      have e3 : (((n * A - m * B : Nat)) : Int) = (n : Int) * A - (m : Int) * B := by rw [Int.ofNat_sub (Nat.le_of_lt hlt), Int.natCast_mul, Int.natCast_mul]
      unfold sgn
      cases s
      · simp only [Bool.false_eq_true, if_false, Bool.not_false, if_true]
        grind
      · simp only [if_true, Bool.not_true, Bool.false_eq_true, if_false]
        grind
    · rw [decide_eq_false hlt, cF, rMinus_ok (by omega) (by omega), obind_some']
      refine tail _ _ (by omega) ?_
      generalize na.natAbs = m at *
      generalize nb.natAbs = n at *
      generalize decide (na < 0) = s at *
      rw [e1, e2]
      have e3 : (((m * B - n * A : Nat)) : Int) = (m : Int) * B - (n : Int) * A := by rw [Int.ofNat_sub (Nat.not_lt.1 hlt), Int.natCast_mul, Int.natCast_mul]
      unfold sgn
      cases s
      · simp only [Bool.false_eq_true, if_false, Bool.not_false, if_true]
        grind
      · simp only [if_true, Bool.not_true, Bool.false_eq_true, if_false]
        grind

end Go.Proofs.Ytghjblbkbelcfaa

namespace Go.Proofs.Ytghjblbkbelcfaa
open Try Dn Dn.Sh

theorem str_beq (a b : ByteArray) : List.beq (ByteArray.toList a) (ByteArray.toList b) = decide (a = b) := by
  show (a.toList == b.toList) = _
  rw [ByteArray.toList_eq, ByteArray.toList_eq, Bool.eq_iff_iff, decide_eq_true_iff, beq_iff_eq]
  exact ⟨fun h => ByteArray.ext (Array.toList_inj.mp h), fun h => by rw [h]⟩

theorem lpK_some {α R : Type} {F : (α → Option R) → α → Option R} (I : α → Prop) (μ : α → Nat) (h : ∀ x rec, I x → (∀ y, I y → μ y < μ x → (rec y).isSome = true) → (F rec x).isSome = true) {x : α} (hx : I x) (hn : μ x < 1180591620717411303424) : (lpK α R F x).isSome = true := by
  have key : ∀ n x, I x → μ x < n → (loopF F n x).isSome = true := by
    intro n
    induction n with
    | zero => intro x _ h; omega
    | succ n ih =>
      intro x hx hn
      rw [loopF_succ]
      exact h x _ hx fun y hy hlt => ih y hy (by omega)
  exact key _ x hx hn

theorem letter_same : decimal_letter = ref01_Letter := by
  funext c
  rfl
theorem digit_same : decimal_digit = ref01_Digit := by
  funext c
  rfl
theorem letter_some (c : Int) : ∃ b, decimal_letter c = some b := by
  simp only [decimal_letter, decimal_letter_b, not_or_self', or_self_not, cond_true]
  cases decide (c ≥ 97) <;> cases decide (c ≤ 122) <;> cases decide (c ≥ 65) <;> exact ⟨_, rfl⟩
theorem digit_some (c : Int) : ∃ b, decimal_digit c = some b := by
  simp only [decimal_digit, decimal_digit_b, not_or_self', cond_true]
  exact ⟨_, rfl⟩

theorem word_some {s : ByteArray} (h : s.size ≤ 1000000) : ∃ n, decimal_word s = some n := by
  rw [← Option.isSome_iff_exists]
  simp only [decimal_word, decimal_word_b]
  refine lpK_some (I := fun (x : Int × PUnit) => 0 ≤ x.1 ∧ x.1 ≤ s.size) (μ := fun (x : Int × PUnit) => ((s.size : Int) - x.1).toNat) (x := ((0 : Int), PUnit.unit)) ?_ ⟨Int.le_refl _, by simp only; omega⟩ (by simp only; omega)
  rintro ⟨i, _⟩ rec ⟨h0, h1⟩ hrec
  simp only at h0 h1 ⊢
  by_cases hi : i < s.size
  · rw [inB_of h0 hi, decide_eq_true hi]
    obtain ⟨b, hb⟩ := letter_some (byteAt s i.toNat)
    obtain ⟨c, hc⟩ := digit_some (byteAt s i.toNat)
    have hw : IntKind.wrap .i64 (i + 1) = i + 1 := wrap_id (by omega) (by omega)
    have hr := hrec (i + 1, PUnit.unit) ⟨by simp only; omega, by simp only; omega⟩ (by simp only; omega)
    simp only [hb, hc, hw]
    cases b <;> cases c <;> cases decide (byteAt s i.toNat = 95) <;> simp [obind_some', hr]
  · rw [decide_eq_false hi]
    simp [obind_some']

theorem word_same (s : ByteArray) : ref01_word s 0 = decimal_word s := by
  simp only [ref01_word, ref01_word_b, decimal_word, decimal_word_b, letter_same, digit_same]

/-- Whether a string is a name. -/
noncomputable def nameB (s : ByteArray) : Bool := decide (0 < s.size) && (decide (s.size ≤ 20) && ((decimal_letter (byteAt s 0)).getD false && decide ((decimal_word s).getD 0 = (s.size : Int))))

theorem empty_iff (s : ByteArray) : s = { data := #[] } ↔ s.size = 0 := by
  constructor
  · intro h; rw [h]; rfl
  · intro h
    apply ByteArray.ext
    exact Array.eq_empty_of_size_eq_zero h

theorem isName_ok (s : ByteArray) : decimal_IsName s = some (nameB s) := by
  simp only [decimal_IsName, decimal_IsName_b, str_beq, not_or_self', Bool.and_self, cond_true]
  unfold nameB
  by_cases h0 : s.size = 0
  · have e : decide (s = { data := #[] }) = true := decide_eq_true ((empty_iff s).2 h0)
    simp [e, h0, obind_some']
  · have e : decide (s = { data := #[] }) = false := decide_eq_false fun h => h0 ((empty_iff s).1 h)
    by_cases h1 : s.size ≤ 20
    · obtain ⟨b, hb⟩ := letter_some (byteAt s 0)
      obtain ⟨n, hn⟩ := word_some (s := s) (by omega)
      have h2 : decide ((s.size : Int) ≤ 20) = true := decide_eq_true (by omega)
      rw [inB_of (show (0 : Int) ≤ 0 by omega) (show (0 : Int) < s.size by omega)]
      simp only [e, h2, hb, hn]
      cases b <;> simp [obind_some', h1, show 0 < s.size by omega]
    · have h2 : decide ((s.size : Int) ≤ 20) = false := decide_eq_false (by omega)
      simp [e, h2, h1, obind_some']

theorem refIsName_ok (s : ByteArray) : ref01_IsName s = some (nameB s) := by
  simp only [ref01_IsName, ref01_IsName_b, not_or_self', or_self_not, cond_true]
  unfold nameB
  by_cases h0 : s.size = 0
  · simp [h0, obind_some']
  · have e : decide ((s.size : Int) = 0) = false := decide_eq_false (by omega)
    by_cases h1 : s.size ≤ 20
    · obtain ⟨b, hb⟩ := letter_some (byteAt s 0)
      obtain ⟨n, hn⟩ := word_some (s := s) (by omega)
      have h2 : decide ((s.size : Int) > 20) = false := decide_eq_false (by omega)
      rw [inB_of (show (0 : Int) ≤ 0 by omega) (show (0 : Int) < s.size by omega), word_same]
      simp only [e, h2, ← letter_same, hb, hn]
      cases b <;> simp [obind_some', h1, show 0 < s.size by omega]
    · have h2 : decide ((s.size : Int) > 20) = true := decide_eq_true (by omega)
      simp [e, h2, h1, obind_some']

end Go.Proofs.Ytghjblbkbelcfaa

namespace Go.Proofs.Ytghjblbkbelcfaa
open Try Dn Dn.Sh

abbrev P3 := Int × Int × Int
def inP (p : P3) : Prop := (-1048576 ≤ p.1 ∧ p.1 ≤ 1048576) ∧ (-1048576 ≤ p.2.1 ∧ p.2.1 ≤ 1048576) ∧ (-1048576 ≤ p.2.2 ∧ p.2.2 ≤ 1048576)
instance (p : P3) : Decidable (inP p) := by unfold inP; infer_instance
def dec (p : P3) : Bool := decide (inP p)
theorem dec_iff {p : P3} : dec p = true ↔ inP p := by simp [dec]

theorem valid_eq (p : P3) : points_Valid p = some (dec p) := by
  simp only [points_Valid, points_Valid_b, not_or_self', Bool.and_self, cond_true]
  congr 1
  rw [Bool.eq_iff_iff]
  simp only [dec, bif_false', Bool.and_eq_true, decide_eq_true_eq]
  unfold inP
  simp only [ite_max, ite_min, Int.max_le, Int.le_min, ge_iff_le]
  omega
theorem within1_eq (n : Int) : ref09_within n = some (decide (-1048576 ≤ n ∧ n ≤ 1048576)) := by
  simp only [ref09_within, ref09_within_b, not_or_self', cond_true, bif_false', ge_iff_le, Bool.decide_and]
theorem refValidP_eq (p : P3) : ref09_Valid p = some (dec p) := by
  simp only [ref09_Valid, ref09_Valid_b, within1_eq, obind_some', not_or_self', cond_true, bif_false']
  unfold dec inP
  by_cases h1 : -1048576 ≤ p.1 ∧ p.1 ≤ 1048576
  · by_cases h2 : -1048576 ≤ p.2.1 ∧ p.2.1 ≤ 1048576
    · simp [h1, h2, obind_some']
    · simp [h1, h2, obind_some']
  · simp [h1, obind_some']

/-- The way from a to b. -/
def sub (a b : P3) : P3 := (b.1 - a.1, b.2.1 - a.2.1, b.2.2 - a.2.2)
theorem to_eq {a b : P3} (ha : inP a) (hb : inP b) : points_to a b = some (sub a b) := by
  unfold inP at ha hb
  simp only [points_to, points_to_b, sub]
  rw [wrap_id (by omega) (by omega), wrap_id (by omega) (by omega), wrap_id (by omega) (by omega)]

theorem mul_bound {a b m n : Int} (h1 : -m ≤ a) (h2 : a ≤ m) (h3 : -n ≤ b) (h4 : b ≤ n) : -(m * n) ≤ a * b ∧ a * b ≤ m * n := by
  have e : (a * b).natAbs ≤ m.natAbs * n.natAbs := by
    rw [Int.natAbs_mul]
    exact Nat.mul_le_mul (by omega) (by omega)
  have e2 : ((m.natAbs * n.natAbs : Nat) : Int) = m * n := by
    rw [Int.natCast_mul, Int.natAbs_of_nonneg (by omega), Int.natAbs_of_nonneg (by omega)]
  omega
theorem sq_bound {a m : Int} (h1 : -m ≤ a) (h2 : a ≤ m) : 0 ≤ a * a ∧ a * a ≤ m * m := by
  have := mul_bound h1 h2 h1 h2
  refine ⟨?_, this.2⟩
  rcases Int.le_total 0 a with h | h
  · exact Int.mul_nonneg h h
  · exact Int.mul_nonneg_of_nonpos_of_nonpos h h

/-- The square of a way. -/
def nsq (p : P3) : Int := p.1 * p.1 + p.2.1 * p.2.1 + p.2.2 * p.2.2

theorem all2_eq {a b : P3} : points_all [a, b] = some (dec a && dec b) := by
  simp only [points_all, points_all_b, slices_ContainsFunc_118, slices_ContainsFunc_118_b, slices_IndexFunc_125, slices_IndexFunc_125_b, lpK_eq]
  have h : ∀ p : P3, points_all_1 p = some (!dec p) := fun p => by
    simp only [points_all_1, points_all_1_b, valid_eq, obind_some']
  rw [loopF_K0]
  simp only [show decide ((0 : Int) < (([a, b] : List P3).length : Int)) = true from rfl, show inB 0 ([a, b] : List P3).length = true from rfl, cond_true, show IntKind.wrap .i64 (0 + 1) = 1 from rfl, show Int.toNat 0 = 0 from rfl, List.getD_cons_zero, h, obind_some']
  cases dec a with
  | false => rfl
  | true =>
    simp only [Bool.not_true, cond_false]
    rw [loopF_K1]
    simp only [show decide ((1 : Int) < (([a, b] : List P3).length : Int)) = true from rfl, show inB 1 ([a, b] : List P3).length = true from rfl, cond_true, show IntKind.wrap .i64 (1 + 1) = 2 from rfl, show Int.toNat 1 = 1 from rfl, List.getD_cons_zero, List.getD_cons_succ, h, obind_some']
    cases dec b with
    | false => rfl
    | true =>
      simp only [Bool.not_true, cond_false]
      rw [loopF_K2]
      rfl

theorem square_ok {a b : P3} (ha : inP a) (hb : inP b) : points_Square a b = some (nsq (sub a b), 0, ()) := by
  simp only [points_Square, points_Square_b, all2_eq, dec_iff.2 ha, dec_iff.2 hb, Bool.and_self, Bool.not_true, cond_false, obind_some', to_eq ha hb]
  unfold inP at ha hb
  have e1 := sq_bound (a := b.1 - a.1) (m := 2097152) (by omega) (by omega)
  have e2 := sq_bound (a := b.2.1 - a.2.1) (m := 2097152) (by omega) (by omega)
  have e3 := sq_bound (a := b.2.2 - a.2.2) (m := 2097152) (by omega) (by omega)
  simp (disch := omega) only [sub, nsq, wrap_id]

/-! ### Roots -/

def isq : Nat → Nat
  | 0 => 0
  | n + 1 => if (isq n + 1) * (isq n + 1) ≤ n + 1 then isq n + 1 else isq n
theorem isq_spec : ∀ n, isq n * isq n ≤ n ∧ n < (isq n + 1) * (isq n + 1)
  | 0 => by simp [isq]
  | n + 1 => by
    obtain ⟨h1, h2⟩ := isq_spec n
    simp only [isq]
    split
    · rename_i h
      refine ⟨h, ?_⟩
      have : (isq n + 1 + 1) * (isq n + 1 + 1) = (isq n + 1) * (isq n + 1) + 2 * (isq n + 1) + 1 := by grind
      omega
    · omega
theorem isq_uniq {n r : Nat} (h1 : r * r ≤ n) (h2 : n < (r + 1) * (r + 1)) : r = isq n := by
  obtain ⟨h3, h4⟩ := isq_spec n
  rcases Nat.lt_trichotomy r (isq n) with h | h | h
  · exfalso
    have : (r + 1) * (r + 1) ≤ isq n * isq n := Nat.mul_le_mul h h
    omega
  · exact h
  · exfalso
    have : (isq n + 1) * (isq n + 1) ≤ r * r := Nat.mul_le_mul h h
    omega

/-- The least span of the root of a number. -/
def rootS (n : Int) : Int × Int := ((isq n.toNat : Int), if (isq n.toNat * isq n.toNat : Nat) = n.toNat then (isq n.toNat : Int) else (isq n.toNat : Int) + 1)

theorem rootS_of {n r : Int} (hr : 0 ≤ r) (h1 : r * r ≤ n) (h2 : n < (r + 1) * (r + 1)) : rootS n = (r, if r * r = n then r else r + 1) := by
  have hn : 0 ≤ n := Int.le_trans (Int.mul_nonneg hr hr) h1
  obtain ⟨m, rfl⟩ : ∃ m : Nat, r = m := ⟨r.toNat, by omega⟩
  obtain ⟨k, rfl⟩ : ∃ k : Nat, n = k := ⟨n.toNat, by omega⟩
  have h1' : m * m ≤ k := by rw [← Int.natCast_mul] at h1; omega
  have h2' : k < (m + 1) * (m + 1) := by
    have : ((m : Int) + 1) * ((m : Int) + 1) = (((m + 1) * (m + 1) : Nat) : Int) := by rw [Int.natCast_mul]; rfl
    omega
  have e := isq_uniq h1' h2'
  unfold rootS
  rw [Int.toNat_natCast, ← e]
  congr 1
  rw [← Int.natCast_mul]
  by_cases h : m * m = k
  · rw [if_pos h, if_pos (by omega)]
  · rw [if_neg h, if_neg (by omega)]

theorem sq_lt {a b : Int} (h0 : 0 ≤ a) (h : a < b) : a * a < b * b := by
  have h1 : a * a ≤ a * b := Int.mul_le_mul_of_nonneg_left (by omega) h0
  have h2 : a * b < b * b := Int.mul_lt_mul_of_pos_right h (by omega)
  omega

theorem refRoot_ok {n : Int} (h0 : 0 ≤ n) (h1 : n ≤ 1152921504606846976) : ref09_Root n = some (rootS n) := by
  simp only [ref09_Root, ref09_Root_b]
  refine lpK_loop (g := fun _ => some (rootS n)) (I := fun (x : Int × Int × PUnit) => 0 ≤ x.1 ∧ x.1 < x.2.1 ∧ x.2.1 ≤ 1073741825 ∧ x.1 * x.1 ≤ n ∧ n < x.2.1 * x.2.1) (μ := fun (x : Int × Int × PUnit) => (x.2.1 - x.1).toNat) (x := ((0 : Int), (1073741825 : Int), PUnit.unit)) ?_ ⟨by simp, by simp, by simp, by simpa using h0, by simp only; omega⟩ (by simp)
  rintro ⟨lo, hi, _⟩ rec ⟨i0, i1, i2, i3, i4⟩ hrec
  simp only at i0 i1 i2 i3 i4 ⊢
  rw [wrap_id (x := hi - lo) (by omega) (by omega), wrap_id (x := lo + hi) (by omega) (by omega)]
  have ht : Int.tdiv (lo + hi) 2 = (lo + hi) / 2 := Int.tdiv_eq_ediv_of_nonneg (by omega)
  rw [ht, wrap_id (x := (lo + hi) / 2) (by omega) (by omega)]
  by_cases hc : hi - lo > 1
  · rw [decide_eq_true hc, cond_true]
    have hb := sq_bound (a := (lo + hi) / 2) (m := 1073741825) (by omega) (by omega)
    rw [wrap_id (x := (lo + hi) / 2 * ((lo + hi) / 2)) (by omega) (by omega)]
    by_cases hm : (lo + hi) / 2 * ((lo + hi) / 2) ≤ n
    · rw [decide_eq_true hm, cond_true]
      exact hrec _ ⟨by simp only; omega, by simp only; omega, by simp only; omega, hm, i4⟩ (by simp only; omega)
    · rw [decide_eq_false hm, cond_false]
      exact hrec _ ⟨by simp only; omega, by simp only; omega, by simp only; omega, i3, by simp only; omega⟩ (by simp only; omega)
  · rw [decide_eq_false hc, cond_false]
    have hh : hi = lo + 1 := by omega
    subst hh
    have hb := sq_bound (a := lo) (m := 1073741825) (by omega) (by omega)
    rw [wrap_id (x := lo * lo) (by omega) (by omega), wrap_id (x := lo + 1) (by omega) (by omega), rootS_of i0 i3 i4]
    by_cases he : lo * lo = n
    · simp [he]
    · simp [he]

theorem root_ok {n : Int} (h0 : 0 ≤ n) (h1 : n ≤ 1152921504606846976) : points_Root n = some (rootS n, 0, ()) := by
  simp only [points_Root, points_Root_b, not_or_self', or_self_not, cond_true]
  rw [decide_eq_false (show ¬ n < 0 by omega), cond_false, decide_eq_false (show ¬ n > 1152921504606846976 by omega), cond_false]
  refine lpK_loop (g := fun _ => some (rootS n, 0, ())) (I := fun (x : Int × Int × PUnit) => 0 ≤ x.1 ∧ x.1 * x.1 ≤ n ∧ ((x.2.1 = 0 ∧ x.1 ≤ 2147483648 ∧ n < (x.1 + 1) * (x.1 + 1)) ∨ ∃ k : Nat, x.2.1 = (2 ^ k : Nat) ∧ x.1 + 2 * x.2.1 ≤ 2147483648 ∧ n < (x.1 + 2 * x.2.1) * (x.1 + 2 * x.2.1)))
    (μ := fun (x : Int × Int × PUnit) => x.2.1.toNat) (x := ((0 : Int), (1073741824 : Int), PUnit.unit)) ?_ ⟨by simp, by simpa using h0, .inr ⟨30, by decide, by simp, by simp only; omega⟩⟩ (by simp)
  rintro ⟨r, b, _⟩ rec ⟨i0, i1, i2⟩ hrec
  simp only at i0 i1 i2 ⊢
  rcases i2 with ⟨rfl, i3, i4⟩ | ⟨k, hk, i3, i4⟩
  · have hb := sq_bound (a := r) (m := 2147483648) (by omega) (by omega)
    rw [decide_eq_false (show ¬ (0 : Int) > 0 by omega), cond_false, wrap_id (x := r * r) (by omega) (by omega), rootS_of i0 i1 i4]
    by_cases he : r * r < n
    · rw [decide_eq_true he, cond_true, wrap_id (x := r + 1) (by omega) (by omega), if_neg (by omega)]
    · rw [decide_eq_false he, cond_false, if_pos (by omega)]
  · have hpos : 0 < b := by rw [hk]; exact Int.natCast_pos.2 (Nat.pow_pos (by omega))
    have ht : Int.tdiv b 2 = b / 2 := Int.tdiv_eq_ediv_of_nonneg (by omega)
    have hb := sq_bound (a := r + b) (m := 2147483648) (by omega) (by omega)
    rw [decide_eq_true hpos, cond_true, wrap_id (x := r + b) (by omega) (by omega), wrap_id (x := (r + b) * (r + b)) (by omega) (by omega), ht, wrap_id (x := b / 2) (by omega) (by omega)]
    have next : ∀ r', (r' + b) * (r' + b) = (r' + b) * (r' + b) → r' + b ≤ 2147483648 → n < (r' + b) * (r' + b) → (b / 2 = 0 ∧ r' ≤ 2147483648 ∧ n < (r' + 1) * (r' + 1)) ∨ ∃ k : Nat, b / 2 = (2 ^ k : Nat) ∧ r' + 2 * (b / 2) ≤ 2147483648 ∧ n < (r' + 2 * (b / 2)) * (r' + 2 * (b / 2)) := fun r' _ hle hlt => by
      cases k with
      | zero =>
        have hb1 : b = 1 := by rw [hk]; rfl
        subst hb1
        exact .inl ⟨rfl, by omega, hlt⟩
      | succ k =>
        have h2 : b = 2 * ((2 ^ k : Nat) : Int) := by rw [hk, Nat.pow_succ, Int.natCast_mul]; omega
        have h3 : b / 2 = ((2 ^ k : Nat) : Int) := by omega
        have h4 : 2 * (b / 2) = b := by omega
        exact .inr ⟨k, h3, by rw [h4]; exact hle, by rw [h4]; exact hlt⟩
    by_cases hm : (r + b) * (r + b) ≤ n
    · rw [decide_eq_true hm, cond_true]
      refine hrec _ ⟨by simp only; omega, hm, next (r + b) rfl (by omega) ?_⟩ (by simp only; omega)
      rw [show r + b + b = r + 2 * b by omega]
      exact i4
    · rw [decide_eq_false hm, cond_false]
      exact hrec _ ⟨i0, i1, next r rfl (by omega) (by omega)⟩ (by simp only; omega)

end Go.Proofs.Ytghjblbkbelcfaa
