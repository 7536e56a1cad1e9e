/- r1: what its functions answer (printed by a program), and that they do. -/
import Derived.Test.YtkoadlblncohgaaDr1
namespace Go.Proofs.Ytkoadlblncohgaa
open Try Dn Dn.Sh

set_option maxRecDepth 100000
theorem hmix : prog.follows .mixedOrders = true := by kernel_rfl
theorem inlsOk : inlOk prog inls = true := by kernel_rfl
theorem q0 : (ctxOf prog shs inls [] []).ok := ctxOf_nil inlsOk
/-- slices.Clone[[]loftblock api.Point,loftblock api.Point] -/
def slices_Clone_23 (x0 : List (Int × Int × Int)) : Option (List (Int × Int × Int)) :=
  bif fitB ((0 : Nat) + List.length x0) (24 : Nat) then some x0 else none
noncomputable def r23 : RCtr := ⟨[(.sl T23)], 23, T23, fun x => slices_Clone_23 x.1⟩
theorem okr23 : r23.ok prog 23 := RCtr.of_den_nil (c := r23) q0 hmix (hl := hints) (d := 4) rfl func23 rfl (by decide) (fun x => by kernel_rfl) fun x h => by
  obtain ⟨l, u⟩ := x
  simp only at h
  subst h
  kernel_rfl
theorem q23 : (ctxOf prog shs inls [] [(23, r23)]).ok := ctxOf_row q0 (by kernel_rfl) okr23

/-- slices.IndexFunc[[]loftblock api.Point,loftblock api.Point] -/
def slices_IndexFunc_48 (x0 : List (Int × Int × Int)) (f0 : (((Int × Int × Int) × Unit) → Option Bool)) : Option Int :=
  loopF (fun (again : Int × PUnit → Option Int) (x : Int × PUnit) => bif decide (x.fst < (↑(List.length x0) : Int)) then bif inB x.fst (List.length x0) then obind (f0 (List.getD x0 (Int.toNat
    x.fst) ((0 : Int), (0 : Int), (0 : Int)), PUnit.unit)) fun (t : Bool) => bif t then some x.fst else again (IntKind.wrap IntKind.i64 (x.fst + (1 : Int)), PUnit.unit) else none else some
    (-1 : Int)) K0 ((0 : Int), PUnit.unit)
noncomputable def c48 : Ctr := ⟨[(.sl T23)], [([T23], .bool)], [], .one i64, fun x F _ => slices_IndexFunc_48 x.1 F.1⟩
theorem l48 : (ctxOf prog shs inls [] [(23, r23)]).ok := q23
theorem ok48 : c48.ok prog 48 := Ctr.of_den l48 hmix (hl := hints) (d := 4) func48 rfl (by decide) fun x F y => by kernel_rfl

/-- slices.ContainsFunc[[]loftblock api.Point,loftblock api.Point] -/
def slices_ContainsFunc_39 (x0 : List (Int × Int × Int)) (f0 : (((Int × Int × Int) × Unit) → Option Bool)) : Option Bool :=
  obind (slices_IndexFunc_48 x0 f0) fun (t : Int) => some (decide (t ≥ (0 : Int)))
noncomputable def c39 : Ctr := ⟨[(.sl T23)], [([T23], .bool)], [], .one .bool, fun x F _ => slices_ContainsFunc_39 x.1 F.1⟩
theorem l39 : (ctxOf prog shs inls [(48, c48)] [(23, r23)]).ok := ctxOf_cons (q23) (by kernel_rfl) ok48
theorem ok39 : c39.ok prog 39 := Ctr.of_den l39 hmix (hl := hints) (d := 4) func39 rfl (by decide) fun x F y => by kernel_rfl

/-- loftblock points.Valid -/
def points_Valid (x0 : Int × Int × Int) : Option Bool :=
  
  let v1 : Bool := decide ((if x0.snd.snd > if x0.snd.fst > x0.fst then x0.snd.fst else x0.fst then x0.snd.snd else if x0.snd.fst > x0.fst then x0.snd.fst else x0.fst) ≤ (1048576 : Int));
  let v2 : Bool := !v1 || v1; bif v2 then bif v2 then bif v2 then bif v2 && (v2 && v2) then bif v2 then bif v2 then some (bif v1 then decide ((if x0.snd.snd < if x0.snd.fst < x0.fst then
    x0.snd.fst else x0.fst then x0.snd.snd else if x0.snd.fst < x0.fst then x0.snd.fst else x0.fst) ≥ (-1048576 : Int)) else false) else none else none else none else none else none else
    none
noncomputable def c15 : Ctr := ⟨[T23], [], [], .one .bool, fun x _ _ => points_Valid x.1⟩
theorem l15 : (ctxOf prog shs inls [] [(23, r23)]).ok := q23
theorem ok15 : c15.ok prog 15 := Ctr.of_den l15 hmix (hl := hints) (d := 4) func15 rfl (by decide) fun x F y => by kernel_rfl

/-- loftblock points.all$1 -/
def points_all_1 (x0 : Int × Int × Int) : Option Bool :=
  obind (points_Valid x0) fun (t : Bool) => some !t
noncomputable def c46 : Ctr := ⟨[T23], [], [], .one .bool, fun x _ _ => points_all_1 x.1⟩
theorem l46 : (ctxOf prog shs inls [(15, c15)] [(23, r23)]).ok := ctxOf_cons (q23) (by kernel_rfl) ok15
theorem ok46 : c46.ok prog 46 := Ctr.of_den l46 hmix (hl := hints) (d := 4) func46 rfl (by decide) fun x F y => by kernel_rfl

/-- loftblock points.all -/
def points_all (x0 : List (Int × Int × Int)) : Option Bool :=
  obind (slices_ContainsFunc_39 x0 fun (x : (Int × Int × Int) × PUnit) => points_all_1 x.fst) fun (t : Bool) => some !t
noncomputable def c30 : Ctr := ⟨[(.sl T23)], [], [], .one .bool, fun x _ _ => points_all x.1⟩
theorem l30 : (ctxOf prog shs inls [(46, c46), (39, c39)] [(23, r23)]).ok := ctxOf_cons (ctxOf_cons (q23) (by kernel_rfl) ok39) (by kernel_rfl) ok46
theorem ok30 : c30.ok prog 30 := Ctr.of_den l30 hmix (hl := hints) (d := 4) func30 rfl (by decide) fun x F y => by kernel_rfl

/-- loftblock points.to -/
def points_to (x0 : Int × Int × Int) (x1 : Int × Int × Int) : Option (Int × Int × Int) :=
  some (IntKind.wrap IntKind.i64 (x1.fst - x0.fst), IntKind.wrap IntKind.i64 (x1.snd.fst - x0.snd.fst), IntKind.wrap IntKind.i64 (x1.snd.snd - x0.snd.snd))
noncomputable def c31 : Ctr := ⟨[T23, T23], [], [], .one T58, fun x _ _ => points_to x.1 x.2.1⟩
theorem l31 : (ctxOf prog shs inls [] [(23, r23)]).ok := q23
theorem ok31 : c31.ok prog 31 := Ctr.of_den l31 hmix (hl := hints) (d := 4) func31 rfl (by decide) fun x F y => by kernel_rfl

/-- loftblock points.Square -/
def points_Square (x0 : Int × Int × Int) (x1 : Int × Int × Int) : Option (Int × Int × Unit) :=
  obind (points_all [x0, x1]) fun (t : Bool) => bif !t then some ((0 : Int), (1 : Int), PUnit.unit) else obind (points_to x0 x1) fun (t : Int × Int × Int) => some (IntKind.wrap IntKind.i64
    (IntKind.wrap IntKind.i64 (IntKind.wrap IntKind.i64 (t.fst * t.fst) + IntKind.wrap IntKind.i64 (t.snd.fst * t.snd.fst)) + IntKind.wrap IntKind.i64 (t.snd.snd * t.snd.snd)), (0 : Int),
    PUnit.unit)
noncomputable def c11 : Ctr := ⟨[T23, T23], [], [], .tup [i64, i64], fun x _ _ => points_Square x.1 x.2.1⟩
theorem l11 : (ctxOf prog shs inls [(31, c31), (30, c30)] [(23, r23)]).ok := ctxOf_cons (ctxOf_cons (q23) (by kernel_rfl) ok30) (by kernel_rfl) ok31
theorem ok11 : c11.ok prog 11 := Ctr.of_den l11 hmix (hl := hints) (d := 4) func11 rfl (by decide) fun x F y => by kernel_rfl

/-- loftblock points.Root -/
def points_Root (x0 : Int) : Option ((Int × Int) × Int × Unit) :=
  
  let v1 : Bool := decide (x0 < (0 : Int));
  let v2 : Bool := !v1; bif !v2 || v2 then bif v1 || v2 then bif bif v1 then true else decide (x0 > (1152921504606846976 : Int)) then some (((0 : Int), (0 : Int)), (2 : Int), PUnit.unit)
    else loopF (fun (again : Int × Int × PUnit → Option ((Int × Int) × Int × PUnit)) (x : Int × Int × PUnit) =>
  let v5 : Int × PUnit := (IntKind.wrap IntKind.i64 (Int.tdiv x.snd.fst (2 : Int)), PUnit.unit); bif decide (x.snd.fst > (0 : Int)) then bif decide (IntKind.wrap IntKind.i64 (IntKind.wrap
    IntKind.i64 (x.fst + x.snd.fst) * IntKind.wrap IntKind.i64 (x.fst + x.snd.fst)) ≤ x0) then again (IntKind.wrap IntKind.i64 (x.fst + x.snd.fst), v5) else again (x.fst, v5) else bif
    decide (IntKind.wrap IntKind.i64 (x.fst * x.fst) < x0) then some ((x.fst, IntKind.wrap IntKind.i64 (x.fst + (1 : Int))), (0 : Int), PUnit.unit) else some ((x.fst, x.fst), (0 : Int),
    PUnit.unit)) K0 ((0 : Int), (1073741824 : Int), PUnit.unit) else none else none
noncomputable def c13 : Ctr := ⟨[i64], [], [], .tup [T29, i64], fun x _ _ => points_Root x.1⟩
theorem l13 : (ctxOf prog shs inls [] [(23, r23)]).ok := q23
theorem ok13 : c13.ok prog 13 := Ctr.of_den l13 hmix (hl := hints) (d := 4) func13 rfl (by decide) fun x F y => by kernel_rfl

/-- loftblock points.Length -/
def points_Length (x0 : Int × Int × Int) (x1 : Int × Int × Int) : Option ((Int × Int) × Int × Unit) :=
  obind (points_Square x0 x1) fun (t : Int × Int × PUnit) => bif !decide (t.snd.fst = (0 : Int)) then some (((0 : Int), (0 : Int)), t.snd.fst, PUnit.unit) else obind (points_Root t.fst) fun
    (t : (Int × Int) × Int × PUnit) => some (t.fst, t.snd.fst, PUnit.unit)
noncomputable def c12 : Ctr := ⟨[T23, T23], [], [], .tup [T29, i64], fun x _ _ => points_Length x.1 x.2.1⟩
theorem l12 : (ctxOf prog shs inls [(13, c13), (11, c11)] [(23, r23)]).ok := ctxOf_cons (ctxOf_cons (q23) (by kernel_rfl) ok11) (by kernel_rfl) ok13
theorem ok12 : c12.ok prog 12 := Ctr.of_den l12 hmix (hl := hints) (d := 4) func12 rfl (by decide) fun x F y => by kernel_rfl

/-- loftblock loftblocklaw09.awake -/
def law09_awake : Option Bool :=
  obind (points_Square ((0 : Int), (0 : Int), (0 : Int)) ((3 : Int), (4 : Int), (12 : Int))) fun (t : Int × Int × PUnit) =>
  let v2 : Bool := decide (t.snd.fst = (0 : Int));
  let v3 : Bool := bif v2 then decide (t.fst = (169 : Int)) else false;
  let v4 : Bool := !v2 || v2;
  let v5 : Bool := !v3 || v3; obind (points_Length ((0 : Int), (0 : Int), (0 : Int)) ((3 : Int), (4 : Int), (12 : Int))) fun (t : (Int × Int) × Int × PUnit) =>
  let v7 : Bool := bif v3 then decide (t.snd.fst = (0 : Int)) else false;
  let v8 : Bool := !v7 || v7;
  let v9 : Bool := bif v7 then decide (t.fst.fst = (13 : Int)) && (decide (t.fst.snd = (13 : Int)) && true) else false;
  let v10 : Bool := !v9 || v9; obind (points_Length ((0 : Int), (0 : Int), (0 : Int)) ((1 : Int), (1 : Int), (0 : Int))) fun (t : (Int × Int) × Int × PUnit) =>
  let v12 : Bool := bif v9 then decide (t.snd.fst = (0 : Int)) else false;
  let v13 : Bool := !v12 || v12; bif v4 then bif v4 then bif v5 then bif v5 then bif v8 && v8 then bif v8 then bif v10 then bif v10 then bif v13 && v13 then bif v13 then some (bif v12 then
    decide (t.fst.fst = (1 : Int)) && (decide (t.fst.snd = (2 : Int)) && true) else false) else none else none else none else none else none else none else none else none else none else none
noncomputable def c10 : Ctr := ⟨[], [], [], .one .bool, fun _ _ _ => law09_awake⟩
theorem l10 : (ctxOf prog shs inls [(12, c12), (11, c11)] [(23, r23)]).ok := ctxOf_cons (ctxOf_cons (q23) (by kernel_rfl) ok11) (by kernel_rfl) ok12
theorem ok10 : c10.ok prog 10 := Ctr.of_den l10 hmix (hl := hints) (d := 4) func10 rfl (by decide) fun x F y => by kernel_rfl

/-- loftblock points.given -/
def points_given (x0 : List (Int × Int × Int)) : Option Int :=
  obind (points_all x0) fun (t : Bool) => bif !t then some (1 : Int) else bif decide ((↑(List.length x0) : Int) > (20 : Int)) then some (4 : Int) else some (0 : Int)
noncomputable def c37 : Ctr := ⟨[(.sl T23)], [], [], .one i64, fun x _ _ => points_given x.1⟩
theorem l37 : (ctxOf prog shs inls [(30, c30)] [(23, r23)]).ok := ctxOf_cons (q23) (by kernel_rfl) ok30
theorem ok37 : c37.ok prog 37 := Ctr.of_den l37 hmix (hl := hints) (d := 4) func37 rfl (by decide) fun x F y => by kernel_rfl

/-- loftblock points.cross -/
def points_cross (x0 : Int × Int × Int) (x1 : Int × Int × Int) : Option (Int × Int × Int) :=
  some (IntKind.wrap IntKind.i64 (IntKind.wrap IntKind.i64 (x0.snd.fst * x1.snd.snd) - IntKind.wrap IntKind.i64 (x0.snd.snd * x1.snd.fst)), IntKind.wrap IntKind.i64 (IntKind.wrap IntKind.i64
    (x0.snd.snd * x1.fst) - IntKind.wrap IntKind.i64 (x0.fst * x1.snd.snd)), IntKind.wrap IntKind.i64 (IntKind.wrap IntKind.i64 (x0.fst * x1.snd.fst) - IntKind.wrap IntKind.i64 (x0.snd.fst
    * x1.fst)))
noncomputable def c38 : Ctr := ⟨[T58, T58], [], [], .one T58, fun x _ _ => points_cross x.1 x.2.1⟩
theorem l38 : (ctxOf prog shs inls [] [(23, r23)]).ok := q23
theorem ok38 : c38.ok prog 38 := Ctr.of_den l38 hmix (hl := hints) (d := 4) func38 rfl (by decide) fun x F y => by kernel_rfl

/-- loftblock points.upright -/
def points_upright (x0 : Int × Int × Int) (x1 : Int × Int × Int) : Option Bool :=
  loopF (fun (again : Int × Int × Int × PUnit → Option Bool) (x : Int × Int × Int × PUnit) =>
  let v4 : Bool := decide (Int.tmod x.snd.fst (4194304 : Int) = (0 : Int));
  let v5 : Bool := !v4;
  let v6 : Bool := v5 || v4;
  let v7 : Int × Int := List.getD [(x0.fst, x1.fst), (x0.snd.fst, x1.snd.fst), (x0.snd.snd, x1.snd.snd)] (Int.toNat x.snd.snd.fst) ((0 : Int), (0 : Int)); bif decide (x.snd.snd.fst < (↑(3 :
    Nat) : Int)) then bif inB x.snd.snd.fst (3 : Nat) then again (IntKind.wrap IntKind.i64 (x.fst + IntKind.wrap IntKind.i64 (v7.fst * IntKind.wrap IntKind.i64 (Int.tdiv v7.snd (4194304 :
    Int)))), IntKind.wrap IntKind.i64 (x.snd.fst + IntKind.wrap IntKind.i64 (v7.fst * Int.tmod v7.snd (4194304 : Int))), IntKind.wrap IntKind.i64 (x.snd.snd.fst + (1 : Int)), PUnit.unit)
    else none else bif v6 then bif v6 && (v5 || true) then bif v6 && v6 then bif v6 then some (bif v4 then decide (x.fst = IntKind.wrap IntKind.i64 (Int.tdiv (IntKind.wrap IntKind.i64 ((0 :
    Int) - x.snd.fst)) (4194304 : Int))) else false) else none else none else none else none) K0 ((0 : Int), (0 : Int), (0 : Int), PUnit.unit)
noncomputable def c41 : Ctr := ⟨[T58, T58], [], [], .one .bool, fun x _ _ => points_upright x.1 x.2.1⟩
theorem l41 : (ctxOf prog shs inls [] [(23, r23)]).ok := q23
theorem ok41 : c41.ok prog 41 := Ctr.of_den l41 hmix (hl := hints) (d := 4) func41 rfl (by decide) fun x F y => by kernel_rfl

/-- loftblock points.Flat$1 -/
def points_Flat_1 (x0 : Int × Int × Int) (y0 : List (Int × Int × Int)) (y1 : Int × Int × Int) : Option Bool :=
  bif inB (0 : Int) (List.length y0) then obind (points_to (List.getD y0 (0 : Nat) ((0 : Int), (0 : Int), (0 : Int))) x0) fun (t : Int × Int × Int) => obind (points_upright t y1) fun (t :
    Bool) => some !t else none
noncomputable def c40 : Ctr := ⟨[T23], [], [(.sl T23), T58], .one .bool, fun x _ y => points_Flat_1 x.1 y.1 y.2.1⟩
theorem l40 : (ctxOf prog shs inls [(41, c41), (31, c31)] [(23, r23)]).ok := ctxOf_cons (ctxOf_cons (q23) (by kernel_rfl) ok31) (by kernel_rfl) ok41
theorem ok40 : c40.ok prog 40 := Ctr.of_den l40 hmix (hl := hints) (d := 4) func40 rfl (by decide) fun x F y => by kernel_rfl

/-- loftblock points.Flat -/
def points_Flat (x0 : List (Int × Int × Int)) : Option (Bool × Int × Unit) :=
  
  let v1 : Bool := inB (0 : Int) (List.length x0);
  let v2 : Int × Int × Int := List.getD x0 (0 : Nat) ((0 : Int), (0 : Int), (0 : Int)); obind (points_given x0) fun (t : Int) => bif !decide (t = (0 : Int)) then some (false, t, PUnit.unit)
    else loopF (fun (again : Int × (Int × Int × Int) × PUnit → Option (Bool × Int × PUnit)) (x : Int × (Int × Int × Int) × PUnit) => bif decide (x.fst < (↑(List.length x0) : Int)) then
    loopF (fun (again_1 : Int × (Int × Int × Int) × PUnit → Option (Bool × Int × PUnit)) (x_1 : Int × (Int × Int × Int) × PUnit) =>
  let v8 : Int := IntKind.wrap IntKind.i64 (x_1.fst + (1 : Int));
  let v9 : (Int × Int × Int) × PUnit := (x_1.snd.fst, PUnit.unit); bif decide (x_1.fst < x.fst) then bif decide (x_1.snd.fst.fst = (0 : Int)) && (decide (x_1.snd.fst.snd.fst = (0 : Int)) &&
    (decide (x_1.snd.fst.snd.snd = (0 : Int)) && true)) then bif v1 then bif inB x.fst (List.length x0) then obind (points_to v2 (List.getD x0 (Int.toNat x.fst) ((0 : Int), (0 : Int), (0 :
    Int)))) fun (t : Int × Int × Int) => bif v1 then bif inB x_1.fst (List.length x0) then obind (points_to v2 (List.getD x0 (Int.toNat x_1.fst) ((0 : Int), (0 : Int), (0 : Int)))) fun (t_1
    : Int × Int × Int) => obind (points_cross t t_1) fun (t : Int × Int × Int) => again_1 (v8, t, PUnit.unit) else none else none else none else none else again_1 (v8, v9) else again
    (IntKind.wrap IntKind.i64 (x.fst + (1 : Int)), v9)) K0 ((0 : Int), x.snd.fst, PUnit.unit) else obind (slices_ContainsFunc_39 x0 fun (x_1 : (Int × Int × Int) × PUnit) => points_Flat_1
    x_1.fst x0 x.snd.fst) fun (t : Bool) => some (!t, (0 : Int), PUnit.unit)) K0 ((0 : Int), ((0 : Int), (0 : Int), (0 : Int)), PUnit.unit)
noncomputable def c22 : Ctr := ⟨[(.sl T23)], [], [], .tup [.bool, i64], fun x _ _ => points_Flat x.1⟩
theorem l22 : (ctxOf prog shs inls [(40, c40), (38, c38), (37, c37), (31, c31), (39, c39)] [(23, r23)]).ok := ctxOf_cons (ctxOf_cons (ctxOf_cons (ctxOf_cons (ctxOf_cons (q23) (by kernel_rfl) ok39) (by kernel_rfl) ok31) (by kernel_rfl) ok37) (by kernel_rfl) ok38) (by kernel_rfl) ok40
theorem ok22 : c22.ok prog 22 := Ctr.of_den l22 hmix (hl := hints) (d := 4) func22 rfl (by decide) fun x F y => by kernel_rfl

/-- loftblock loftblocklaw09.PointsFlat -/
def law09_PointsFlat (x0 : List (Int × Int × Int)) (x1 : Int) (x2 : Int) : Option Bool :=
  
  let v3 : Bool := decide (x1 < (-1048576 : Int));
  let v4 : Int := IntKind.wrap IntKind.i64 ((↑(List.length x0) : Int) + (1 : Int));
  let v5 : Int := Int.tmod (IntKind.wrap IntKind.i64 x2) v4;
  let v6 : Int := if (↑(List.length x0) : Int) < (3 : Int) then (↑(List.length x0) : Int) else (3 : Int); obind law09_awake fun (t : Bool) => bif !t then some false else bif decide
    ((↑(List.length x0) : Int) > (12 : Int)) then some true else obind (points_Flat x0) fun (t : Bool × Int × PUnit) =>
  let v9 : Bool := !t.fst; bif !decide (t.snd.fst = (0 : Int)) then some v9 else obind (slices_Clone_23 x0) fun (t_1 : List (Int × Int × Int)) => loopF (fun (again : Int × Int × List (Int ×
    Int × Int) × PUnit → Option Bool) (x : Int × Int × List (Int × Int × Int) × PUnit) =>
  let v13 : Bool := inB x.fst (List.length x.snd.snd.fst);
  let v14 : Bool := Nat.ble (Nat.succ (Int.toNat x.fst)) (List.length x.snd.snd.fst);
  let v15 : Bool := inB x.snd.fst (List.length x.snd.snd.fst);
  let v16 : Bool := Nat.ble (Nat.succ (Int.toNat x.snd.fst)) (List.length x.snd.snd.fst); bif decide (x.fst < x.snd.fst) then bif v15 then bif v16 then bif v13 then bif v14 then bif v13
    then bif v14 then bif v15 then bif v16 then again (IntKind.wrap IntKind.i64 (x.fst + (1 : Int)), IntKind.wrap IntKind.i64 (x.snd.fst - (1 : Int)), List.set (List.set x.snd.snd.fst
    (Int.toNat x.fst) (List.getD x.snd.snd.fst (Int.toNat x.snd.fst) ((0 : Int), (0 : Int), (0 : Int)))) (Int.toNat x.snd.fst) (List.getD x.snd.snd.fst (Int.toNat x.fst) ((0 : Int), (0 :
    Int), (0 : Int))), PUnit.unit) else none else none else none else none else none else none else none else none else obind (points_Flat x.snd.snd.fst) fun (t_2 : Bool × Int × PUnit) =>
  let v18 : Bool := !decide (t_2.snd.fst = (0 : Int));
  let v19 : Bool := !v18;
  let v20 : Bool := bif v18 then true else !decide (t_2.fst = t.fst);
  let v21 : Bool := !v20;
  let v22 : Bool := !v19 || v19; bif nzB v4 then bif slB (0 : Int) v5 (List.length x0) then obind (points_Flat (List.drop (0 : Nat) (List.take (Int.toNat v5) x0))) fun (t_3 : Bool × Int ×
    PUnit) =>
  let v24 : Bool := bif v20 then true else !decide (t_3.snd.fst = (0 : Int));
  let v25 : Bool := !v24;
  let v26 : Bool := !v25;
  let v27 : Bool := v25 && t.fst;
  let v28 : Bool := bif v24 then true else bif t.fst then !t_3.fst else false;
  let v29 : Bool := !v28;
  let v30 : Bool := v26 || v25; bif slB (0 : Int) v6 (List.length x0) then obind (points_Flat (List.drop (0 : Nat) (List.take (Int.toNat v6) x0))) fun (t : Bool × Int × PUnit) =>
  let v32 : Bool := bif v28 then true else !decide (t.snd.fst = (0 : Int));
  let v33 : Bool := !v32; bif v22 && v22 then bif v18 || v19 then bif !v21 || v21 then bif v20 || v21 then bif v30 then bif !v27 || v27 then bif (v26 || v30) && (v26 || (v9 || (v26 ||
    v27))) then bif v24 || v25 then bif !v29 || v29 then bif v28 || v29 then bif !v33 || v33 then bif v32 || v33 then bif bif v32 then true else !t.fst then some false else loopF (fun
    (again : Int × List (Int × Int × Int) × PUnit → Option Bool) (x_1 : Int × List (Int × Int × Int) × PUnit) =>
  let v36 : Int × Int × Int := List.getD x_1.snd.fst (Int.toNat x_1.fst) ((0 : Int), (0 : Int), (0 : Int)); bif decide (x_1.fst < (↑(List.length x.snd.snd.fst) : Int)) then bif inB x_1.fst
    (List.length x_1.snd.fst) then bif Nat.ble (Nat.succ (Int.toNat x_1.fst)) (List.length x_1.snd.fst) then again (IntKind.wrap IntKind.i64 (x_1.fst + (1 : Int)), List.set x_1.snd.fst
    (Int.toNat x_1.fst) (v36.fst, v36.snd.fst, x1), PUnit.unit) else none else none else obind (points_Flat x_1.snd.fst) fun (t : Bool × Int × PUnit) =>
  let v38 : Bool := decide (t.snd.fst = (1 : Int));
  let v39 : Bool := decide (t.snd.fst = (0 : Int));
  let v40 : Bool := !v38 || v38;
  let v41 : Bool := bif v38 then decide ((↑(List.length x0) : Int) > (0 : Int)) else false;
  let v42 : Bool := !v41;
  let v43 : Bool := v41 && !v3;
  let v44 : Bool := bif v41 then bif v3 then true else decide (x1 > (1048576 : Int)) else false;
  let v45 : Bool := !v44;
  let v46 : Bool := !v45;
  let v47 : Bool := v42 || v41;
  let v48 : Bool := v46 || v45; bif v40 then bif v40 then bif v40 then bif v47 then bif v47 then bif !v43 || v43 then bif (v42 || v47) && (v42 || (v3 || (v42 || v43))) then bif v47 then bif
    v48 then bif v48 then bif (v46 || v48) && (v46 || (!v39 || (v46 || v45 && v39))) then bif v44 || v45 then some (bif v44 then true else bif v39 then t.fst else false) else none else none
    else none else none else none else none else none else none else none else none else none else none) K0 ((0 : Int), x.snd.snd.fst, PUnit.unit) else none else none else none else none
    else none else none else none else none else none else none else none else none else none else none else none) K0 ((0 : Int), IntKind.wrap IntKind.i64 ((↑(List.length t_1) : Int) - (1 :
    Int)), t_1, PUnit.unit)
noncomputable def c6 : Ctr := ⟨[(.sl T23), i64, (.int .u8)], [], [], .one .bool, fun x _ _ => law09_PointsFlat x.1 x.2.1 x.2.2.1⟩
theorem l6 : (ctxOf prog shs inls [(22, c22), (10, c10)] [(23, r23)]).ok := ctxOf_cons (ctxOf_cons (q23) (by kernel_rfl) ok10) (by kernel_rfl) ok22
theorem ok6 : c6.ok prog 6 := Ctr.of_den l6 hmix (hl := hints) (d := 4) func6 rfl (by decide) fun x F y => by kernel_rfl

/-- loftblock points.Between$1 -/
def points_Between_1 (x0 : Int) (x1 : Int) (y0 : Int) (y1 : Int) : Option Int :=
  
  let v4 : Bool := nzB y1;
  let v5 : Int := IntKind.wrap IntKind.i64 (Int.tdiv (IntKind.wrap IntKind.i64 (y0 * IntKind.wrap IntKind.i64 (x1 - x0))) y1); bif v4 then bif v4 then bif decide (Int.tmod (IntKind.wrap
    IntKind.i64 (y0 * IntKind.wrap IntKind.i64 (x1 - x0))) y1 < (0 : Int)) then some (IntKind.wrap IntKind.i64 (x0 + IntKind.wrap IntKind.i64 (v5 - (1 : Int)))) else some (IntKind.wrap
    IntKind.i64 (x0 + v5)) else none else none
noncomputable def c34 : Ctr := ⟨[i64, i64], [], [i64, i64], .one i64, fun x _ y => points_Between_1 x.1 x.2.1 y.1 y.2.1⟩
theorem l34 : (ctxOf prog shs inls [] [(23, r23)]).ok := q23
theorem ok34 : c34.ok prog 34 := Ctr.of_den l34 hmix (hl := hints) (d := 4) func34 rfl (by decide) fun x F y => by kernel_rfl

/-- loftblock points.Between -/
def points_Between (x0 : Int × Int × Int) (x1 : Int × Int × Int) (x2 : Int) (x3 : Int) : Option ((Int × Int × Int) × Int × Unit) :=
  
  let v4 : Bool := decide (x3 < (1 : Int));
  let v5 : Bool := !v4;
  let v6 : Bool := bif v4 then true else decide (x3 > (1000 : Int));
  let v7 : Bool := !v6;
  let v8 : Bool := bif v6 then true else decide (x2 < (0 : Int));
  let v9 : Bool := !v8;
  let v10 : Bool := !v9 || v9; obind (points_all [x0, x1]) fun (t : Bool) => bif !t then some (((0 : Int), (0 : Int), (0 : Int)), (1 : Int), PUnit.unit) else bif !v5 || v5 then bif v4 || v5
    then bif !v7 || v7 then bif v6 || v7 then bif v10 && v10 then bif v8 || v9 then bif bif v8 then true else decide (x2 > x3) then some (((0 : Int), (0 : Int), (0 : Int)), (2 : Int),
    PUnit.unit) else obind (points_Between_1 x0.fst x1.fst x2 x3) fun (t : Int) => obind (points_Between_1 x0.snd.fst x1.snd.fst x2 x3) fun (t_1 : Int) => obind (points_Between_1 x0.snd.snd
    x1.snd.snd x2 x3) fun (t_2 : Int) => some ((t, t_1, t_2), (0 : Int), PUnit.unit) else none else none else none else none else none else none
noncomputable def c18 : Ctr := ⟨[T23, T23, i64, i64], [], [], .tup [T23, i64], fun x _ _ => points_Between x.1 x.2.1 x.2.2.1 x.2.2.2.1⟩
theorem l18 : (ctxOf prog shs inls [(34, c34), (30, c30)] [(23, r23)]).ok := ctxOf_cons (ctxOf_cons (q23) (by kernel_rfl) ok30) (by kernel_rfl) ok34
theorem ok18 : c18.ok prog 18 := Ctr.of_den l18 hmix (hl := hints) (d := 4) func18 rfl (by decide) fun x F y => by kernel_rfl

/-- cmp.isNaN[int] -/
def cmp_isNaN_52 (x0 : Int) : Option Bool :=
  some !decide (x0 = x0)
noncomputable def c52 : Ctr := ⟨[i64], [], [], .one .bool, fun x _ _ => cmp_isNaN_52 x.1⟩
theorem l52 : (ctxOf prog shs inls [] [(23, r23)]).ok := q23
theorem ok52 : c52.ok prog 52 := Ctr.of_den l52 hmix (hl := hints) (d := 4) func52 rfl (by decide) fun x F y => by kernel_rfl

/-- cmp.Compare[int] -/
def cmp_Compare_47 (x0 : Int) (x1 : Int) : Option Int :=
  obind (cmp_isNaN_52 x0) fun (t : Bool) => obind (cmp_isNaN_52 x1) fun (t_1 : Bool) => bif t then bif t_1 then some (0 : Int) else some (-1 : Int) else bif t_1 then some (1 : Int) else bif
    decide (x0 < x1) then some (-1 : Int) else bif decide (x0 > x1) then some (1 : Int) else some (0 : Int)
noncomputable def c47 : Ctr := ⟨[i64, i64], [], [], .one i64, fun x _ _ => cmp_Compare_47 x.1 x.2.1⟩
theorem l47 : (ctxOf prog shs inls [(52, c52)] [(23, r23)]).ok := ctxOf_cons (q23) (by kernel_rfl) ok52
theorem ok47 : c47.ok prog 47 := Ctr.of_den l47 hmix (hl := hints) (d := 4) func47 rfl (by decide) fun x F y => by kernel_rfl

/-- loftblock points.turn -/
def points_turn (x0 : Int × Int × Int) (x1 : Int × Int × Int) (x2 : Int × Int × Int) : Option Int :=
  obind (cmp_Compare_47 (IntKind.wrap IntKind.i64 (IntKind.wrap IntKind.i64 (x1.fst - x0.fst) * IntKind.wrap IntKind.i64 (x2.snd.fst - x0.snd.fst))) (IntKind.wrap IntKind.i64 (IntKind.wrap
    IntKind.i64 (x1.snd.fst - x0.snd.fst) * IntKind.wrap IntKind.i64 (x2.fst - x0.fst)))) fun (t : Int) => some t
noncomputable def c35 : Ctr := ⟨[T23, T23, T23], [], [], .one i64, fun x _ _ => points_turn x.1 x.2.1 x.2.2.1⟩
theorem l35 : (ctxOf prog shs inls [(47, c47)] [(23, r23)]).ok := ctxOf_cons (q23) (by kernel_rfl) ok47
theorem ok35 : c35.ok prog 35 := Ctr.of_den l35 hmix (hl := hints) (d := 4) func35 rfl (by decide) fun x F y => by kernel_rfl

/-- loftblock points.within -/
def points_within (x0 : Int × Int × Int) (x1 : Int × Int × Int) (x2 : Int × Int × Int) : Option Bool :=
  obind (points_turn x1 x2 x0) fun (t : Int) =>
  let v4 : Bool := decide (t = (0 : Int));
  let v5 : Bool := !v4 || v4;
  let v6 : Bool := v5 && v5;
  let v7 : Bool := bif v4 then decide (x0.fst ≥ if x2.fst < x1.fst then x2.fst else x1.fst) else false;
  let v8 : Bool := bif v7 then decide (x0.fst ≤ if x2.fst > x1.fst then x2.fst else x1.fst) else false;
  let v9 : Bool := !v7 || v7;
  let v10 : Bool := bif v8 then decide (x0.snd.fst ≥ if x2.snd.fst < x1.snd.fst then x2.snd.fst else x1.snd.fst) else false;
  let v11 : Bool := !v8 || v8;
  let v12 : Bool := v9 && v9;
  let v13 : Bool := !v10 || v10;
  let v14 : Bool := v11 && v11;
  let v15 : Bool := v13 && v13; bif v5 then bif v5 then bif v5 then bif v6 then bif v6 then bif v5 then bif v9 then bif v9 then bif v9 then bif v12 then bif v12 then bif v9 then bif v11
    then bif v11 then bif v11 then bif v14 then bif v14 then bif v11 then bif v13 then bif v13 then bif v13 then bif v15 then bif v15 then bif v13 then some (bif v10 then decide (x0.snd.fst
    ≤ if x2.snd.fst > x1.snd.fst then x2.snd.fst else x1.snd.fst) else false) else none else none else none else none else none else none else none else none else none else none else none
    else none else none else none else none else none else none else none else none else none else none else none else none else none
noncomputable def c42 : Ctr := ⟨[T23, T23, T23], [], [], .one .bool, fun x _ _ => points_within x.1 x.2.1 x.2.2.1⟩
theorem l42 : (ctxOf prog shs inls [(35, c35)] [(23, r23)]).ok := ctxOf_cons (q23) (by kernel_rfl) ok35
theorem ok42 : c42.ok prog 42 := Ctr.of_den l42 hmix (hl := hints) (d := 4) func42 rfl (by decide) fun x F y => by kernel_rfl

/-- loftblock points.Inside -/
def points_Inside (x0 : Int × Int × Int) (x1 : List (Int × Int × Int)) : Option (Bool × Int × Unit) :=
  obind (slices_Clone_23 x1) fun (t : List (Int × Int × Int)) => bif fitB (List.length t + (1 : Nat)) (24 : Nat) then obind (points_given (t ++ [x0])) fun (t : Int) => bif decide (t = (1 :
    Int)) then some (false, t, PUnit.unit) else obind (points_given x1) fun (t : Int) => bif !decide (t = (0 : Int)) then some (false, t, PUnit.unit) else loopF (fun (again : Int × PUnit →
    Option (Bool × Int × PUnit)) (x : Int × PUnit) =>
  let v7 : Int := IntKind.wrap IntKind.i64 (x.fst + (1 : Int));
  let v8 : Int × Int × Int := List.getD x1 (Int.toNat x.fst) ((0 : Int), (0 : Int), (0 : Int));
  let v9 : List (Int × Int × Int) := List.drop (0 : Nat) (List.take (Int.toNat v7) x1); bif decide (x.fst < (↑(List.length x1) : Int)) then bif inB x.fst (List.length x1) then bif slB (0 :
    Int) v7 (List.length x1) then loopF (fun (again_1 : Int × PUnit → Option (Bool × Int × PUnit)) (x : Int × PUnit) =>
  let v12 : List (Int × Int × Int) := List.drop (0 : Nat) (List.take (Int.toNat x.fst) x1);
  let v13 : Int × Int × Int := List.getD v9 (Int.toNat x.fst) ((0 : Int), (0 : Int), (0 : Int)); bif decide (x.fst < (↑(List.length v9) : Int)) then bif inB x.fst (List.length v9) then
    obind (points_within x0 v8 v13) fun (t : Bool) => bif t then some (true, (0 : Int), PUnit.unit) else bif slB (0 : Int) x.fst (List.length x1) then loopF (fun (again : Int × PUnit →
    Option (Bool × Int × PUnit)) (x_1 : Int × PUnit) =>
  let v17 : Int × Int × Int := List.getD v12 (Int.toNat x_1.fst) ((0 : Int), (0 : Int), (0 : Int)); bif decide (x_1.fst < (↑(List.length v12) : Int)) then bif inB x_1.fst (List.length v12)
    then obind (points_turn v8 v13 x0) fun (t : Int) =>
  let v19 : Bool := !decide (t = (0 : Int));
  let v20 : Bool := !v19 || v19; obind (points_turn v13 v17 x0) fun (t_1 : Int) =>
  let v22 : Bool := bif v19 then decide (t = t_1) else false;
  let v23 : Bool := !v22 || v22; obind (points_turn v17 v8 x0) fun (t : Int) => bif v20 && v20 then bif v20 then bif v23 && v23 then bif v23 then bif bif v22 then decide (t_1 = t) else
    false then some (true, (0 : Int), PUnit.unit) else again (IntKind.wrap IntKind.i64 (x_1.fst + (1 : Int)), PUnit.unit) else none else none else none else none else none else again_1
    (IntKind.wrap IntKind.i64 (x.fst + (1 : Int)), PUnit.unit)) K0 ((0 : Int), PUnit.unit) else none else none else again (v7, PUnit.unit)) K0 ((0 : Int), PUnit.unit) else none else none
    else some (false, (0 : Int), PUnit.unit)) K0 ((0 : Int), PUnit.unit) else none
noncomputable def c25 : Ctr := ⟨[T23, (.sl T23)], [], [], .tup [.bool, i64], fun x _ _ => points_Inside x.1 x.2.1⟩
theorem l25 : (ctxOf prog shs inls [(42, c42), (35, c35), (37, c37)] [(23, r23)]).ok := ctxOf_cons (ctxOf_cons (ctxOf_cons (q23) (by kernel_rfl) ok37) (by kernel_rfl) ok35) (by kernel_rfl) ok42
theorem ok25 : c25.ok prog 25 := Ctr.of_den l25 hmix (hl := hints) (d := 4) func25 rfl (by decide) fun x F y => by kernel_rfl

/-- loftblock loftblocklaw09.PointsCovered -/
def law09_PointsCovered (x0 : Int × Int × Int) (x1 : List (Int × Int × Int)) (x2 : Int × Int × Int) (x3 : Int) (x4 : Int) : Option Bool :=
  
  let v5 : Bool := nzB (↑(List.length x1) : Int);
  let v6 : Int := Int.tmod (IntKind.wrap IntKind.i64 x3) (↑(List.length x1) : Int);
  let v7 : Int := Int.tmod (IntKind.wrap IntKind.i64 x4) (↑(List.length x1) : Int);
  let v8 : Bool := decide ((↑(List.length x1) : Int) > (11 : Int));
  let v9 : Bool := !v8;
  let v10 : Int × Int × Int := List.getD x1 (Int.toNat v6) ((0 : Int), (0 : Int), (0 : Int));
  let v11 : Bool := !v9 || v9;
  let v12 : Bool := decide (Int.tmod (IntKind.wrap IntKind.i64 (v10.fst + (List.getD x1 (Int.toNat v7) ((0 : Int), (0 : Int), (0 : Int))).fst)) (2 : Int) = (0 : Int));
  let v13 : Bool := !v12;
  let v14 : Bool := v13 || v12; obind law09_awake fun (t : Bool) => bif !t then some false else bif v11 then bif v11 then bif v8 || v9 then bif bif v8 then true else decide ((↑(List.length
    x1) : Int) = (0 : Int)) then some true else obind (points_Inside x0 x1) fun (t : Bool × Int × PUnit) => bif !decide (t.snd.fst = (0 : Int)) then some !t.fst else bif v5 then bif inB v6
    (List.length x1) then bif v5 then bif inB v7 (List.length x1) then obind (points_Inside v10 x1) fun (t_1 : Bool × Int × PUnit) =>
  let v18 : Bool := !decide (t_1.snd.fst = (0 : Int));
  let v19 : Bool := !v18; bif !v19 || v19 then bif v18 || v19 then bif bif v18 then true else !t_1.fst then some false else bif v14 then bif v14 then bif v14 && v14 then bif v14 && (v13 ||
    true) then bif v14 then bif v14 then joinF (fun (x : PUnit) => obind (slices_Clone_23 x1) fun (t_2 : List (Int × Int × Int)) => bif fitB (List.length t_2 + (1 : Nat)) (24 : Nat) then
    obind (points_Inside x0 (t_2 ++ [x2])) fun (t_3 : Bool × Int × PUnit) =>
  let v23 : Bool := decide (t_3.snd.fst = (0 : Int));
  let v24 : Bool := bif v23 then t.fst else false;
  let v25 : Bool := !v24 || v24; bif !v23 || v23 then bif v25 then bif v25 then bif bif v24 then !t_3.fst else false then some false else bif inB (0 : Int) (List.length x1) then loopF (fun
    (again : Int × Int × PUnit → Option Bool) (x : Int × Int × PUnit) => bif decide (x.snd.fst < (↑(List.length x1) : Int)) then bif inB x.snd.fst (List.length x1) then again (if (List.getD
    x1 (Int.toNat x.snd.fst) ((0 : Int), (0 : Int), (0 : Int))).fst > x.fst then (List.getD x1 (Int.toNat x.snd.fst) ((0 : Int), (0 : Int), (0 : Int))).fst else x.fst, IntKind.wrap
    IntKind.i64 (x.snd.fst + (1 : Int)), PUnit.unit) else none else obind (points_Inside (IntKind.wrap IntKind.i64 (x.fst + (1 : Int)), x0.snd.fst, (0 : Int)) x1) fun (t : Bool × Int ×
    PUnit) =>
  let v29 : Bool := decide (t.snd.fst = (1 : Int));
  let v30 : Bool := decide (t.snd.fst = (0 : Int));
  let v31 : Bool := bif v29 then decide (x.fst = (1048576 : Int)) else false;
  let v32 : Bool := !v31;
  let v33 : Bool := !v32;
  let v34 : Bool := !v29 || v29;
  let v35 : Bool := v32 && v30;
  let v36 : Bool := v33 || v32; bif v34 then bif v34 then bif v36 then bif v36 then bif !v35 || v35 then bif (v33 || v36) && (v33 || (!v30 || (v33 || v35))) then bif v31 || v32 then some
    (bif v31 then true else bif v30 then !t.fst else false) else none else none else none else none else none else none else none) K0 ((List.getD x1 (0 : Nat) ((0 : Int), (0 : Int), (0 :
    Int))).fst, (0 : Int), PUnit.unit) else none else none else none else none else none) fun (j : PUnit → Option Bool) => bif bif v12 then decide (Int.tmod (IntKind.wrap IntKind.i64
    (v10.snd.fst + (List.getD x1 (Int.toNat v7) ((0 : Int), (0 : Int), (0 : Int))).snd.fst)) (2 : Int) = (0 : Int)) else false then obind (points_Between v10 (List.getD x1 (Int.toNat v7)
    ((0 : Int), (0 : Int), (0 : Int))) (1 : Int) (2 : Int)) fun (t : (Int × Int × Int) × Int × PUnit) =>
  let v22 : Bool := !decide (t.snd.fst = (0 : Int));
  let v23 : Bool := !v22; obind (points_Inside t.fst x1) fun (t : Bool × Int × PUnit) =>
  let v25 : Bool := bif v22 then true else !decide (t.snd.fst = (0 : Int));
  let v26 : Bool := !v25; bif !v23 || v23 then bif v22 || v23 then bif !v26 || v26 then bif v25 || v26 then bif bif v25 then true else !t.fst then some false else j PUnit.unit else none
    else none else none else none else j PUnit.unit else none else none else none else none else none else none else none else none else none else none else none else none else none else
    none else none
noncomputable def c7 : Ctr := ⟨[T23, (.sl T23), T23, (.int .u8), (.int .u8)], [], [], .one .bool, fun x _ _ => law09_PointsCovered x.1 x.2.1 x.2.2.1 x.2.2.2.1 x.2.2.2.2.1⟩
theorem l7 : (ctxOf prog shs inls [(25, c25), (18, c18), (10, c10)] [(23, r23)]).ok := ctxOf_cons (ctxOf_cons (ctxOf_cons (q23) (by kernel_rfl) ok10) (by kernel_rfl) ok18) (by kernel_rfl) ok25
theorem ok7 : c7.ok prog 7 := Ctr.of_den l7 hmix (hl := hints) (d := 4) func7 rfl (by decide) fun x F y => by kernel_rfl

/-- loftblock loftblockref09.within -/
def ref09_within (x0 : Int) : Option Bool :=
  
  let v1 : Bool := decide (x0 ≥ (-1048576 : Int));
  let v2 : Bool := !v1 || v1; bif v2 then bif v2 then some (bif v1 then decide (x0 ≤ (1048576 : Int)) else false) else none else none
noncomputable def c32 : Ctr := ⟨[i64], [], [], .one .bool, fun x _ _ => ref09_within x.1⟩
theorem l32 : (ctxOf prog shs inls [] [(23, r23)]).ok := q23
theorem ok32 : c32.ok prog 32 := Ctr.of_den l32 hmix (hl := hints) (d := 4) func32 rfl (by decide) fun x F y => by kernel_rfl

/-- loftblock loftblockref09.Valid -/
def ref09_Valid (x0 : Int × Int × Int) : Option Bool :=
  obind (ref09_within x0.fst) fun (t : Bool) =>
  let v2 : Bool := !t || t; bif v2 then bif v2 then obind (bif t then ref09_within x0.snd.fst else some false) fun (t_1 : Bool) =>
  let v4 : Bool := bif t then t_1 else false;
  let v5 : Bool := !v4 || v4; bif v2 then bif v5 then bif v5 then obind (bif v4 then ref09_within x0.snd.snd else some false) fun (t : Bool) => bif v5 then some (bif v4 then t else false)
    else none else none else none else none else none else none
noncomputable def c16 : Ctr := ⟨[T23], [], [], .one .bool, fun x _ _ => ref09_Valid x.1⟩
theorem l16 : (ctxOf prog shs inls [(32, c32)] [(23, r23)]).ok := ctxOf_cons (q23) (by kernel_rfl) ok32
theorem ok16 : c16.ok prog 16 := Ctr.of_den l16 hmix (hl := hints) (d := 4) func16 rfl (by decide) fun x F y => by kernel_rfl

/-- loftblock loftblockref09.All -/
def ref09_All (x0 : List (Int × Int × Int)) : Option Bool :=
  loopF (fun (again : Int × PUnit → Option Bool) (x : Int × PUnit) => bif decide (x.fst < (↑(List.length x0) : Int)) then bif inB x.fst (List.length x0) then obind (ref09_Valid (List.getD x0
    (Int.toNat x.fst) ((0 : Int), (0 : Int), (0 : Int)))) fun (t : Bool) => bif !t then some false else again (IntKind.wrap IntKind.i64 (x.fst + (1 : Int)), PUnit.unit) else none else some
    true) K0 ((0 : Int), PUnit.unit)
noncomputable def c26 : Ctr := ⟨[(.sl T23)], [], [], .one .bool, fun x _ _ => ref09_All x.1⟩
theorem l26 : (ctxOf prog shs inls [(16, c16)] [(23, r23)]).ok := ctxOf_cons (q23) (by kernel_rfl) ok16
theorem ok26 : c26.ok prog 26 := Ctr.of_den l26 hmix (hl := hints) (d := 4) func26 rfl (by decide) fun x F y => by kernel_rfl

/-- loftblock loftblockref09.Minus -/
def ref09_Minus (x0 : Int × Int × Int) (x1 : Int × Int × Int) : Option (Int × Int × Int) :=
  some (IntKind.wrap IntKind.i64 (x0.fst - x1.fst), IntKind.wrap IntKind.i64 (x0.snd.fst - x1.snd.fst), IntKind.wrap IntKind.i64 (x0.snd.snd - x1.snd.snd))
noncomputable def c33 : Ctr := ⟨[T23, T23], [], [], .one T23, fun x _ _ => ref09_Minus x.1 x.2.1⟩
theorem l33 : (ctxOf prog shs inls [] [(23, r23)]).ok := q23
theorem ok33 : c33.ok prog 33 := Ctr.of_den l33 hmix (hl := hints) (d := 4) func33 rfl (by decide) fun x F y => by kernel_rfl

/-- loftblock loftblockref09.Cross -/
def ref09_Cross (x0 : Int × Int × Int) (x1 : Int × Int × Int) : Option (Int × Int × Int) :=
  some (IntKind.wrap IntKind.i64 (IntKind.wrap IntKind.i64 (x0.snd.fst * x1.snd.snd) - IntKind.wrap IntKind.i64 (x0.snd.snd * x1.snd.fst)), IntKind.wrap IntKind.i64 (IntKind.wrap IntKind.i64
    (x0.snd.snd * x1.fst) - IntKind.wrap IntKind.i64 (x0.fst * x1.snd.snd)), IntKind.wrap IntKind.i64 (IntKind.wrap IntKind.i64 (x0.fst * x1.snd.fst) - IntKind.wrap IntKind.i64 (x0.snd.fst
    * x1.fst)))
noncomputable def c43 : Ctr := ⟨[T23, T23], [], [], .one T23, fun x _ _ => ref09_Cross x.1 x.2.1⟩
theorem l43 : (ctxOf prog shs inls [] [(23, r23)]).ok := q23
theorem ok43 : c43.ok prog 43 := Ctr.of_den l43 hmix (hl := hints) (d := 4) func43 rfl (by decide) fun x F y => by kernel_rfl

/-- loftblock loftblockref02.Mul -/
def ref02_Mul (x0 : Int) (x1 : Int) : Option (Int × Int) :=
  
  let v2 : Int := (2 : Int) ^ (32 : Nat);
  let v3 : Int := Int.fdiv x0 v2;
  let v4 : Int := Int.fdiv x1 v2;
  let v5 : Bool := decide ((0 : Int) ≤ (32 : Int));
  let v6 : Int := IntKind.wrap IntKind.u64 (↑(Nat.land (Int.toNat (x1 % Int.ofNat (18446744073709551616 : Nat))) (Int.toNat ((4294967295 : Int) % Int.ofNat (18446744073709551616 : Nat)))) :
    Int);
  let v7 : Int := IntKind.wrap IntKind.u64 (↑(Nat.land (Int.toNat (x0 % Int.ofNat (18446744073709551616 : Nat))) (Int.toNat ((4294967295 : Int) % Int.ofNat (18446744073709551616 : Nat)))) :
    Int);
  let v8 : Int := IntKind.wrap IntKind.u64 (v7 * v6);
  let v9 : Int := IntKind.wrap IntKind.u64 (IntKind.wrap IntKind.u64 (v3 * v6) + Int.fdiv v8 v2);
  let v10 : Int := IntKind.wrap IntKind.u64 (IntKind.wrap IntKind.u64 (v7 * v4) + IntKind.wrap IntKind.u64 (↑(Nat.land (Int.toNat (v9 % Int.ofNat (18446744073709551616 : Nat))) (Int.toNat
    ((4294967295 : Int) % Int.ofNat (18446744073709551616 : Nat)))) : Int)); bif v5 then bif v5 then bif v5 then bif v5 then bif v5 then bif v5 then some (IntKind.wrap IntKind.u64
    (IntKind.wrap IntKind.u64 (IntKind.wrap IntKind.u64 (v3 * v4) + Int.fdiv v9 v2) + Int.fdiv v10 v2), IntKind.wrap IntKind.u64 (IntKind.wrap IntKind.u64 (v10 * v2) + IntKind.wrap
    IntKind.u64 (↑(Nat.land (Int.toNat (v8 % Int.ofNat (18446744073709551616 : Nat))) (Int.toNat ((4294967295 : Int) % Int.ofNat (18446744073709551616 : Nat)))) : Int))) else none else none
    else none else none else none else none
noncomputable def c49 : Ctr := ⟨[(.int .u64), (.int .u64)], [], [], .one T74, fun x _ _ => ref02_Mul x.1 x.2.1⟩
theorem l49 : (ctxOf prog shs inls [] [(23, r23)]).ok := q23
theorem ok49 : c49.ok prog 49 := Ctr.of_den l49 hmix (hl := hints) (d := 4) func49 rfl (by decide) fun x F y => by kernel_rfl

/-- loftblock loftblockref02.Size -/
def ref02_Size (x0 : Int) : Option Int :=
  
  let v1 : Int := IntKind.wrap IntKind.u64 x0; bif decide (x0 < (0 : Int)) then some (IntKind.wrap IntKind.u64 ((0 : Int) - v1)) else some v1
noncomputable def c50 : Ctr := ⟨[i64], [], [], .one (.int .u64), fun x _ _ => ref02_Size x.1⟩
theorem l50 : (ctxOf prog shs inls [] [(23, r23)]).ok := q23
theorem ok50 : c50.ok prog 50 := Ctr.of_den l50 hmix (hl := hints) (d := 4) func50 rfl (by decide) fun x F y => by kernel_rfl

/-- loftblock loftblockref02.Plus -/
def ref02_Plus (x0 : Int × Int) (x1 : Int × Int) : Option (Int × Int) :=
  
  let v2 : Int := IntKind.wrap IntKind.u64 (x0.fst + x1.fst);
  let v3 : Int := IntKind.wrap IntKind.u64 (x0.snd + x1.snd); bif decide (v3 < x0.snd) then some (IntKind.wrap IntKind.u64 (v2 + (1 : Int)), v3) else some (v2, v3)
noncomputable def c51 : Ctr := ⟨[T74, T74], [], [], .one T74, fun x _ _ => ref02_Plus x.1 x.2.1⟩
theorem l51 : (ctxOf prog shs inls [] [(23, r23)]).ok := q23
theorem ok51 : c51.ok prog 51 := Ctr.of_den l51 hmix (hl := hints) (d := 4) func51 rfl (by decide) fun x F y => by kernel_rfl

/-- loftblock loftblockref09.Zero -/
def ref09_Zero (x0 : Int × Int × Int) (x1 : Int × Int × Int) : Option Bool :=
  
  let v2 : List Int := [x0.fst, x0.snd.fst, x0.snd.snd];
  let v3 : List Int := [x1.fst, x1.snd.fst, x1.snd.snd]; loopF (fun (again : Int × ((Int × Int) × Int × Int) × PUnit → Option Bool) (x : Int × ((Int × Int) × Int × Int) × PUnit) =>
  let v6 : Bool := inB x.fst (3 : Nat);
  let v7 : Int := IntKind.wrap IntKind.i64 (x.fst + (1 : Int)); bif decide (x.fst < (3 : Int)) then bif v6 then obind (ref02_Size (List.getD v2 (Int.toNat x.fst) (0 : Int))) fun (t : Int)
    => bif v6 then obind (ref02_Size (List.getD v3 (Int.toNat x.fst) (0 : Int))) fun (t_1 : Int) => obind (ref02_Mul t t_1) fun (t : Int × Int) => bif v6 then bif v6 then bif decide (decide
    (List.getD v2 (Int.toNat x.fst) (0 : Int) < (0 : Int)) = decide (List.getD v3 (Int.toNat x.fst) (0 : Int) < (0 : Int))) then obind (ref02_Plus x.snd.fst.fst t) fun (t : Int × Int) =>
    again (v7, (t, x.snd.fst.snd), PUnit.unit) else obind (ref02_Plus x.snd.fst.snd t) fun (t : Int × Int) => again (v7, (x.snd.fst.fst, t), PUnit.unit) else none else none else none else
    none else some (decide (x.snd.fst.fst.fst = x.snd.fst.snd.fst) && (decide (x.snd.fst.fst.snd = x.snd.fst.snd.snd) && true))) K0 ((0 : Int), (((0 : Int), (0 : Int)), (0 : Int), (0 :
    Int)), PUnit.unit)
noncomputable def c44 : Ctr := ⟨[T23, T23], [], [], .one .bool, fun x _ _ => ref09_Zero x.1 x.2.1⟩
theorem l44 : (ctxOf prog shs inls [(51, c51), (50, c50), (49, c49)] [(23, r23)]).ok := ctxOf_cons (ctxOf_cons (ctxOf_cons (q23) (by kernel_rfl) ok49) (by kernel_rfl) ok50) (by kernel_rfl) ok51
theorem ok44 : c44.ok prog 44 := Ctr.of_den l44 hmix (hl := hints) (d := 4) func44 rfl (by decide) fun x F y => by kernel_rfl

/-- loftblock loftblockref09.Flat -/
def ref09_Flat (x0 : List (Int × Int × Int)) : Option Bool :=
  
  let v1 : Bool := inB (0 : Int) (List.length x0);
  let v2 : Int × Int × Int := List.getD x0 (0 : Nat) ((0 : Int), (0 : Int), (0 : Int)); loopF (fun (again : Int × PUnit → Option Bool) (x : Int × PUnit) =>
  let v5 : Int × PUnit := (IntKind.wrap IntKind.i64 (x.fst + (1 : Int)), PUnit.unit); bif decide (x.fst < (↑(List.length x0) : Int)) then loopF (fun (again_1 : Int × PUnit → Option Bool)
    (x_1 : Int × PUnit) =>
  let v8 : Int × PUnit := (IntKind.wrap IntKind.i64 (x_1.fst + (1 : Int)), PUnit.unit); bif decide (x_1.fst < (↑(List.length x0) : Int)) then bif inB x.fst (List.length x0) then bif v1 then
    obind (ref09_Minus (List.getD x0 (Int.toNat x.fst) ((0 : Int), (0 : Int), (0 : Int))) v2) fun (t : Int × Int × Int) => bif inB x_1.fst (List.length x0) then bif v1 then obind
    (ref09_Minus (List.getD x0 (Int.toNat x_1.fst) ((0 : Int), (0 : Int), (0 : Int))) v2) fun (t_1 : Int × Int × Int) => obind (ref09_Cross t t_1) fun (t : Int × Int × Int) => loopF (fun
    (again : Int × PUnit → Option Bool) (x : Int × PUnit) => bif decide (x.fst < (↑(List.length x0) : Int)) then bif inB x.fst (List.length x0) then bif v1 then obind (ref09_Minus
    (List.getD x0 (Int.toNat x.fst) ((0 : Int), (0 : Int), (0 : Int))) v2) fun (t_2 : Int × Int × Int) => obind (ref09_Zero t t_2) fun (t : Bool) => bif !t then some false else again
    (IntKind.wrap IntKind.i64 (x.fst + (1 : Int)), PUnit.unit) else none else none else again_1 v8) K0 v8 else none else none else none else none else again v5) K0 v5 else some true) K0 ((0
    : Int), PUnit.unit)
noncomputable def c27 : Ctr := ⟨[(.sl T23)], [], [], .one .bool, fun x _ _ => ref09_Flat x.1⟩
theorem l27 : (ctxOf prog shs inls [(44, c44), (43, c43), (33, c33)] [(23, r23)]).ok := ctxOf_cons (ctxOf_cons (ctxOf_cons (q23) (by kernel_rfl) ok33) (by kernel_rfl) ok43) (by kernel_rfl) ok44
theorem ok27 : c27.ok prog 27 := Ctr.of_den l27 hmix (hl := hints) (d := 4) func27 rfl (by decide) fun x F y => by kernel_rfl

/-- loftblock loftblockref09.Turn -/
def ref09_Turn (x0 : Int × Int × Int) (x1 : Int × Int × Int) (x2 : Int × Int × Int) : Option Int :=
  obind (ref09_Minus x1 x0) fun (t : Int × Int × Int) => obind (ref09_Minus x2 x0) fun (t_1 : Int × Int × Int) => bif decide (IntKind.wrap IntKind.i64 (t.fst * t_1.snd.fst) > IntKind.wrap
    IntKind.i64 (t.snd.fst * t_1.fst)) then some (1 : Int) else bif decide (IntKind.wrap IntKind.i64 (t.fst * t_1.snd.fst) < IntKind.wrap IntKind.i64 (t.snd.fst * t_1.fst)) then some (-1 :
    Int) else some (0 : Int)
noncomputable def c20 : Ctr := ⟨[T23, T23, T23], [], [], .one i64, fun x _ _ => ref09_Turn x.1 x.2.1 x.2.2.1⟩
theorem l20 : (ctxOf prog shs inls [(33, c33)] [(23, r23)]).ok := ctxOf_cons (q23) (by kernel_rfl) ok33
theorem ok20 : c20.ok prog 20 := Ctr.of_den l20 hmix (hl := hints) (d := 4) func20 rfl (by decide) fun x F y => by kernel_rfl

/-- loftblock loftblockref09.on -/
def ref09_on (x0 : Int × Int × Int) (x1 : Int × Int × Int) (x2 : Int × Int × Int) : Option Bool :=
  
  let v3 : Bool := decide (x1.fst = x2.fst);
  let v4 : Bool := !decide (x0.fst = x1.fst);
  let v5 : Bool := bif v3 then decide (x1.snd.fst = x2.snd.fst) else false;
  let v6 : Bool := decide (IntKind.wrap IntKind.i64 (IntKind.wrap IntKind.i64 (x0.fst - x1.fst) * IntKind.wrap IntKind.i64 (x0.fst - x2.fst)) ≤ (0 : Int));
  let v7 : Bool := !v6 || v6;
  let v8 : Bool := v7 && v7; obind (ref09_Turn x1 x2 x0) fun (t : Int) =>
  let v10 : Bool := !decide (t = (0 : Int));
  let v11 : Bool := !v10;
  let v12 : Bool := !v11;
  let v13 : Bool := v11 && v3;
  let v14 : Bool := v11 && v5;
  let v15 : Bool := !v14;
  let v16 : Bool := v14 && !v4;
  let v17 : Bool := v12 || v11;
  let v18 : Bool := !v13 || v13;
  let v19 : Bool := v15 || v14;
  let v20 : Bool := !v16 || v16;
  let v21 : Bool := v12 || v17; bif v17 then bif v17 then bif v17 && v17 then bif v17 then bif v18 then bif v18 then bif v18 && v18 then bif v21 && (v12 || (!v3 || (v12 || v13))) then bif
    v17 then bif v19 then bif v19 then bif v19 && v19 then bif v19 then bif v20 then bif v20 then bif v20 && v20 then bif (v15 || v19) && (v15 || (v4 || (v15 || v16))) then bif v21 && (v12
    || (!v5 || (v12 || v14))) then bif v10 || v11 then bif bif v10 then true else bif v5 then bif v4 then true else !decide (x0.snd.fst = x1.snd.fst) else false then some false else bif v7
    then bif v7 then bif v8 then bif v7 then bif v7 then bif v8 then bif v8 then bif v7 then bif v7 then some (bif v6 then decide (IntKind.wrap IntKind.i64 (IntKind.wrap IntKind.i64
    (x0.snd.fst - x1.snd.fst) * IntKind.wrap IntKind.i64 (x0.snd.fst - x2.snd.fst)) ≤ (0 : Int)) else false) else none else none else none else none else none else none else none else none
    else none else none else none else none else none else none else none else none else none else none else none else none else none else none else none else none else none else none else
    none else none
noncomputable def c45 : Ctr := ⟨[T23, T23, T23], [], [], .one .bool, fun x _ _ => ref09_on x.1 x.2.1 x.2.2.1⟩
theorem l45 : (ctxOf prog shs inls [(20, c20)] [(23, r23)]).ok := ctxOf_cons (q23) (by kernel_rfl) ok20
theorem ok45 : c45.ok prog 45 := Ctr.of_den l45 hmix (hl := hints) (d := 4) func45 rfl (by decide) fun x F y => by kernel_rfl

/-- loftblock loftblockref09.Inside -/
def ref09_Inside (x0 : Int × Int × Int) (x1 : List (Int × Int × Int)) : Option Bool :=
  loopF (fun (again : Int × PUnit → Option Bool) (x : Int × PUnit) =>
  let v4 : Bool := inB x.fst (List.length x1);
  let v5 : Int × Int × Int := List.getD x1 (Int.toNat x.fst) ((0 : Int), (0 : Int), (0 : Int)); bif decide (x.fst < (↑(List.length x1) : Int)) then loopF (fun (again_1 : Int × PUnit →
    Option Bool) (x_1 : Int × PUnit) =>
  let v8 : Bool := inB x_1.fst (List.length x1);
  let v9 : Int × PUnit := (IntKind.wrap IntKind.i64 (x_1.fst + (1 : Int)), PUnit.unit);
  let v10 : Int × Int × Int := List.getD x1 (Int.toNat x_1.fst) ((0 : Int), (0 : Int), (0 : Int)); bif decide (x_1.fst < (↑(List.length x1) : Int)) then bif v4 then bif v8 then obind
    (ref09_on x0 v5 v10) fun (t : Bool) => bif t then some true else loopF (fun (again : Int × PUnit → Option Bool) (x : Int × PUnit) =>
  let v14 : Bool := inB x.fst (List.length x1);
  let v15 : Int × Int × Int := List.getD x1 (Int.toNat x.fst) ((0 : Int), (0 : Int), (0 : Int)); bif decide (x.fst < (↑(List.length x1) : Int)) then bif v4 then bif v8 then obind
    (ref09_Turn v5 v10 x0) fun (t : Int) =>
  let v17 : Bool := !decide (t = (0 : Int));
  let v18 : Bool := !v17 || v17; bif v8 then bif v14 then obind (ref09_Turn v10 v15 x0) fun (t_1 : Int) =>
  let v20 : Bool := bif v17 then decide (t = t_1) else false;
  let v21 : Bool := !v20 || v20; bif v14 then bif v4 then obind (ref09_Turn v15 v5 x0) fun (t : Int) => bif v18 && v18 then bif v18 then bif v21 && v21 then bif v21 then bif bif v20 then
    decide (t_1 = t) else false then some true else again (IntKind.wrap IntKind.i64 (x.fst + (1 : Int)), PUnit.unit) else none else none else none else none else none else none else none
    else none else none else none else again_1 v9) K0 v9 else none else none else again (IntKind.wrap IntKind.i64 (x.fst + (1 : Int)), PUnit.unit)) K0 (x.fst, PUnit.unit) else some false)
    K0 ((0 : Int), PUnit.unit)
noncomputable def c28 : Ctr := ⟨[T23, (.sl T23)], [], [], .one .bool, fun x _ _ => ref09_Inside x.1 x.2.1⟩
theorem l28 : (ctxOf prog shs inls [(45, c45), (20, c20)] [(23, r23)]).ok := ctxOf_cons (ctxOf_cons (q23) (by kernel_rfl) ok20) (by kernel_rfl) ok45
theorem ok28 : c28.ok prog 28 := Ctr.of_den l28 hmix (hl := hints) (d := 4) func28 rfl (by decide) fun x F y => by kernel_rfl

/-- loftblock loftblocklaw09.PointsLists -/
def law09_PointsLists (x0 : Int × Int × Int) (x1 : List (Int × Int × Int)) : Option Bool :=
  
  let v2 : Bool := decide ((↑(List.length x1) : Int) > (12 : Int));
  let v3 : Bool := !v2 || v2;
  let v4 : Bool := bif v2 then decide ((↑(List.length x1) : Int) ≤ (20 : Int)) else false;
  let v5 : Bool := !v4;
  let v6 : Bool := !v5 || v5; obind law09_awake fun (t : Bool) => bif !t then some false else bif v3 then bif v3 then bif v3 then bif v6 then bif v6 then bif v4 || v5 then bif bif v4 then
    true else decide ((↑(List.length x1) : Int) > (25 : Int)) then some true else obind (points_Flat x1) fun (t : Bool × Int × PUnit) =>
  let v9 : Bool := !t.fst;
  let v10 : Bool := !v9 || v9;
  let v11 : Bool := !decide (t.snd.fst = (0 : Int));
  let v12 : Bool := !v11;
  let v13 : Bool := !v12 || v12; obind (points_Inside x0 x1) fun (t_1 : Bool × Int × PUnit) =>
  let v15 : Bool := !t_1.fst;
  let v16 : Bool := !v15 || v15;
  let v17 : Bool := decide (t_1.snd.fst = (0 : Int));
  let v18 : Bool := !v17 || v17;
  let v19 : Bool := v18 && v18; obind (ref09_All x1) fun (t_2 : Bool) => joinF (fun (x : Int × PUnit) => joinF (fun (x_1 : PUnit) => obind (ref09_Valid x0) fun (t : Bool) => joinF (fun (x :
    Int × PUnit) => bif !decide (x.fst = (0 : Int)) then bif v16 && v16 then bif v16 then some (bif v15 then decide (t_1.snd.fst = x.fst) else false) else none else none else bif v19 then
    obind (bif v17 then ref09_Inside x0 x1 else some false) fun (t : Bool) => bif v19 then bif v18 then some (bif v17 then decide (t_1.fst = t) else false) else none else none else none)
    fun (j : Int × PUnit → Option Bool) => bif !t then j ((1 : Int), PUnit.unit) else j (x.fst, PUnit.unit)) fun (j : PUnit → Option Bool) => bif !decide (x.fst = (0 : Int)) then bif v10 &&
    v10 then bif t.fst || v9 then bif bif t.fst then true else !decide (t.snd.fst = x.fst) then some false else j PUnit.unit else none else none else bif v13 then obind (bif v12 then
    ref09_Flat x1 else some false) fun (t_3 : Bool) => bif v13 && v13 then bif v11 || v12 then bif bif v11 then true else !decide (t.fst = t_3) then some false else j PUnit.unit else none
    else none else none) fun (j : Int × PUnit → Option Bool) => bif !t_2 then j ((1 : Int), PUnit.unit) else joinF (fun (x : Int × PUnit) => j (x.fst, PUnit.unit)) fun (j : Int × PUnit →
    Option Bool) => bif decide ((↑(List.length x1) : Int) > (20 : Int)) then j ((4 : Int), PUnit.unit) else j ((0 : Int), PUnit.unit) else none else none else none else none else none else
    none
noncomputable def c8 : Ctr := ⟨[T23, (.sl T23)], [], [], .one .bool, fun x _ _ => law09_PointsLists x.1 x.2.1⟩
theorem l8 : (ctxOf prog shs inls [(28, c28), (27, c27), (26, c26), (16, c16), (25, c25), (22, c22), (10, c10)] [(23, r23)]).ok := ctxOf_cons (ctxOf_cons (ctxOf_cons (ctxOf_cons (ctxOf_cons (ctxOf_cons (ctxOf_cons (q23) (by kernel_rfl) ok10) (by kernel_rfl) ok22) (by kernel_rfl) ok25) (by kernel_rfl) ok16) (by kernel_rfl) ok26) (by kernel_rfl) ok27) (by kernel_rfl) ok28
theorem ok8 : c8.ok prog 8 := Ctr.of_den l8 hmix (hl := hints) (d := 4) func8 rfl (by decide) fun x F y => by kernel_rfl

/-- loftblock points.Turn -/
def points_Turn (x0 : Int × Int × Int) (x1 : Int × Int × Int) (x2 : Int × Int × Int) : Option (Int × Int × Unit) :=
  obind (points_all [x0, x1, x2]) fun (t : Bool) => bif !t then some ((0 : Int), (1 : Int), PUnit.unit) else obind (points_turn x0 x1 x2) fun (t : Int) => some (t, (0 : Int), PUnit.unit)
noncomputable def c19 : Ctr := ⟨[T23, T23, T23], [], [], .tup [i64, i64], fun x _ _ => points_Turn x.1 x.2.1 x.2.2.1⟩
theorem l19 : (ctxOf prog shs inls [(35, c35), (30, c30)] [(23, r23)]).ok := ctxOf_cons (ctxOf_cons (q23) (by kernel_rfl) ok30) (by kernel_rfl) ok35
theorem ok19 : c19.ok prog 19 := Ctr.of_den l19 hmix (hl := hints) (d := 4) func19 rfl (by decide) fun x F y => by kernel_rfl

/-- loftblock loftblocklaw09.PointsTurns$1 -/
def law09_PointsTurns_1 (x0 : Int × Int × Int) (y0 : Int × Int × Int) : Option (Int × Int × Int) :=
  some (IntKind.wrap IntKind.i64 (x0.fst + y0.fst), IntKind.wrap IntKind.i64 (x0.snd.fst + y0.snd.fst), IntKind.wrap IntKind.i64 (x0.snd.snd + y0.snd.snd))
noncomputable def c29 : Ctr := ⟨[T23], [], [T23], .one T23, fun x _ y => law09_PointsTurns_1 x.1 y.1⟩
theorem l29 : (ctxOf prog shs inls [] [(23, r23)]).ok := q23
theorem ok29 : c29.ok prog 29 := Ctr.of_den l29 hmix (hl := hints) (d := 4) func29 rfl (by decide) fun x F y => by kernel_rfl

/-- loftblock loftblocklaw09.PointsTurns -/
def law09_PointsTurns (x0 : Int × Int × Int) (x1 : Int × Int × Int) (x2 : Int × Int × Int) (x3 : Int × Int × Int) (x4 : List (Int × Int × Int)) : Option Bool :=
  obind law09_awake fun (t : Bool) => bif !t then some false else bif decide ((↑(List.length x4) : Int) > (12 : Int)) then some true else obind (points_Turn x0 x1 x2) fun (t : Int × Int ×
    PUnit) =>
  let v7 : Int := IntKind.wrap IntKind.i64 ((0 : Int) - t.fst);
  let v8 : Bool := !decide (t.snd.fst = (0 : Int));
  let v9 : Bool := !v8;
  let v10 : Bool := !v9 || v9; obind (points_Turn x1 x2 x0) fun (t_1 : Int × Int × PUnit) =>
  let v12 : Bool := !decide (t.snd.fst = t_1.snd.fst);
  let v13 : Bool := !v12;
  let v14 : Bool := !v13 || v13; obind (points_Turn x1 x0 x2) fun (t_2 : Int × Int × PUnit) =>
  let v16 : Bool := bif v12 then true else !decide (t.snd.fst = t_2.snd.fst);
  let v17 : Bool := !v16;
  let v18 : Bool := bif v16 then true else !decide (t_1.fst = t.fst);
  let v19 : Bool := !v18;
  let v20 : Bool := !v17 || v17;
  let v21 : Bool := !v19 || v19; bif v14 && v14 then bif v12 || v13 then bif v20 && v20 then bif v16 || v17 then bif v21 then bif v21 && v21 then bif v18 || v19 then bif bif v18 then true
    else !decide (t_2.fst = v7) then some false else bif v10 then obind (bif v9 then points_Valid x3 else some false) fun (t_3 : Bool) => bif v10 then bif v8 || v9 then bif bif v8 then true
    else !t_3 then some true else obind (law09_PointsTurns_1 x0 x3) fun (t_4 : Int × Int × Int) => obind (points_Valid t_4) fun (t_5 : Bool) =>
  let v25 : Bool := !t_5;
  let v26 : Bool := !v25;
  let v27 : Bool := !v26 || v26; bif v27 && v27 then obind (bif v26 then law09_PointsTurns_1 x1 x3 else some ((0 : Int), (0 : Int), (0 : Int))) fun (t_6 : Int × Int × Int) => bif v27 then
    obind (bif v26 then points_Valid t_6 else some false) fun (t_7 : Bool) =>
  let v30 : Bool := bif v25 then true else !t_7;
  let v31 : Bool := !v30;
  let v32 : Bool := !v31 || v31; bif v27 then bif v25 || v26 then bif v32 && v32 then obind (bif v31 then law09_PointsTurns_1 x2 x3 else some ((0 : Int), (0 : Int), (0 : Int))) fun (t_8 :
    Int × Int × Int) => bif v32 then obind (bif v31 then points_Valid t_8 else some false) fun (t_9 : Bool) => bif v32 then bif v30 || v31 then bif bif v30 then true else !t_9 then some
    true else obind (law09_PointsTurns_1 x0 x3) fun (t_10 : Int × Int × Int) => obind (law09_PointsTurns_1 x1 x3) fun (t_11 : Int × Int × Int) => obind (law09_PointsTurns_1 x2 x3) fun (t_12
    : Int × Int × Int) => obind (points_Turn t_10 t_11 t_12) fun (t_13 : Int × Int × PUnit) =>
  let v39 : Bool := !decide (t_13.snd.fst = (0 : Int));
  let v40 : Bool := !v39;
  let v41 : Bool := bif v39 then true else !decide (t_13.fst = t.fst);
  let v42 : Bool := !v41;
  let v43 : Bool := !v40 || v40; obind (points_Square x0 x1) fun (t : Int × Int × PUnit) =>
  let v45 : Bool := bif v41 then true else !decide (t.snd.fst = (0 : Int));
  let v46 : Bool := !v45; obind (law09_PointsTurns_1 x0 x3) fun (t_14 : Int × Int × Int) => obind (law09_PointsTurns_1 x1 x3) fun (t_15 : Int × Int × Int) => obind (points_Square t_14 t_15)
    fun (t_16 : Int × Int × PUnit) =>
  let v50 : Bool := bif v45 then true else !decide (t_16.snd.fst = (0 : Int));
  let v51 : Bool := !v50;
  let v52 : Bool := !v51 || v51; bif v43 && v43 then bif v39 || v40 then bif !v42 || v42 then bif v41 || v42 then bif !v46 || v46 then bif v45 || v46 then bif v52 && v52 then bif v50 || v51
    then bif bif v50 then true else !decide (t.fst = t_16.fst) then some false else loopF (fun (again : List (Int × Int × Int) × Int × PUnit → Option Bool) (x : List (Int × Int × Int) × Int
    × PUnit) =>
  let v55 : Int × Int × Int := List.getD x4 (Int.toNat x.snd.fst) ((0 : Int), (0 : Int), (0 : Int)); bif decide (x.snd.fst < (↑(List.length x4) : Int)) then bif inB x.snd.fst (List.length
    x4) then obind (points_Valid v55) fun (t : Bool) => bif !t then some true else obind (law09_PointsTurns_1 v55 x3) fun (t : Int × Int × Int) => obind (points_Valid t) fun (t_17 : Bool)
    => bif !t_17 then some true else bif fitB (List.length x.fst + (1 : Nat)) (24 : Nat) then again (x.fst ++ [t], IntKind.wrap IntKind.i64 (x.snd.fst + (1 : Int)), PUnit.unit) else none
    else none else obind (points_Flat x4) fun (t : Bool × Int × PUnit) =>
  let v57 : Bool := decide (t.snd.fst = (0 : Int));
  let v58 : Bool := !v57 || v57; obind (points_Flat x.fst) fun (t_17 : Bool × Int × PUnit) =>
  let v60 : Bool := bif v57 then decide (t_17.snd.fst = (0 : Int)) else false;
  let v61 : Bool := bif v60 then decide (t.fst = t_17.fst) else false;
  let v62 : Bool := !v60 || v60;
  let v63 : Bool := !v61 || v61; obind (points_Inside x0 x4) fun (t : Bool × Int × PUnit) =>
  let v65 : Bool := bif v61 then decide (t.snd.fst = (0 : Int)) else false;
  let v66 : Bool := !v65 || v65; obind (law09_PointsTurns_1 x0 x3) fun (t_18 : Int × Int × Int) => obind (points_Inside t_18 x.fst) fun (t_19 : Bool × Int × PUnit) =>
  let v69 : Bool := bif v65 then decide (t_19.snd.fst = (0 : Int)) else false;
  let v70 : Bool := !v69 || v69; bif v58 then bif v58 then bif v62 && v62 then bif v62 then bif v63 then bif v63 then bif v66 then bif v66 then bif v70 && v70 then bif v70 then some (bif
    v69 then decide (t.fst = t_19.fst) else false) else none else none else none else none else none else none else none else none else none else none) K0 ([], (0 : Int), PUnit.unit) else
    none else none else none else none else none else none else none else none else none else none else none else none else none else none else none else none else none else none else none
    else none else none else none else none else none else none else none
noncomputable def c9 : Ctr := ⟨[T23, T23, T23, T23, (.sl T23)], [], [], .one .bool, fun x _ _ => law09_PointsTurns x.1 x.2.1 x.2.2.1 x.2.2.2.1 x.2.2.2.2.1⟩
theorem l9 : (ctxOf prog shs inls [(29, c29), (19, c19), (25, c25), (22, c22), (10, c10), (11, c11), (15, c15)] [(23, r23)]).ok := ctxOf_cons (ctxOf_cons (ctxOf_cons (ctxOf_cons (ctxOf_cons (ctxOf_cons (ctxOf_cons (q23) (by kernel_rfl) ok15) (by kernel_rfl) ok11) (by kernel_rfl) ok10) (by kernel_rfl) ok22) (by kernel_rfl) ok25) (by kernel_rfl) ok19) (by kernel_rfl) ok29
theorem ok9 : c9.ok prog 9 := Ctr.of_den l9 hmix (hl := hints) (d := 4) func9 rfl (by decide) fun x F y => by kernel_rfl

end Go.Proofs.Ytkoadlblncohgaa
