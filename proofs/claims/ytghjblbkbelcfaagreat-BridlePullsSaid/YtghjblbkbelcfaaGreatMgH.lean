/- r18z: the shapes of its types, and the places of its loops. r18z: what its functions answer (printed by a program), and that they do. r18z: what its functions answer (printed by a program), and that they do; part 2. Plain lemmas for what functions answer: loops, machine numbers, lists. Fractions: rational numbers, and the pairs of numbers that stand for them. Fractions: what 'Make', 'Valid', 'Mul', 'Floor', 'Ceil' of package ratio answer. Fractions: products of two words, 'Mul', 'Floor', 'Ceil' of package ratio. -/
import Derived.Test.YtghjblbkbelcfaaGreatProg
import Derived.KernelRfl
import Derived.Test.YtghjblbkbelcfaaGreatMgG

namespace Go.Proofs.YtghjblbkbelcfaaGreat
open Tryz Dn Dn.Sh

abbrev i64 : Sh := .int .i64
/-- api.Point -/
abbrev T23 : Sh := .agg (.pair i64 (.pair i64 i64))
/-- api.Leg -/
abbrev T51 : Sh := .agg (.pair .str (.pair T23 i64))
/-- api.Bridle -/
abbrev T26 : Sh := .agg (.pair T23 (.pair i64 (.sl T51)))
/-- api.Frac -/
abbrev T41 : Sh := .agg (.pair i64 i64)
/-- api.Span -/
abbrev T45 : Sh := .agg (.pair i64 i64)
/-- loftblockref18.Vec -/
abbrev T64 : Sh := .agg (.pair i64 (.pair i64 i64))
/-- ratio.wide -/
abbrev T90 : Sh := .agg (.pair (.int .u64) (.int .u64))
/-- loftblockref02.U -/
abbrev T99 : Sh := .agg (.pair (.int .u64) (.int .u64))
/-- points.vector -/
abbrev T128 : Sh := .agg (.pair i64 (.pair i64 i64))
def shs : TypeId → Option Sh
  | 3 => some i64
  | 23 => some T23
  | 41 => some T41
  | 51 => some T51
  | _ => none

/-- slices.IndexFunc   loftblock api.Leg loftblock api.Leg  -/
def loops44 : Nat → Option Hd
  | 2 => some ⟨[(8, false, [.d i64])], [], []⟩
  | _ => none
/-- loftblock decimal.word -/
def loops86 : Nat → Option Hd
  | 2 => some ⟨[(3, false, [.d i64])], [], []⟩
  | _ => none
/-- loftblock bridle.Valid -/
def loops18 : Nat → Option Hd
  | 4 => some ⟨[(30, false, [.d i64])], [], []⟩
  | _ => none
/-- loftblock ratio.gcd -/
def loops56 : Nat → Option Hd
  | 1 => some ⟨[(0, false, [.d (.int .u64)]), (1, false, [.d (.int .u64)])], [], []⟩
  | _ => none
/-- loftblock bridle.quotients -/
def loops54 : Nat → Option Hd
  | 3 => some ⟨[(6, false, [.row 41 T41]), (13, false, [.d i64])], [], []⟩
  | _ => none
/-- loftblock bridle.upright -/
def loops87 : Nat → Option Hd
  | 3 => some ⟨[(10, false, [.d i64])], [(3, [.d T23])], []⟩
  | 6 => some ⟨[(14, false, [.d i64])], [(3, [.d T23])], []⟩
  | _ => none
/-- loftblock bridle.solve -/
def loops19 : Nat → Option Hd
  | 3 => some ⟨[(4, false, [.row 23 T23]), (11, false, [.d i64])], [], []⟩
  | _ => none
/-- slices.Equal   loftblock api.Frac loftblock api.Frac  -/
def loops11 : Nat → Option Hd
  | 4 => some ⟨[(13, false, [.d i64])], [], []⟩
  | _ => none
/-- slices.IndexFunc   loftblock api.Point loftblock api.Point  -/
def loops106 : Nat → Option Hd
  | 2 => some ⟨[(8, false, [.d i64])], [], []⟩
  | _ => none
/-- loftblock points.Root -/
def loops84 : Nat → Option Hd
  | 5 => some ⟨[(4, false, [.d i64]), (5, false, [.d i64])], [], []⟩
  | _ => none
/-- slices.IndexFunc   loftblock api.Frac loftblock api.Frac  -/
def loops55 : Nat → Option Hd
  | 2 => some ⟨[(8, false, [.d i64])], [], []⟩
  | _ => none
/-- loftblock bridle.Within -/
def loops15 : Nat → Option Hd
  | 8 => some ⟨[(6, false, [.d .bool]), (23, false, [.d i64])], [], []⟩
  | _ => none
def joins105 : Nat → Option Hd
  | 1000002 => some ⟨[(0, false, [.d (.int .u64)]), (2, false, [.d i64])], [], []⟩
  | 1000005 => some ⟨[(0, false, [.d (.int .u64)]), (2, false, [.d i64])], [], []⟩
  | _ => none
/-- math bits.Div64 -/
def loops92 : Nat → Option Hd
  | 17 => some ⟨[(15, false, [.d (.int .u64)]), (16, false, [.d (.int .u64)])], [], []⟩
  | 24 => some ⟨[(16, false, [.d (.int .u64)]), (18, false, [.d (.int .u64)])], [], []⟩
  | _ => none
def joins92 : Nat → Option Hd
  | 0 => some ⟨[(15, false, [.d (.int .u64)])], [], []⟩
  | 2 => some ⟨[(18, false, [.d (.int .u64)])], [], []⟩
  | 1000002 => some ⟨[], [], []⟩
  | 1000004 => some ⟨[], [], []⟩
  | _ => none
def joins25 : Nat → Option Hd
  | 1000008 => some ⟨[(9, false, [.d .bool])], [(10, [.d T90])], []⟩
  | 1000010 => some ⟨[(9, false, [.d .bool])], [(10, [.d T90])], []⟩
  | _ => none
/-- loftblock bridle.Check -/
def loops7 : Nat → Option Hd
  | 7 => some ⟨[(6, false, [.d .bool]), (33, false, [.d i64])], [], []⟩
  | 11 => some ⟨[(40, false, [.d i64])], [(9, [.d T41])], []⟩
  | _ => none
/-- loftblock loftblockref01.word -/
def loops74 : Nat → Option Hd
  | 1 => some ⟨[(1, false, [.d i64])], [], []⟩
  | _ => none
/-- loftblock loftblockref18.Find -/
def loops34 : Nat → Option Hd
  | 2 => some ⟨[(5, false, [.d i64])], [], []⟩
  | _ => none
/-- loftblock loftblockref18.Valid -/
def loops9 : Nat → Option Hd
  | 4 => some ⟨[(3, false, [.d i64])], [], []⟩
  | _ => none
/-- loftblock loftblockref02.Gcd -/
def loops93 : Nat → Option Hd
  | 4 => some ⟨[(5, false, [.d i64])], [(2, [.d T99]), (3, [.d T99])], []⟩
  | 6 => some ⟨[], [(2, [.d T99]), (3, [.d T99])], []⟩
  | 7 => some ⟨[], [(2, [.d T99])], []⟩
  | 9 => some ⟨[], [(3, [.d T99])], []⟩
  | 14 => some ⟨[(5, false, [.d i64])], [(3, [.d T99])], []⟩
  | _ => none
/-- loftblock loftblockref02.All -/
def loops26 : Nat → Option Hd
  | 2 => some ⟨[(3, false, [.d i64])], [], []⟩
  | _ => none
/-- loftblock loftblockref02.Div -/
def loops94 : Nat → Option Hd
  | 5 => some ⟨[(8, false, [.d i64])], [(2, [.d T99]), (6, [.d T99]), (7, [.d T99])], []⟩
  | _ => none
/-- loftblock loftblockref18.Check -/
def loops8 : Nat → Option Hd
  | 7 => some ⟨[(6, false, [.d .bool]), (7, false, [.d i64])], [], []⟩
  | 11 => some ⟨[(9, false, [.d i64])], [(8, [.d T41])], []⟩
  | _ => none
def joins8 : Nat → Option Hd
  | 1000021 => some ⟨[(12, false, [.d i64])], [], []⟩
  | _ => none
def hints : FuncId → Hint
  | 44 => {loop := loops44}
  | 86 => {loop := loops86}
  | 18 => {loop := loops18}
  | 56 => {loop := loops56}
  | 54 => {loop := loops54}
  | 87 => {loop := loops87}
  | 19 => {loop := loops19}
  | 11 => {loop := loops11}
  | 106 => {loop := loops106}
  | 84 => {loop := loops84}
  | 55 => {loop := loops55}
  | 15 => {loop := loops15}
  | 105 => {join := joins105}
  | 92 => {loop := loops92, join := joins92}
  | 25 => {join := joins25}
  | 7 => {loop := loops7}
  | 74 => {loop := loops74}
  | 34 => {loop := loops34}
  | 9 => {loop := loops9}
  | 93 => {loop := loops93}
  | 26 => {loop := loops26}
  | 94 => {loop := loops94}
  | 8 => {loop := loops8, join := joins8}
  | _ => {}
def inls : List Nat := []
end Go.Proofs.YtghjblbkbelcfaaGreat

namespace Go.Proofs.YtghjblbkbelcfaaGreat
open Tryz Dn Dn.Sh

set_option maxRecDepth 100000
theorem hmix : prog.follows .mixedOrders = true := by kernel_rfl
theorem inlsOk : inlOk prog inls = true := by kernel_rfl
theorem q0 : (ctxOf prog shs inls [] []).ok := ctxOf_nil inlsOk
/-- loftblock bridle.minus -/
noncomputable def bridle_minus_b (_ : Lp) (_ : Jn) (x0 : Int × Int × Int) (x1 : Int × Int × Int) : Option (Int × Int × Int) :=
  some (IntKind.wrap IntKind.i64 (x0.fst - x1.fst), IntKind.wrap IntKind.i64 (x0.snd.fst - x1.snd.fst), IntKind.wrap IntKind.i64 (x0.snd.snd - x1.snd.snd))
noncomputable def bridle_minus (x0 : Int × Int × Int) (x1 : Int × Int × Int) : Option (Int × Int × Int) := bridle_minus_b lpK jnK x0 x1
noncomputable def c58 : Ctr := ⟨[T23, T23], [], [], .one T23, fun x _ _ => bridle_minus x.1 x.2.1⟩
theorem e58 (lp : Lp) (jn : Jn) : ∀ (x : TsS c58.as) (F : TsF c58.fs) (y : TsS c58.cs), bridle_minus_b lp jn x.1 x.2.1 = runC lp jn (ctxOf prog shs inls [] []) hints 4 58 f58 c58 x F y := fun x F y => by kernel_rfl
theorem l58 : (ctxOf prog shs inls [] []).ok := q0
theorem ok58 : c58.ok prog 58 := Ctr.of_den l58 hmix (hl := hints) (d := 4) func58 rfl (by decide) (e58 lpK jnK)

/-- loftblock bridle.arm -/
noncomputable def bridle_arm_b (_ : Lp) (_ : Jn) (bridle_minus : (Int × Int × Int) → (Int × Int × Int) → Option (Int × Int × Int)) (x0 : (Int × Int × Int) × Int × List (ByteArray × (Int × Int × Int) × Int)) (x1 : Int) : Option (Int × Int × Int) :=
  bif inB x1 (List.length x0.snd.snd) then obind (bridle_minus (List.getD x0.snd.snd (Int.toNat x1) ({ data := { toList := [] } }, ((0 : Int), (0 : Int), (0 : Int)), (0 : Int))).snd.fst
    x0.fst) fun (t : Int × Int × Int) => some t else none
noncomputable def bridle_arm (x0 : (Int × Int × Int) × Int × List (ByteArray × (Int × Int × Int) × Int)) (x1 : Int) : Option (Int × Int × Int) := bridle_arm_b lpK jnK bridle_minus x0 x1
noncomputable def c23 : Ctr := ⟨[T26, i64], [], [], .one T23, fun x _ _ => bridle_arm x.1 x.2.1⟩
theorem e23 (lp : Lp) (jn : Jn) (bridle_minus : (Int × Int × Int) → (Int × Int × Int) → Option (Int × Int × Int)) : ∀ (x : TsS c23.as) (F : TsF c23.fs) (y : TsS c23.cs), bridle_arm_b lp jn bridle_minus x.1 x.2.1 = runC lp jn (ctxOf prog shs inls [(58, ⟨[T23, T23], [], [], .one T23, fun x _ _ => bridle_minus x.1 x.2.1⟩)] []) hints 4 23 f23 c23 x F y := fun x F y => by kernel_rfl
theorem l23 : (ctxOf prog shs inls [(58, c58)] []).ok := ctxOf_cons (q0) (by kernel_rfl) ok58
theorem ok23 : c23.ok prog 23 := Ctr.of_den l23 hmix (hl := hints) (d := 4) func23 rfl (by decide) (e23 lpK jnK bridle_minus)

/-- slices.IndexFunc[[]loftblock api.Leg,loftblock api.Leg] -/
noncomputable def slices_IndexFunc_44_b (lp : Lp) (_ : Jn) (x0 : List (ByteArray × (Int × Int × Int) × Int)) (f0 : (((ByteArray × (Int × Int × Int) × Int) × Unit) → Option Bool)) : Option Int :=
  lp (Int × PUnit) Int (fun (again : Int × PUnit → Option Int) (x : Int × PUnit) => bif decide (x.fst < (↑(List.length x0) : Int)) then bif inB x.fst (List.length x0) then obind (f0
    (List.getD x0 (Int.toNat x.fst) ({ data := { toList := [] } }, ((0 : Int), (0 : Int), (0 : Int)), (0 : Int)), PUnit.unit)) fun (t : Bool) => bif t then some x.fst else again
    (IntKind.wrap IntKind.i64 (x.fst + (1 : Int)), PUnit.unit) else none else some (-1 : Int)) ((0 : Int), PUnit.unit)
noncomputable def slices_IndexFunc_44 (x0 : List (ByteArray × (Int × Int × Int) × Int)) (f0 : (((ByteArray × (Int × Int × Int) × Int) × Unit) → Option Bool)) : Option Int := slices_IndexFunc_44_b lpK jnK x0 f0
noncomputable def c44 : Ctr := ⟨[(.sl T51)], [([T51], .bool)], [], .one i64, fun x F _ => slices_IndexFunc_44 x.1 F.1⟩
theorem e44 (lp : Lp) (jn : Jn) : ∀ (x : TsS c44.as) (F : TsF c44.fs) (y : TsS c44.cs), slices_IndexFunc_44_b lp jn x.1 F.1 = runC lp jn (ctxOf prog shs inls [] []) hints 4 44 f44 c44 x F y := fun x F y => by kernel_rfl
theorem l44 : (ctxOf prog shs inls [] []).ok := q0
theorem ok44 : c44.ok prog 44 := Ctr.of_den l44 hmix (hl := hints) (d := 4) func44 rfl (by decide) (e44 lpK jnK)

/-- loftblock bridle.find$1 -/
noncomputable def bridle_find_1_b (_ : Lp) (_ : Jn) (x0 : ByteArray × (Int × Int × Int) × Int) (y0 : ByteArray) : Option Bool :=
  some (List.beq (ByteArray.toList x0.fst) (ByteArray.toList y0))
noncomputable def bridle_find_1 (x0 : ByteArray × (Int × Int × Int) × Int) (y0 : ByteArray) : Option Bool := bridle_find_1_b lpK jnK x0 y0
noncomputable def c82 : Ctr := ⟨[T51], [], [.str], .one .bool, fun x _ y => bridle_find_1 x.1 y.1⟩
theorem e82 (lp : Lp) (jn : Jn) : ∀ (x : TsS c82.as) (F : TsF c82.fs) (y : TsS c82.cs), bridle_find_1_b lp jn x.1 y.1 = runC lp jn (ctxOf prog shs inls [] []) hints 4 82 f82 c82 x F y := fun x F y => by kernel_rfl
theorem l82 : (ctxOf prog shs inls [] []).ok := q0
theorem ok82 : c82.ok prog 82 := Ctr.of_den l82 hmix (hl := hints) (d := 4) func82 rfl (by decide) (e82 lpK jnK)

/-- loftblock bridle.find -/
noncomputable def bridle_find_b (_ : Lp) (_ : Jn) (slices_IndexFunc_44 : (List (ByteArray × (Int × Int × Int) × Int)) → ((((ByteArray × (Int × Int × Int) × Int) × Unit) → Option Bool)) → Option (Int)) (bridle_find_1 : (ByteArray × (Int × Int × Int) × Int) → (ByteArray) → Option (Bool)) (x0 : (Int × Int × Int) × Int × List (ByteArray × (Int × Int × Int) × Int)) (x1 : ByteArray) : Option Int :=
  obind (slices_IndexFunc_44 x0.snd.snd fun (x : (ByteArray × (Int × Int × Int) × Int) × PUnit) => bridle_find_1 x.fst x1) fun (t : Int) => some t
noncomputable def bridle_find (x0 : (Int × Int × Int) × Int × List (ByteArray × (Int × Int × Int) × Int)) (x1 : ByteArray) : Option Int := bridle_find_b lpK jnK slices_IndexFunc_44 bridle_find_1 x0 x1
noncomputable def c41 : Ctr := ⟨[T26, .str], [], [], .one i64, fun x _ _ => bridle_find x.1 x.2.1⟩
theorem e41 (lp : Lp) (jn : Jn) (slices_IndexFunc_44 : (List (ByteArray × (Int × Int × Int) × Int)) → ((((ByteArray × (Int × Int × Int) × Int) × Unit) → Option Bool)) → Option (Int)) (bridle_find_1 : (ByteArray × (Int × Int × Int) × Int) → (ByteArray) → Option (Bool)) : ∀ (x : TsS c41.as) (F : TsF c41.fs) (y : TsS c41.cs), bridle_find_b lp jn slices_IndexFunc_44 bridle_find_1 x.1 x.2.1 = runC lp jn (ctxOf prog shs inls [(82, ⟨[T51], [], [.str], .one .bool, fun x _ y => bridle_find_1 x.1 y.1⟩), (44, ⟨[(.sl T51)], [([T51], .bool)], [], .one i64, fun x F _ => slices_IndexFunc_44 x.1 F.1⟩)] []) hints 4 41 f41 c41 x F y := fun x F y => by kernel_rfl
theorem l41 : (ctxOf prog shs inls [(82, c82), (44, c44)] []).ok := ctxOf_cons (ctxOf_cons (q0) (by kernel_rfl) ok44) (by kernel_rfl) ok82
theorem ok41 : c41.ok prog 41 := Ctr.of_den l41 hmix (hl := hints) (d := 4) func41 rfl (by decide) (e41 lpK jnK slices_IndexFunc_44 bridle_find_1)

/-- loftblock points.Valid -/
noncomputable def points_Valid_b (_ : Lp) (_ : Jn) (x0 : Int × Int × Int) : Option Bool :=
  
  let v3 : Bool := decide ((if x0.snd.snd > if x0.snd.fst > x0.fst then x0.snd.fst else x0.fst then x0.snd.snd else if x0.snd.fst > x0.fst then x0.snd.fst else x0.fst) ≤ (1048576 : Int));
  let v4 : Bool := !v3 || v3; bif v4 then bif v4 then bif v4 then bif v4 && (v4 && v4) then bif v4 then bif v4 then some (bif v3 then decide ((if x0.snd.snd < if x0.snd.fst < x0.fst then
    x0.snd.fst else x0.fst then x0.snd.snd else if x0.snd.fst < x0.fst then x0.snd.fst else x0.fst) ≥ (-1048576 : Int)) else false) else none else none else none else none else none else
    none
noncomputable def points_Valid (x0 : Int × Int × Int) : Option Bool := points_Valid_b lpK jnK x0
noncomputable def c45 : Ctr := ⟨[T23], [], [], .one .bool, fun x _ _ => points_Valid x.1⟩
theorem e45 (lp : Lp) (jn : Jn) : ∀ (x : TsS c45.as) (F : TsF c45.fs) (y : TsS c45.cs), points_Valid_b lp jn x.1 = runC lp jn (ctxOf prog shs inls [] []) hints 4 45 f45 c45 x F y := fun x F y => by kernel_rfl
theorem l45 : (ctxOf prog shs inls [] []).ok := q0
theorem ok45 : c45.ok prog 45 := Ctr.of_den l45 hmix (hl := hints) (d := 4) func45 rfl (by decide) (e45 lpK jnK)

/-- loftblock bridle.weight -/
noncomputable def bridle_weight_b (_ : Lp) (_ : Jn) (x0 : Int) : Option Bool :=
  
  let v3 : Bool := decide (x0 ≥ (0 : Int));
  let v4 : Bool := !v3 || v3; bif v4 then bif v4 then some (bif v3 then decide (x0 ≤ (67108864 : Int)) else false) else none else none
noncomputable def bridle_weight (x0 : Int) : Option Bool := bridle_weight_b lpK jnK x0
noncomputable def c46 : Ctr := ⟨[i64], [], [], .one .bool, fun x _ _ => bridle_weight x.1⟩
theorem e46 (lp : Lp) (jn : Jn) : ∀ (x : TsS c46.as) (F : TsF c46.fs) (y : TsS c46.cs), bridle_weight_b lp jn x.1 = runC lp jn (ctxOf prog shs inls [] []) hints 4 46 f46 c46 x F y := fun x F y => by kernel_rfl
theorem l46 : (ctxOf prog shs inls [] []).ok := q0
theorem ok46 : c46.ok prog 46 := Ctr.of_den l46 hmix (hl := hints) (d := 4) func46 rfl (by decide) (e46 lpK jnK)

/-- loftblock decimal.letter -/
noncomputable def decimal_letter_b (_ : Lp) (_ : Jn) (x0 : Int) : Option Bool :=
  
  let v3 : Bool := decide (x0 ≥ (97 : Int));
  let v4 : Bool := decide (x0 ≥ (65 : Int));
  let v5 : Bool := !v3 || v3;
  let v6 : Bool := bif v3 then decide (x0 ≤ (122 : Int)) else false;
  let v7 : Bool := !v6;
  let v8 : Bool := !v7;
  let v9 : Bool := v7 && v4;
  let v10 : Bool := v8 || v7; bif v5 then bif v5 then bif v10 then bif v10 then bif !v9 || v9 then bif (v8 || v10) && (v8 || (!v4 || (v8 || v9))) then bif v6 || v7 then some (bif v6 then
    true else bif v4 then decide (x0 ≤ (90 : Int)) else false) else none else none else none else none else none else none else none
noncomputable def decimal_letter (x0 : Int) : Option Bool := decimal_letter_b lpK jnK x0
noncomputable def c85 : Ctr := ⟨[(.int .u8)], [], [], .one .bool, fun x _ _ => decimal_letter x.1⟩
theorem e85 (lp : Lp) (jn : Jn) : ∀ (x : TsS c85.as) (F : TsF c85.fs) (y : TsS c85.cs), decimal_letter_b lp jn x.1 = runC lp jn (ctxOf prog shs inls [] []) hints 4 85 f85 c85 x F y := fun x F y => by kernel_rfl
theorem l85 : (ctxOf prog shs inls [] []).ok := q0
theorem ok85 : c85.ok prog 85 := Ctr.of_den l85 hmix (hl := hints) (d := 4) func85 rfl (by decide) (e85 lpK jnK)

/-- loftblock decimal.digit -/
noncomputable def decimal_digit_b (_ : Lp) (_ : Jn) (x0 : Int) : Option Bool :=
  
  let v3 : Bool := decide (x0 ≥ (48 : Int));
  let v4 : Bool := !v3 || v3; bif v4 then bif v4 then some (bif v3 then decide (x0 ≤ (57 : Int)) else false) else none else none
noncomputable def decimal_digit (x0 : Int) : Option Bool := decimal_digit_b lpK jnK x0
noncomputable def c100 : Ctr := ⟨[(.int .u8)], [], [], .one .bool, fun x _ _ => decimal_digit x.1⟩
theorem e100 (lp : Lp) (jn : Jn) : ∀ (x : TsS c100.as) (F : TsF c100.fs) (y : TsS c100.cs), decimal_digit_b lp jn x.1 = runC lp jn (ctxOf prog shs inls [] []) hints 4 100 f100 c100 x F y := fun x F y => by kernel_rfl
theorem l100 : (ctxOf prog shs inls [] []).ok := q0
theorem ok100 : c100.ok prog 100 := Ctr.of_den l100 hmix (hl := hints) (d := 4) func100 rfl (by decide) (e100 lpK jnK)

/-- loftblock decimal.word -/
noncomputable def decimal_word_b (lp : Lp) (_ : Jn) (decimal_letter : (Int) → Option (Bool)) (decimal_digit : (Int) → Option (Bool)) (x0 : ByteArray) : Option Int :=
  lp (Int × PUnit) Int (fun (again : Int × PUnit → Option Int) (x : Int × PUnit) =>
  let v5 : Bool := inB x.fst (ByteArray.size x0);
  let v6 : Int := byteAt x0 (Int.toNat x.fst);
  let v7 : Bool := decide (x.fst < (↑(ByteArray.size x0) : Int));
  let v8 : Bool := !v7;
  let v9 : Bool := v8 || v7;
  let v10 : Bool := v8 || v9; bif v9 && (v9 && (v8 || v5)) then bif v9 then obind (bif v7 then decimal_letter v6 else some false) fun (t : Bool) =>
  let v12 : Bool := v7 && !t;
  let v13 : Bool := !v12;
  let v14 : Bool := v13 || v12; bif v9 then bif v14 && (v14 && (v13 || v5)) then bif v14 then obind (bif v12 then decimal_digit v6 else some false) fun (t_1 : Bool) =>
  let v16 : Bool := bif t then true else t_1;
  let v17 : Bool := v7 && !v16;
  let v18 : Bool := !v17;
  let v19 : Bool := v18 || v17; bif v10 && (v8 || (t || (v8 || v12))) then bif v9 then bif v19 && (v19 && (v18 || v5)) then bif v19 then bif v10 && (v8 || (v16 || (v8 || v17))) then bif v9
    then bif bif v7 then bif v16 then true else decide (v6 = (95 : Int)) else false then again (IntKind.wrap IntKind.i64 (x.fst + (1 : Int)), PUnit.unit) else some x.fst else none else none
    else none else none else none else none else none else none else none else none else none) ((0 : Int), PUnit.unit)
noncomputable def decimal_word (x0 : ByteArray) : Option Int := decimal_word_b lpK jnK decimal_letter decimal_digit x0
noncomputable def c86 : Ctr := ⟨[.str], [], [], .one i64, fun x _ _ => decimal_word x.1⟩
theorem e86 (lp : Lp) (jn : Jn) (decimal_letter : (Int) → Option (Bool)) (decimal_digit : (Int) → Option (Bool)) : ∀ (x : TsS c86.as) (F : TsF c86.fs) (y : TsS c86.cs), decimal_word_b lp jn decimal_letter decimal_digit x.1 = runC lp jn (ctxOf prog shs inls [(100, ⟨[(.int .u8)], [], [], .one .bool, fun x _ _ => decimal_digit x.1⟩), (85, ⟨[(.int .u8)], [], [], .one .bool, fun x _ _ => decimal_letter x.1⟩)] []) hints 4 86 f86 c86 x F y := fun x F y => by kernel_rfl
theorem l86 : (ctxOf prog shs inls [(100, c100), (85, c85)] []).ok := ctxOf_cons (ctxOf_cons (q0) (by kernel_rfl) ok85) (by kernel_rfl) ok100
theorem ok86 : c86.ok prog 86 := Ctr.of_den l86 hmix (hl := hints) (d := 4) func86 rfl (by decide) (e86 lpK jnK decimal_letter decimal_digit)

/-- loftblock decimal.IsName -/
noncomputable def decimal_IsName_b (_ : Lp) (_ : Jn) (decimal_letter : (Int) → Option (Bool)) (decimal_word : (ByteArray) → Option (Int)) (x0 : ByteArray) : Option Bool :=
  
  let v3 : Bool := !List.beq (ByteArray.toList x0) (ByteArray.toList { data := #[] });
  let v4 : Bool := !v3 || v3;
  let v5 : Bool := bif v3 then decide ((↑(ByteArray.size x0) : Int) ≤ (20 : Int)) else false;
  let v6 : Bool := !v5;
  let v7 : Bool := v6 || v5; bif v4 then bif v4 then bif v4 then bif v7 && (v6 || inB (0 : Int) (ByteArray.size x0)) then bif v7 then obind (bif v5 then decimal_letter (byteAt x0 (0 : Nat))
    else some false) fun (t : Bool) =>
  let v9 : Bool := bif v5 then t else false;
  let v10 : Bool := !v9 || v9; bif v7 then bif v10 then obind (bif v9 then decimal_word x0 else some (0 : Int)) fun (t : Int) => bif v10 then bif v10 && v10 then bif v10 then some (bif v9
    then decide (t = (↑(ByteArray.size x0) : Int)) else false) else none else none else none else none else none else none else none else none else none else none
noncomputable def decimal_IsName (x0 : ByteArray) : Option Bool := decimal_IsName_b lpK jnK decimal_letter decimal_word x0
noncomputable def c47 : Ctr := ⟨[.str], [], [], .one .bool, fun x _ _ => decimal_IsName x.1⟩
theorem e47 (lp : Lp) (jn : Jn) (decimal_letter : (Int) → Option (Bool)) (decimal_word : (ByteArray) → Option (Int)) : ∀ (x : TsS c47.as) (F : TsF c47.fs) (y : TsS c47.cs), decimal_IsName_b lp jn decimal_letter decimal_word x.1 = runC lp jn (ctxOf prog shs inls [(86, ⟨[.str], [], [], .one i64, fun x _ _ => decimal_word x.1⟩), (85, ⟨[(.int .u8)], [], [], .one .bool, fun x _ _ => decimal_letter x.1⟩)] []) hints 4 47 f47 c47 x F y := fun x F y => by kernel_rfl
theorem l47 : (ctxOf prog shs inls [(86, c86), (85, c85)] []).ok := ctxOf_cons (ctxOf_cons (q0) (by kernel_rfl) ok85) (by kernel_rfl) ok86
theorem ok47 : c47.ok prog 47 := Ctr.of_den l47 hmix (hl := hints) (d := 4) func47 rfl (by decide) (e47 lpK jnK decimal_letter decimal_word)

/-- loftblock bridle.near -/
noncomputable def bridle_near_b (_ : Lp) (_ : Jn) (x0 : Int × Int × Int) : Option Bool :=
  some (decide ((if IntKind.wrap IntKind.i64 ((0 : Int) - x0.snd.snd) > if x0.snd.snd > if IntKind.wrap IntKind.i64 ((0 : Int) - x0.snd.fst) > if x0.snd.fst > if IntKind.wrap IntKind.i64 ((0
    : Int) - x0.fst) > x0.fst then IntKind.wrap IntKind.i64 ((0 : Int) - x0.fst) else x0.fst then x0.snd.fst else if IntKind.wrap IntKind.i64 ((0 : Int) - x0.fst) > x0.fst then IntKind.wrap
    IntKind.i64 ((0 : Int) - x0.fst) else x0.fst then IntKind.wrap IntKind.i64 ((0 : Int) - x0.snd.fst) else if x0.snd.fst > if IntKind.wrap IntKind.i64 ((0 : Int) - x0.fst) > x0.fst then
    IntKind.wrap IntKind.i64 ((0 : Int) - x0.fst) else x0.fst then x0.snd.fst else if IntKind.wrap IntKind.i64 ((0 : Int) - x0.fst) > x0.fst then IntKind.wrap IntKind.i64 ((0 : Int) -
    x0.fst) else x0.fst then x0.snd.snd else if IntKind.wrap IntKind.i64 ((0 : Int) - x0.snd.fst) > if x0.snd.fst > if IntKind.wrap IntKind.i64 ((0 : Int) - x0.fst) > x0.fst then
    IntKind.wrap IntKind.i64 ((0 : Int) - x0.fst) else x0.fst then x0.snd.fst else if IntKind.wrap IntKind.i64 ((0 : Int) - x0.fst) > x0.fst then IntKind.wrap IntKind.i64 ((0 : Int) -
    x0.fst) else x0.fst then IntKind.wrap IntKind.i64 ((0 : Int) - x0.snd.fst) else if x0.snd.fst > if IntKind.wrap IntKind.i64 ((0 : Int) - x0.fst) > x0.fst then IntKind.wrap IntKind.i64
    ((0 : Int) - x0.fst) else x0.fst then x0.snd.fst else if IntKind.wrap IntKind.i64 ((0 : Int) - x0.fst) > x0.fst then IntKind.wrap IntKind.i64 ((0 : Int) - x0.fst) else x0.fst then
    IntKind.wrap IntKind.i64 ((0 : Int) - x0.snd.snd) else if x0.snd.snd > if IntKind.wrap IntKind.i64 ((0 : Int) - x0.snd.fst) > if x0.snd.fst > if IntKind.wrap IntKind.i64 ((0 : Int) -
    x0.fst) > x0.fst then IntKind.wrap IntKind.i64 ((0 : Int) - x0.fst) else x0.fst then x0.snd.fst else if IntKind.wrap IntKind.i64 ((0 : Int) - x0.fst) > x0.fst then IntKind.wrap
    IntKind.i64 ((0 : Int) - x0.fst) else x0.fst then IntKind.wrap IntKind.i64 ((0 : Int) - x0.snd.fst) else if x0.snd.fst > if IntKind.wrap IntKind.i64 ((0 : Int) - x0.fst) > x0.fst then
    IntKind.wrap IntKind.i64 ((0 : Int) - x0.fst) else x0.fst then x0.snd.fst else if IntKind.wrap IntKind.i64 ((0 : Int) - x0.fst) > x0.fst then IntKind.wrap IntKind.i64 ((0 : Int) -
    x0.fst) else x0.fst then x0.snd.snd else if IntKind.wrap IntKind.i64 ((0 : Int) - x0.snd.fst) > if x0.snd.fst > if IntKind.wrap IntKind.i64 ((0 : Int) - x0.fst) > x0.fst then
    IntKind.wrap IntKind.i64 ((0 : Int) - x0.fst) else x0.fst then x0.snd.fst else if IntKind.wrap IntKind.i64 ((0 : Int) - x0.fst) > x0.fst then IntKind.wrap IntKind.i64 ((0 : Int) -
    x0.fst) else x0.fst then IntKind.wrap IntKind.i64 ((0 : Int) - x0.snd.fst) else if x0.snd.fst > if IntKind.wrap IntKind.i64 ((0 : Int) - x0.fst) > x0.fst then IntKind.wrap IntKind.i64
    ((0 : Int) - x0.fst) else x0.fst then x0.snd.fst else if IntKind.wrap IntKind.i64 ((0 : Int) - x0.fst) > x0.fst then IntKind.wrap IntKind.i64 ((0 : Int) - x0.fst) else x0.fst) ≤ (32768
    : Int)))
noncomputable def bridle_near (x0 : Int × Int × Int) : Option Bool := bridle_near_b lpK jnK x0
noncomputable def c48 : Ctr := ⟨[T23], [], [], .one .bool, fun x _ _ => bridle_near x.1⟩
theorem e48 (lp : Lp) (jn : Jn) : ∀ (x : TsS c48.as) (F : TsF c48.fs) (y : TsS c48.cs), bridle_near_b lp jn x.1 = runC lp jn (ctxOf prog shs inls [] []) hints 4 48 f48 c48 x F y := fun x F y => by kernel_rfl
theorem l48 : (ctxOf prog shs inls [] []).ok := q0
theorem ok48 : c48.ok prog 48 := Ctr.of_den l48 hmix (hl := hints) (d := 4) func48 rfl (by decide) (e48 lpK jnK)

/-- loftblock bridle.Valid -/
noncomputable def bridle_Valid_b (lp : Lp) (_ : Jn) (bridle_arm : ((Int × Int × Int) × Int × List (ByteArray × (Int × Int × Int) × Int)) → (Int) → Option (Int × Int × Int)) (bridle_find : ((Int × Int × Int) × Int × List (ByteArray × (Int × Int × Int) × Int)) → (ByteArray) → Option (Int)) (points_Valid : (Int × Int × Int) → Option (Bool)) (bridle_weight : (Int) → Option (Bool)) (decimal_IsName : (ByteArray) → Option (Bool)) (bridle_near : (Int × Int × Int) → Option (Bool)) (x0 : (Int × Int × Int) × Int × List (ByteArray × (Int × Int × Int) × Int)) : Option Bool :=
  obind (points_Valid x0.fst) fun (t : Bool) =>
  let v4 : Bool := !t;
  let v5 : Bool := !v4;
  let v6 : Bool := !v5 || v5; bif v6 then bif v6 then obind (bif v5 then bridle_weight x0.snd.fst else some false) fun (t : Bool) =>
  let v8 : Bool := bif v4 then true else !t;
  let v9 : Bool := !v8;
  let v10 : Bool := !v9 || v9;
  let v11 : Bool := bif v8 then true else decide ((↑(List.length x0.snd.snd) : Int) < (1 : Int));
  let v12 : Bool := !v11;
  let v13 : Bool := !v12 || v12; bif v6 then bif v4 || v5 then bif v10 then bif v10 then bif v10 then bif v8 || v9 then bif v13 then bif v13 then bif v13 then bif v11 || v12 then bif bif
    v11 then true else decide ((↑(List.length x0.snd.snd) : Int) > (3 : Int)) then some false else lp (Int × PUnit) Bool (fun (again : Int × PUnit → Option Bool) (x : Int × PUnit) =>
  let v16 : ByteArray × (Int × Int × Int) × Int := List.getD x0.snd.snd (Int.toNat x.fst) ({ data := { toList := [] } }, ((0 : Int), (0 : Int), (0 : Int)), (0 : Int));
  let v17 : Bool := decide (v16.snd.fst.fst = x0.fst.fst) && (decide (v16.snd.fst.snd.fst = x0.fst.snd.fst) && (decide (v16.snd.fst.snd.snd = x0.fst.snd.snd) && true)); bif decide (x.fst <
    (↑(List.length x0.snd.snd) : Int)) then bif inB x.fst (List.length x0.snd.snd) then obind (decimal_IsName v16.fst) fun (t : Bool) =>
  let v19 : Bool := !t;
  let v20 : Bool := !v19;
  let v21 : Bool := !v20 || v20;
  let v22 : Bool := v21 && v21; bif v21 then bif v22 then obind (bif v20 then bridle_find x0 v16.fst else some (0 : Int)) fun (t : Int) =>
  let v24 : Bool := bif v19 then true else !decide (t = x.fst);
  let v25 : Bool := !v24;
  let v26 : Bool := !v25 || v25; bif v22 then bif v19 || v20 then bif v26 then bif v26 then obind (bif v25 then points_Valid v16.snd.fst else some false) fun (t : Bool) =>
  let v28 : Bool := bif v24 then true else !t;
  let v29 : Bool := !v28;
  let v30 : Bool := bif v28 then true else v17;
  let v31 : Bool := !v30;
  let v32 : Bool := !v29 || v29;
  let v33 : Bool := !v31 || v31; bif v26 then bif v24 || v25 then bif v32 then bif v32 then bif v32 && v32 then bif v28 || v29 then bif v33 && v33 then obind (bif v31 then bridle_arm x0
    x.fst else some ((0 : Int), (0 : Int), (0 : Int))) fun (t : Int × Int × Int) => bif v33 then obind (bif v31 then bridle_near t else some false) fun (t : Bool) =>
  let v36 : Bool := bif v30 then true else !t;
  let v37 : Bool := !v36;
  let v38 : Bool := !v37 || v37; bif v33 then bif v30 || v31 then bif v38 then bif v38 then obind (bif v37 then bridle_weight v16.snd.snd else some false) fun (t : Bool) => bif v38 then bif
    v36 || v37 then bif bif v36 then true else !t then some false else again (IntKind.wrap IntKind.i64 (x.fst + (1 : Int)), PUnit.unit) else none else none else none else none else none
    else none else none else none else none else none else none else none else none else none else none else none else none else none else none else none else none else some true) ((0 :
    Int), PUnit.unit) else none else none else none else none else none else none else none else none else none else none else none else none
noncomputable def bridle_Valid (x0 : (Int × Int × Int) × Int × List (ByteArray × (Int × Int × Int) × Int)) : Option Bool := bridle_Valid_b lpK jnK bridle_arm bridle_find points_Valid bridle_weight decimal_IsName bridle_near x0
noncomputable def c18 : Ctr := ⟨[T26], [], [], .one .bool, fun x _ _ => bridle_Valid x.1⟩
theorem e18 (lp : Lp) (jn : Jn) (bridle_arm : ((Int × Int × Int) × Int × List (ByteArray × (Int × Int × Int) × Int)) → (Int) → Option (Int × Int × Int)) (bridle_find : ((Int × Int × Int) × Int × List (ByteArray × (Int × Int × Int) × Int)) → (ByteArray) → Option (Int)) (points_Valid : (Int × Int × Int) → Option (Bool)) (bridle_weight : (Int) → Option (Bool)) (decimal_IsName : (ByteArray) → Option (Bool)) (bridle_near : (Int × Int × Int) → Option (Bool)) : ∀ (x : TsS c18.as) (F : TsF c18.fs) (y : TsS c18.cs), bridle_Valid_b lp jn bridle_arm bridle_find points_Valid bridle_weight decimal_IsName bridle_near x.1 = runC lp jn (ctxOf prog shs inls [(48, ⟨[T23], [], [], .one .bool, fun x _ _ => bridle_near x.1⟩), (47, ⟨[.str], [], [], .one .bool, fun x _ _ => decimal_IsName x.1⟩), (46, ⟨[i64], [], [], .one .bool, fun x _ _ => bridle_weight x.1⟩), (45, ⟨[T23], [], [], .one .bool, fun x _ _ => points_Valid x.1⟩), (41, ⟨[T26, .str], [], [], .one i64, fun x _ _ => bridle_find x.1 x.2.1⟩), (23, ⟨[T26, i64], [], [], .one T23, fun x _ _ => bridle_arm x.1 x.2.1⟩)] []) hints 4 18 f18 c18 x F y := fun x F y => by kernel_rfl
theorem l18 : (ctxOf prog shs inls [(48, c48), (47, c47), (46, c46), (45, c45), (41, c41), (23, c23)] []).ok := ctxOf_cons (ctxOf_cons (ctxOf_cons (ctxOf_cons (ctxOf_cons (ctxOf_cons (q0) (by kernel_rfl) ok23) (by kernel_rfl) ok41) (by kernel_rfl) ok45) (by kernel_rfl) ok46) (by kernel_rfl) ok47) (by kernel_rfl) ok48
theorem ok18 : c18.ok prog 18 := Ctr.of_den l18 hmix (hl := hints) (d := 4) func18 rfl (by decide) (e18 lpK jnK bridle_arm bridle_find points_Valid bridle_weight decimal_IsName bridle_near)

/-- loftblock ratio.gcd -/
noncomputable def ratio_gcd_b (lp : Lp) (_ : Jn) (x0 : Int) (x1 : Int) : Option Int :=
  lp (Int × Int × PUnit) Int (fun (again : Int × Int × PUnit → Option Int) (x : Int × Int × PUnit) => bif !decide (x.snd.fst = (0 : Int)) then bif nzB x.snd.fst then again (x.snd.fst,
    Int.tmod x.fst x.snd.fst, PUnit.unit) else none else some x.fst) (x0, x1, PUnit.unit)
noncomputable def ratio_gcd (x0 : Int) (x1 : Int) : Option Int := ratio_gcd_b lpK jnK x0 x1
noncomputable def c56 : Ctr := ⟨[(.int .u64), (.int .u64)], [], [], .one (.int .u64), fun x _ _ => ratio_gcd x.1 x.2.1⟩
theorem e56 (lp : Lp) (jn : Jn) : ∀ (x : TsS c56.as) (F : TsF c56.fs) (y : TsS c56.cs), ratio_gcd_b lp jn x.1 x.2.1 = runC lp jn (ctxOf prog shs inls [] []) hints 4 56 f56 c56 x F y := fun x F y => by kernel_rfl
theorem l56 : (ctxOf prog shs inls [] []).ok := q0
theorem ok56 : c56.ok prog 56 := Ctr.of_den l56 hmix (hl := hints) (d := 4) func56 rfl (by decide) (e56 lpK jnK)

/-- loftblock ratio.size -/
noncomputable def ratio_size_b (_ : Lp) (_ : Jn) (x0 : Int) : Option Int :=
  
  let v3 : Int := IntKind.wrap IntKind.u64 x0; bif decide (x0 < (0 : Int)) then some (IntKind.wrap IntKind.u64 ((0 : Int) - v3)) else some v3
noncomputable def ratio_size (x0 : Int) : Option Int := ratio_size_b lpK jnK x0
noncomputable def c57 : Ctr := ⟨[i64], [], [], .one (.int .u64), fun x _ _ => ratio_size x.1⟩
theorem e57 (lp : Lp) (jn : Jn) : ∀ (x : TsS c57.as) (F : TsF c57.fs) (y : TsS c57.cs), ratio_size_b lp jn x.1 = runC lp jn (ctxOf prog shs inls [] []) hints 4 57 f57 c57 x F y := fun x F y => by kernel_rfl
theorem l57 : (ctxOf prog shs inls [] []).ok := q0
theorem ok57 : c57.ok prog 57 := Ctr.of_den l57 hmix (hl := hints) (d := 4) func57 rfl (by decide) (e57 lpK jnK)

/-- loftblock ratio.signed -/
noncomputable def ratio_signed_b (_ : Lp) (_ : Jn) (x0 : Bool) (x1 : Int) (x2 : Int) : Option ((Int × Int) × Int × Unit) :=
  
  let v5 : Int := IntKind.wrap IntKind.i64 x1;
  let v6 : Int := IntKind.wrap IntKind.i64 x2;
  let v7 : Bool := decide (x1 > (1152921504606846976 : Int));
  let v8 : Bool := !v7; bif !v8 || v8 then bif v7 || v8 then bif bif v7 then true else decide (x2 > (1152921504606846976 : Int)) then some (((0 : Int), (0 : Int)), (5 : Int), PUnit.unit)
    else bif x0 then some ((IntKind.wrap IntKind.i64 ((0 : Int) - v5), v6), (0 : Int), PUnit.unit) else some ((v5, v6), (0 : Int), PUnit.unit) else none else none
noncomputable def ratio_signed (x0 : Bool) (x1 : Int) (x2 : Int) : Option ((Int × Int) × Int × Unit) := ratio_signed_b lpK jnK x0 x1 x2
noncomputable def c60 : Ctr := ⟨[.bool, (.int .u64), (.int .u64)], [], [], .tup [T41, i64], fun x _ _ => ratio_signed x.1 x.2.1 x.2.2.1⟩
theorem e60 (lp : Lp) (jn : Jn) : ∀ (x : TsS c60.as) (F : TsF c60.fs) (y : TsS c60.cs), ratio_signed_b lp jn x.1 x.2.1 x.2.2.1 = runC lp jn (ctxOf prog shs inls [] []) hints 4 60 f60 c60 x F y := fun x F y => by kernel_rfl
theorem l60 : (ctxOf prog shs inls [] []).ok := q0
theorem ok60 : c60.ok prog 60 := Ctr.of_den l60 hmix (hl := hints) (d := 4) func60 rfl (by decide) (e60 lpK jnK)

/-- loftblock ratio.Make -/
noncomputable def ratio_Make_b (_ : Lp) (_ : Jn) (ratio_gcd : (Int) → (Int) → Option (Int)) (ratio_size : (Int) → Option (Int)) (ratio_signed : (Bool) → (Int) → (Int) → Option ((Int × Int) × Int × Unit)) (x0 : Int) (x1 : Int) : Option ((Int × Int) × Int × Unit) :=
  
  let v4 : Bool := !decide (x0 = (0 : Int));
  let v5 : Bool := !v4 || v4; bif decide (x1 = (0 : Int)) then some (((0 : Int), (0 : Int)), (16 : Int), PUnit.unit) else obind (ratio_size x0) fun (t : Int) => obind (ratio_size x1) fun
    (t_1 : Int) => obind (ratio_gcd t t_1) fun (t_2 : Int) =>
  let v9 : Bool := nzB t_2; bif v5 then bif v5 then bif v5 && v5 then bif v5 then bif v9 then bif v9 then obind (ratio_signed (bif v4 then !decide (decide (x0 < (0 : Int)) = decide (x1 < (0
    : Int))) else false) (IntKind.wrap IntKind.u64 (Int.tdiv t t_2)) (IntKind.wrap IntKind.u64 (Int.tdiv t_1 t_2))) fun (t : (Int × Int) × Int × PUnit) => some (t.fst, t.snd.fst,
    PUnit.unit) else none else none else none else none else none else none
noncomputable def ratio_Make (x0 : Int) (x1 : Int) : Option ((Int × Int) × Int × Unit) := ratio_Make_b lpK jnK ratio_gcd ratio_size ratio_signed x0 x1
noncomputable def c88 : Ctr := ⟨[i64, i64], [], [], .tup [T41, i64], fun x _ _ => ratio_Make x.1 x.2.1⟩
theorem e88 (lp : Lp) (jn : Jn) (ratio_gcd : (Int) → (Int) → Option (Int)) (ratio_size : (Int) → Option (Int)) (ratio_signed : (Bool) → (Int) → (Int) → Option ((Int × Int) × Int × Unit)) : ∀ (x : TsS c88.as) (F : TsF c88.fs) (y : TsS c88.cs), ratio_Make_b lp jn ratio_gcd ratio_size ratio_signed x.1 x.2.1 = runC lp jn (ctxOf prog shs inls [(60, ⟨[.bool, (.int .u64), (.int .u64)], [], [], .tup [T41, i64], fun x _ _ => ratio_signed x.1 x.2.1 x.2.2.1⟩), (57, ⟨[i64], [], [], .one (.int .u64), fun x _ _ => ratio_size x.1⟩), (56, ⟨[(.int .u64), (.int .u64)], [], [], .one (.int .u64), fun x _ _ => ratio_gcd x.1 x.2.1⟩)] []) hints 4 88 f88 c88 x F y := fun x F y => by kernel_rfl
theorem l88 : (ctxOf prog shs inls [(60, c60), (57, c57), (56, c56)] []).ok := ctxOf_cons (ctxOf_cons (ctxOf_cons (q0) (by kernel_rfl) ok56) (by kernel_rfl) ok57) (by kernel_rfl) ok60
theorem ok88 : c88.ok prog 88 := Ctr.of_den l88 hmix (hl := hints) (d := 4) func88 rfl (by decide) (e88 lpK jnK ratio_gcd ratio_size ratio_signed)

/-- loftblock bridle.quotients -/
noncomputable def bridle_quotients_b (lp : Lp) (_ : Jn) (ratio_Make : (Int) → (Int) → Option ((Int × Int) × Int × Unit)) (x0 : Int) (x1 : List Int) : Option ((List (Int × Int)) × Int × Unit) :=
  lp (List (Int × Int) × Int × PUnit) (List (Int × Int) × Int × PUnit) (fun (again : List (Int × Int) × Int × PUnit → Option (List (Int × Int) × Int × PUnit)) (x : List (Int × Int) × Int ×
    PUnit) => bif decide (x.snd.fst < (↑(List.length x1) : Int)) then bif inB x.snd.fst (List.length x1) then obind (ratio_Make (List.getD x1 (Int.toNat x.snd.fst) (0 : Int)) x0) fun (t :
    (Int × Int) × Int × PUnit) => bif !decide (t.snd.fst = (0 : Int)) then some ([], t.snd.fst, PUnit.unit) else bif fitB (List.length x.fst + (1 : Nat)) (16 : Nat) then again (x.fst ++
    [t.fst], IntKind.wrap IntKind.i64 (x.snd.fst + (1 : Int)), PUnit.unit) else none else none else some (x.fst, (0 : Int), PUnit.unit)) ([], (0 : Int), PUnit.unit)
noncomputable def bridle_quotients (x0 : Int) (x1 : List Int) : Option ((List (Int × Int)) × Int × Unit) := bridle_quotients_b lpK jnK ratio_Make x0 x1
noncomputable def c54 : Ctr := ⟨[i64, (.sl i64)], [], [], .tup [(.sl T41), i64], fun x _ _ => bridle_quotients x.1 x.2.1⟩
theorem e54 (lp : Lp) (jn : Jn) (ratio_Make : (Int) → (Int) → Option ((Int × Int) × Int × Unit)) : ∀ (x : TsS c54.as) (F : TsF c54.fs) (y : TsS c54.cs), bridle_quotients_b lp jn ratio_Make x.1 x.2.1 = runC lp jn (ctxOf prog shs inls [(88, ⟨[i64, i64], [], [], .tup [T41, i64], fun x _ _ => ratio_Make x.1 x.2.1⟩)] []) hints 4 54 f54 c54 x F y := fun x F y => by kernel_rfl
theorem l54 : (ctxOf prog shs inls [(88, c88)] []).ok := ctxOf_cons (q0) (by kernel_rfl) ok88
theorem ok54 : c54.ok prog 54 := Ctr.of_den l54 hmix (hl := hints) (d := 4) func54 rfl (by decide) (e54 lpK jnK ratio_Make)

/-- loftblock bridle.single -/
noncomputable def bridle_single_b (_ : Lp) (_ : Jn) (bridle_quotients : (Int) → (List Int) → Option ((List (Int × Int)) × Int × Unit)) (x0 : Int × Int × Int) (x1 : Int) : Option ((List (Int × Int)) × Int × Unit) :=
  
  let v4 : Bool := !decide (x0.fst = (0 : Int));
  let v5 : Bool := !v4;
  let v6 : Bool := !v5 || v5; bif decide (x1 = (0 : Int)) then obind (bridle_quotients (1 : Int) [(0 : Int)]) fun (t : List (Int × Int) × Int × PUnit) => some (t.fst, t.snd.fst, PUnit.unit)
    else bif v6 then bif v6 then bif v4 || v5 then bif bif v4 then true else !decide (x0.snd.fst = (0 : Int)) then some ([], (22 : Int), PUnit.unit) else obind (bridle_quotients x0.snd.snd
    [x1]) fun (t : List (Int × Int) × Int × PUnit) => some (t.fst, t.snd.fst, PUnit.unit) else none else none else none
noncomputable def bridle_single (x0 : Int × Int × Int) (x1 : Int) : Option ((List (Int × Int)) × Int × Unit) := bridle_single_b lpK jnK bridle_quotients x0 x1
noncomputable def c49 : Ctr := ⟨[T23, i64], [], [], .tup [(.sl T41), i64], fun x _ _ => bridle_single x.1 x.2.1⟩
theorem e49 (lp : Lp) (jn : Jn) (bridle_quotients : (Int) → (List Int) → Option ((List (Int × Int)) × Int × Unit)) : ∀ (x : TsS c49.as) (F : TsF c49.fs) (y : TsS c49.cs), bridle_single_b lp jn bridle_quotients x.1 x.2.1 = runC lp jn (ctxOf prog shs inls [(54, ⟨[i64, (.sl i64)], [], [], .tup [(.sl T41), i64], fun x _ _ => bridle_quotients x.1 x.2.1⟩)] []) hints 4 49 f49 c49 x F y := fun x F y => by kernel_rfl
theorem l49 : (ctxOf prog shs inls [(54, c54)] []).ok := ctxOf_cons (q0) (by kernel_rfl) ok54
theorem ok49 : c49.ok prog 49 := Ctr.of_den l49 hmix (hl := hints) (d := 4) func49 rfl (by decide) (e49 lpK jnK bridle_quotients)

/-- loftblock bridle.cross -/
noncomputable def bridle_cross_b (_ : Lp) (_ : Jn) (x0 : Int × Int × Int) (x1 : Int × Int × Int) : Option (Int × Int × Int) :=
  some (IntKind.wrap IntKind.i64 (IntKind.wrap IntKind.i64 (x0.snd.fst * x1.snd.snd) - IntKind.wrap IntKind.i64 (x0.snd.snd * x1.snd.fst)), IntKind.wrap IntKind.i64 (IntKind.wrap IntKind.i64
    (x0.snd.snd * x1.fst) - IntKind.wrap IntKind.i64 (x0.fst * x1.snd.snd)), IntKind.wrap IntKind.i64 (IntKind.wrap IntKind.i64 (x0.fst * x1.snd.fst) - IntKind.wrap IntKind.i64 (x0.snd.fst
    * x1.fst)))
noncomputable def bridle_cross (x0 : Int × Int × Int) (x1 : Int × Int × Int) : Option (Int × Int × Int) := bridle_cross_b lpK jnK x0 x1
noncomputable def c52 : Ctr := ⟨[T23, T23], [], [], .one T23, fun x _ _ => bridle_cross x.1 x.2.1⟩
theorem e52 (lp : Lp) (jn : Jn) : ∀ (x : TsS c52.as) (F : TsF c52.fs) (y : TsS c52.cs), bridle_cross_b lp jn x.1 x.2.1 = runC lp jn (ctxOf prog shs inls [] []) hints 4 52 f52 c52 x F y := fun x F y => by kernel_rfl
theorem l52 : (ctxOf prog shs inls [] []).ok := q0
theorem ok52 : c52.ok prog 52 := Ctr.of_den l52 hmix (hl := hints) (d := 4) func52 rfl (by decide) (e52 lpK jnK)

/-- loftblock bridle.upright -/
noncomputable def bridle_upright_b (lp : Lp) (_ : Jn) (bridle_cross : (Int × Int × Int) → (Int × Int × Int) → Option (Int × Int × Int)) (x0 : List (Int × Int × Int)) : Option Bool :=
  
  let v3 : Bool := inB (0 : Int) (List.length x0);
  let v4 : Bool := decide ((List.getD x0 (0 : Nat) ((0 : Int), (0 : Int), (0 : Int))).fst = (0 : Int));
  let v5 : Bool := !v4;
  let v6 : Bool := v5 || v4; lp (Int × (Int × Int × Int) × PUnit) Bool (fun (again : Int × (Int × Int × Int) × PUnit → Option Bool) (x : Int × (Int × Int × Int) × PUnit) =>
  let v9 : Bool := decide (x.snd.fst.snd.snd = (0 : Int)); bif decide (x.fst < (↑(List.length x0) : Int)) then lp (Int × (Int × Int × Int) × PUnit) Bool (fun (again_1 : Int × (Int × Int ×
    Int) × PUnit → Option Bool) (x_1 : Int × (Int × Int × Int) × PUnit) =>
  let v12 : Int := IntKind.wrap IntKind.i64 (x_1.fst + (1 : Int));
  let v13 : (Int × Int × Int) × PUnit := (x_1.snd.fst, PUnit.unit); bif decide (x_1.fst < x.fst) then bif inB x_1.fst (List.length x0) then bif inB x.fst (List.length x0) then obind
    (bridle_cross (List.getD x0 (Int.toNat x_1.fst) ((0 : Int), (0 : Int), (0 : Int))) (List.getD x0 (Int.toNat x.fst) ((0 : Int), (0 : Int), (0 : Int)))) fun (t : Int × Int × Int) => bif
    !(decide (t.fst = (0 : Int)) && (decide (t.snd.fst = (0 : Int)) && (decide (t.snd.snd = (0 : Int)) && true))) then again_1 (v12, t, PUnit.unit) else again_1 (v12, v13) else none else
    none else again (IntKind.wrap IntKind.i64 (x.fst + (1 : Int)), v13)) ((0 : Int), x.snd.fst, PUnit.unit) else bif !(decide (x.snd.fst.fst = (0 : Int)) && (decide (x.snd.fst.snd.fst = (0
    : Int)) && (v9 && true))) then some v9 else bif v3 then bif v6 && (v5 || v3) then bif v6 then bif v6 then bif v6 then bif v6 then some (bif v4 then decide ((List.getD x0 (0 : Nat) ((0 :
    Int), (0 : Int), (0 : Int))).snd.fst = (0 : Int)) else false) else none else none else none else none else none else none) ((0 : Int), ((0 : Int), (0 : Int), (0 : Int)), PUnit.unit)
noncomputable def bridle_upright (x0 : List (Int × Int × Int)) : Option Bool := bridle_upright_b lpK jnK bridle_cross x0
noncomputable def c87 : Ctr := ⟨[(.sl T23)], [], [], .one .bool, fun x _ _ => bridle_upright x.1⟩
theorem e87 (lp : Lp) (jn : Jn) (bridle_cross : (Int × Int × Int) → (Int × Int × Int) → Option (Int × Int × Int)) : ∀ (x : TsS c87.as) (F : TsF c87.fs) (y : TsS c87.cs), bridle_upright_b lp jn bridle_cross x.1 = runC lp jn (ctxOf prog shs inls [(52, ⟨[T23, T23], [], [], .one T23, fun x _ _ => bridle_cross x.1 x.2.1⟩)] []) hints 4 87 f87 c87 x F y := fun x F y => by kernel_rfl
theorem l87 : (ctxOf prog shs inls [(52, c52)] []).ok := ctxOf_cons (q0) (by kernel_rfl) ok52
theorem ok87 : c87.ok prog 87 := Ctr.of_den l87 hmix (hl := hints) (d := 4) func87 rfl (by decide) (e87 lpK jnK bridle_cross)

/-- loftblock bridle.dependent -/
noncomputable def bridle_dependent_b (_ : Lp) (_ : Jn) (bridle_upright : (List (Int × Int × Int)) → Option (Bool)) (x0 : List (Int × Int × Int)) (x1 : Int) : Option Int :=
  
  let v4 : Bool := decide (x1 = (0 : Int));
  let v5 : Bool := !v4; bif !v5 || v5 then obind (bif v5 then bridle_upright x0 else some false) fun (t : Bool) => bif v4 || v5 then bif bif v4 then true else t then some (21 : Int) else
    some (22 : Int) else none else none
noncomputable def bridle_dependent (x0 : List (Int × Int × Int)) (x1 : Int) : Option Int := bridle_dependent_b lpK jnK bridle_upright x0 x1
noncomputable def c53 : Ctr := ⟨[(.sl T23), i64], [], [], .one i64, fun x _ _ => bridle_dependent x.1 x.2.1⟩
theorem e53 (lp : Lp) (jn : Jn) (bridle_upright : (List (Int × Int × Int)) → Option (Bool)) : ∀ (x : TsS c53.as) (F : TsF c53.fs) (y : TsS c53.cs), bridle_dependent_b lp jn bridle_upright x.1 x.2.1 = runC lp jn (ctxOf prog shs inls [(87, ⟨[(.sl T23)], [], [], .one .bool, fun x _ _ => bridle_upright x.1⟩)] []) hints 4 53 f53 c53 x F y := fun x F y => by kernel_rfl
theorem l53 : (ctxOf prog shs inls [(87, c87)] []).ok := ctxOf_cons (q0) (by kernel_rfl) ok87
theorem ok53 : c53.ok prog 53 := Ctr.of_den l53 hmix (hl := hints) (d := 4) func53 rfl (by decide) (e53 lpK jnK bridle_upright)

/-- loftblock bridle.double -/
noncomputable def bridle_double_b (_ : Lp) (_ : Jn) (bridle_quotients : (Int) → (List Int) → Option ((List (Int × Int)) × Int × Unit)) (bridle_cross : (Int × Int × Int) → (Int × Int × Int) → Option (Int × Int × Int)) (bridle_dependent : (List (Int × Int × Int)) → (Int) → Option (Int)) (x0 : Int × Int × Int) (x1 : Int × Int × Int) (x2 : Int) : Option ((List (Int × Int)) × Int × Unit) :=
  
  let v5 : Bool := !decide (x2 = (0 : Int));
  let v6 : Int × Int × Int := ((0 : Int), (0 : Int), x2);
  let v7 : Bool := !v5 || v5; obind (bridle_cross x0 x1) fun (t : Int × Int × Int) =>
  let v9 : Bool := decide (t.fst = (0 : Int));
  let v10 : Bool := decide (t.snd.fst = (0 : Int));
  let v11 : Bool := decide (t.snd.snd = (0 : Int)); bif v9 && (v10 && (v11 && true)) then obind (bridle_dependent [x0, x1] x2) fun (t : Int) => some ([], t, PUnit.unit) else bif v7 then bif
    v7 then bif v7 then bif bif v5 then !v11 else false then some ([], (22 : Int), PUnit.unit) else obind (bridle_cross v6 x1) fun (t_1 : Int × Int × Int) => obind (bridle_cross x0 v6) fun
    (t_2 : Int × Int × Int) => bif !v9 then obind (bridle_quotients t.fst [t_1.fst, t_2.fst]) fun (t : List (Int × Int) × Int × PUnit) => some (t.fst, t.snd.fst, PUnit.unit) else bif !v10
    then obind (bridle_quotients t.snd.fst [t_1.snd.fst, t_2.snd.fst]) fun (t : List (Int × Int) × Int × PUnit) => some (t.fst, t.snd.fst, PUnit.unit) else obind (bridle_quotients t.snd.snd
    [t_1.snd.snd, t_2.snd.snd]) fun (t : List (Int × Int) × Int × PUnit) => some (t.fst, t.snd.fst, PUnit.unit) else none else none else none
noncomputable def bridle_double (x0 : Int × Int × Int) (x1 : Int × Int × Int) (x2 : Int) : Option ((List (Int × Int)) × Int × Unit) := bridle_double_b lpK jnK bridle_quotients bridle_cross bridle_dependent x0 x1 x2
noncomputable def c50 : Ctr := ⟨[T23, T23, i64], [], [], .tup [(.sl T41), i64], fun x _ _ => bridle_double x.1 x.2.1 x.2.2.1⟩
theorem e50 (lp : Lp) (jn : Jn) (bridle_quotients : (Int) → (List Int) → Option ((List (Int × Int)) × Int × Unit)) (bridle_cross : (Int × Int × Int) → (Int × Int × Int) → Option (Int × Int × Int)) (bridle_dependent : (List (Int × Int × Int)) → (Int) → Option (Int)) : ∀ (x : TsS c50.as) (F : TsF c50.fs) (y : TsS c50.cs), bridle_double_b lp jn bridle_quotients bridle_cross bridle_dependent x.1 x.2.1 x.2.2.1 = runC lp jn (ctxOf prog shs inls [(53, ⟨[(.sl T23), i64], [], [], .one i64, fun x _ _ => bridle_dependent x.1 x.2.1⟩), (52, ⟨[T23, T23], [], [], .one T23, fun x _ _ => bridle_cross x.1 x.2.1⟩), (54, ⟨[i64, (.sl i64)], [], [], .tup [(.sl T41), i64], fun x _ _ => bridle_quotients x.1 x.2.1⟩)] []) hints 4 50 f50 c50 x F y := fun x F y => by kernel_rfl
theorem l50 : (ctxOf prog shs inls [(53, c53), (52, c52), (54, c54)] []).ok := ctxOf_cons (ctxOf_cons (ctxOf_cons (q0) (by kernel_rfl) ok54) (by kernel_rfl) ok52) (by kernel_rfl) ok53
theorem ok50 : c50.ok prog 50 := Ctr.of_den l50 hmix (hl := hints) (d := 4) func50 rfl (by decide) (e50 lpK jnK bridle_quotients bridle_cross bridle_dependent)

/-- loftblock bridle.dot -/
noncomputable def bridle_dot_b (_ : Lp) (_ : Jn) (x0 : Int × Int × Int) (x1 : Int × Int × Int) : Option Int :=
  some (IntKind.wrap IntKind.i64 (IntKind.wrap IntKind.i64 (IntKind.wrap IntKind.i64 (x0.fst * x1.fst) + IntKind.wrap IntKind.i64 (x0.snd.fst * x1.snd.fst)) + IntKind.wrap IntKind.i64
    (x0.snd.snd * x1.snd.snd)))
noncomputable def bridle_dot (x0 : Int × Int × Int) (x1 : Int × Int × Int) : Option Int := bridle_dot_b lpK jnK x0 x1
noncomputable def c51 : Ctr := ⟨[T23, T23], [], [], .one i64, fun x _ _ => bridle_dot x.1 x.2.1⟩
theorem e51 (lp : Lp) (jn : Jn) : ∀ (x : TsS c51.as) (F : TsF c51.fs) (y : TsS c51.cs), bridle_dot_b lp jn x.1 x.2.1 = runC lp jn (ctxOf prog shs inls [] []) hints 4 51 f51 c51 x F y := fun x F y => by kernel_rfl
theorem l51 : (ctxOf prog shs inls [] []).ok := q0
theorem ok51 : c51.ok prog 51 := Ctr.of_den l51 hmix (hl := hints) (d := 4) func51 rfl (by decide) (e51 lpK jnK)

/-- loftblock bridle.solve -/
noncomputable def bridle_solve_b (lp : Lp) (_ : Jn) (bridle_arm : ((Int × Int × Int) × Int × List (ByteArray × (Int × Int × Int) × Int)) → (Int) → Option (Int × Int × Int)) (bridle_quotients : (Int) → (List Int) → Option ((List (Int × Int)) × Int × Unit)) (bridle_single : (Int × Int × Int) → (Int) → Option ((List (Int × Int)) × Int × Unit)) (bridle_cross : (Int × Int × Int) → (Int × Int × Int) → Option (Int × Int × Int)) (bridle_dependent : (List (Int × Int × Int)) → (Int) → Option (Int)) (bridle_double : (Int × Int × Int) → (Int × Int × Int) → (Int) → Option ((List (Int × Int)) × Int × Unit)) (bridle_dot : (Int × Int × Int) → (Int × Int × Int) → Option (Int)) (x0 : (Int × Int × Int) × Int × List (ByteArray × (Int × Int × Int) × Int)) : Option ((List (Int × Int)) × Int × Unit) :=
  lp (List (Int × Int × Int) × Int × PUnit) (List (Int × Int) × Int × PUnit) (fun (again : List (Int × Int × Int) × Int × PUnit → Option (List (Int × Int) × Int × PUnit)) (x : List (Int × Int
    × Int) × Int × PUnit) =>
  let v5 : Bool := inB (0 : Int) (List.length x.fst);
  let v6 : Bool := Nat.ble (1 : Nat) (List.length x.fst);
  let v7 : Bool := inB (1 : Int) (List.length x.fst);
  let v8 : Bool := Nat.ble (2 : Nat) (List.length x.fst);
  let v9 : Bool := inB (2 : Int) (List.length x.fst);
  let v10 : Bool := Nat.ble (3 : Nat) (List.length x.fst);
  let v11 : Int × Int × Int := List.getD x.fst (0 : Nat) ((0 : Int), (0 : Int), (0 : Int));
  let v12 : Int × Int × Int := List.getD x.fst (1 : Nat) ((0 : Int), (0 : Int), (0 : Int));
  let v13 : Int × Int × Int := List.getD x.fst (2 : Nat) ((0 : Int), (0 : Int), (0 : Int)); bif decide (x.snd.fst < (↑(List.length x0.snd.snd) : Int)) then obind (bridle_arm x0 x.snd.fst)
    fun (t : Int × Int × Int) => bif fitB (List.length x.fst + (1 : Nat)) (24 : Nat) then again (x.fst ++ [t], IntKind.wrap IntKind.i64 (x.snd.fst + (1 : Int)), PUnit.unit) else none else
    bif decide ((↑(List.length x.fst) : Int) = (1 : Int)) then bif v5 then bif v6 then obind (bridle_single v11 x0.snd.fst) fun (t : List (Int × Int) × Int × PUnit) => some (t.fst,
    t.snd.fst, PUnit.unit) else none else none else bif decide ((↑(List.length x.fst) : Int) = (2 : Int)) then bif v5 then bif v6 then bif v7 then bif v8 then obind (bridle_double v11 v12
    x0.snd.fst) fun (t : List (Int × Int) × Int × PUnit) => some (t.fst, t.snd.fst, PUnit.unit) else none else none else none else none else bif v5 then bif v6 then bif v7 then bif v8 then
    bif v9 then bif v10 then obind (bridle_cross v12 v13) fun (t : Int × Int × Int) => obind (bridle_dot v11 t) fun (t : Int) => bif decide (t = (0 : Int)) then obind (bridle_dependent
    x.fst x0.snd.fst) fun (t : Int) => some ([], t, PUnit.unit) else bif v7 then bif v8 then bif v9 then bif v10 then obind (bridle_cross v12 v13) fun (t_1 : Int × Int × Int) => bif v9 then
    bif v10 then bif v5 then bif v6 then obind (bridle_cross v13 v11) fun (t_2 : Int × Int × Int) => bif v5 then bif v6 then bif v7 then bif v8 then obind (bridle_cross v11 v12) fun (t_3 :
    Int × Int × Int) => obind (bridle_quotients t [IntKind.wrap IntKind.i64 (x0.snd.fst * t_1.snd.snd), IntKind.wrap IntKind.i64 (x0.snd.fst * t_2.snd.snd), IntKind.wrap IntKind.i64
    (x0.snd.fst * t_3.snd.snd)]) fun (t : List (Int × Int) × Int × PUnit) => some (t.fst, t.snd.fst, PUnit.unit) else none else none else none else none else none else none else none else
    none else none else none else none else none else none else none else none else none else none else none) ([], (0 : Int), PUnit.unit)
noncomputable def bridle_solve (x0 : (Int × Int × Int) × Int × List (ByteArray × (Int × Int × Int) × Int)) : Option ((List (Int × Int)) × Int × Unit) := bridle_solve_b lpK jnK bridle_arm bridle_quotients bridle_single bridle_cross bridle_dependent bridle_double bridle_dot x0
noncomputable def c19 : Ctr := ⟨[T26], [], [], .tup [(.sl T41), i64], fun x _ _ => bridle_solve x.1⟩
theorem e19 (lp : Lp) (jn : Jn) (bridle_arm : ((Int × Int × Int) × Int × List (ByteArray × (Int × Int × Int) × Int)) → (Int) → Option (Int × Int × Int)) (bridle_quotients : (Int) → (List Int) → Option ((List (Int × Int)) × Int × Unit)) (bridle_single : (Int × Int × Int) → (Int) → Option ((List (Int × Int)) × Int × Unit)) (bridle_cross : (Int × Int × Int) → (Int × Int × Int) → Option (Int × Int × Int)) (bridle_dependent : (List (Int × Int × Int)) → (Int) → Option (Int)) (bridle_double : (Int × Int × Int) → (Int × Int × Int) → (Int) → Option ((List (Int × Int)) × Int × Unit)) (bridle_dot : (Int × Int × Int) → (Int × Int × Int) → Option (Int)) : ∀ (x : TsS c19.as) (F : TsF c19.fs) (y : TsS c19.cs), bridle_solve_b lp jn bridle_arm bridle_quotients bridle_single bridle_cross bridle_dependent bridle_double bridle_dot x.1 = runC lp jn (ctxOf prog shs inls [(51, ⟨[T23, T23], [], [], .one i64, fun x _ _ => bridle_dot x.1 x.2.1⟩), (50, ⟨[T23, T23, i64], [], [], .tup [(.sl T41), i64], fun x _ _ => bridle_double x.1 x.2.1 x.2.2.1⟩), (53, ⟨[(.sl T23), i64], [], [], .one i64, fun x _ _ => bridle_dependent x.1 x.2.1⟩), (52, ⟨[T23, T23], [], [], .one T23, fun x _ _ => bridle_cross x.1 x.2.1⟩), (49, ⟨[T23, i64], [], [], .tup [(.sl T41), i64], fun x _ _ => bridle_single x.1 x.2.1⟩), (54, ⟨[i64, (.sl i64)], [], [], .tup [(.sl T41), i64], fun x _ _ => bridle_quotients x.1 x.2.1⟩), (23, ⟨[T26, i64], [], [], .one T23, fun x _ _ => bridle_arm x.1 x.2.1⟩)] []) hints 4 19 f19 c19 x F y := fun x F y => by kernel_rfl
theorem l19 : (ctxOf prog shs inls [(51, c51), (50, c50), (53, c53), (52, c52), (49, c49), (54, c54), (23, c23)] []).ok := ctxOf_cons (ctxOf_cons (ctxOf_cons (ctxOf_cons (ctxOf_cons (ctxOf_cons (ctxOf_cons (q0) (by kernel_rfl) ok23) (by kernel_rfl) ok54) (by kernel_rfl) ok49) (by kernel_rfl) ok52) (by kernel_rfl) ok53) (by kernel_rfl) ok50) (by kernel_rfl) ok51
theorem ok19 : c19.ok prog 19 := Ctr.of_den l19 hmix (hl := hints) (d := 4) func19 rfl (by decide) (e19 lpK jnK bridle_arm bridle_quotients bridle_single bridle_cross bridle_dependent bridle_double bridle_dot)

/-- loftblock bridle.Pulls -/
noncomputable def bridle_Pulls_b (_ : Lp) (_ : Jn) (bridle_Valid : ((Int × Int × Int) × Int × List (ByteArray × (Int × Int × Int) × Int)) → Option (Bool)) (bridle_solve : ((Int × Int × Int) × Int × List (ByteArray × (Int × Int × Int) × Int)) → Option ((List (Int × Int)) × Int × Unit)) (x0 : (Int × Int × Int) × Int × List (ByteArray × (Int × Int × Int) × Int)) : Option ((List (Int × Int)) × Int × Unit) :=
  obind (bridle_Valid x0) fun (t : Bool) => bif !t then some ([], (1 : Int), PUnit.unit) else obind (bridle_solve x0) fun (t : List (Int × Int) × Int × PUnit) => some (t.fst, t.snd.fst,
    PUnit.unit)
noncomputable def bridle_Pulls (x0 : (Int × Int × Int) × Int × List (ByteArray × (Int × Int × Int) × Int)) : Option ((List (Int × Int)) × Int × Unit) := bridle_Pulls_b lpK jnK bridle_Valid bridle_solve x0
noncomputable def c6 : Ctr := ⟨[T26], [], [], .tup [(.sl T41), i64], fun x _ _ => bridle_Pulls x.1⟩
theorem e6 (lp : Lp) (jn : Jn) (bridle_Valid : ((Int × Int × Int) × Int × List (ByteArray × (Int × Int × Int) × Int)) → Option (Bool)) (bridle_solve : ((Int × Int × Int) × Int × List (ByteArray × (Int × Int × Int) × Int)) → Option ((List (Int × Int)) × Int × Unit)) : ∀ (x : TsS c6.as) (F : TsF c6.fs) (y : TsS c6.cs), bridle_Pulls_b lp jn bridle_Valid bridle_solve x.1 = runC lp jn (ctxOf prog shs inls [(19, ⟨[T26], [], [], .tup [(.sl T41), i64], fun x _ _ => bridle_solve x.1⟩), (18, ⟨[T26], [], [], .one .bool, fun x _ _ => bridle_Valid x.1⟩)] []) hints 4 6 f6 c6 x F y := fun x F y => by kernel_rfl
theorem l6 : (ctxOf prog shs inls [(19, c19), (18, c18)] []).ok := ctxOf_cons (ctxOf_cons (q0) (by kernel_rfl) ok18) (by kernel_rfl) ok19
theorem ok6 : c6.ok prog 6 := Ctr.of_den l6 hmix (hl := hints) (d := 4) func6 rfl (by decide) (e6 lpK jnK bridle_Valid bridle_solve)

/-- slices.Equal[[]loftblock api.Frac,loftblock api.Frac] -/
noncomputable def slices_Equal_11_b (lp : Lp) (_ : Jn) (x0 : List (Int × Int)) (x1 : List (Int × Int)) : Option Bool :=
  bif !decide ((↑(List.length x0) : Int) = (↑(List.length x1) : Int)) then some false else lp (Int × PUnit) Bool (fun (again : Int × PUnit → Option Bool) (x : Int × PUnit) => bif decide
    (x.fst < (↑(List.length x0) : Int)) then bif inB x.fst (List.length x0) then bif inB x.fst (List.length x1) then bif !(decide ((List.getD x0 (Int.toNat x.fst) ((0 : Int), (0 :
    Int))).fst = (List.getD x1 (Int.toNat x.fst) ((0 : Int), (0 : Int))).fst) && (decide ((List.getD x0 (Int.toNat x.fst) ((0 : Int), (0 : Int))).snd = (List.getD x1 (Int.toNat x.fst) ((0 :
    Int), (0 : Int))).snd) && true)) then some false else again (IntKind.wrap IntKind.i64 (x.fst + (1 : Int)), PUnit.unit) else none else none else some true) ((0 : Int), PUnit.unit)
noncomputable def slices_Equal_11 (x0 : List (Int × Int)) (x1 : List (Int × Int)) : Option Bool := slices_Equal_11_b lpK jnK x0 x1
noncomputable def c11 : Ctr := ⟨[(.sl T41), (.sl T41)], [], [], .one .bool, fun x _ _ => slices_Equal_11 x.1 x.2.1⟩
theorem e11 (lp : Lp) (jn : Jn) : ∀ (x : TsS c11.as) (F : TsF c11.fs) (y : TsS c11.cs), slices_Equal_11_b lp jn x.1 x.2.1 = runC lp jn (ctxOf prog shs inls [] []) hints 4 11 f11 c11 x F y := fun x F y => by kernel_rfl
theorem l11 : (ctxOf prog shs inls [] []).ok := q0
theorem ok11 : c11.ok prog 11 := Ctr.of_den l11 hmix (hl := hints) (d := 4) func11 rfl (by decide) (e11 lpK jnK)

/-- loftblock loftblocklaw18.example -/
noncomputable def law18_example_b (_ : Lp) (_ : Jn) : Option ((Int × Int × Int) × Int × List (ByteArray × (Int × Int × Int) × Int)) :=
  some (((0 : Int), (0 : Int), (0 : Int)), (1000 : Int), [({ data := #[(97 : UInt8)] }, ((-4000 : Int), (0 : Int), (3000 : Int)), (900 : Int)), ({ data := #[(98 : UInt8)] }, ((4000 : Int), (0
    : Int), (3000 : Int)), (834 : Int))])
noncomputable def law18_example : Option ((Int × Int × Int) × Int × List (ByteArray × (Int × Int × Int) × Int)) := law18_example_b lpK jnK
noncomputable def c12 : Ctr := ⟨[], [], [], .one T26, fun _ _ _ => law18_example⟩
theorem e12 (lp : Lp) (jn : Jn) : ∀ (x : TsS c12.as) (F : TsF c12.fs) (y : TsS c12.cs), law18_example_b lp jn = runC lp jn (ctxOf prog shs inls [] []) hints 4 12 f12 c12 x F y := fun x F y => by kernel_rfl
theorem l12 : (ctxOf prog shs inls [] []).ok := q0
theorem ok12 : c12.ok prog 12 := Ctr.of_den l12 hmix (hl := hints) (d := 4) func12 rfl (by decide) (e12 lpK jnK)

/-- loftblock bridle.pull -/
noncomputable def bridle_pull_b (_ : Lp) (_ : Jn) (bridle_find : ((Int × Int × Int) × Int × List (ByteArray × (Int × Int × Int) × Int)) → (ByteArray) → Option (Int)) (bridle_Valid : ((Int × Int × Int) × Int × List (ByteArray × (Int × Int × Int) × Int)) → Option (Bool)) (bridle_solve : ((Int × Int × Int) × Int × List (ByteArray × (Int × Int × Int) × Int)) → Option ((List (Int × Int)) × Int × Unit)) (x0 : (Int × Int × Int) × Int × List (ByteArray × (Int × Int × Int) × Int)) (x1 : ByteArray) : Option (Int × (Int × Int) × Int × Unit) :=
  obind (bridle_Valid x0) fun (t : Bool) => bif !t then some ((0 : Int), ((0 : Int), (0 : Int)), (1 : Int), PUnit.unit) else obind (bridle_find x0 x1) fun (t : Int) => bif decide (t < (0 :
    Int)) then some ((0 : Int), ((0 : Int), (0 : Int)), (9 : Int), PUnit.unit) else obind (bridle_solve x0) fun (t_1 : List (Int × Int) × Int × PUnit) => bif !decide (t_1.snd.fst = (0 :
    Int)) then some ((0 : Int), ((0 : Int), (0 : Int)), t_1.snd.fst, PUnit.unit) else bif inB t (List.length t_1.fst) then some (t, List.getD t_1.fst (Int.toNat t) ((0 : Int), (0 : Int)),
    (0 : Int), PUnit.unit) else none
noncomputable def bridle_pull (x0 : (Int × Int × Int) × Int × List (ByteArray × (Int × Int × Int) × Int)) (x1 : ByteArray) : Option (Int × (Int × Int) × Int × Unit) := bridle_pull_b lpK jnK bridle_find bridle_Valid bridle_solve x0 x1
noncomputable def c39 : Ctr := ⟨[T26, .str], [], [], .tup [i64, T41, i64], fun x _ _ => bridle_pull x.1 x.2.1⟩
theorem e39 (lp : Lp) (jn : Jn) (bridle_find : ((Int × Int × Int) × Int × List (ByteArray × (Int × Int × Int) × Int)) → (ByteArray) → Option (Int)) (bridle_Valid : ((Int × Int × Int) × Int × List (ByteArray × (Int × Int × Int) × Int)) → Option (Bool)) (bridle_solve : ((Int × Int × Int) × Int × List (ByteArray × (Int × Int × Int) × Int)) → Option ((List (Int × Int)) × Int × Unit)) : ∀ (x : TsS c39.as) (F : TsF c39.fs) (y : TsS c39.cs), bridle_pull_b lp jn bridle_find bridle_Valid bridle_solve x.1 x.2.1 = runC lp jn (ctxOf prog shs inls [(19, ⟨[T26], [], [], .tup [(.sl T41), i64], fun x _ _ => bridle_solve x.1⟩), (18, ⟨[T26], [], [], .one .bool, fun x _ _ => bridle_Valid x.1⟩), (41, ⟨[T26, .str], [], [], .one i64, fun x _ _ => bridle_find x.1 x.2.1⟩)] []) hints 4 39 f39 c39 x F y := fun x F y => by kernel_rfl
theorem l39 : (ctxOf prog shs inls [(19, c19), (18, c18), (41, c41)] []).ok := ctxOf_cons (ctxOf_cons (ctxOf_cons (q0) (by kernel_rfl) ok41) (by kernel_rfl) ok18) (by kernel_rfl) ok19
theorem ok39 : c39.ok prog 39 := Ctr.of_den l39 hmix (hl := hints) (d := 4) func39 rfl (by decide) (e39 lpK jnK bridle_find bridle_Valid bridle_solve)

/-- slices.IndexFunc[[]loftblock api.Point,loftblock api.Point] -/
noncomputable def slices_IndexFunc_106_b (lp : Lp) (_ : Jn) (x0 : List (Int × Int × Int)) (f0 : (((Int × Int × Int) × Unit) → Option Bool)) : Option Int :=
  lp (Int × PUnit) Int (fun (again : Int × PUnit → Option Int) (x : Int × PUnit) => bif decide (x.fst < (↑(List.length x0) : Int)) then bif inB x.fst (List.length x0) then obind (f0
    (List.getD x0 (Int.toNat x.fst) ((0 : Int), (0 : Int), (0 : Int)), PUnit.unit)) fun (t : Bool) => bif t then some x.fst else again (IntKind.wrap IntKind.i64 (x.fst + (1 : Int)),
    PUnit.unit) else none else some (-1 : Int)) ((0 : Int), PUnit.unit)
noncomputable def slices_IndexFunc_106 (x0 : List (Int × Int × Int)) (f0 : (((Int × Int × Int) × Unit) → Option Bool)) : Option Int := slices_IndexFunc_106_b lpK jnK x0 f0
noncomputable def c106 : Ctr := ⟨[(.sl T23)], [([T23], .bool)], [], .one i64, fun x F _ => slices_IndexFunc_106 x.1 F.1⟩
theorem e106 (lp : Lp) (jn : Jn) : ∀ (x : TsS c106.as) (F : TsF c106.fs) (y : TsS c106.cs), slices_IndexFunc_106_b lp jn x.1 F.1 = runC lp jn (ctxOf prog shs inls [] []) hints 4 106 f106 c106 x F y := fun x F y => by kernel_rfl
theorem l106 : (ctxOf prog shs inls [] []).ok := q0
theorem ok106 : c106.ok prog 106 := Ctr.of_den l106 hmix (hl := hints) (d := 4) func106 rfl (by decide) (e106 lpK jnK)

/-- slices.ContainsFunc[[]loftblock api.Point,loftblock api.Point] -/
noncomputable def slices_ContainsFunc_103_b (_ : Lp) (_ : Jn) (slices_IndexFunc_106 : (List (Int × Int × Int)) → ((((Int × Int × Int) × Unit) → Option Bool)) → Option (Int)) (x0 : List (Int × Int × Int)) (f0 : (((Int × Int × Int) × Unit) → Option Bool)) : Option Bool :=
  obind (slices_IndexFunc_106 x0 f0) fun (t : Int) => some (decide (t ≥ (0 : Int)))
noncomputable def slices_ContainsFunc_103 (x0 : List (Int × Int × Int)) (f0 : (((Int × Int × Int) × Unit) → Option Bool)) : Option Bool := slices_ContainsFunc_103_b lpK jnK slices_IndexFunc_106 x0 f0
noncomputable def c103 : Ctr := ⟨[(.sl T23)], [([T23], .bool)], [], .one .bool, fun x F _ => slices_ContainsFunc_103 x.1 F.1⟩
theorem e103 (lp : Lp) (jn : Jn) (slices_IndexFunc_106 : (List (Int × Int × Int)) → ((((Int × Int × Int) × Unit) → Option Bool)) → Option (Int)) : ∀ (x : TsS c103.as) (F : TsF c103.fs) (y : TsS c103.cs), slices_ContainsFunc_103_b lp jn slices_IndexFunc_106 x.1 F.1 = runC lp jn (ctxOf prog shs inls [(106, ⟨[(.sl T23)], [([T23], .bool)], [], .one i64, fun x F _ => slices_IndexFunc_106 x.1 F.1⟩)] []) hints 4 103 f103 c103 x F y := fun x F y => by kernel_rfl
theorem l103 : (ctxOf prog shs inls [(106, c106)] []).ok := ctxOf_cons (q0) (by kernel_rfl) ok106
theorem ok103 : c103.ok prog 103 := Ctr.of_den l103 hmix (hl := hints) (d := 4) func103 rfl (by decide) (e103 lpK jnK slices_IndexFunc_106)

/-- loftblock points.all$1 -/
noncomputable def points_all_1_b (_ : Lp) (_ : Jn) (points_Valid : (Int × Int × Int) → Option (Bool)) (x0 : Int × Int × Int) : Option Bool :=
  obind (points_Valid x0) fun (t : Bool) => some !t
noncomputable def points_all_1 (x0 : Int × Int × Int) : Option Bool := points_all_1_b lpK jnK points_Valid x0
noncomputable def c104 : Ctr := ⟨[T23], [], [], .one .bool, fun x _ _ => points_all_1 x.1⟩
theorem e104 (lp : Lp) (jn : Jn) (points_Valid : (Int × Int × Int) → Option (Bool)) : ∀ (x : TsS c104.as) (F : TsF c104.fs) (y : TsS c104.cs), points_all_1_b lp jn points_Valid x.1 = runC lp jn (ctxOf prog shs inls [(45, ⟨[T23], [], [], .one .bool, fun x _ _ => points_Valid x.1⟩)] []) hints 4 104 f104 c104 x F y := fun x F y => by kernel_rfl
theorem l104 : (ctxOf prog shs inls [(45, c45)] []).ok := ctxOf_cons (q0) (by kernel_rfl) ok45
theorem ok104 : c104.ok prog 104 := Ctr.of_den l104 hmix (hl := hints) (d := 4) func104 rfl (by decide) (e104 lpK jnK points_Valid)

/-- loftblock points.all -/
noncomputable def points_all_b (_ : Lp) (_ : Jn) (slices_ContainsFunc_103 : (List (Int × Int × Int)) → ((((Int × Int × Int) × Unit) → Option Bool)) → Option (Bool)) (points_all_1 : (Int × Int × Int) → Option (Bool)) (x0 : List (Int × Int × Int)) : Option Bool :=
  obind (slices_ContainsFunc_103 x0 fun (x : (Int × Int × Int) × PUnit) => points_all_1 x.fst) fun (t : Bool) => some !t
noncomputable def points_all (x0 : List (Int × Int × Int)) : Option Bool := points_all_b lpK jnK slices_ContainsFunc_103 points_all_1 x0
noncomputable def c98 : Ctr := ⟨[(.sl T23)], [], [], .one .bool, fun x _ _ => points_all x.1⟩
theorem e98 (lp : Lp) (jn : Jn) (slices_ContainsFunc_103 : (List (Int × Int × Int)) → ((((Int × Int × Int) × Unit) → Option Bool)) → Option (Bool)) (points_all_1 : (Int × Int × Int) → Option (Bool)) : ∀ (x : TsS c98.as) (F : TsF c98.fs) (y : TsS c98.cs), points_all_b lp jn slices_ContainsFunc_103 points_all_1 x.1 = runC lp jn (ctxOf prog shs inls [(104, ⟨[T23], [], [], .one .bool, fun x _ _ => points_all_1 x.1⟩), (103, ⟨[(.sl T23)], [([T23], .bool)], [], .one .bool, fun x F _ => slices_ContainsFunc_103 x.1 F.1⟩)] []) hints 4 98 f98 c98 x F y := fun x F y => by kernel_rfl
theorem l98 : (ctxOf prog shs inls [(104, c104), (103, c103)] []).ok := ctxOf_cons (ctxOf_cons (q0) (by kernel_rfl) ok103) (by kernel_rfl) ok104
theorem ok98 : c98.ok prog 98 := Ctr.of_den l98 hmix (hl := hints) (d := 4) func98 rfl (by decide) (e98 lpK jnK slices_ContainsFunc_103 points_all_1)

/-- loftblock points.to -/
noncomputable def points_to_b (_ : Lp) (_ : Jn) (x0 : Int × Int × Int) (x1 : Int × Int × Int) : Option (Int × Int × Int) :=
  some (IntKind.wrap IntKind.i64 (x1.fst - x0.fst), IntKind.wrap IntKind.i64 (x1.snd.fst - x0.snd.fst), IntKind.wrap IntKind.i64 (x1.snd.snd - x0.snd.snd))
noncomputable def points_to (x0 : Int × Int × Int) (x1 : Int × Int × Int) : Option (Int × Int × Int) := points_to_b lpK jnK x0 x1
noncomputable def c99 : Ctr := ⟨[T23, T23], [], [], .one T128, fun x _ _ => points_to x.1 x.2.1⟩
theorem e99 (lp : Lp) (jn : Jn) : ∀ (x : TsS c99.as) (F : TsF c99.fs) (y : TsS c99.cs), points_to_b lp jn x.1 x.2.1 = runC lp jn (ctxOf prog shs inls [] []) hints 4 99 f99 c99 x F y := fun x F y => by kernel_rfl
theorem l99 : (ctxOf prog shs inls [] []).ok := q0
theorem ok99 : c99.ok prog 99 := Ctr.of_den l99 hmix (hl := hints) (d := 4) func99 rfl (by decide) (e99 lpK jnK)

/-- loftblock points.Square -/
noncomputable def points_Square_b (_ : Lp) (_ : Jn) (points_all : (List (Int × Int × Int)) → Option (Bool)) (points_to : (Int × Int × Int) → (Int × Int × Int) → Option (Int × Int × Int)) (x0 : Int × Int × Int) (x1 : Int × Int × Int) : Option (Int × Int × Unit) :=
  obind (points_all [x0, x1]) fun (t : Bool) => bif !t then some ((0 : Int), (1 : Int), PUnit.unit) else obind (points_to x0 x1) fun (t : Int × Int × Int) => some (IntKind.wrap IntKind.i64
    (IntKind.wrap IntKind.i64 (IntKind.wrap IntKind.i64 (t.fst * t.fst) + IntKind.wrap IntKind.i64 (t.snd.fst * t.snd.fst)) + IntKind.wrap IntKind.i64 (t.snd.snd * t.snd.snd)), (0 : Int),
    PUnit.unit)
noncomputable def points_Square (x0 : Int × Int × Int) (x1 : Int × Int × Int) : Option (Int × Int × Unit) := points_Square_b lpK jnK points_all points_to x0 x1
noncomputable def c83 : Ctr := ⟨[T23, T23], [], [], .tup [i64, i64], fun x _ _ => points_Square x.1 x.2.1⟩
theorem e83 (lp : Lp) (jn : Jn) (points_all : (List (Int × Int × Int)) → Option (Bool)) (points_to : (Int × Int × Int) → (Int × Int × Int) → Option (Int × Int × Int)) : ∀ (x : TsS c83.as) (F : TsF c83.fs) (y : TsS c83.cs), points_Square_b lp jn points_all points_to x.1 x.2.1 = runC lp jn (ctxOf prog shs inls [(99, ⟨[T23, T23], [], [], .one T128, fun x _ _ => points_to x.1 x.2.1⟩), (98, ⟨[(.sl T23)], [], [], .one .bool, fun x _ _ => points_all x.1⟩)] []) hints 4 83 f83 c83 x F y := fun x F y => by kernel_rfl
theorem l83 : (ctxOf prog shs inls [(99, c99), (98, c98)] []).ok := ctxOf_cons (ctxOf_cons (q0) (by kernel_rfl) ok98) (by kernel_rfl) ok99
theorem ok83 : c83.ok prog 83 := Ctr.of_den l83 hmix (hl := hints) (d := 4) func83 rfl (by decide) (e83 lpK jnK points_all points_to)

/-- loftblock points.Root -/
noncomputable def points_Root_b (lp : Lp) (_ : Jn) (x0 : Int) : Option ((Int × Int) × Int × Unit) :=
  
  let v3 : Bool := decide (x0 < (0 : Int));
  let v4 : Bool := !v3; bif !v4 || v4 then bif v3 || v4 then bif bif v3 then true else decide (x0 > (1152921504606846976 : Int)) then some (((0 : Int), (0 : Int)), (2 : Int), PUnit.unit)
    else lp (Int × Int × PUnit) ((Int × Int) × Int × PUnit) (fun (again : Int × Int × PUnit → Option ((Int × Int) × Int × PUnit)) (x : Int × Int × PUnit) =>
  let v7 : Int × PUnit := (IntKind.wrap IntKind.i64 (Int.tdiv x.snd.fst (2 : Int)), PUnit.unit); bif decide (x.snd.fst > (0 : Int)) then bif decide (IntKind.wrap IntKind.i64 (IntKind.wrap
    IntKind.i64 (x.fst + x.snd.fst) * IntKind.wrap IntKind.i64 (x.fst + x.snd.fst)) ≤ x0) then again (IntKind.wrap IntKind.i64 (x.fst + x.snd.fst), v7) else again (x.fst, v7) else bif
    decide (IntKind.wrap IntKind.i64 (x.fst * x.fst) < x0) then some ((x.fst, IntKind.wrap IntKind.i64 (x.fst + (1 : Int))), (0 : Int), PUnit.unit) else some ((x.fst, x.fst), (0 : Int),
    PUnit.unit)) ((0 : Int), (1073741824 : Int), PUnit.unit) else none else none
noncomputable def points_Root (x0 : Int) : Option ((Int × Int) × Int × Unit) := points_Root_b lpK jnK x0
noncomputable def c84 : Ctr := ⟨[i64], [], [], .tup [T45, i64], fun x _ _ => points_Root x.1⟩
theorem e84 (lp : Lp) (jn : Jn) : ∀ (x : TsS c84.as) (F : TsF c84.fs) (y : TsS c84.cs), points_Root_b lp jn x.1 = runC lp jn (ctxOf prog shs inls [] []) hints 4 84 f84 c84 x F y := fun x F y => by kernel_rfl
theorem l84 : (ctxOf prog shs inls [] []).ok := q0
theorem ok84 : c84.ok prog 84 := Ctr.of_den l84 hmix (hl := hints) (d := 4) func84 rfl (by decide) (e84 lpK jnK)

/-- loftblock bridle.length -/
noncomputable def bridle_length_b (_ : Lp) (_ : Jn) (points_Square : (Int × Int × Int) → (Int × Int × Int) → Option (Int × Int × Unit)) (points_Root : (Int) → Option ((Int × Int) × Int × Unit)) (x0 : (Int × Int × Int) × Int × List (ByteArray × (Int × Int × Int) × Int)) (x1 : Int) : Option ((Int × Int) × Int × Unit) :=
  bif inB x1 (List.length x0.snd.snd) then obind (points_Square x0.fst (List.getD x0.snd.snd (Int.toNat x1) ({ data := { toList := [] } }, ((0 : Int), (0 : Int), (0 : Int)), (0 :
    Int))).snd.fst) fun (t : Int × Int × PUnit) => bif !decide (t.snd.fst = (0 : Int)) then some (((0 : Int), (0 : Int)), t.snd.fst, PUnit.unit) else obind (points_Root (IntKind.wrap
    IntKind.i64 ((1000000 : Int) * t.fst))) fun (t : (Int × Int) × Int × PUnit) => some (t.fst, t.snd.fst, PUnit.unit) else none
noncomputable def bridle_length (x0 : (Int × Int × Int) × Int × List (ByteArray × (Int × Int × Int) × Int)) (x1 : Int) : Option ((Int × Int) × Int × Unit) := bridle_length_b lpK jnK points_Square points_Root x0 x1
noncomputable def c42 : Ctr := ⟨[T26, i64], [], [], .tup [T45, i64], fun x _ _ => bridle_length x.1 x.2.1⟩
theorem e42 (lp : Lp) (jn : Jn) (points_Square : (Int × Int × Int) → (Int × Int × Int) → Option (Int × Int × Unit)) (points_Root : (Int) → Option ((Int × Int) × Int × Unit)) : ∀ (x : TsS c42.as) (F : TsF c42.fs) (y : TsS c42.cs), bridle_length_b lp jn points_Square points_Root x.1 x.2.1 = runC lp jn (ctxOf prog shs inls [(84, ⟨[i64], [], [], .tup [T45, i64], fun x _ _ => points_Root x.1⟩), (83, ⟨[T23, T23], [], [], .tup [i64, i64], fun x _ _ => points_Square x.1 x.2.1⟩)] []) hints 4 42 f42 c42 x F y := fun x F y => by kernel_rfl
theorem l42 : (ctxOf prog shs inls [(84, c84), (83, c83)] []).ok := ctxOf_cons (ctxOf_cons (q0) (by kernel_rfl) ok83) (by kernel_rfl) ok84
theorem ok42 : c42.ok prog 42 := Ctr.of_den l42 hmix (hl := hints) (d := 4) func42 rfl (by decide) (e42 lpK jnK points_Square points_Root)

/-- loftblock ratio.Valid -/
noncomputable def ratio_Valid_b (_ : Lp) (_ : Jn) (ratio_gcd : (Int) → (Int) → Option (Int)) (ratio_size : (Int) → Option (Int)) (x0 : Int × Int) : Option Bool :=
  
  let v3 : Bool := decide (x0.snd ≥ (1 : Int));
  let v4 : Bool := !v3 || v3;
  let v5 : Bool := bif v3 then decide (x0.snd ≤ (1152921504606846976 : Int)) else false;
  let v6 : Bool := bif v5 then decide (x0.fst ≥ (-1152921504606846976 : Int)) else false;
  let v7 : Bool := !v5 || v5;
  let v8 : Bool := bif v6 then decide (x0.fst ≤ (1152921504606846976 : Int)) else false;
  let v9 : Bool := !v6 || v6;
  let v10 : Bool := !v8 || v8; bif v4 then bif v4 then bif v4 then bif v7 then bif v7 then bif v7 then bif v9 then bif v9 then bif v9 then bif v10 then bif v10 then obind (bif v8 then
    ratio_size x0.fst else some (0 : Int)) fun (t : Int) => bif v10 then bif v10 then bif v10 && v10 then obind (bif v8 then ratio_gcd t (IntKind.wrap IntKind.u64 x0.snd) else some (0 :
    Int)) fun (t : Int) => bif v10 then bif v10 then some (bif v8 then decide (t = (1 : Int)) else false) else none else none else none else none else none else none else none else none
    else none else none else none else none else none else none else none else none
noncomputable def ratio_Valid (x0 : Int × Int) : Option Bool := ratio_Valid_b lpK jnK ratio_gcd ratio_size x0
noncomputable def c22 : Ctr := ⟨[T41], [], [], .one .bool, fun x _ _ => ratio_Valid x.1⟩
theorem e22 (lp : Lp) (jn : Jn) (ratio_gcd : (Int) → (Int) → Option (Int)) (ratio_size : (Int) → Option (Int)) : ∀ (x : TsS c22.as) (F : TsF c22.fs) (y : TsS c22.cs), ratio_Valid_b lp jn ratio_gcd ratio_size x.1 = runC lp jn (ctxOf prog shs inls [(57, ⟨[i64], [], [], .one (.int .u64), fun x _ _ => ratio_size x.1⟩), (56, ⟨[(.int .u64), (.int .u64)], [], [], .one (.int .u64), fun x _ _ => ratio_gcd x.1 x.2.1⟩)] []) hints 4 22 f22 c22 x F y := fun x F y => by kernel_rfl
theorem l22 : (ctxOf prog shs inls [(57, c57), (56, c56)] []).ok := ctxOf_cons (ctxOf_cons (q0) (by kernel_rfl) ok56) (by kernel_rfl) ok57
theorem ok22 : c22.ok prog 22 := Ctr.of_den l22 hmix (hl := hints) (d := 4) func22 rfl (by decide) (e22 lpK jnK ratio_gcd ratio_size)

/-- math bits.Mul64 -/
noncomputable def bits_Mul64_b (_ : Lp) (_ : Jn) (x0 : Int) (x1 : Int) : Option (Int × Int × Unit) :=
  
  let v4 : Int := (2 : Int) ^ (32 : Nat);
  let v5 : Int := Int.fdiv x0 v4;
  let v6 : Int := Int.fdiv x1 v4;
  let v7 : Bool := decide ((0 : Int) ≤ (32 : Int));
  let v8 : Int := IntKind.wrap IntKind.u64 (↑(Nat.land (Int.toNat (x1 % Int.ofNat (18446744073709551616 : Nat))) (Int.toNat ((4294967295 : Int) % Int.ofNat (18446744073709551616 : Nat)))) :
    Int);
  let v9 : Int := IntKind.wrap IntKind.u64 (↑(Nat.land (Int.toNat (x0 % Int.ofNat (18446744073709551616 : Nat))) (Int.toNat ((4294967295 : Int) % Int.ofNat (18446744073709551616 : Nat)))) :
    Int);
  let v10 : Int := IntKind.wrap IntKind.u64 (IntKind.wrap IntKind.u64 (v5 * v8) + Int.fdiv (IntKind.wrap IntKind.u64 (v9 * v8)) v4); bif v7 then bif v7 then bif v7 then bif v7 then bif v7
    then some (IntKind.wrap IntKind.u64 (IntKind.wrap IntKind.u64 (IntKind.wrap IntKind.u64 (v5 * v6) + Int.fdiv v10 v4) + Int.fdiv (IntKind.wrap IntKind.u64 (IntKind.wrap IntKind.u64
    (↑(Nat.land (Int.toNat (v10 % Int.ofNat (18446744073709551616 : Nat))) (Int.toNat ((4294967295 : Int) % Int.ofNat (18446744073709551616 : Nat)))) : Int) + IntKind.wrap IntKind.u64 (v9 *
    v6))) v4), IntKind.wrap IntKind.u64 (x0 * x1), PUnit.unit) else none else none else none else none else none
noncomputable def bits_Mul64 (x0 : Int) (x1 : Int) : Option (Int × Int × Unit) := bits_Mul64_b lpK jnK x0 x1
noncomputable def c89 : Ctr := ⟨[(.int .u64), (.int .u64)], [], [], .tup [(.int .u64), (.int .u64)], fun x _ _ => bits_Mul64 x.1 x.2.1⟩
theorem e89 (lp : Lp) (jn : Jn) : ∀ (x : TsS c89.as) (F : TsF c89.fs) (y : TsS c89.cs), bits_Mul64_b lp jn x.1 x.2.1 = runC lp jn (ctxOf prog shs inls [] []) hints 4 89 f89 c89 x F y := fun x F y => by kernel_rfl
theorem l89 : (ctxOf prog shs inls [] []).ok := q0
theorem ok89 : c89.ok prog 89 := Ctr.of_den l89 hmix (hl := hints) (d := 4) func89 rfl (by decide) (e89 lpK jnK)

/-- loftblock ratio.product -/
noncomputable def ratio_product_b (_ : Lp) (_ : Jn) (bits_Mul64 : (Int) → (Int) → Option (Int × Int × Unit)) (x0 : Int) (x1 : Int) : Option (Int × Int) :=
  obind (bits_Mul64 x0 x1) fun (t : Int × Int × PUnit) => some (t.fst, t.snd.fst)
noncomputable def ratio_product (x0 : Int) (x1 : Int) : Option (Int × Int) := ratio_product_b lpK jnK bits_Mul64 x0 x1
noncomputable def c59 : Ctr := ⟨[(.int .u64), (.int .u64)], [], [], .one T90, fun x _ _ => ratio_product x.1 x.2.1⟩
theorem e59 (lp : Lp) (jn : Jn) (bits_Mul64 : (Int) → (Int) → Option (Int × Int × Unit)) : ∀ (x : TsS c59.as) (F : TsF c59.fs) (y : TsS c59.cs), ratio_product_b lp jn bits_Mul64 x.1 x.2.1 = runC lp jn (ctxOf prog shs inls [(89, ⟨[(.int .u64), (.int .u64)], [], [], .tup [(.int .u64), (.int .u64)], fun x _ _ => bits_Mul64 x.1 x.2.1⟩)] []) hints 4 59 f59 c59 x F y := fun x F y => by kernel_rfl
theorem l59 : (ctxOf prog shs inls [(89, c89)] []).ok := ctxOf_cons (q0) (by kernel_rfl) ok89
theorem ok59 : c59.ok prog 59 := Ctr.of_den l59 hmix (hl := hints) (d := 4) func59 rfl (by decide) (e59 lpK jnK bits_Mul64)

/-- loftblock ratio.Mul -/
noncomputable def ratio_Mul_b (_ : Lp) (_ : Jn) (ratio_gcd : (Int) → (Int) → Option (Int)) (ratio_size : (Int) → Option (Int)) (ratio_signed : (Bool) → (Int) → (Int) → Option ((Int × Int) × Int × Unit)) (ratio_Valid : (Int × Int) → Option (Bool)) (ratio_product : (Int) → (Int) → Option (Int × Int)) (x0 : Int × Int) (x1 : Int × Int) : Option ((Int × Int) × Int × Unit) :=
  
  let v4 : Int := IntKind.wrap IntKind.u64 x1.snd;
  let v5 : Int := IntKind.wrap IntKind.u64 x0.snd; obind (ratio_Valid x0) fun (t : Bool) =>
  let v7 : Bool := !t;
  let v8 : Bool := !v7;
  let v9 : Bool := !v8 || v8; bif v9 then obind (bif v8 then ratio_Valid x1 else some false) fun (t : Bool) => bif v9 then bif v7 || v8 then bif bif v7 then true else !t then some (((0 :
    Int), (0 : Int)), (1 : Int), PUnit.unit) else obind (ratio_size x0.fst) fun (t : Int) => obind (ratio_gcd t v4) fun (t : Int) =>
  let v13 : Bool := nzB t; obind (ratio_size x1.fst) fun (t_1 : Int) => obind (ratio_gcd t_1 v5) fun (t_2 : Int) =>
  let v16 : Bool := nzB t_2; obind (ratio_size x0.fst) fun (t_3 : Int) => bif v13 then obind (ratio_size x1.fst) fun (t_4 : Int) => bif v16 then obind (ratio_product (IntKind.wrap
    IntKind.u64 (Int.tdiv t_3 t)) (IntKind.wrap IntKind.u64 (Int.tdiv t_4 t_2))) fun (t_5 : Int × Int) =>
  let v20 : Bool := decide (t_5.fst > (0 : Int));
  let v21 : Bool := decide (t_5.snd > (0 : Int));
  let v22 : Bool := !v20;
  let v23 : Bool := !v21 || v21;
  let v24 : Bool := !v22 || v22; bif v16 then bif v13 then obind (ratio_product (IntKind.wrap IntKind.u64 (Int.tdiv v5 t_2)) (IntKind.wrap IntKind.u64 (Int.tdiv v4 t))) fun (t : Int × Int)
    => bif v24 then bif v24 then bif v20 || v22 then bif bif v20 then true else decide (t.fst > (0 : Int)) then some (((0 : Int), (0 : Int)), (5 : Int), PUnit.unit) else bif v23 then bif
    v23 then bif v23 then bif v23 then bif v23 && v23 then bif v23 then obind (ratio_signed (bif v21 then !decide (decide (x0.fst < (0 : Int)) = decide (x1.fst < (0 : Int))) else false)
    t_5.snd t.snd) fun (t : (Int × Int) × Int × PUnit) => some (t.fst, t.snd.fst, PUnit.unit) else none else none else none else none else none else none else none else none else none else
    none else none else none else none else none else none else none
noncomputable def ratio_Mul (x0 : Int × Int) (x1 : Int × Int) : Option ((Int × Int) × Int × Unit) := ratio_Mul_b lpK jnK ratio_gcd ratio_size ratio_signed ratio_Valid ratio_product x0 x1
noncomputable def c24 : Ctr := ⟨[T41, T41], [], [], .tup [T41, i64], fun x _ _ => ratio_Mul x.1 x.2.1⟩
theorem e24 (lp : Lp) (jn : Jn) (ratio_gcd : (Int) → (Int) → Option (Int)) (ratio_size : (Int) → Option (Int)) (ratio_signed : (Bool) → (Int) → (Int) → Option ((Int × Int) × Int × Unit)) (ratio_Valid : (Int × Int) → Option (Bool)) (ratio_product : (Int) → (Int) → Option (Int × Int)) : ∀ (x : TsS c24.as) (F : TsF c24.fs) (y : TsS c24.cs), ratio_Mul_b lp jn ratio_gcd ratio_size ratio_signed ratio_Valid ratio_product x.1 x.2.1 = runC lp jn (ctxOf prog shs inls [(59, ⟨[(.int .u64), (.int .u64)], [], [], .one T90, fun x _ _ => ratio_product x.1 x.2.1⟩), (22, ⟨[T41], [], [], .one .bool, fun x _ _ => ratio_Valid x.1⟩), (60, ⟨[.bool, (.int .u64), (.int .u64)], [], [], .tup [T41, i64], fun x _ _ => ratio_signed x.1 x.2.1 x.2.2.1⟩), (57, ⟨[i64], [], [], .one (.int .u64), fun x _ _ => ratio_size x.1⟩), (56, ⟨[(.int .u64), (.int .u64)], [], [], .one (.int .u64), fun x _ _ => ratio_gcd x.1 x.2.1⟩)] []) hints 4 24 f24 c24 x F y := fun x F y => by kernel_rfl
theorem l24 : (ctxOf prog shs inls [(59, c59), (22, c22), (60, c60), (57, c57), (56, c56)] []).ok := ctxOf_cons (ctxOf_cons (ctxOf_cons (ctxOf_cons (ctxOf_cons (q0) (by kernel_rfl) ok56) (by kernel_rfl) ok57) (by kernel_rfl) ok60) (by kernel_rfl) ok22) (by kernel_rfl) ok59
theorem ok24 : c24.ok prog 24 := Ctr.of_den l24 hmix (hl := hints) (d := 4) func24 rfl (by decide) (e24 lpK jnK ratio_gcd ratio_size ratio_signed ratio_Valid ratio_product)

/-- loftblock bridle.times -/
noncomputable def bridle_times_b (_ : Lp) (_ : Jn) (ratio_Make : (Int) → (Int) → Option ((Int × Int) × Int × Unit)) (ratio_Mul : (Int × Int) → (Int × Int) → Option ((Int × Int) × Int × Unit)) (x0 : Int × Int) (x1 : Int) : Option ((Int × Int) × Int × Unit) :=
  obind (ratio_Make x1 (1000 : Int)) fun (t : (Int × Int) × Int × PUnit) => bif !decide (t.snd.fst = (0 : Int)) then some (((0 : Int), (0 : Int)), t.snd.fst, PUnit.unit) else obind (ratio_Mul
    x0 t.fst) fun (t : (Int × Int) × Int × PUnit) => some (t.fst, t.snd.fst, PUnit.unit)
noncomputable def bridle_times (x0 : Int × Int) (x1 : Int) : Option ((Int × Int) × Int × Unit) := bridle_times_b lpK jnK ratio_Make ratio_Mul x0 x1
noncomputable def c79 : Ctr := ⟨[T41, i64], [], [], .tup [T41, i64], fun x _ _ => bridle_times x.1 x.2.1⟩
theorem e79 (lp : Lp) (jn : Jn) (ratio_Make : (Int) → (Int) → Option ((Int × Int) × Int × Unit)) (ratio_Mul : (Int × Int) → (Int × Int) → Option ((Int × Int) × Int × Unit)) : ∀ (x : TsS c79.as) (F : TsF c79.fs) (y : TsS c79.cs), bridle_times_b lp jn ratio_Make ratio_Mul x.1 x.2.1 = runC lp jn (ctxOf prog shs inls [(24, ⟨[T41, T41], [], [], .tup [T41, i64], fun x _ _ => ratio_Mul x.1 x.2.1⟩), (88, ⟨[i64, i64], [], [], .tup [T41, i64], fun x _ _ => ratio_Make x.1 x.2.1⟩)] []) hints 4 79 f79 c79 x F y := fun x F y => by kernel_rfl
theorem l79 : (ctxOf prog shs inls [(24, c24), (88, c88)] []).ok := ctxOf_cons (ctxOf_cons (q0) (by kernel_rfl) ok88) (by kernel_rfl) ok24
theorem ok79 : c79.ok prog 79 := Ctr.of_den l79 hmix (hl := hints) (d := 4) func79 rfl (by decide) (e79 lpK jnK ratio_Make ratio_Mul)

/-- loftblock ratio.floor -/
noncomputable def ratio_floor_b (_ : Lp) (_ : Jn) (x0 : Int) (x1 : Int) : Option Int :=
  
  let v4 : Bool := nzB x1;
  let v5 : Int := IntKind.wrap IntKind.i64 (Int.tdiv x0 x1); bif v4 then bif v4 then bif decide (Int.tmod x0 x1 < (0 : Int)) then some (IntKind.wrap IntKind.i64 (v5 - (1 : Int))) else some
    v5 else none else none
noncomputable def ratio_floor (x0 : Int) (x1 : Int) : Option Int := ratio_floor_b lpK jnK x0 x1
noncomputable def c97 : Ctr := ⟨[i64, i64], [], [], .one i64, fun x _ _ => ratio_floor x.1 x.2.1⟩
theorem e97 (lp : Lp) (jn : Jn) : ∀ (x : TsS c97.as) (F : TsF c97.fs) (y : TsS c97.cs), ratio_floor_b lp jn x.1 x.2.1 = runC lp jn (ctxOf prog shs inls [] []) hints 4 97 f97 c97 x F y := fun x F y => by kernel_rfl
theorem l97 : (ctxOf prog shs inls [] []).ok := q0
theorem ok97 : c97.ok prog 97 := Ctr.of_den l97 hmix (hl := hints) (d := 4) func97 rfl (by decide) (e97 lpK jnK)

/-- loftblock ratio.Floor -/
noncomputable def ratio_Floor_b (_ : Lp) (_ : Jn) (ratio_Valid : (Int × Int) → Option (Bool)) (ratio_floor : (Int) → (Int) → Option (Int)) (x0 : Int × Int) : Option (Int × Int × Unit) :=
  obind (ratio_Valid x0) fun (t : Bool) => bif !t then some ((0 : Int), (1 : Int), PUnit.unit) else obind (ratio_floor x0.fst x0.snd) fun (t : Int) => some (t, (0 : Int), PUnit.unit)
noncomputable def ratio_Floor (x0 : Int × Int) : Option (Int × Int × Unit) := ratio_Floor_b lpK jnK ratio_Valid ratio_floor x0
noncomputable def c80 : Ctr := ⟨[T41], [], [], .tup [i64, i64], fun x _ _ => ratio_Floor x.1⟩
theorem e80 (lp : Lp) (jn : Jn) (ratio_Valid : (Int × Int) → Option (Bool)) (ratio_floor : (Int) → (Int) → Option (Int)) : ∀ (x : TsS c80.as) (F : TsF c80.fs) (y : TsS c80.cs), ratio_Floor_b lp jn ratio_Valid ratio_floor x.1 = runC lp jn (ctxOf prog shs inls [(97, ⟨[i64, i64], [], [], .one i64, fun x _ _ => ratio_floor x.1 x.2.1⟩), (22, ⟨[T41], [], [], .one .bool, fun x _ _ => ratio_Valid x.1⟩)] []) hints 4 80 f80 c80 x F y := fun x F y => by kernel_rfl
theorem l80 : (ctxOf prog shs inls [(97, c97), (22, c22)] []).ok := ctxOf_cons (ctxOf_cons (q0) (by kernel_rfl) ok22) (by kernel_rfl) ok97
theorem ok80 : c80.ok prog 80 := Ctr.of_den l80 hmix (hl := hints) (d := 4) func80 rfl (by decide) (e80 lpK jnK ratio_Valid ratio_floor)

/-- loftblock ratio.Ceil -/
noncomputable def ratio_Ceil_b (_ : Lp) (_ : Jn) (ratio_Valid : (Int × Int) → Option (Bool)) (ratio_floor : (Int) → (Int) → Option (Int)) (x0 : Int × Int) : Option (Int × Int × Unit) :=
  obind (ratio_Valid x0) fun (t : Bool) => bif !t then some ((0 : Int), (1 : Int), PUnit.unit) else obind (ratio_floor (IntKind.wrap IntKind.i64 ((0 : Int) - x0.fst)) x0.snd) fun (t : Int) =>
    some (IntKind.wrap IntKind.i64 ((0 : Int) - t), (0 : Int), PUnit.unit)
noncomputable def ratio_Ceil (x0 : Int × Int) : Option (Int × Int × Unit) := ratio_Ceil_b lpK jnK ratio_Valid ratio_floor x0
noncomputable def c81 : Ctr := ⟨[T41], [], [], .tup [i64, i64], fun x _ _ => ratio_Ceil x.1⟩
theorem e81 (lp : Lp) (jn : Jn) (ratio_Valid : (Int × Int) → Option (Bool)) (ratio_floor : (Int) → (Int) → Option (Int)) : ∀ (x : TsS c81.as) (F : TsF c81.fs) (y : TsS c81.cs), ratio_Ceil_b lp jn ratio_Valid ratio_floor x.1 = runC lp jn (ctxOf prog shs inls [(97, ⟨[i64, i64], [], [], .one i64, fun x _ _ => ratio_floor x.1 x.2.1⟩), (22, ⟨[T41], [], [], .one .bool, fun x _ _ => ratio_Valid x.1⟩)] []) hints 4 81 f81 c81 x F y := fun x F y => by kernel_rfl
theorem l81 : (ctxOf prog shs inls [(97, c97), (22, c22)] []).ok := ctxOf_cons (ctxOf_cons (q0) (by kernel_rfl) ok22) (by kernel_rfl) ok97
theorem ok81 : c81.ok prog 81 := Ctr.of_den l81 hmix (hl := hints) (d := 4) func81 rfl (by decide) (e81 lpK jnK ratio_Valid ratio_floor)

/-- loftblock bridle.tension -/
noncomputable def bridle_tension_b (_ : Lp) (_ : Jn) (bridle_length : ((Int × Int × Int) × Int × List (ByteArray × (Int × Int × Int) × Int)) → (Int) → Option ((Int × Int) × Int × Unit)) (bridle_times : (Int × Int) → (Int) → Option ((Int × Int) × Int × Unit)) (ratio_Floor : (Int × Int) → Option (Int × Int × Unit)) (ratio_Ceil : (Int × Int) → Option (Int × Int × Unit)) (x0 : (Int × Int × Int) × Int × List (ByteArray × (Int × Int × Int) × Int)) (x1 : Int) (x2 : Int × Int) : Option ((Int × Int) × Int × Unit) :=
  obind (bridle_length x0 x1) fun (t : (Int × Int) × Int × PUnit) => bif !decide (t.snd.fst = (0 : Int)) then some (((0 : Int), (0 : Int)), t.snd.fst, PUnit.unit) else obind (bridle_times x2
    t.fst.fst) fun (t_1 : (Int × Int) × Int × PUnit) => bif !decide (t_1.snd.fst = (0 : Int)) then some (((0 : Int), (0 : Int)), t_1.snd.fst, PUnit.unit) else obind (bridle_times x2
    t.fst.snd) fun (t : (Int × Int) × Int × PUnit) => bif !decide (t.snd.fst = (0 : Int)) then some (((0 : Int), (0 : Int)), t.snd.fst, PUnit.unit) else obind (ratio_Floor t_1.fst) fun (t_2
    : Int × Int × PUnit) => bif !decide (t_2.snd.fst = (0 : Int)) then some (((0 : Int), (0 : Int)), t_2.snd.fst, PUnit.unit) else obind (ratio_Ceil t.fst) fun (t : Int × Int × PUnit) =>
    bif !decide (t.snd.fst = (0 : Int)) then some (((0 : Int), (0 : Int)), t.snd.fst, PUnit.unit) else some ((t_2.fst, t.fst), (0 : Int), PUnit.unit)
noncomputable def bridle_tension (x0 : (Int × Int × Int) × Int × List (ByteArray × (Int × Int × Int) × Int)) (x1 : Int) (x2 : Int × Int) : Option ((Int × Int) × Int × Unit) := bridle_tension_b lpK jnK bridle_length bridle_times ratio_Floor ratio_Ceil x0 x1 x2
noncomputable def c40 : Ctr := ⟨[T26, i64, T41], [], [], .tup [T45, i64], fun x _ _ => bridle_tension x.1 x.2.1 x.2.2.1⟩
theorem e40 (lp : Lp) (jn : Jn) (bridle_length : ((Int × Int × Int) × Int × List (ByteArray × (Int × Int × Int) × Int)) → (Int) → Option ((Int × Int) × Int × Unit)) (bridle_times : (Int × Int) → (Int) → Option ((Int × Int) × Int × Unit)) (ratio_Floor : (Int × Int) → Option (Int × Int × Unit)) (ratio_Ceil : (Int × Int) → Option (Int × Int × Unit)) : ∀ (x : TsS c40.as) (F : TsF c40.fs) (y : TsS c40.cs), bridle_tension_b lp jn bridle_length bridle_times ratio_Floor ratio_Ceil x.1 x.2.1 x.2.2.1 = runC lp jn (ctxOf prog shs inls [(81, ⟨[T41], [], [], .tup [i64, i64], fun x _ _ => ratio_Ceil x.1⟩), (80, ⟨[T41], [], [], .tup [i64, i64], fun x _ _ => ratio_Floor x.1⟩), (79, ⟨[T41, i64], [], [], .tup [T41, i64], fun x _ _ => bridle_times x.1 x.2.1⟩), (42, ⟨[T26, i64], [], [], .tup [T45, i64], fun x _ _ => bridle_length x.1 x.2.1⟩)] []) hints 4 40 f40 c40 x F y := fun x F y => by kernel_rfl
theorem l40 : (ctxOf prog shs inls [(81, c81), (80, c80), (79, c79), (42, c42)] []).ok := ctxOf_cons (ctxOf_cons (ctxOf_cons (ctxOf_cons (q0) (by kernel_rfl) ok42) (by kernel_rfl) ok79) (by kernel_rfl) ok80) (by kernel_rfl) ok81
theorem ok40 : c40.ok prog 40 := Ctr.of_den l40 hmix (hl := hints) (d := 4) func40 rfl (by decide) (e40 lpK jnK bridle_length bridle_times ratio_Floor ratio_Ceil)

/-- loftblock bridle.Tension -/
noncomputable def bridle_Tension_b (_ : Lp) (_ : Jn) (bridle_pull : ((Int × Int × Int) × Int × List (ByteArray × (Int × Int × Int) × Int)) → (ByteArray) → Option (Int × (Int × Int) × Int × Unit)) (bridle_tension : ((Int × Int × Int) × Int × List (ByteArray × (Int × Int × Int) × Int)) → (Int) → (Int × Int) → Option ((Int × Int) × Int × Unit)) (x0 : (Int × Int × Int) × Int × List (ByteArray × (Int × Int × Int) × Int)) (x1 : ByteArray) : Option ((Int × Int) × Int × Unit) :=
  obind (bridle_pull x0 x1) fun (t : Int × (Int × Int) × Int × PUnit) => bif !decide (t.snd.snd.fst = (0 : Int)) then some (((0 : Int), (0 : Int)), t.snd.snd.fst, PUnit.unit) else bif decide
    (t.snd.fst.fst < (0 : Int)) then some (((0 : Int), (0 : Int)), (13 : Int), PUnit.unit) else obind (bridle_tension x0 t.fst t.snd.fst) fun (t : (Int × Int) × Int × PUnit) => some (t.fst,
    t.snd.fst, PUnit.unit)
noncomputable def bridle_Tension (x0 : (Int × Int × Int) × Int × List (ByteArray × (Int × Int × Int) × Int)) (x1 : ByteArray) : Option ((Int × Int) × Int × Unit) := bridle_Tension_b lpK jnK bridle_pull bridle_tension x0 x1
noncomputable def c13 : Ctr := ⟨[T26, .str], [], [], .tup [T45, i64], fun x _ _ => bridle_Tension x.1 x.2.1⟩
theorem e13 (lp : Lp) (jn : Jn) (bridle_pull : ((Int × Int × Int) × Int × List (ByteArray × (Int × Int × Int) × Int)) → (ByteArray) → Option (Int × (Int × Int) × Int × Unit)) (bridle_tension : ((Int × Int × Int) × Int × List (ByteArray × (Int × Int × Int) × Int)) → (Int) → (Int × Int) → Option ((Int × Int) × Int × Unit)) : ∀ (x : TsS c13.as) (F : TsF c13.fs) (y : TsS c13.cs), bridle_Tension_b lp jn bridle_pull bridle_tension x.1 x.2.1 = runC lp jn (ctxOf prog shs inls [(40, ⟨[T26, i64, T41], [], [], .tup [T45, i64], fun x _ _ => bridle_tension x.1 x.2.1 x.2.2.1⟩), (39, ⟨[T26, .str], [], [], .tup [i64, T41, i64], fun x _ _ => bridle_pull x.1 x.2.1⟩)] []) hints 4 13 f13 c13 x F y := fun x F y => by kernel_rfl
theorem l13 : (ctxOf prog shs inls [(40, c40), (39, c39)] []).ok := ctxOf_cons (ctxOf_cons (q0) (by kernel_rfl) ok39) (by kernel_rfl) ok40
theorem ok13 : c13.ok prog 13 := Ctr.of_den l13 hmix (hl := hints) (d := 4) func13 rfl (by decide) (e13 lpK jnK bridle_pull bridle_tension)

/-- loftblock bridle.Length -/
noncomputable def bridle_Length_b (_ : Lp) (_ : Jn) (bridle_find : ((Int × Int × Int) × Int × List (ByteArray × (Int × Int × Int) × Int)) → (ByteArray) → Option (Int)) (bridle_Valid : ((Int × Int × Int) × Int × List (ByteArray × (Int × Int × Int) × Int)) → Option (Bool)) (bridle_length : ((Int × Int × Int) × Int × List (ByteArray × (Int × Int × Int) × Int)) → (Int) → Option ((Int × Int) × Int × Unit)) (x0 : (Int × Int × Int) × Int × List (ByteArray × (Int × Int × Int) × Int)) (x1 : ByteArray) : Option ((Int × Int) × Int × Unit) :=
  obind (bridle_Valid x0) fun (t : Bool) => bif !t then some (((0 : Int), (0 : Int)), (1 : Int), PUnit.unit) else obind (bridle_find x0 x1) fun (t : Int) => bif decide (t < (0 : Int)) then
    some (((0 : Int), (0 : Int)), (9 : Int), PUnit.unit) else obind (bridle_length x0 t) fun (t : (Int × Int) × Int × PUnit) => some (t.fst, t.snd.fst, PUnit.unit)
noncomputable def bridle_Length (x0 : (Int × Int × Int) × Int × List (ByteArray × (Int × Int × Int) × Int)) (x1 : ByteArray) : Option ((Int × Int) × Int × Unit) := bridle_Length_b lpK jnK bridle_find bridle_Valid bridle_length x0 x1
noncomputable def c14 : Ctr := ⟨[T26, .str], [], [], .tup [T45, i64], fun x _ _ => bridle_Length x.1 x.2.1⟩
theorem e14 (lp : Lp) (jn : Jn) (bridle_find : ((Int × Int × Int) × Int × List (ByteArray × (Int × Int × Int) × Int)) → (ByteArray) → Option (Int)) (bridle_Valid : ((Int × Int × Int) × Int × List (ByteArray × (Int × Int × Int) × Int)) → Option (Bool)) (bridle_length : ((Int × Int × Int) × Int × List (ByteArray × (Int × Int × Int) × Int)) → (Int) → Option ((Int × Int) × Int × Unit)) : ∀ (x : TsS c14.as) (F : TsF c14.fs) (y : TsS c14.cs), bridle_Length_b lp jn bridle_find bridle_Valid bridle_length x.1 x.2.1 = runC lp jn (ctxOf prog shs inls [(42, ⟨[T26, i64], [], [], .tup [T45, i64], fun x _ _ => bridle_length x.1 x.2.1⟩), (18, ⟨[T26], [], [], .one .bool, fun x _ _ => bridle_Valid x.1⟩), (41, ⟨[T26, .str], [], [], .one i64, fun x _ _ => bridle_find x.1 x.2.1⟩)] []) hints 4 14 f14 c14 x F y := fun x F y => by kernel_rfl
theorem l14 : (ctxOf prog shs inls [(42, c42), (18, c18), (41, c41)] []).ok := ctxOf_cons (ctxOf_cons (ctxOf_cons (q0) (by kernel_rfl) ok41) (by kernel_rfl) ok18) (by kernel_rfl) ok42
theorem ok14 : c14.ok prog 14 := Ctr.of_den l14 hmix (hl := hints) (d := 4) func14 rfl (by decide) (e14 lpK jnK bridle_find bridle_Valid bridle_length)

/-- slices.IndexFunc[[]loftblock api.Frac,loftblock api.Frac] -/
noncomputable def slices_IndexFunc_55_b (lp : Lp) (_ : Jn) (x0 : List (Int × Int)) (f0 : (((Int × Int) × Unit) → Option Bool)) : Option Int :=
  lp (Int × PUnit) Int (fun (again : Int × PUnit → Option Int) (x : Int × PUnit) => bif decide (x.fst < (↑(List.length x0) : Int)) then bif inB x.fst (List.length x0) then obind (f0
    (List.getD x0 (Int.toNat x.fst) ((0 : Int), (0 : Int)), PUnit.unit)) fun (t : Bool) => bif t then some x.fst else again (IntKind.wrap IntKind.i64 (x.fst + (1 : Int)), PUnit.unit) else
    none else some (-1 : Int)) ((0 : Int), PUnit.unit)
noncomputable def slices_IndexFunc_55 (x0 : List (Int × Int)) (f0 : (((Int × Int) × Unit) → Option Bool)) : Option Int := slices_IndexFunc_55_b lpK jnK x0 f0
noncomputable def c55 : Ctr := ⟨[(.sl T41)], [([T41], .bool)], [], .one i64, fun x F _ => slices_IndexFunc_55 x.1 F.1⟩
theorem e55 (lp : Lp) (jn : Jn) : ∀ (x : TsS c55.as) (F : TsF c55.fs) (y : TsS c55.cs), slices_IndexFunc_55_b lp jn x.1 F.1 = runC lp jn (ctxOf prog shs inls [] []) hints 4 55 f55 c55 x F y := fun x F y => by kernel_rfl
theorem l55 : (ctxOf prog shs inls [] []).ok := q0
theorem ok55 : c55.ok prog 55 := Ctr.of_den l55 hmix (hl := hints) (d := 4) func55 rfl (by decide) (e55 lpK jnK)

/-- slices.ContainsFunc[[]loftblock api.Frac,loftblock api.Frac] -/
noncomputable def slices_ContainsFunc_20_b (_ : Lp) (_ : Jn) (slices_IndexFunc_55 : (List (Int × Int)) → ((((Int × Int) × Unit) → Option Bool)) → Option (Int)) (x0 : List (Int × Int)) (f0 : (((Int × Int) × Unit) → Option Bool)) : Option Bool :=
  obind (slices_IndexFunc_55 x0 f0) fun (t : Int) => some (decide (t ≥ (0 : Int)))
noncomputable def slices_ContainsFunc_20 (x0 : List (Int × Int)) (f0 : (((Int × Int) × Unit) → Option Bool)) : Option Bool := slices_ContainsFunc_20_b lpK jnK slices_IndexFunc_55 x0 f0
noncomputable def c20 : Ctr := ⟨[(.sl T41)], [([T41], .bool)], [], .one .bool, fun x F _ => slices_ContainsFunc_20 x.1 F.1⟩
theorem e20 (lp : Lp) (jn : Jn) (slices_IndexFunc_55 : (List (Int × Int)) → ((((Int × Int) × Unit) → Option Bool)) → Option (Int)) : ∀ (x : TsS c20.as) (F : TsF c20.fs) (y : TsS c20.cs), slices_ContainsFunc_20_b lp jn slices_IndexFunc_55 x.1 F.1 = runC lp jn (ctxOf prog shs inls [(55, ⟨[(.sl T41)], [([T41], .bool)], [], .one i64, fun x F _ => slices_IndexFunc_55 x.1 F.1⟩)] []) hints 4 20 f20 c20 x F y := fun x F y => by kernel_rfl
theorem l20 : (ctxOf prog shs inls [(55, c55)] []).ok := ctxOf_cons (q0) (by kernel_rfl) ok55
theorem ok20 : c20.ok prog 20 := Ctr.of_den l20 hmix (hl := hints) (d := 4) func20 rfl (by decide) (e20 lpK jnK slices_IndexFunc_55)

/-- loftblock bridle.Within$1 -/
noncomputable def bridle_Within_1_b (_ : Lp) (_ : Jn) (x0 : Int × Int) : Option Bool :=
  some (decide (x0.fst < (0 : Int)))
noncomputable def bridle_Within_1 (x0 : Int × Int) : Option Bool := bridle_Within_1_b lpK jnK x0
noncomputable def c43 : Ctr := ⟨[T41], [], [], .one .bool, fun x _ _ => bridle_Within_1 x.1⟩
theorem e43 (lp : Lp) (jn : Jn) : ∀ (x : TsS c43.as) (F : TsF c43.fs) (y : TsS c43.cs), bridle_Within_1_b lp jn x.1 = runC lp jn (ctxOf prog shs inls [] []) hints 4 43 f43 c43 x F y := fun x F y => by kernel_rfl
theorem l43 : (ctxOf prog shs inls [] []).ok := q0
theorem ok43 : c43.ok prog 43 := Ctr.of_den l43 hmix (hl := hints) (d := 4) func43 rfl (by decide) (e43 lpK jnK)

/-- loftblock bridle.Within -/
noncomputable def bridle_Within_b (lp : Lp) (_ : Jn) (bridle_Pulls : ((Int × Int × Int) × Int × List (ByteArray × (Int × Int × Int) × Int)) → Option ((List (Int × Int)) × Int × Unit)) (bridle_tension : ((Int × Int × Int) × Int × List (ByteArray × (Int × Int × Int) × Int)) → (Int) → (Int × Int) → Option ((Int × Int) × Int × Unit)) (slices_ContainsFunc_20 : (List (Int × Int)) → ((((Int × Int) × Unit) → Option Bool)) → Option (Bool)) (bridle_Within_1 : (Int × Int) → Option (Bool)) (x0 : (Int × Int × Int) × Int × List (ByteArray × (Int × Int × Int) × Int)) : Option (Bool × Int × Unit) :=
  obind (bridle_Pulls x0) fun (t : List (Int × Int) × Int × PUnit) => bif !decide (t.snd.fst = (0 : Int)) then some (false, t.snd.fst, PUnit.unit) else obind (slices_ContainsFunc_20 t.fst fun
    (x : (Int × Int) × PUnit) => bridle_Within_1 x.fst) fun (t_1 : Bool) => bif t_1 then some (false, (0 : Int), PUnit.unit) else lp (Bool × Int × PUnit) (Bool × Int × PUnit) (fun (again :
    Bool × Int × PUnit → Option (Bool × Int × PUnit)) (x : Bool × Int × PUnit) =>
  let v7 : Bool := !x.fst;
  let v8 : Bool := v7 || x.fst; bif decide (x.snd.fst < (↑(List.length t.fst) : Int)) then bif inB x.snd.fst (List.length t.fst) then obind (bridle_tension x0 x.snd.fst (List.getD t.fst
    (Int.toNat x.snd.fst) ((0 : Int), (0 : Int)))) fun (t : (Int × Int) × Int × PUnit) => bif !decide (t.snd.fst = (0 : Int)) then some (false, t.snd.fst, PUnit.unit) else bif v8 then bif
    v8 then bif v8 && (v8 && (v7 || inB x.snd.fst (List.length x0.snd.snd))) then bif v8 then bif v8 then bif v8 && v8 then bif v8 then again (bif x.fst then decide (t.fst.snd ≤ (List.getD
    x0.snd.snd (Int.toNat x.snd.fst) ({ data := { toList := [] } }, ((0 : Int), (0 : Int), (0 : Int)), (0 : Int))).snd.snd) else false, IntKind.wrap IntKind.i64 (x.snd.fst + (1 : Int)),
    PUnit.unit) else none else none else none else none else none else none else none else none else some (x.fst, (0 : Int), PUnit.unit)) (true, (0 : Int), PUnit.unit)
noncomputable def bridle_Within (x0 : (Int × Int × Int) × Int × List (ByteArray × (Int × Int × Int) × Int)) : Option (Bool × Int × Unit) := bridle_Within_b lpK jnK bridle_Pulls bridle_tension slices_ContainsFunc_20 bridle_Within_1 x0
noncomputable def c15 : Ctr := ⟨[T26], [], [], .tup [.bool, i64], fun x _ _ => bridle_Within x.1⟩
theorem e15 (lp : Lp) (jn : Jn) (bridle_Pulls : ((Int × Int × Int) × Int × List (ByteArray × (Int × Int × Int) × Int)) → Option ((List (Int × Int)) × Int × Unit)) (bridle_tension : ((Int × Int × Int) × Int × List (ByteArray × (Int × Int × Int) × Int)) → (Int) → (Int × Int) → Option ((Int × Int) × Int × Unit)) (slices_ContainsFunc_20 : (List (Int × Int)) → ((((Int × Int) × Unit) → Option Bool)) → Option (Bool)) (bridle_Within_1 : (Int × Int) → Option (Bool)) : ∀ (x : TsS c15.as) (F : TsF c15.fs) (y : TsS c15.cs), bridle_Within_b lp jn bridle_Pulls bridle_tension slices_ContainsFunc_20 bridle_Within_1 x.1 = runC lp jn (ctxOf prog shs inls [(43, ⟨[T41], [], [], .one .bool, fun x _ _ => bridle_Within_1 x.1⟩), (20, ⟨[(.sl T41)], [([T41], .bool)], [], .one .bool, fun x F _ => slices_ContainsFunc_20 x.1 F.1⟩), (40, ⟨[T26, i64, T41], [], [], .tup [T45, i64], fun x _ _ => bridle_tension x.1 x.2.1 x.2.2.1⟩), (6, ⟨[T26], [], [], .tup [(.sl T41), i64], fun x _ _ => bridle_Pulls x.1⟩)] []) hints 4 15 f15 c15 x F y := fun x F y => by kernel_rfl
theorem l15 : (ctxOf prog shs inls [(43, c43), (20, c20), (40, c40), (6, c6)] []).ok := ctxOf_cons (ctxOf_cons (ctxOf_cons (ctxOf_cons (q0) (by kernel_rfl) ok6) (by kernel_rfl) ok40) (by kernel_rfl) ok20) (by kernel_rfl) ok43
theorem ok15 : c15.ok prog 15 := Ctr.of_den l15 hmix (hl := hints) (d := 4) func15 rfl (by decide) (e15 lpK jnK bridle_Pulls bridle_tension slices_ContainsFunc_20 bridle_Within_1)

/-- loftblock loftblocklaw18.awake -/
noncomputable def law18_awake_b (_ : Lp) (_ : Jn) (bridle_Pulls : ((Int × Int × Int) × Int × List (ByteArray × (Int × Int × Int) × Int)) → Option ((List (Int × Int)) × Int × Unit)) (slices_Equal_11 : (List (Int × Int)) → (List (Int × Int)) → Option (Bool)) (law18_example : Option ((Int × Int × Int) × Int × List (ByteArray × (Int × Int × Int) × Int))) (bridle_Tension : ((Int × Int × Int) × Int × List (ByteArray × (Int × Int × Int) × Int)) → (ByteArray) → Option ((Int × Int) × Int × Unit)) (bridle_Length : ((Int × Int × Int) × Int × List (ByteArray × (Int × Int × Int) × Int)) → (ByteArray) → Option ((Int × Int) × Int × Unit)) (bridle_Within : ((Int × Int × Int) × Int × List (ByteArray × (Int × Int × Int) × Int)) → Option (Bool × Int × Unit)) : Option Bool :=
  obind law18_example fun (t : (Int × Int × Int) × Int × List (ByteArray × (Int × Int × Int) × Int)) => obind (bridle_Pulls t) fun (t : List (Int × Int) × Int × PUnit) =>
  let v4 : Bool := decide (t.snd.fst = (0 : Int));
  let v5 : Bool := !v4 || v4;
  let v6 : Bool := v5 && v5; obind law18_example fun (t_1 : (Int × Int × Int) × Int × List (ByteArray × (Int × Int × Int) × Int)) => obind (bridle_Tension t_1 { data := { toList := [{
    toBitVec := { toFin := ⟨(98 : Nat), Nat.mod_lt (98 : Nat) (BitVec.ofNat._proof_1 (8 : Nat))⟩ } }] } }) fun (t_2 : (Int × Int) × Int × PUnit) => obind law18_example fun (t_3 : (Int × Int
    × Int) × Int × List (ByteArray × (Int × Int × Int) × Int)) => obind (bridle_Length t_3 { data := { toList := [{ toBitVec := { toFin := ⟨(97 : Nat), Nat.mod_lt (97 : Nat)
    (BitVec.ofNat._proof_1 (8 : Nat))⟩ } }] } }) fun (t_4 : (Int × Int) × Int × PUnit) => obind law18_example fun (t_5 : (Int × Int × Int) × Int × List (ByteArray × (Int × Int × Int) ×
    Int)) => obind (bridle_Within t_5) fun (t_6 : Bool × Int × PUnit) => bif v6 then bif v6 then obind (bif v4 then slices_Equal_11 t.fst [((1 : Int), (6 : Int)), ((1 : Int), (6 : Int))]
    else some false) fun (t : Bool) =>
  let v14 : Bool := bif v4 then t else false;
  let v15 : Bool := !v14 || v14;
  let v16 : Bool := bif v14 then decide (t_2.snd.fst = (0 : Int)) else false;
  let v17 : Bool := !v16 || v16;
  let v18 : Bool := bif v16 then decide (t_2.fst.fst = (833 : Int)) && (decide (t_2.fst.snd = (834 : Int)) && true) else false;
  let v19 : Bool := bif v18 then decide (t_4.snd.fst = (0 : Int)) else false;
  let v20 : Bool := bif v19 then decide (t_4.fst.fst = (5000000 : Int)) && (decide (t_4.fst.snd = (5000000 : Int)) && true) else false;
  let v21 : Bool := !v18 || v18;
  let v22 : Bool := bif v20 then decide (t_6.snd.fst = (0 : Int)) else false;
  let v23 : Bool := !v19 || v19;
  let v24 : Bool := !v20 || v20; bif v5 then bif v15 then bif v15 then bif v17 && v17 then bif v17 then bif v21 then bif v21 then bif v23 && v23 then bif v23 then bif v24 then bif v24 then
    bif !v22 || v22 then some (bif v22 then t_6.fst else false) else none else none else none else none else none else none else none else none else none else none else none else none else
    none else none
noncomputable def law18_awake : Option Bool := law18_awake_b lpK jnK bridle_Pulls slices_Equal_11 law18_example bridle_Tension bridle_Length bridle_Within
noncomputable def c4 : Ctr := ⟨[], [], [], .one .bool, fun _ _ _ => law18_awake⟩
theorem e4 (lp : Lp) (jn : Jn) (bridle_Pulls : ((Int × Int × Int) × Int × List (ByteArray × (Int × Int × Int) × Int)) → Option ((List (Int × Int)) × Int × Unit)) (slices_Equal_11 : (List (Int × Int)) → (List (Int × Int)) → Option (Bool)) (law18_example : Option ((Int × Int × Int) × Int × List (ByteArray × (Int × Int × Int) × Int))) (bridle_Tension : ((Int × Int × Int) × Int × List (ByteArray × (Int × Int × Int) × Int)) → (ByteArray) → Option ((Int × Int) × Int × Unit)) (bridle_Length : ((Int × Int × Int) × Int × List (ByteArray × (Int × Int × Int) × Int)) → (ByteArray) → Option ((Int × Int) × Int × Unit)) (bridle_Within : ((Int × Int × Int) × Int × List (ByteArray × (Int × Int × Int) × Int)) → Option (Bool × Int × Unit)) : ∀ (x : TsS c4.as) (F : TsF c4.fs) (y : TsS c4.cs), law18_awake_b lp jn bridle_Pulls slices_Equal_11 law18_example bridle_Tension bridle_Length bridle_Within = runC lp jn (ctxOf prog shs inls [(15, ⟨[T26], [], [], .tup [.bool, i64], fun x _ _ => bridle_Within x.1⟩), (14, ⟨[T26, .str], [], [], .tup [T45, i64], fun x _ _ => bridle_Length x.1 x.2.1⟩), (13, ⟨[T26, .str], [], [], .tup [T45, i64], fun x _ _ => bridle_Tension x.1 x.2.1⟩), (12, ⟨[], [], [], .one T26, fun _ _ _ => law18_example⟩), (11, ⟨[(.sl T41), (.sl T41)], [], [], .one .bool, fun x _ _ => slices_Equal_11 x.1 x.2.1⟩), (6, ⟨[T26], [], [], .tup [(.sl T41), i64], fun x _ _ => bridle_Pulls x.1⟩)] []) hints 4 4 f4 c4 x F y := fun x F y => by kernel_rfl
theorem l4 : (ctxOf prog shs inls [(15, c15), (14, c14), (13, c13), (12, c12), (11, c11), (6, c6)] []).ok := ctxOf_cons (ctxOf_cons (ctxOf_cons (ctxOf_cons (ctxOf_cons (ctxOf_cons (q0) (by kernel_rfl) ok6) (by kernel_rfl) ok11) (by kernel_rfl) ok12) (by kernel_rfl) ok13) (by kernel_rfl) ok14) (by kernel_rfl) ok15
theorem ok4 : c4.ok prog 4 := Ctr.of_den l4 hmix (hl := hints) (d := 4) func4 rfl (by decide) (e4 lpK jnK bridle_Pulls slices_Equal_11 law18_example bridle_Tension bridle_Length bridle_Within)

/-- slices.ContainsFunc[[]loftblock api.Leg,loftblock api.Leg] -/
noncomputable def slices_ContainsFunc_16_b (_ : Lp) (_ : Jn) (slices_IndexFunc_44 : (List (ByteArray × (Int × Int × Int) × Int)) → ((((ByteArray × (Int × Int × Int) × Int) × Unit) → Option Bool)) → Option (Int)) (x0 : List (ByteArray × (Int × Int × Int) × Int)) (f0 : (((ByteArray × (Int × Int × Int) × Int) × Unit) → Option Bool)) : Option Bool :=
  obind (slices_IndexFunc_44 x0 f0) fun (t : Int) => some (decide (t ≥ (0 : Int)))
noncomputable def slices_ContainsFunc_16 (x0 : List (ByteArray × (Int × Int × Int) × Int)) (f0 : (((ByteArray × (Int × Int × Int) × Int) × Unit) → Option Bool)) : Option Bool := slices_ContainsFunc_16_b lpK jnK slices_IndexFunc_44 x0 f0
noncomputable def c16 : Ctr := ⟨[(.sl T51)], [([T51], .bool)], [], .one .bool, fun x F _ => slices_ContainsFunc_16 x.1 F.1⟩
theorem e16 (lp : Lp) (jn : Jn) (slices_IndexFunc_44 : (List (ByteArray × (Int × Int × Int) × Int)) → ((((ByteArray × (Int × Int × Int) × Int) × Unit) → Option Bool)) → Option (Int)) : ∀ (x : TsS c16.as) (F : TsF c16.fs) (y : TsS c16.cs), slices_ContainsFunc_16_b lp jn slices_IndexFunc_44 x.1 F.1 = runC lp jn (ctxOf prog shs inls [(44, ⟨[(.sl T51)], [([T51], .bool)], [], .one i64, fun x F _ => slices_IndexFunc_44 x.1 F.1⟩)] []) hints 4 16 f16 c16 x F y := fun x F y => by kernel_rfl
theorem l16 : (ctxOf prog shs inls [(44, c44)] []).ok := ctxOf_cons (q0) (by kernel_rfl) ok44
theorem ok16 : c16.ok prog 16 := Ctr.of_den l16 hmix (hl := hints) (d := 4) func16 rfl (by decide) (e16 lpK jnK slices_IndexFunc_44)

/-- loftblock loftblocklaw18.long$1 -/
noncomputable def law18_long_1_b (_ : Lp) (_ : Jn) (x0 : ByteArray × (Int × Int × Int) × Int) : Option Bool :=
  some (decide ((↑(ByteArray.size x0.fst) : Int) > (100 : Int)))
noncomputable def law18_long_1 (x0 : ByteArray × (Int × Int × Int) × Int) : Option Bool := law18_long_1_b lpK jnK x0
noncomputable def c17 : Ctr := ⟨[T51], [], [], .one .bool, fun x _ _ => law18_long_1 x.1⟩
theorem e17 (lp : Lp) (jn : Jn) : ∀ (x : TsS c17.as) (F : TsF c17.fs) (y : TsS c17.cs), law18_long_1_b lp jn x.1 = runC lp jn (ctxOf prog shs inls [] []) hints 4 17 f17 c17 x F y := fun x F y => by kernel_rfl
theorem l17 : (ctxOf prog shs inls [] []).ok := q0
theorem ok17 : c17.ok prog 17 := Ctr.of_den l17 hmix (hl := hints) (d := 4) func17 rfl (by decide) (e17 lpK jnK)

/-- loftblock loftblocklaw18.long -/
noncomputable def law18_long_b (_ : Lp) (_ : Jn) (slices_ContainsFunc_16 : (List (ByteArray × (Int × Int × Int) × Int)) → ((((ByteArray × (Int × Int × Int) × Int) × Unit) → Option Bool)) → Option (Bool)) (law18_long_1 : (ByteArray × (Int × Int × Int) × Int) → Option (Bool)) (x0 : (Int × Int × Int) × Int × List (ByteArray × (Int × Int × Int) × Int)) : Option Bool :=
  
  let v3 : Bool := decide ((↑(List.length x0.snd.snd) : Int) > (10 : Int));
  let v4 : Bool := !v3;
  let v5 : Bool := !v4 || v4; bif v5 then bif v5 then obind (bif v4 then slices_ContainsFunc_16 x0.snd.snd fun (x : (ByteArray × (Int × Int × Int) × Int) × PUnit) => law18_long_1 x.fst else
    some false) fun (t : Bool) => bif v3 || v4 then some (bif v3 then true else t) else none else none else none
noncomputable def law18_long (x0 : (Int × Int × Int) × Int × List (ByteArray × (Int × Int × Int) × Int)) : Option Bool := law18_long_b lpK jnK slices_ContainsFunc_16 law18_long_1 x0
noncomputable def c5 : Ctr := ⟨[T26], [], [], .one .bool, fun x _ _ => law18_long x.1⟩
theorem e5 (lp : Lp) (jn : Jn) (slices_ContainsFunc_16 : (List (ByteArray × (Int × Int × Int) × Int)) → ((((ByteArray × (Int × Int × Int) × Int) × Unit) → Option Bool)) → Option (Bool)) (law18_long_1 : (ByteArray × (Int × Int × Int) × Int) → Option (Bool)) : ∀ (x : TsS c5.as) (F : TsF c5.fs) (y : TsS c5.cs), law18_long_b lp jn slices_ContainsFunc_16 law18_long_1 x.1 = runC lp jn (ctxOf prog shs inls [(17, ⟨[T51], [], [], .one .bool, fun x _ _ => law18_long_1 x.1⟩), (16, ⟨[(.sl T51)], [([T51], .bool)], [], .one .bool, fun x F _ => slices_ContainsFunc_16 x.1 F.1⟩)] []) hints 4 5 f5 c5 x F y := fun x F y => by kernel_rfl
theorem l5 : (ctxOf prog shs inls [(17, c17), (16, c16)] []).ok := ctxOf_cons (ctxOf_cons (q0) (by kernel_rfl) ok16) (by kernel_rfl) ok17
theorem ok5 : c5.ok prog 5 := Ctr.of_den l5 hmix (hl := hints) (d := 4) func5 rfl (by decide) (e5 lpK jnK slices_ContainsFunc_16 law18_long_1)

/-- loftblock bridle.Check$1 -/
noncomputable def bridle_Check_1_b (_ : Lp) (_ : Jn) (ratio_Valid : (Int × Int) → Option (Bool)) (x0 : Int × Int) : Option Bool :=
  obind (ratio_Valid x0) fun (t : Bool) => some !t
noncomputable def bridle_Check_1 (x0 : Int × Int) : Option Bool := bridle_Check_1_b lpK jnK ratio_Valid x0
noncomputable def c21 : Ctr := ⟨[T41], [], [], .one .bool, fun x _ _ => bridle_Check_1 x.1⟩
theorem e21 (lp : Lp) (jn : Jn) (ratio_Valid : (Int × Int) → Option (Bool)) : ∀ (x : TsS c21.as) (F : TsF c21.fs) (y : TsS c21.cs), bridle_Check_1_b lp jn ratio_Valid x.1 = runC lp jn (ctxOf prog shs inls [(22, ⟨[T41], [], [], .one .bool, fun x _ _ => ratio_Valid x.1⟩)] []) hints 4 21 f21 c21 x F y := fun x F y => by kernel_rfl
theorem l21 : (ctxOf prog shs inls [(22, c22)] []).ok := ctxOf_cons (q0) (by kernel_rfl) ok22
theorem ok21 : c21.ok prog 21 := Ctr.of_den l21 hmix (hl := hints) (d := 4) func21 rfl (by decide) (e21 lpK jnK ratio_Valid)

/-- loftblock ratio.plus -/
noncomputable def ratio_plus_b (_ : Lp) (_ : Jn) (x0 : Int × Int) (x1 : Int × Int) : Option (Int × Int) :=
  bif decide ((0 : Int) ≤ (0 : Int)) && decide ((0 : Int) ≤ (1 : Int)) then bif decide ((0 : Int) ≤ addC x0.snd x1.snd (0 : Int)) && decide (addC x0.snd x1.snd (0 : Int) ≤ (1 : Int)) then
    some (addO x0.fst x1.fst (addC x0.snd x1.snd (0 : Int)), addO x0.snd x1.snd (0 : Int)) else none else none
noncomputable def ratio_plus (x0 : Int × Int) (x1 : Int × Int) : Option (Int × Int) := ratio_plus_b lpK jnK x0 x1
noncomputable def c61 : Ctr := ⟨[T90, T90], [], [], .one T90, fun x _ _ => ratio_plus x.1 x.2.1⟩
theorem e61 (lp : Lp) (jn : Jn) : ∀ (x : TsS c61.as) (F : TsF c61.fs) (y : TsS c61.cs), ratio_plus_b lp jn x.1 x.2.1 = runC lp jn (ctxOf prog shs inls [] []) hints 4 61 f61 c61 x F y := fun x F y => by kernel_rfl
theorem l61 : (ctxOf prog shs inls [] []).ok := q0
theorem ok61 : c61.ok prog 61 := Ctr.of_den l61 hmix (hl := hints) (d := 4) func61 rfl (by decide) (e61 lpK jnK)

/-- loftblock ratio.less -/
noncomputable def ratio_less_b (_ : Lp) (_ : Jn) (x0 : Int × Int) (x1 : Int × Int) : Option Bool :=
  
  let v4 : Bool := decide (x0.fst = x1.fst);
  let v5 : Bool := decide (x0.fst < x1.fst);
  let v6 : Bool := !v5;
  let v7 : Bool := !v6;
  let v8 : Bool := v6 && v4;
  let v9 : Bool := v7 || v6;
  let v10 : Bool := !v8 || v8; bif v9 then bif v9 then bif v9 && v9 then bif v9 then bif v10 then bif v10 then bif v10 && v10 then bif (v7 || v9) && (v7 || (!v4 || (v7 || v8))) then bif v5
    || v6 then some (bif v5 then true else bif v4 then decide (x0.snd < x1.snd) else false) else none else none else none else none else none else none else none else none else none
noncomputable def ratio_less (x0 : Int × Int) (x1 : Int × Int) : Option Bool := ratio_less_b lpK jnK x0 x1
noncomputable def c62 : Ctr := ⟨[T90, T90], [], [], .one .bool, fun x _ _ => ratio_less x.1 x.2.1⟩
theorem e62 (lp : Lp) (jn : Jn) : ∀ (x : TsS c62.as) (F : TsF c62.fs) (y : TsS c62.cs), ratio_less_b lp jn x.1 x.2.1 = runC lp jn (ctxOf prog shs inls [] []) hints 4 62 f62 c62 x F y := fun x F y => by kernel_rfl
theorem l62 : (ctxOf prog shs inls [] []).ok := q0
theorem ok62 : c62.ok prog 62 := Ctr.of_den l62 hmix (hl := hints) (d := 4) func62 rfl (by decide) (e62 lpK jnK)

/-- loftblock ratio.minus -/
noncomputable def ratio_minus_b (_ : Lp) (_ : Jn) (x0 : Int × Int) (x1 : Int × Int) : Option (Int × Int) :=
  bif decide ((0 : Int) ≤ (0 : Int)) && decide ((0 : Int) ≤ (1 : Int)) then bif decide ((0 : Int) ≤ subC x0.snd x1.snd (0 : Int)) && decide (subC x0.snd x1.snd (0 : Int) ≤ (1 : Int)) then
    some (subO x0.fst x1.fst (subC x0.snd x1.snd (0 : Int)), subO x0.snd x1.snd (0 : Int)) else none else none
noncomputable def ratio_minus (x0 : Int × Int) (x1 : Int × Int) : Option (Int × Int) := ratio_minus_b lpK jnK x0 x1
noncomputable def c63 : Ctr := ⟨[T90, T90], [], [], .one T90, fun x _ _ => ratio_minus x.1 x.2.1⟩
theorem e63 (lp : Lp) (jn : Jn) : ∀ (x : TsS c63.as) (F : TsF c63.fs) (y : TsS c63.cs), ratio_minus_b lp jn x.1 x.2.1 = runC lp jn (ctxOf prog shs inls [] []) hints 4 63 f63 c63 x F y := fun x F y => by kernel_rfl
theorem l63 : (ctxOf prog shs inls [] []).ok := q0
theorem ok63 : c63.ok prog 63 := Ctr.of_den l63 hmix (hl := hints) (d := 4) func63 rfl (by decide) (e63 lpK jnK)

/-- math bits.Len64 -/
noncomputable def bits_Len64_b (_ : Lp) (jn : Jn) (x0 : Int) : Option Int :=
  jn (Int × Int × PUnit) Int (fun (x : Int × Int × PUnit) => jn (Int × Int × PUnit) Int (fun (x : Int × Int × PUnit) =>
  let v5 : Int := IntKind.wrap IntKind.u8 x.fst;
  let v6 : Int := IntKind.wrap IntKind.u8 (Int.fdiv x.fst ((2 : Int) ^ (8 : Nat))); bif decide (x.fst ≥ (256 : Int)) then bif decide ((0 : Int) ≤ (8 : Int)) then bif inB v6 (256 : Nat) then
    some (IntKind.wrap IntKind.i64 (IntKind.wrap IntKind.i64 (x.snd.fst + (8 : Int)) + IntKind.wrap IntKind.i64 (byteAt { data := List.toArray (List.append (List.append [(0 : UInt8), (1 :
    UInt8), (2 : UInt8), (2 : UInt8), (3 : UInt8), (3 : UInt8), (3 : UInt8), (3 : UInt8), (4 : UInt8), (4 : UInt8), (4 : UInt8), (4 : UInt8), (4 : UInt8), (4 : UInt8), (4 : UInt8), (4 :
    UInt8), (5 : UInt8), (5 : UInt8), (5 : UInt8), (5 : UInt8), (5 : UInt8), (5 : UInt8), (5 : UInt8), (5 : UInt8), (5 : UInt8), (5 : UInt8), (5 : UInt8), (5 : UInt8), (5 : UInt8), (5 :
    UInt8), (5 : UInt8), (5 : UInt8), (6 : UInt8), (6 : UInt8), (6 : UInt8), (6 : UInt8), (6 : UInt8), (6 : UInt8), (6 : UInt8), (6 : UInt8), (6 : UInt8), (6 : UInt8), (6 : UInt8), (6 :
    UInt8), (6 : UInt8), (6 : UInt8), (6 : UInt8), (6 : UInt8), (6 : UInt8), (6 : UInt8), (6 : UInt8), (6 : UInt8), (6 : UInt8), (6 : UInt8), (6 : UInt8), (6 : UInt8), (6 : UInt8), (6 :
    UInt8), (6 : UInt8), (6 : UInt8), (6 : UInt8), (6 : UInt8), (6 : UInt8), (6 : UInt8)] [(7 : UInt8), (7 : UInt8), (7 : UInt8), (7 : UInt8), (7 : UInt8), (7 : UInt8), (7 : UInt8), (7 :
    UInt8), (7 : UInt8), (7 : UInt8), (7 : UInt8), (7 : UInt8), (7 : UInt8), (7 : UInt8), (7 : UInt8), (7 : UInt8), (7 : UInt8), (7 : UInt8), (7 : UInt8), (7 : UInt8), (7 : UInt8), (7 :
    UInt8), (7 : UInt8), (7 : UInt8), (7 : UInt8), (7 : UInt8), (7 : UInt8), (7 : UInt8), (7 : UInt8), (7 : UInt8), (7 : UInt8), (7 : UInt8), (7 : UInt8), (7 : UInt8), (7 : UInt8), (7 :
    UInt8), (7 : UInt8), (7 : UInt8), (7 : UInt8), (7 : UInt8), (7 : UInt8), (7 : UInt8), (7 : UInt8), (7 : UInt8), (7 : UInt8), (7 : UInt8), (7 : UInt8), (7 : UInt8), (7 : UInt8), (7 :
    UInt8), (7 : UInt8), (7 : UInt8), (7 : UInt8), (7 : UInt8), (7 : UInt8), (7 : UInt8), (7 : UInt8), (7 : UInt8), (7 : UInt8), (7 : UInt8), (7 : UInt8), (7 : UInt8), (7 : UInt8), (7 :
    UInt8)]) (List.append [(8 : UInt8), (8 : UInt8), (8 : UInt8), (8 : UInt8), (8 : UInt8), (8 : UInt8), (8 : UInt8), (8 : UInt8), (8 : UInt8), (8 : UInt8), (8 : UInt8), (8 : UInt8), (8 :
    UInt8), (8 : UInt8), (8 : UInt8), (8 : UInt8), (8 : UInt8), (8 : UInt8), (8 : UInt8), (8 : UInt8), (8 : UInt8), (8 : UInt8), (8 : UInt8), (8 : UInt8), (8 : UInt8), (8 : UInt8), (8 :
    UInt8), (8 : UInt8), (8 : UInt8), (8 : UInt8), (8 : UInt8), (8 : UInt8), (8 : UInt8), (8 : UInt8), (8 : UInt8), (8 : UInt8), (8 : UInt8), (8 : UInt8), (8 : UInt8), (8 : UInt8), (8 :
    UInt8), (8 : UInt8), (8 : UInt8), (8 : UInt8), (8 : UInt8), (8 : UInt8), (8 : UInt8), (8 : UInt8), (8 : UInt8), (8 : UInt8), (8 : UInt8), (8 : UInt8), (8 : UInt8), (8 : UInt8), (8 :
    UInt8), (8 : UInt8), (8 : UInt8), (8 : UInt8), (8 : UInt8), (8 : UInt8), (8 : UInt8), (8 : UInt8), (8 : UInt8), (8 : UInt8)] [(8 : UInt8), (8 : UInt8), (8 : UInt8), (8 : UInt8), (8 :
    UInt8), (8 : UInt8), (8 : UInt8), (8 : UInt8), (8 : UInt8), (8 : UInt8), (8 : UInt8), (8 : UInt8), (8 : UInt8), (8 : UInt8), (8 : UInt8), (8 : UInt8), (8 : UInt8), (8 : UInt8), (8 :
    UInt8), (8 : UInt8), (8 : UInt8), (8 : UInt8), (8 : UInt8), (8 : UInt8), (8 : UInt8), (8 : UInt8), (8 : UInt8), (8 : UInt8), (8 : UInt8), (8 : UInt8), (8 : UInt8), (8 : UInt8), (8 :
    UInt8), (8 : UInt8), (8 : UInt8), (8 : UInt8), (8 : UInt8), (8 : UInt8), (8 : UInt8), (8 : UInt8), (8 : UInt8), (8 : UInt8), (8 : UInt8), (8 : UInt8), (8 : UInt8), (8 : UInt8), (8 :
    UInt8), (8 : UInt8), (8 : UInt8), (8 : UInt8), (8 : UInt8), (8 : UInt8), (8 : UInt8), (8 : UInt8), (8 : UInt8), (8 : UInt8), (8 : UInt8), (8 : UInt8), (8 : UInt8), (8 : UInt8), (8 :
    UInt8), (8 : UInt8), (8 : UInt8), (8 : UInt8)])) } (Int.toNat v6)))) else none else none else bif inB v5 (256 : Nat) then some (IntKind.wrap IntKind.i64 (x.snd.fst + IntKind.wrap
    IntKind.i64 (byteAt { data := List.toArray (List.append (List.append [(0 : UInt8), (1 : UInt8), (2 : UInt8), (2 : UInt8), (3 : UInt8), (3 : UInt8), (3 : UInt8), (3 : UInt8), (4 :
    UInt8), (4 : UInt8), (4 : UInt8), (4 : UInt8), (4 : UInt8), (4 : UInt8), (4 : UInt8), (4 : UInt8), (5 : UInt8), (5 : UInt8), (5 : UInt8), (5 : UInt8), (5 : UInt8), (5 : UInt8), (5 :
    UInt8), (5 : UInt8), (5 : UInt8), (5 : UInt8), (5 : UInt8), (5 : UInt8), (5 : UInt8), (5 : UInt8), (5 : UInt8), (5 : UInt8), (6 : UInt8), (6 : UInt8), (6 : UInt8), (6 : UInt8), (6 :
    UInt8), (6 : UInt8), (6 : UInt8), (6 : UInt8), (6 : UInt8), (6 : UInt8), (6 : UInt8), (6 : UInt8), (6 : UInt8), (6 : UInt8), (6 : UInt8), (6 : UInt8), (6 : UInt8), (6 : UInt8), (6 :
    UInt8), (6 : UInt8), (6 : UInt8), (6 : UInt8), (6 : UInt8), (6 : UInt8), (6 : UInt8), (6 : UInt8), (6 : UInt8), (6 : UInt8), (6 : UInt8), (6 : UInt8), (6 : UInt8), (6 : UInt8)] [(7 :
    UInt8), (7 : UInt8), (7 : UInt8), (7 : UInt8), (7 : UInt8), (7 : UInt8), (7 : UInt8), (7 : UInt8), (7 : UInt8), (7 : UInt8), (7 : UInt8), (7 : UInt8), (7 : UInt8), (7 : UInt8), (7 :
    UInt8), (7 : UInt8), (7 : UInt8), (7 : UInt8), (7 : UInt8), (7 : UInt8), (7 : UInt8), (7 : UInt8), (7 : UInt8), (7 : UInt8), (7 : UInt8), (7 : UInt8), (7 : UInt8), (7 : UInt8), (7 :
    UInt8), (7 : UInt8), (7 : UInt8), (7 : UInt8), (7 : UInt8), (7 : UInt8), (7 : UInt8), (7 : UInt8), (7 : UInt8), (7 : UInt8), (7 : UInt8), (7 : UInt8), (7 : UInt8), (7 : UInt8), (7 :
    UInt8), (7 : UInt8), (7 : UInt8), (7 : UInt8), (7 : UInt8), (7 : UInt8), (7 : UInt8), (7 : UInt8), (7 : UInt8), (7 : UInt8), (7 : UInt8), (7 : UInt8), (7 : UInt8), (7 : UInt8), (7 :
    UInt8), (7 : UInt8), (7 : UInt8), (7 : UInt8), (7 : UInt8), (7 : UInt8), (7 : UInt8), (7 : UInt8)]) (List.append [(8 : UInt8), (8 : UInt8), (8 : UInt8), (8 : UInt8), (8 : UInt8), (8 :
    UInt8), (8 : UInt8), (8 : UInt8), (8 : UInt8), (8 : UInt8), (8 : UInt8), (8 : UInt8), (8 : UInt8), (8 : UInt8), (8 : UInt8), (8 : UInt8), (8 : UInt8), (8 : UInt8), (8 : UInt8), (8 :
    UInt8), (8 : UInt8), (8 : UInt8), (8 : UInt8), (8 : UInt8), (8 : UInt8), (8 : UInt8), (8 : UInt8), (8 : UInt8), (8 : UInt8), (8 : UInt8), (8 : UInt8), (8 : UInt8), (8 : UInt8), (8 :
    UInt8), (8 : UInt8), (8 : UInt8), (8 : UInt8), (8 : UInt8), (8 : UInt8), (8 : UInt8), (8 : UInt8), (8 : UInt8), (8 : UInt8), (8 : UInt8), (8 : UInt8), (8 : UInt8), (8 : UInt8), (8 :
    UInt8), (8 : UInt8), (8 : UInt8), (8 : UInt8), (8 : UInt8), (8 : UInt8), (8 : UInt8), (8 : UInt8), (8 : UInt8), (8 : UInt8), (8 : UInt8), (8 : UInt8), (8 : UInt8), (8 : UInt8), (8 :
    UInt8), (8 : UInt8), (8 : UInt8)] [(8 : UInt8), (8 : UInt8), (8 : UInt8), (8 : UInt8), (8 : UInt8), (8 : UInt8), (8 : UInt8), (8 : UInt8), (8 : UInt8), (8 : UInt8), (8 : UInt8), (8 :
    UInt8), (8 : UInt8), (8 : UInt8), (8 : UInt8), (8 : UInt8), (8 : UInt8), (8 : UInt8), (8 : UInt8), (8 : UInt8), (8 : UInt8), (8 : UInt8), (8 : UInt8), (8 : UInt8), (8 : UInt8), (8 :
    UInt8), (8 : UInt8), (8 : UInt8), (8 : UInt8), (8 : UInt8), (8 : UInt8), (8 : UInt8), (8 : UInt8), (8 : UInt8), (8 : UInt8), (8 : UInt8), (8 : UInt8), (8 : UInt8), (8 : UInt8), (8 :
    UInt8), (8 : UInt8), (8 : UInt8), (8 : UInt8), (8 : UInt8), (8 : UInt8), (8 : UInt8), (8 : UInt8), (8 : UInt8), (8 : UInt8), (8 : UInt8), (8 : UInt8), (8 : UInt8), (8 : UInt8), (8 :
    UInt8), (8 : UInt8), (8 : UInt8), (8 : UInt8), (8 : UInt8), (8 : UInt8), (8 : UInt8), (8 : UInt8), (8 : UInt8), (8 : UInt8), (8 : UInt8)])) } (Int.toNat v5)))) else none) fun (j : Int ×
    Int × PUnit → Option Int) => bif decide (x.fst ≥ (65536 : Int)) then bif decide ((0 : Int) ≤ (16 : Int)) then j (Int.fdiv x.fst ((2 : Int) ^ (16 : Nat)), IntKind.wrap IntKind.i64
    (x.snd.fst + (16 : Int)), PUnit.unit) else none else j (x.fst, x.snd.fst, PUnit.unit)) fun (j : Int × Int × PUnit → Option Int) => bif decide (x0 ≥ (4294967296 : Int)) then bif decide
    ((0 : Int) ≤ (32 : Int)) then j (Int.fdiv x0 ((2 : Int) ^ (32 : Nat)), (32 : Int), PUnit.unit) else none else j (x0, (0 : Int), PUnit.unit)
noncomputable def bits_Len64 (x0 : Int) : Option Int := bits_Len64_b lpK jnK x0
noncomputable def c105 : Ctr := ⟨[(.int .u64)], [], [], .one i64, fun x _ _ => bits_Len64 x.1⟩
theorem e105 (lp : Lp) (jn : Jn) : ∀ (x : TsS c105.as) (F : TsF c105.fs) (y : TsS c105.cs), bits_Len64_b lp jn x.1 = runC lp jn (ctxOf prog shs inls [] []) hints 4 105 f105 c105 x F y := fun x F y => by kernel_rfl
theorem l105 : (ctxOf prog shs inls [] []).ok := q0
theorem ok105 : c105.ok prog 105 := Ctr.of_den l105 hmix (hl := hints) (d := 4) func105 rfl (by decide) (e105 lpK jnK)

/-- math bits.LeadingZeros64 -/
noncomputable def bits_LeadingZeros64_b (_ : Lp) (_ : Jn) (bits_Len64 : (Int) → Option (Int)) (x0 : Int) : Option Int :=
  obind (bits_Len64 x0) fun (t : Int) => some (IntKind.wrap IntKind.i64 ((64 : Int) - t))
noncomputable def bits_LeadingZeros64 (x0 : Int) : Option Int := bits_LeadingZeros64_b lpK jnK bits_Len64 x0
noncomputable def c101 : Ctr := ⟨[(.int .u64)], [], [], .one i64, fun x _ _ => bits_LeadingZeros64 x.1⟩
theorem e101 (lp : Lp) (jn : Jn) (bits_Len64 : (Int) → Option (Int)) : ∀ (x : TsS c101.as) (F : TsF c101.fs) (y : TsS c101.cs), bits_LeadingZeros64_b lp jn bits_Len64 x.1 = runC lp jn (ctxOf prog shs inls [(105, ⟨[(.int .u64)], [], [], .one i64, fun x _ _ => bits_Len64 x.1⟩)] []) hints 4 101 f101 c101 x F y := fun x F y => by kernel_rfl
theorem l101 : (ctxOf prog shs inls [(105, c105)] []).ok := ctxOf_cons (q0) (by kernel_rfl) ok105
theorem ok101 : c101.ok prog 101 := Ctr.of_den l101 hmix (hl := hints) (d := 4) func101 rfl (by decide) (e101 lpK jnK bits_Len64)

/-- math bits.Div64 -/
noncomputable def bits_Div64_b (lp : Lp) (jn : Jn) (bits_LeadingZeros64 : (Int) → Option (Int)) (x0 : Int) (x1 : Int) (x2 : Int) : Option (Int × Int × Unit) :=
  
  let v5 : Bool := nzB x2;
  let v6 : Int := (2 : Int) ^ (32 : Nat);
  let v7 : Bool := decide ((0 : Int) ≤ (32 : Int)); jn PUnit (Int × Int × PUnit) (fun (x : PUnit) => jn PUnit (Int × Int × PUnit) (fun (x : PUnit) => bif decide (x0 = (0 : Int)) then bif v5
    then bif v5 then some (IntKind.wrap IntKind.u64 (Int.tdiv x1 x2), Int.tmod x1 x2, PUnit.unit) else none else none else obind (bits_LeadingZeros64 x2) fun (t : Int) =>
  let v11 : Int := IntKind.wrap IntKind.u64 t;
  let v12 : Bool := decide ((0 : Int) ≤ v11);
  let v13 : Int := (2 : Int) ^ min (Int.toNat v11) (64 : Nat);
  let v14 : Int := IntKind.wrap IntKind.u64 (x2 * v13);
  let v15 : Int := IntKind.wrap IntKind.u64 (x1 * v13);
  let v16 : Int := Int.fdiv v14 v6;
  let v17 : Int := Int.fdiv v15 v6;
  let v18 : Bool := nzB v16;
  let v19 : Int := IntKind.wrap IntKind.u64 (↑(Nat.land (Int.toNat (v15 % Int.ofNat (18446744073709551616 : Nat))) (Int.toNat ((4294967295 : Int) % Int.ofNat (18446744073709551616 : Nat))))
    : Int);
  let v20 : Int := IntKind.wrap IntKind.u64 (↑(Nat.land (Int.toNat (v14 % Int.ofNat (18446744073709551616 : Nat))) (Int.toNat ((4294967295 : Int) % Int.ofNat (18446744073709551616 : Nat))))
    : Int);
  let v21 : Int := IntKind.wrap IntKind.u64 (↑(Nat.lor (Int.toNat (IntKind.wrap IntKind.u64 (x0 * v13) % Int.ofNat (18446744073709551616 : Nat))) (Int.toNat (Int.fdiv x1 ((2 : Int) ^ min
    (Int.toNat (IntKind.wrap IntKind.u64 ((64 : Int) - v11))) (64 : Nat)) % Int.ofNat (18446744073709551616 : Nat)))) : Int);
  let v22 : Int := IntKind.wrap IntKind.u64 (Int.tdiv v21 v16); bif v12 then bif v7 then bif v12 then bif decide ((0 : Int) ≤ IntKind.wrap IntKind.u64 ((64 : Int) - v11)) then bif v12 then
    bif v7 then bif v18 then jn (Int × PUnit) (Int × Int × PUnit) (fun (x : Int × PUnit) =>
  let v24 : Int := IntKind.wrap IntKind.u64 (IntKind.wrap IntKind.u64 (IntKind.wrap IntKind.u64 (v21 * (4294967296 : Int)) + v17) - IntKind.wrap IntKind.u64 (x.fst * v14));
  let v25 : Int := IntKind.wrap IntKind.u64 (Int.tdiv v24 v16); bif v18 then jn (Int × PUnit) (Int × Int × PUnit) (fun (x_1 : Int × PUnit) => bif v12 then some (IntKind.wrap IntKind.u64
    (IntKind.wrap IntKind.u64 (x.fst * (4294967296 : Int)) + x_1.fst), Int.fdiv (IntKind.wrap IntKind.u64 (IntKind.wrap IntKind.u64 (IntKind.wrap IntKind.u64 (v24 * (4294967296 : Int)) +
    v19) - IntKind.wrap IntKind.u64 (x_1.fst * v14))) v13, PUnit.unit) else none) fun (j : Int × PUnit → Option (Int × Int × PUnit)) => lp (Int × Int × PUnit) (Int × Int × PUnit) (fun
    (again : Int × Int × PUnit → Option (Int × Int × PUnit)) (x : Int × Int × PUnit) =>
  let v29 : Int × PUnit := (IntKind.wrap IntKind.u64 (x.snd.fst - (1 : Int)), PUnit.unit);
  let v30 : Bool := decide (x.snd.fst ≥ (4294967296 : Int));
  let v31 : Bool := !v30;
  let v32 : Bool := !v31 || v31;
  let v33 : Bool := v32 && v32; bif v33 then bif v32 then bif v33 then bif v33 then bif v30 || v31 then bif bif v30 then true else decide (IntKind.wrap IntKind.u64 (x.snd.fst * v20) >
    IntKind.wrap IntKind.u64 (IntKind.wrap IntKind.u64 ((4294967296 : Int) * x.fst) + v19)) then bif decide (IntKind.wrap IntKind.u64 (x.fst + v16) ≥ (4294967296 : Int)) then j v29 else
    again (IntKind.wrap IntKind.u64 (x.fst + v16), v29) else j (x.snd.fst, PUnit.unit) else none else none else none else none else none) (IntKind.wrap IntKind.u64 (v24 - IntKind.wrap
    IntKind.u64 (v25 * v16)), v25, PUnit.unit) else none) fun (j : Int × PUnit → Option (Int × Int × PUnit)) => lp (Int × Int × PUnit) (Int × Int × PUnit) (fun (again : Int × Int × PUnit →
    Option (Int × Int × PUnit)) (x : Int × Int × PUnit) =>
  let v26 : Int := IntKind.wrap IntKind.u64 (x.fst - (1 : Int));
  let v27 : Bool := decide (x.fst ≥ (4294967296 : Int));
  let v28 : Bool := !v27;
  let v29 : Bool := !v28 || v28;
  let v30 : Bool := v29 && v29; bif v30 then bif v29 then bif v30 then bif v30 then bif v27 || v28 then bif bif v27 then true else decide (IntKind.wrap IntKind.u64 (x.fst * v20) >
    IntKind.wrap IntKind.u64 (IntKind.wrap IntKind.u64 ((4294967296 : Int) * x.snd.fst) + v17)) then bif decide (IntKind.wrap IntKind.u64 (x.snd.fst + v16) ≥ (4294967296 : Int)) then j
    (v26, PUnit.unit) else again (v26, IntKind.wrap IntKind.u64 (x.snd.fst + v16), PUnit.unit) else j (x.fst, PUnit.unit) else none else none else none else none else none) (v22,
    IntKind.wrap IntKind.u64 (v21 - IntKind.wrap IntKind.u64 (v22 * v16)), PUnit.unit) else none else none else none else none else none else none else none) fun (j : PUnit → Option (Int ×
    Int × PUnit)) => bif decide (x2 ≤ x0) then none else j PUnit.unit) fun (j : PUnit → Option (Int × Int × PUnit)) => bif decide (x2 = (0 : Int)) then none else j PUnit.unit
noncomputable def bits_Div64 (x0 : Int) (x1 : Int) (x2 : Int) : Option (Int × Int × Unit) := bits_Div64_b lpK jnK bits_LeadingZeros64 x0 x1 x2
noncomputable def c92 : Ctr := ⟨[(.int .u64), (.int .u64), (.int .u64)], [], [], .tup [(.int .u64), (.int .u64)], fun x _ _ => bits_Div64 x.1 x.2.1 x.2.2.1⟩
theorem e92 (lp : Lp) (jn : Jn) (bits_LeadingZeros64 : (Int) → Option (Int)) : ∀ (x : TsS c92.as) (F : TsF c92.fs) (y : TsS c92.cs), bits_Div64_b lp jn bits_LeadingZeros64 x.1 x.2.1 x.2.2.1 = runC lp jn (ctxOf prog shs inls [(101, ⟨[(.int .u64)], [], [], .one i64, fun x _ _ => bits_LeadingZeros64 x.1⟩)] []) hints 4 92 f92 c92 x F y := fun x F y => by kernel_rfl
theorem l92 : (ctxOf prog shs inls [(101, c101)] []).ok := ctxOf_cons (q0) (by kernel_rfl) ok101
theorem ok92 : c92.ok prog 92 := Ctr.of_den l92 hmix (hl := hints) (d := 4) func92 rfl (by decide) (e92 lpK jnK bits_LeadingZeros64)

/-- loftblock ratio.over -/
noncomputable def ratio_over_b (_ : Lp) (_ : Jn) (bits_Div64 : (Int) → (Int) → (Int) → Option (Int × Int × Unit)) (x0 : Int × Int) (x1 : Int) : Option ((Int × Int) × Int × Unit) :=
  
  let v4 : Bool := nzB x1; bif v4 then obind (bits_Div64 (Int.tmod x0.fst x1) x0.snd x1) fun (t : Int × Int × PUnit) => bif v4 then some ((IntKind.wrap IntKind.u64 (Int.tdiv x0.fst x1),
    t.fst), t.snd.fst, PUnit.unit) else none else none
noncomputable def ratio_over (x0 : Int × Int) (x1 : Int) : Option ((Int × Int) × Int × Unit) := ratio_over_b lpK jnK bits_Div64 x0 x1
noncomputable def c64 : Ctr := ⟨[T90, (.int .u64)], [], [], .tup [T90, (.int .u64)], fun x _ _ => ratio_over x.1 x.2.1⟩
theorem e64 (lp : Lp) (jn : Jn) (bits_Div64 : (Int) → (Int) → (Int) → Option (Int × Int × Unit)) : ∀ (x : TsS c64.as) (F : TsF c64.fs) (y : TsS c64.cs), ratio_over_b lp jn bits_Div64 x.1 x.2.1 = runC lp jn (ctxOf prog shs inls [(92, ⟨[(.int .u64), (.int .u64), (.int .u64)], [], [], .tup [(.int .u64), (.int .u64)], fun x _ _ => bits_Div64 x.1 x.2.1 x.2.2.1⟩)] []) hints 4 64 f64 c64 x F y := fun x F y => by kernel_rfl
theorem l64 : (ctxOf prog shs inls [(92, c92)] []).ok := ctxOf_cons (q0) (by kernel_rfl) ok92
theorem ok64 : c64.ok prog 64 := Ctr.of_den l64 hmix (hl := hints) (d := 4) func64 rfl (by decide) (e64 lpK jnK bits_Div64)

/-- loftblock ratio.Add -/
noncomputable def ratio_Add_b (_ : Lp) (jn : Jn) (ratio_gcd : (Int) → (Int) → Option (Int)) (ratio_size : (Int) → Option (Int)) (ratio_signed : (Bool) → (Int) → (Int) → Option ((Int × Int) × Int × Unit)) (ratio_Valid : (Int × Int) → Option (Bool)) (ratio_product : (Int) → (Int) → Option (Int × Int)) (ratio_plus : (Int × Int) → (Int × Int) → Option (Int × Int)) (ratio_less : (Int × Int) → (Int × Int) → Option (Bool)) (ratio_minus : (Int × Int) → (Int × Int) → Option (Int × Int)) (ratio_over : (Int × Int) → (Int) → Option ((Int × Int) × Int × Unit)) (x0 : Int × Int) (x1 : Int × Int) : Option ((Int × Int) × Int × Unit) :=
  
  let v4 : Int := IntKind.wrap IntKind.u64 x0.snd;
  let v5 : Int := IntKind.wrap IntKind.u64 x1.snd;
  let v6 : Bool := decide (x0.fst < (0 : Int)); obind (ratio_Valid x0) fun (t : Bool) =>
  let v8 : Bool := !t;
  let v9 : Bool := !v8;
  let v10 : Bool := !v9 || v9; bif v10 then obind (bif v9 then ratio_Valid x1 else some false) fun (t : Bool) => bif v10 then bif v8 || v9 then bif bif v8 then true else !t then some (((0 :
    Int), (0 : Int)), (1 : Int), PUnit.unit) else obind (ratio_gcd v4 v5) fun (t : Int) =>
  let v13 : Bool := nzB t;
  let v14 : Int := IntKind.wrap IntKind.u64 (Int.tdiv v4 t); obind (ratio_size x0.fst) fun (t_1 : Int) => bif v13 then obind (ratio_product t_1 (IntKind.wrap IntKind.u64 (Int.tdiv v5 t)))
    fun (t_2 : Int × Int) => obind (ratio_size x1.fst) fun (t_3 : Int) => bif v13 then obind (ratio_product t_3 v14) fun (t_4 : Int × Int) => jn (Bool × (Int × Int) × PUnit) ((Int × Int) ×
    Int × PUnit) (fun (x : Bool × (Int × Int) × PUnit) => bif decide (x.snd.fst.fst = (0 : Int)) && (decide (x.snd.fst.snd = (0 : Int)) && true) then some (((0 : Int), (1 : Int)), (0 :
    Int), PUnit.unit) else obind (ratio_over x.snd.fst t) fun (t_5 : (Int × Int) × Int × PUnit) => obind (ratio_gcd t t_5.snd.fst) fun (t : Int) => obind (ratio_over x.snd.fst t) fun (t_6 :
    (Int × Int) × Int × PUnit) =>
  let v23 : Bool := decide (t_6.fst.fst > (0 : Int));
  let v24 : Bool := !v23;
  let v25 : Bool := !v24 || v24; bif v13 then bif nzB t then obind (ratio_product v14 (IntKind.wrap IntKind.u64 (Int.tdiv v5 t))) fun (t : Int × Int) => bif v25 then bif v25 then bif v23 ||
    v24 then bif bif v23 then true else decide (t.fst > (0 : Int)) then some (((0 : Int), (0 : Int)), (5 : Int), PUnit.unit) else obind (ratio_signed x.fst t_6.fst.snd t.snd) fun (t : (Int
    × Int) × Int × PUnit) => some (t.fst, t.snd.fst, PUnit.unit) else none else none else none else none else none) fun (j : Bool × (Int × Int) × PUnit → Option ((Int × Int) × Int × PUnit))
    => bif decide (v6 = decide (x1.fst < (0 : Int))) then obind (ratio_plus t_2 t_4) fun (t : Int × Int) => j (v6, t, PUnit.unit) else obind (ratio_less t_2 t_4) fun (t : Bool) => jn (Bool
    × (Int × Int) × PUnit) ((Int × Int) × Int × PUnit) (fun (x : Bool × (Int × Int) × PUnit) => j (x.fst, x.snd.fst, PUnit.unit)) fun (j : Bool × (Int × Int) × PUnit → Option ((Int × Int) ×
    Int × PUnit)) => bif t then obind (ratio_minus t_4 t_2) fun (t : Int × Int) => j (!v6, t, PUnit.unit) else obind (ratio_minus t_2 t_4) fun (t : Int × Int) => j (v6, t, PUnit.unit) else
    none else none else none else none else none
noncomputable def ratio_Add (x0 : Int × Int) (x1 : Int × Int) : Option ((Int × Int) × Int × Unit) := ratio_Add_b lpK jnK ratio_gcd ratio_size ratio_signed ratio_Valid ratio_product ratio_plus ratio_less ratio_minus ratio_over x0 x1
noncomputable def c25 : Ctr := ⟨[T41, T41], [], [], .tup [T41, i64], fun x _ _ => ratio_Add x.1 x.2.1⟩
theorem e25 (lp : Lp) (jn : Jn) (ratio_gcd : (Int) → (Int) → Option (Int)) (ratio_size : (Int) → Option (Int)) (ratio_signed : (Bool) → (Int) → (Int) → Option ((Int × Int) × Int × Unit)) (ratio_Valid : (Int × Int) → Option (Bool)) (ratio_product : (Int) → (Int) → Option (Int × Int)) (ratio_plus : (Int × Int) → (Int × Int) → Option (Int × Int)) (ratio_less : (Int × Int) → (Int × Int) → Option (Bool)) (ratio_minus : (Int × Int) → (Int × Int) → Option (Int × Int)) (ratio_over : (Int × Int) → (Int) → Option ((Int × Int) × Int × Unit)) : ∀ (x : TsS c25.as) (F : TsF c25.fs) (y : TsS c25.cs), ratio_Add_b lp jn ratio_gcd ratio_size ratio_signed ratio_Valid ratio_product ratio_plus ratio_less ratio_minus ratio_over x.1 x.2.1 = runC lp jn (ctxOf prog shs inls [(64, ⟨[T90, (.int .u64)], [], [], .tup [T90, (.int .u64)], fun x _ _ => ratio_over x.1 x.2.1⟩), (63, ⟨[T90, T90], [], [], .one T90, fun x _ _ => ratio_minus x.1 x.2.1⟩), (62, ⟨[T90, T90], [], [], .one .bool, fun x _ _ => ratio_less x.1 x.2.1⟩), (61, ⟨[T90, T90], [], [], .one T90, fun x _ _ => ratio_plus x.1 x.2.1⟩), (59, ⟨[(.int .u64), (.int .u64)], [], [], .one T90, fun x _ _ => ratio_product x.1 x.2.1⟩), (22, ⟨[T41], [], [], .one .bool, fun x _ _ => ratio_Valid x.1⟩), (60, ⟨[.bool, (.int .u64), (.int .u64)], [], [], .tup [T41, i64], fun x _ _ => ratio_signed x.1 x.2.1 x.2.2.1⟩), (57, ⟨[i64], [], [], .one (.int .u64), fun x _ _ => ratio_size x.1⟩), (56, ⟨[(.int .u64), (.int .u64)], [], [], .one (.int .u64), fun x _ _ => ratio_gcd x.1 x.2.1⟩)] []) hints 4 25 f25 c25 x F y := fun x F y => by kernel_rfl
theorem l25 : (ctxOf prog shs inls [(64, c64), (63, c63), (62, c62), (61, c61), (59, c59), (22, c22), (60, c60), (57, c57), (56, c56)] []).ok := ctxOf_cons (ctxOf_cons (ctxOf_cons (ctxOf_cons (ctxOf_cons (ctxOf_cons (ctxOf_cons (ctxOf_cons (ctxOf_cons (q0) (by kernel_rfl) ok56) (by kernel_rfl) ok57) (by kernel_rfl) ok60) (by kernel_rfl) ok22) (by kernel_rfl) ok59) (by kernel_rfl) ok61) (by kernel_rfl) ok62) (by kernel_rfl) ok63) (by kernel_rfl) ok64
theorem ok25 : c25.ok prog 25 := Ctr.of_den l25 hmix (hl := hints) (d := 4) func25 rfl (by decide) (e25 lpK jnK ratio_gcd ratio_size ratio_signed ratio_Valid ratio_product ratio_plus ratio_less ratio_minus ratio_over)

/-- loftblock bridle.Check -/
noncomputable def bridle_Check_b (lp : Lp) (_ : Jn) (bridle_arm : ((Int × Int × Int) × Int × List (ByteArray × (Int × Int × Int) × Int)) → (Int) → Option (Int × Int × Int)) (bridle_Valid : ((Int × Int × Int) × Int × List (ByteArray × (Int × Int × Int) × Int)) → Option (Bool)) (ratio_Mul : (Int × Int) → (Int × Int) → Option ((Int × Int) × Int × Unit)) (slices_ContainsFunc_20 : (List (Int × Int)) → ((((Int × Int) × Unit) → Option Bool)) → Option (Bool)) (bridle_Check_1 : (Int × Int) → Option (Bool)) (ratio_Add : (Int × Int) → (Int × Int) → Option ((Int × Int) × Int × Unit)) (x0 : (Int × Int × Int) × Int × List (ByteArray × (Int × Int × Int) × Int)) (x1 : List (Int × Int)) : Option (Bool × Int × Unit) :=
  obind (bridle_Valid x0) fun (t : Bool) =>
  let v5 : Bool := !t;
  let v6 : Bool := !v5; bif !v6 || v6 then obind (bif v6 then slices_ContainsFunc_20 x1 fun (x : (Int × Int) × PUnit) => bridle_Check_1 x.fst else some false) fun (t : Bool) => bif v5 || v6
    then bif bif v5 then true else t then some (false, (1 : Int), PUnit.unit) else bif !decide ((↑(List.length x1) : Int) = (↑(List.length x0.snd.snd) : Int)) then some (false, (3 : Int),
    PUnit.unit) else lp (Bool × Int × PUnit) (Bool × Int × PUnit) (fun (again : Bool × Int × PUnit → Option (Bool × Int × PUnit)) (x : Bool × Int × PUnit) =>
  let v10 : Bool := !x.fst || x.fst;
  let v11 : Bool := inB x.snd.fst (3 : Nat);
  let v12 : Int := List.getD [(0 : Int), (0 : Int), x0.snd.fst] (Int.toNat x.snd.fst) (0 : Int); bif decide (x.snd.fst < (3 : Int)) then bif v11 then lp (Int × (Int × Int) × PUnit) (Bool ×
    Int × PUnit) (fun (again_1 : Int × (Int × Int) × PUnit → Option (Bool × Int × PUnit)) (x_1 : Int × (Int × Int) × PUnit) => bif decide (x_1.fst < (↑(List.length x1) : Int)) then bif inB
    x_1.fst (List.length x1) then obind (bridle_arm x0 x_1.fst) fun (t : Int × Int × Int) => bif v11 then obind (ratio_Mul (List.getD x1 (Int.toNat x_1.fst) ((0 : Int), (0 : Int)))
    (List.getD [t.fst, t.snd.fst, t.snd.snd] (Int.toNat x.snd.fst) (0 : Int), (1 : Int))) fun (t : (Int × Int) × Int × PUnit) => bif !decide (t.snd.fst = (0 : Int)) then some (false,
    t.snd.fst, PUnit.unit) else obind (ratio_Add x_1.snd.fst t.fst) fun (t : (Int × Int) × Int × PUnit) => bif !decide (t.snd.fst = (0 : Int)) then some (false, t.snd.fst, PUnit.unit) else
    again_1 (IntKind.wrap IntKind.i64 (x_1.fst + (1 : Int)), t.fst, PUnit.unit) else none else none else bif v10 then bif v10 && v10 then bif v10 then again (bif x.fst then decide
    (x_1.snd.fst.fst = v12) && (decide (x_1.snd.fst.snd = (1 : Int)) && true) else false, IntKind.wrap IntKind.i64 (x.snd.fst + (1 : Int)), PUnit.unit) else none else none else none) ((0 :
    Int), ((0 : Int), (1 : Int)), PUnit.unit) else none else some (x.fst, (0 : Int), PUnit.unit)) (true, (0 : Int), PUnit.unit) else none else none
noncomputable def bridle_Check (x0 : (Int × Int × Int) × Int × List (ByteArray × (Int × Int × Int) × Int)) (x1 : List (Int × Int)) : Option (Bool × Int × Unit) := bridle_Check_b lpK jnK bridle_arm bridle_Valid ratio_Mul slices_ContainsFunc_20 bridle_Check_1 ratio_Add x0 x1
noncomputable def c7 : Ctr := ⟨[T26, (.sl T41)], [], [], .tup [.bool, i64], fun x _ _ => bridle_Check x.1 x.2.1⟩
theorem e7 (lp : Lp) (jn : Jn) (bridle_arm : ((Int × Int × Int) × Int × List (ByteArray × (Int × Int × Int) × Int)) → (Int) → Option (Int × Int × Int)) (bridle_Valid : ((Int × Int × Int) × Int × List (ByteArray × (Int × Int × Int) × Int)) → Option (Bool)) (ratio_Mul : (Int × Int) → (Int × Int) → Option ((Int × Int) × Int × Unit)) (slices_ContainsFunc_20 : (List (Int × Int)) → ((((Int × Int) × Unit) → Option Bool)) → Option (Bool)) (bridle_Check_1 : (Int × Int) → Option (Bool)) (ratio_Add : (Int × Int) → (Int × Int) → Option ((Int × Int) × Int × Unit)) : ∀ (x : TsS c7.as) (F : TsF c7.fs) (y : TsS c7.cs), bridle_Check_b lp jn bridle_arm bridle_Valid ratio_Mul slices_ContainsFunc_20 bridle_Check_1 ratio_Add x.1 x.2.1 = runC lp jn (ctxOf prog shs inls [(25, ⟨[T41, T41], [], [], .tup [T41, i64], fun x _ _ => ratio_Add x.1 x.2.1⟩), (21, ⟨[T41], [], [], .one .bool, fun x _ _ => bridle_Check_1 x.1⟩), (20, ⟨[(.sl T41)], [([T41], .bool)], [], .one .bool, fun x F _ => slices_ContainsFunc_20 x.1 F.1⟩), (24, ⟨[T41, T41], [], [], .tup [T41, i64], fun x _ _ => ratio_Mul x.1 x.2.1⟩), (18, ⟨[T26], [], [], .one .bool, fun x _ _ => bridle_Valid x.1⟩), (23, ⟨[T26, i64], [], [], .one T23, fun x _ _ => bridle_arm x.1 x.2.1⟩)] []) hints 4 7 f7 c7 x F y := fun x F y => by kernel_rfl
theorem l7 : (ctxOf prog shs inls [(25, c25), (21, c21), (20, c20), (24, c24), (18, c18), (23, c23)] []).ok := ctxOf_cons (ctxOf_cons (ctxOf_cons (ctxOf_cons (ctxOf_cons (ctxOf_cons (q0) (by kernel_rfl) ok23) (by kernel_rfl) ok18) (by kernel_rfl) ok24) (by kernel_rfl) ok20) (by kernel_rfl) ok21) (by kernel_rfl) ok25
theorem ok7 : c7.ok prog 7 := Ctr.of_den l7 hmix (hl := hints) (d := 4) func7 rfl (by decide) (e7 lpK jnK bridle_arm bridle_Valid ratio_Mul slices_ContainsFunc_20 bridle_Check_1 ratio_Add)

/-- loftblock loftblockref18.Arm -/
noncomputable def ref18_Arm_b (_ : Lp) (_ : Jn) (x0 : (Int × Int × Int) × Int × List (ByteArray × (Int × Int × Int) × Int)) (x1 : Int) : Option (Int × Int × Int) :=
  bif inB x1 (List.length x0.snd.snd) then some (IntKind.wrap IntKind.i64 ((List.getD x0.snd.snd (Int.toNat x1) ({ data := { toList := [] } }, ((0 : Int), (0 : Int), (0 : Int)), (0 :
    Int))).snd.fst.fst - x0.fst.fst), IntKind.wrap IntKind.i64 ((List.getD x0.snd.snd (Int.toNat x1) ({ data := { toList := [] } }, ((0 : Int), (0 : Int), (0 : Int)), (0 :
    Int))).snd.fst.snd.fst - x0.fst.snd.fst), IntKind.wrap IntKind.i64 ((List.getD x0.snd.snd (Int.toNat x1) ({ data := { toList := [] } }, ((0 : Int), (0 : Int), (0 : Int)), (0 :
    Int))).snd.fst.snd.snd - x0.fst.snd.snd)) else none
noncomputable def ref18_Arm (x0 : (Int × Int × Int) × Int × List (ByteArray × (Int × Int × Int) × Int)) (x1 : Int) : Option (Int × Int × Int) := ref18_Arm_b lpK jnK x0 x1
noncomputable def c30 : Ctr := ⟨[T26, i64], [], [], .one T64, fun x _ _ => ref18_Arm x.1 x.2.1⟩
theorem e30 (lp : Lp) (jn : Jn) : ∀ (x : TsS c30.as) (F : TsF c30.fs) (y : TsS c30.cs), ref18_Arm_b lp jn x.1 x.2.1 = runC lp jn (ctxOf prog shs inls [] []) hints 4 30 f30 c30 x F y := fun x F y => by kernel_rfl
theorem l30 : (ctxOf prog shs inls [] []).ok := q0
theorem ok30 : c30.ok prog 30 := Ctr.of_den l30 hmix (hl := hints) (d := 4) func30 rfl (by decide) (e30 lpK jnK)

/-- loftblock loftblockref09.within -/
noncomputable def ref09_within_b (_ : Lp) (_ : Jn) (x0 : Int) : Option Bool :=
  
  let v3 : Bool := decide (x0 ≥ (-1048576 : Int));
  let v4 : Bool := !v3 || v3; bif v4 then bif v4 then some (bif v3 then decide (x0 ≤ (1048576 : Int)) else false) else none else none
noncomputable def ref09_within (x0 : Int) : Option Bool := ref09_within_b lpK jnK x0
noncomputable def c72 : Ctr := ⟨[i64], [], [], .one .bool, fun x _ _ => ref09_within x.1⟩
theorem e72 (lp : Lp) (jn : Jn) : ∀ (x : TsS c72.as) (F : TsF c72.fs) (y : TsS c72.cs), ref09_within_b lp jn x.1 = runC lp jn (ctxOf prog shs inls [] []) hints 4 72 f72 c72 x F y := fun x F y => by kernel_rfl
theorem l72 : (ctxOf prog shs inls [] []).ok := q0
theorem ok72 : c72.ok prog 72 := Ctr.of_den l72 hmix (hl := hints) (d := 4) func72 rfl (by decide) (e72 lpK jnK)

/-- loftblock loftblockref09.Valid -/
noncomputable def ref09_Valid_b (_ : Lp) (_ : Jn) (ref09_within : (Int) → Option (Bool)) (x0 : Int × Int × Int) : Option Bool :=
  obind (ref09_within x0.fst) fun (t : Bool) =>
  let v4 : Bool := !t || t; bif v4 then bif v4 then obind (bif t then ref09_within x0.snd.fst else some false) fun (t_1 : Bool) =>
  let v6 : Bool := bif t then t_1 else false;
  let v7 : Bool := !v6 || v6; bif v4 then bif v7 then bif v7 then obind (bif v6 then ref09_within x0.snd.snd else some false) fun (t : Bool) => bif v7 then some (bif v6 then t else false)
    else none else none else none else none else none else none
noncomputable def ref09_Valid (x0 : Int × Int × Int) : Option Bool := ref09_Valid_b lpK jnK ref09_within x0
noncomputable def c32 : Ctr := ⟨[T23], [], [], .one .bool, fun x _ _ => ref09_Valid x.1⟩
theorem e32 (lp : Lp) (jn : Jn) (ref09_within : (Int) → Option (Bool)) : ∀ (x : TsS c32.as) (F : TsF c32.fs) (y : TsS c32.cs), ref09_Valid_b lp jn ref09_within x.1 = runC lp jn (ctxOf prog shs inls [(72, ⟨[i64], [], [], .one .bool, fun x _ _ => ref09_within x.1⟩)] []) hints 4 32 f32 c32 x F y := fun x F y => by kernel_rfl
theorem l32 : (ctxOf prog shs inls [(72, c72)] []).ok := ctxOf_cons (q0) (by kernel_rfl) ok72
theorem ok32 : c32.ok prog 32 := Ctr.of_den l32 hmix (hl := hints) (d := 4) func32 rfl (by decide) (e32 lpK jnK ref09_within)

/-- loftblock loftblockref01.Letter -/
noncomputable def ref01_Letter_b (_ : Lp) (_ : Jn) (x0 : Int) : Option Bool :=
  
  let v3 : Bool := decide (x0 ≥ (97 : Int));
  let v4 : Bool := decide (x0 ≥ (65 : Int));
  let v5 : Bool := !v3 || v3;
  let v6 : Bool := bif v3 then decide (x0 ≤ (122 : Int)) else false;
  let v7 : Bool := !v6;
  let v8 : Bool := !v7;
  let v9 : Bool := v7 && v4;
  let v10 : Bool := v8 || v7; bif v5 then bif v5 then bif v10 then bif v10 then bif !v9 || v9 then bif (v8 || v10) && (v8 || (!v4 || (v8 || v9))) then bif v6 || v7 then some (bif v6 then
    true else bif v4 then decide (x0 ≤ (90 : Int)) else false) else none else none else none else none else none else none else none
noncomputable def ref01_Letter (x0 : Int) : Option Bool := ref01_Letter_b lpK jnK x0
noncomputable def c73 : Ctr := ⟨[(.int .u8)], [], [], .one .bool, fun x _ _ => ref01_Letter x.1⟩
theorem e73 (lp : Lp) (jn : Jn) : ∀ (x : TsS c73.as) (F : TsF c73.fs) (y : TsS c73.cs), ref01_Letter_b lp jn x.1 = runC lp jn (ctxOf prog shs inls [] []) hints 4 73 f73 c73 x F y := fun x F y => by kernel_rfl
theorem l73 : (ctxOf prog shs inls [] []).ok := q0
theorem ok73 : c73.ok prog 73 := Ctr.of_den l73 hmix (hl := hints) (d := 4) func73 rfl (by decide) (e73 lpK jnK)

/-- loftblock loftblockref01.Digit -/
noncomputable def ref01_Digit_b (_ : Lp) (_ : Jn) (x0 : Int) : Option Bool :=
  
  let v3 : Bool := decide (x0 ≥ (48 : Int));
  let v4 : Bool := !v3 || v3; bif v4 then bif v4 then some (bif v3 then decide (x0 ≤ (57 : Int)) else false) else none else none
noncomputable def ref01_Digit (x0 : Int) : Option Bool := ref01_Digit_b lpK jnK x0
noncomputable def c95 : Ctr := ⟨[(.int .u8)], [], [], .one .bool, fun x _ _ => ref01_Digit x.1⟩
theorem e95 (lp : Lp) (jn : Jn) : ∀ (x : TsS c95.as) (F : TsF c95.fs) (y : TsS c95.cs), ref01_Digit_b lp jn x.1 = runC lp jn (ctxOf prog shs inls [] []) hints 4 95 f95 c95 x F y := fun x F y => by kernel_rfl
theorem l95 : (ctxOf prog shs inls [] []).ok := q0
theorem ok95 : c95.ok prog 95 := Ctr.of_den l95 hmix (hl := hints) (d := 4) func95 rfl (by decide) (e95 lpK jnK)

/-- loftblock loftblockref01.word -/
noncomputable def ref01_word_b (lp : Lp) (_ : Jn) (ref01_Letter : (Int) → Option (Bool)) (ref01_Digit : (Int) → Option (Bool)) (x0 : ByteArray) (x1 : Int) : Option Int :=
  lp (Int × PUnit) Int (fun (again : Int × PUnit → Option Int) (x : Int × PUnit) =>
  let v6 : Bool := inB x.fst (ByteArray.size x0);
  let v7 : Int := byteAt x0 (Int.toNat x.fst);
  let v8 : Bool := decide (x.fst < (↑(ByteArray.size x0) : Int));
  let v9 : Bool := !v8;
  let v10 : Bool := v9 || v8;
  let v11 : Bool := v9 || v10; bif v10 && (v10 && (v9 || v6)) then bif v10 then obind (bif v8 then ref01_Letter v7 else some false) fun (t : Bool) =>
  let v13 : Bool := v8 && !t;
  let v14 : Bool := !v13;
  let v15 : Bool := v14 || v13; bif v10 then bif v15 && (v15 && (v14 || v6)) then bif v15 then obind (bif v13 then ref01_Digit v7 else some false) fun (t_1 : Bool) =>
  let v17 : Bool := bif t then true else t_1;
  let v18 : Bool := v8 && !v17;
  let v19 : Bool := !v18;
  let v20 : Bool := v19 || v18; bif v11 && (v9 || (t || (v9 || v13))) then bif v10 then bif v20 && (v20 && (v19 || v6)) then bif v20 then bif v11 && (v9 || (v17 || (v9 || v18))) then bif
    v10 then bif bif v8 then bif v17 then true else decide (v7 = (95 : Int)) else false then again (IntKind.wrap IntKind.i64 (x.fst + (1 : Int)), PUnit.unit) else some x.fst else none else
    none else none else none else none else none else none else none else none else none else none) (x1, PUnit.unit)
noncomputable def ref01_word (x0 : ByteArray) (x1 : Int) : Option Int := ref01_word_b lpK jnK ref01_Letter ref01_Digit x0 x1
noncomputable def c74 : Ctr := ⟨[.str, i64], [], [], .one i64, fun x _ _ => ref01_word x.1 x.2.1⟩
theorem e74 (lp : Lp) (jn : Jn) (ref01_Letter : (Int) → Option (Bool)) (ref01_Digit : (Int) → Option (Bool)) : ∀ (x : TsS c74.as) (F : TsF c74.fs) (y : TsS c74.cs), ref01_word_b lp jn ref01_Letter ref01_Digit x.1 x.2.1 = runC lp jn (ctxOf prog shs inls [(95, ⟨[(.int .u8)], [], [], .one .bool, fun x _ _ => ref01_Digit x.1⟩), (73, ⟨[(.int .u8)], [], [], .one .bool, fun x _ _ => ref01_Letter x.1⟩)] []) hints 4 74 f74 c74 x F y := fun x F y => by kernel_rfl
theorem l74 : (ctxOf prog shs inls [(95, c95), (73, c73)] []).ok := ctxOf_cons (ctxOf_cons (q0) (by kernel_rfl) ok73) (by kernel_rfl) ok95
theorem ok74 : c74.ok prog 74 := Ctr.of_den l74 hmix (hl := hints) (d := 4) func74 rfl (by decide) (e74 lpK jnK ref01_Letter ref01_Digit)

/-- loftblock loftblockref01.IsName -/
noncomputable def ref01_IsName_b (_ : Lp) (_ : Jn) (ref01_Letter : (Int) → Option (Bool)) (ref01_word : (ByteArray) → (Int) → Option (Int)) (x0 : ByteArray) : Option Bool :=
  
  let v3 : Bool := decide ((↑(ByteArray.size x0) : Int) = (0 : Int));
  let v4 : Bool := !v3;
  let v5 : Bool := !v4 || v4;
  let v6 : Bool := bif v3 then true else decide ((↑(ByteArray.size x0) : Int) > (20 : Int));
  let v7 : Bool := !v6;
  let v8 : Bool := !v7;
  let v9 : Bool := v8 || v7; bif v5 then bif v5 then bif v3 || v4 then bif v9 && (v8 || inB (0 : Int) (ByteArray.size x0)) then bif v9 then obind (bif v7 then ref01_Letter (byteAt x0 (0 :
    Nat)) else some false) fun (t : Bool) => bif v9 then bif v6 || v7 then bif bif v6 then true else !t then some false else obind (ref01_word x0 (0 : Int)) fun (t : Int) => some (decide (t
    = (↑(ByteArray.size x0) : Int))) else none else none else none else none else none else none else none
noncomputable def ref01_IsName (x0 : ByteArray) : Option Bool := ref01_IsName_b lpK jnK ref01_Letter ref01_word x0
noncomputable def c33 : Ctr := ⟨[.str], [], [], .one .bool, fun x _ _ => ref01_IsName x.1⟩
theorem e33 (lp : Lp) (jn : Jn) (ref01_Letter : (Int) → Option (Bool)) (ref01_word : (ByteArray) → (Int) → Option (Int)) : ∀ (x : TsS c33.as) (F : TsF c33.fs) (y : TsS c33.cs), ref01_IsName_b lp jn ref01_Letter ref01_word x.1 = runC lp jn (ctxOf prog shs inls [(74, ⟨[.str, i64], [], [], .one i64, fun x _ _ => ref01_word x.1 x.2.1⟩), (73, ⟨[(.int .u8)], [], [], .one .bool, fun x _ _ => ref01_Letter x.1⟩)] []) hints 4 33 f33 c33 x F y := fun x F y => by kernel_rfl
theorem l33 : (ctxOf prog shs inls [(74, c74), (73, c73)] []).ok := ctxOf_cons (ctxOf_cons (q0) (by kernel_rfl) ok73) (by kernel_rfl) ok74
theorem ok33 : c33.ok prog 33 := Ctr.of_den l33 hmix (hl := hints) (d := 4) func33 rfl (by decide) (e33 lpK jnK ref01_Letter ref01_word)

/-- loftblock loftblockref18.Find -/
noncomputable def ref18_Find_b (lp : Lp) (_ : Jn) (x0 : (Int × Int × Int) × Int × List (ByteArray × (Int × Int × Int) × Int)) (x1 : ByteArray) : Option Int :=
  lp (Int × PUnit) Int (fun (again : Int × PUnit → Option Int) (x : Int × PUnit) => bif decide (x.fst < (↑(List.length x0.snd.snd) : Int)) then bif inB x.fst (List.length x0.snd.snd) then bif
    List.beq (ByteArray.toList (List.getD x0.snd.snd (Int.toNat x.fst) ({ data := { toList := [] } }, ((0 : Int), (0 : Int), (0 : Int)), (0 : Int))).fst) (ByteArray.toList x1) then some
    x.fst else again (IntKind.wrap IntKind.i64 (x.fst + (1 : Int)), PUnit.unit) else none else some (-1 : Int)) ((0 : Int), PUnit.unit)
noncomputable def ref18_Find (x0 : (Int × Int × Int) × Int × List (ByteArray × (Int × Int × Int) × Int)) (x1 : ByteArray) : Option Int := ref18_Find_b lpK jnK x0 x1
noncomputable def c34 : Ctr := ⟨[T26, .str], [], [], .one i64, fun x _ _ => ref18_Find x.1 x.2.1⟩
theorem e34 (lp : Lp) (jn : Jn) : ∀ (x : TsS c34.as) (F : TsF c34.fs) (y : TsS c34.cs), ref18_Find_b lp jn x.1 x.2.1 = runC lp jn (ctxOf prog shs inls [] []) hints 4 34 f34 c34 x F y := fun x F y => by kernel_rfl
theorem l34 : (ctxOf prog shs inls [] []).ok := q0
theorem ok34 : c34.ok prog 34 := Ctr.of_den l34 hmix (hl := hints) (d := 4) func34 rfl (by decide) (e34 lpK jnK)

end Go.Proofs.YtghjblbkbelcfaaGreat

namespace Go.Proofs.YtghjblbkbelcfaaGreat
open Tryz Dn Dn.Sh

set_option maxRecDepth 100000
/-- loftblock loftblockref18.short -/
noncomputable def ref18_short_b (_ : Lp) (_ : Jn) (x0 : Int) : Option Bool :=
  
  let v3 : Bool := decide (x0 ≥ (-32768 : Int));
  let v4 : Bool := !v3 || v3; bif v4 then bif v4 then some (bif v3 then decide (x0 ≤ (32768 : Int)) else false) else none else none
noncomputable def ref18_short (x0 : Int) : Option Bool := ref18_short_b lpK jnK x0
noncomputable def c35 : Ctr := ⟨[i64], [], [], .one .bool, fun x _ _ => ref18_short x.1⟩
theorem e35 (lp : Lp) (jn : Jn) : ∀ (x : TsS c35.as) (F : TsF c35.fs) (y : TsS c35.cs), ref18_short_b lp jn x.1 = runC lp jn (ctxOf prog shs inls [] []) hints 4 35 f35 c35 x F y := fun x F y => by kernel_rfl
theorem l35 : (ctxOf prog shs inls [] []).ok := q0
theorem ok35 : c35.ok prog 35 := Ctr.of_den l35 hmix (hl := hints) (d := 4) func35 rfl (by decide) (e35 lpK jnK)

/-- loftblock loftblockref18.Valid -/
noncomputable def ref18_Valid_b (lp : Lp) (_ : Jn) (ref18_Arm : ((Int × Int × Int) × Int × List (ByteArray × (Int × Int × Int) × Int)) → (Int) → Option (Int × Int × Int)) (ref09_Valid : (Int × Int × Int) → Option (Bool)) (ref01_IsName : (ByteArray) → Option (Bool)) (ref18_Find : ((Int × Int × Int) × Int × List (ByteArray × (Int × Int × Int) × Int)) → (ByteArray) → Option (Int)) (ref18_short : (Int) → Option (Bool)) (x0 : (Int × Int × Int) × Int × List (ByteArray × (Int × Int × Int) × Int)) : Option Bool :=
  obind (ref09_Valid x0.fst) fun (t : Bool) =>
  let v4 : Bool := !t;
  let v5 : Bool := !v4;
  let v6 : Bool := !v5 || v5;
  let v7 : Bool := bif v4 then true else decide (x0.snd.fst < (0 : Int));
  let v8 : Bool := !v7;
  let v9 : Bool := bif v7 then true else decide (x0.snd.fst > (67108864 : Int));
  let v10 : Bool := !v9;
  let v11 : Bool := !v8 || v8;
  let v12 : Bool := bif v9 then true else decide ((↑(List.length x0.snd.snd) : Int) < (1 : Int));
  let v13 : Bool := !v12;
  let v14 : Bool := !v10 || v10;
  let v15 : Bool := !v13 || v13; bif v6 then bif v6 then bif v4 || v5 then bif v11 then bif v11 then bif v7 || v8 then bif v14 then bif v14 then bif v14 then bif v9 || v10 then bif v15 then
    bif v15 then bif v15 then bif v12 || v13 then bif bif v12 then true else decide ((↑(List.length x0.snd.snd) : Int) > (3 : Int)) then some false else lp (Int × PUnit) Bool (fun (again :
    Int × PUnit → Option Bool) (x : Int × PUnit) =>
  let v18 : ByteArray × (Int × Int × Int) × Int := List.getD x0.snd.snd (Int.toNat x.fst) ({ data := { toList := [] } }, ((0 : Int), (0 : Int), (0 : Int)), (0 : Int)); bif decide (x.fst <
    (↑(List.length x0.snd.snd) : Int)) then bif inB x.fst (List.length x0.snd.snd) then obind (ref01_IsName v18.fst) fun (t : Bool) =>
  let v20 : Bool := !t;
  let v21 : Bool := !v20;
  let v22 : Bool := !v21 || v21;
  let v23 : Bool := v22 && v22; bif v22 then bif v23 then obind (bif v21 then ref18_Find x0 v18.fst else some (0 : Int)) fun (t : Int) =>
  let v25 : Bool := bif v20 then true else !decide (t = x.fst);
  let v26 : Bool := !v25;
  let v27 : Bool := !v26 || v26; bif v23 then bif v20 || v21 then bif v27 then bif v27 then obind (bif v26 then ref09_Valid v18.snd.fst else some false) fun (t : Bool) =>
  let v29 : Bool := bif v25 then true else !t;
  let v30 : Bool := !v29;
  let v31 : Bool := !v30 || v30;
  let v32 : Bool := bif v29 then true else decide (v18.snd.snd < (0 : Int));
  let v33 : Bool := !v32;
  let v34 : Bool := !v33 || v33; bif v27 then bif v25 || v26 then bif v31 then bif v31 then bif v29 || v30 then bif v34 then bif v34 then bif v32 || v33 then bif bif v32 then true else
    decide (v18.snd.snd > (67108864 : Int)) then some false else obind (ref18_Arm x0 x.fst) fun (t : Int × Int × Int) => obind (ref18_short t.fst) fun (t_1 : Bool) =>
  let v37 : Bool := !t_1;
  let v38 : Bool := !v37;
  let v39 : Bool := !v38 || v38; bif v39 then bif v39 then obind (bif v38 then ref18_short t.snd.fst else some false) fun (t_2 : Bool) =>
  let v41 : Bool := bif v37 then true else !t_2;
  let v42 : Bool := !v41;
  let v43 : Bool := !v42 || v42; bif v39 then bif v37 || v38 then bif v43 then bif v43 then obind (bif v42 then ref18_short t.snd.snd else some false) fun (t_3 : Bool) =>
  let v45 : Bool := bif v41 then true else !t_3;
  let v46 : Bool := !v45;
  let v47 : Bool := !v46 || v46; bif v43 then bif v41 || v42 then bif v47 && v47 then bif v45 || v46 then bif bif v45 then true else decide (t.fst = (0 : Int)) && (decide (t.snd.fst = (0 :
    Int)) && (decide (t.snd.snd = (0 : Int)) && true)) then some false else again (IntKind.wrap IntKind.i64 (x.fst + (1 : Int)), PUnit.unit) else none else none else none else none else
    none else none else none else none else none else none else none else none else none else none else none else none else none else none else none else none else none else none else none
    else none else none else some true) ((0 : Int), PUnit.unit) else none else none else none else none else none else none else none else none else none else none else none else none else
    none else none
noncomputable def ref18_Valid (x0 : (Int × Int × Int) × Int × List (ByteArray × (Int × Int × Int) × Int)) : Option Bool := ref18_Valid_b lpK jnK ref18_Arm ref09_Valid ref01_IsName ref18_Find ref18_short x0
noncomputable def c9 : Ctr := ⟨[T26], [], [], .one .bool, fun x _ _ => ref18_Valid x.1⟩
theorem e9 (lp : Lp) (jn : Jn) (ref18_Arm : ((Int × Int × Int) × Int × List (ByteArray × (Int × Int × Int) × Int)) → (Int) → Option (Int × Int × Int)) (ref09_Valid : (Int × Int × Int) → Option (Bool)) (ref01_IsName : (ByteArray) → Option (Bool)) (ref18_Find : ((Int × Int × Int) × Int × List (ByteArray × (Int × Int × Int) × Int)) → (ByteArray) → Option (Int)) (ref18_short : (Int) → Option (Bool)) : ∀ (x : TsS c9.as) (F : TsF c9.fs) (y : TsS c9.cs), ref18_Valid_b lp jn ref18_Arm ref09_Valid ref01_IsName ref18_Find ref18_short x.1 = runC lp jn (ctxOf prog shs inls [(35, ⟨[i64], [], [], .one .bool, fun x _ _ => ref18_short x.1⟩), (34, ⟨[T26, .str], [], [], .one i64, fun x _ _ => ref18_Find x.1 x.2.1⟩), (33, ⟨[.str], [], [], .one .bool, fun x _ _ => ref01_IsName x.1⟩), (32, ⟨[T23], [], [], .one .bool, fun x _ _ => ref09_Valid x.1⟩), (30, ⟨[T26, i64], [], [], .one T64, fun x _ _ => ref18_Arm x.1 x.2.1⟩)] []) hints 4 9 f9 c9 x F y := fun x F y => by kernel_rfl
theorem l9 : (ctxOf prog shs inls [(35, c35), (34, c34), (33, c33), (32, c32), (30, c30)] []).ok := ctxOf_cons (ctxOf_cons (ctxOf_cons (ctxOf_cons (ctxOf_cons (q0) (by kernel_rfl) ok30) (by kernel_rfl) ok32) (by kernel_rfl) ok33) (by kernel_rfl) ok34) (by kernel_rfl) ok35
theorem ok9 : c9.ok prog 9 := Ctr.of_den l9 hmix (hl := hints) (d := 4) func9 rfl (by decide) (e9 lpK jnK ref18_Arm ref09_Valid ref01_IsName ref18_Find ref18_short)

/-- loftblock loftblockref02.Size -/
noncomputable def ref02_Size_b (_ : Lp) (_ : Jn) (x0 : Int) : Option Int :=
  
  let v3 : Int := IntKind.wrap IntKind.u64 x0; bif decide (x0 < (0 : Int)) then some (IntKind.wrap IntKind.u64 ((0 : Int) - v3)) else some v3
noncomputable def ref02_Size (x0 : Int) : Option Int := ref02_Size_b lpK jnK x0
noncomputable def c68 : Ctr := ⟨[i64], [], [], .one (.int .u64), fun x _ _ => ref02_Size x.1⟩
theorem e68 (lp : Lp) (jn : Jn) : ∀ (x : TsS c68.as) (F : TsF c68.fs) (y : TsS c68.cs), ref02_Size_b lp jn x.1 = runC lp jn (ctxOf prog shs inls [] []) hints 4 68 f68 c68 x F y := fun x F y => by kernel_rfl
theorem l68 : (ctxOf prog shs inls [] []).ok := q0
theorem ok68 : c68.ok prog 68 := Ctr.of_den l68 hmix (hl := hints) (d := 4) func68 rfl (by decide) (e68 lpK jnK)

/-- loftblock loftblockref02.Plus -/
noncomputable def ref02_Plus_b (_ : Lp) (_ : Jn) (x0 : Int × Int) (x1 : Int × Int) : Option (Int × Int) :=
  
  let v4 : Int := IntKind.wrap IntKind.u64 (x0.fst + x1.fst);
  let v5 : Int := IntKind.wrap IntKind.u64 (x0.snd + x1.snd); bif decide (v5 < x0.snd) then some (IntKind.wrap IntKind.u64 (v4 + (1 : Int)), v5) else some (v4, v5)
noncomputable def ref02_Plus (x0 : Int × Int) (x1 : Int × Int) : Option (Int × Int) := ref02_Plus_b lpK jnK x0 x1
noncomputable def c69 : Ctr := ⟨[T99, T99], [], [], .one T99, fun x _ _ => ref02_Plus x.1 x.2.1⟩
theorem e69 (lp : Lp) (jn : Jn) : ∀ (x : TsS c69.as) (F : TsF c69.fs) (y : TsS c69.cs), ref02_Plus_b lp jn x.1 x.2.1 = runC lp jn (ctxOf prog shs inls [] []) hints 4 69 f69 c69 x F y := fun x F y => by kernel_rfl
theorem l69 : (ctxOf prog shs inls [] []).ok := q0
theorem ok69 : c69.ok prog 69 := Ctr.of_den l69 hmix (hl := hints) (d := 4) func69 rfl (by decide) (e69 lpK jnK)

/-- loftblock loftblockref02.Less -/
noncomputable def ref02_Less_b (_ : Lp) (_ : Jn) (x0 : Int × Int) (x1 : Int × Int) : Option Bool :=
  
  let v4 : Bool := decide (x0.fst = x1.fst);
  let v5 : Bool := decide (x0.fst < x1.fst);
  let v6 : Bool := !v5;
  let v7 : Bool := !v6;
  let v8 : Bool := v6 && v4;
  let v9 : Bool := v7 || v6;
  let v10 : Bool := !v8 || v8; bif v9 then bif v9 then bif v9 && v9 then bif v9 then bif v10 then bif v10 then bif v10 && v10 then bif (v7 || v9) && (v7 || (!v4 || (v7 || v8))) then bif v5
    || v6 then some (bif v5 then true else bif v4 then decide (x0.snd < x1.snd) else false) else none else none else none else none else none else none else none else none else none
noncomputable def ref02_Less (x0 : Int × Int) (x1 : Int × Int) : Option Bool := ref02_Less_b lpK jnK x0 x1
noncomputable def c70 : Ctr := ⟨[T99, T99], [], [], .one .bool, fun x _ _ => ref02_Less x.1 x.2.1⟩
theorem e70 (lp : Lp) (jn : Jn) : ∀ (x : TsS c70.as) (F : TsF c70.fs) (y : TsS c70.cs), ref02_Less_b lp jn x.1 x.2.1 = runC lp jn (ctxOf prog shs inls [] []) hints 4 70 f70 c70 x F y := fun x F y => by kernel_rfl
theorem l70 : (ctxOf prog shs inls [] []).ok := q0
theorem ok70 : c70.ok prog 70 := Ctr.of_den l70 hmix (hl := hints) (d := 4) func70 rfl (by decide) (e70 lpK jnK)

/-- loftblock loftblockref02.Minus -/
noncomputable def ref02_Minus_b (_ : Lp) (_ : Jn) (x0 : Int × Int) (x1 : Int × Int) : Option (Int × Int) :=
  
  let v4 : Int := IntKind.wrap IntKind.u64 (x0.fst - x1.fst);
  let v5 : Int := IntKind.wrap IntKind.u64 (x0.snd - x1.snd); bif decide (x0.snd < x1.snd) then some (IntKind.wrap IntKind.u64 (v4 - (1 : Int)), v5) else some (v4, v5)
noncomputable def ref02_Minus (x0 : Int × Int) (x1 : Int × Int) : Option (Int × Int) := ref02_Minus_b lpK jnK x0 x1
noncomputable def c71 : Ctr := ⟨[T99, T99], [], [], .one T99, fun x _ _ => ref02_Minus x.1 x.2.1⟩
theorem e71 (lp : Lp) (jn : Jn) : ∀ (x : TsS c71.as) (F : TsF c71.fs) (y : TsS c71.cs), ref02_Minus_b lp jn x.1 x.2.1 = runC lp jn (ctxOf prog shs inls [] []) hints 4 71 f71 c71 x F y := fun x F y => by kernel_rfl
theorem l71 : (ctxOf prog shs inls [] []).ok := q0
theorem ok71 : c71.ok prog 71 := Ctr.of_den l71 hmix (hl := hints) (d := 4) func71 rfl (by decide) (e71 lpK jnK)

/-- loftblock loftblockref02.Half -/
noncomputable def ref02_Half_b (_ : Lp) (_ : Jn) (x0 : Int × Int) : Option (Int × Int) :=
  
  let v3 : Int := (2 : Int) ^ (1 : Nat);
  let v4 : Bool := decide ((0 : Int) ≤ (1 : Int)); bif v4 then bif v4 then bif decide ((0 : Int) ≤ (63 : Int)) then some (Int.fdiv x0.fst v3, IntKind.wrap IntKind.u64 (Int.fdiv x0.snd v3 +
    IntKind.wrap IntKind.u64 (x0.fst * (2 : Int) ^ (63 : Nat)))) else none else none else none
noncomputable def ref02_Half (x0 : Int × Int) : Option (Int × Int) := ref02_Half_b lpK jnK x0
noncomputable def c102 : Ctr := ⟨[T99], [], [], .one T99, fun x _ _ => ref02_Half x.1⟩
theorem e102 (lp : Lp) (jn : Jn) : ∀ (x : TsS c102.as) (F : TsF c102.fs) (y : TsS c102.cs), ref02_Half_b lp jn x.1 = runC lp jn (ctxOf prog shs inls [] []) hints 4 102 f102 c102 x F y := fun x F y => by kernel_rfl
theorem l102 : (ctxOf prog shs inls [] []).ok := q0
theorem ok102 : c102.ok prog 102 := Ctr.of_den l102 hmix (hl := hints) (d := 4) func102 rfl (by decide) (e102 lpK jnK)

/-- loftblock loftblockref02.Gcd -/
noncomputable def ref02_Gcd_b (lp : Lp) (_ : Jn) (ref02_Plus : (Int × Int) → (Int × Int) → Option (Int × Int)) (ref02_Less : (Int × Int) → (Int × Int) → Option (Bool)) (ref02_Minus : (Int × Int) → (Int × Int) → Option (Int × Int)) (ref02_Half : (Int × Int) → Option (Int × Int)) (x0 : Int × Int) (x1 : Int × Int) : Option (Int × Int) :=
  bif decide (x0.fst = (0 : Int)) && (decide (x0.snd = (0 : Int)) && true) then some x1 else lp (Int × (Int × Int) × (Int × Int) × PUnit) (Int × Int) (fun (again : Int × (Int × Int) × (Int ×
    Int) × PUnit → Option (Int × Int)) (x : Int × (Int × Int) × (Int × Int) × PUnit) =>
  let v6 : Bool := decide (IntKind.wrap IntKind.u64 (↑(Nat.land (Int.toNat (x.snd.fst.snd % Int.ofNat (18446744073709551616 : Nat))) (Int.toNat ((1 : Int) % Int.ofNat (18446744073709551616
    : Nat)))) : Int) = (0 : Int));
  let v7 : Bool := !v6 || v6; bif v7 then bif v7 then bif v7 then bif v7 then bif bif v6 then decide (IntKind.wrap IntKind.u64 (↑(Nat.land (Int.toNat (x.snd.snd.fst.snd % Int.ofNat
    (18446744073709551616 : Nat))) (Int.toNat ((1 : Int) % Int.ofNat (18446744073709551616 : Nat)))) : Int) = (0 : Int)) else false then obind (ref02_Half x.snd.fst) fun (t : Int × Int) =>
    obind (ref02_Half x.snd.snd.fst) fun (t_1 : Int × Int) => again (IntKind.wrap IntKind.i64 (x.fst + (1 : Int)), t, t_1, PUnit.unit) else lp ((Int × Int) × (Int × Int) × PUnit) (Int ×
    Int) (fun (again : (Int × Int) × (Int × Int) × PUnit → Option (Int × Int)) (x_1 : (Int × Int) × (Int × Int) × PUnit) =>
  let v10 : (Int × Int) × PUnit := (x_1.snd.fst, PUnit.unit); bif !(decide (x_1.fst.fst = (0 : Int)) && (decide (x_1.fst.snd = (0 : Int)) && true)) then lp ((Int × Int) × PUnit) (Int × Int)
    (fun (again_1 : (Int × Int) × PUnit → Option (Int × Int)) (x : (Int × Int) × PUnit) => bif decide (IntKind.wrap IntKind.u64 (↑(Nat.land (Int.toNat (x.fst.snd % Int.ofNat
    (18446744073709551616 : Nat))) (Int.toNat ((1 : Int) % Int.ofNat (18446744073709551616 : Nat)))) : Int) = (0 : Int)) then obind (ref02_Half x.fst) fun (t : Int × Int) => again_1 (t,
    PUnit.unit) else lp ((Int × Int) × PUnit) (Int × Int) (fun (again_2 : (Int × Int) × PUnit → Option (Int × Int)) (x_2 : (Int × Int) × PUnit) => bif decide (IntKind.wrap IntKind.u64
    (↑(Nat.land (Int.toNat (x_2.fst.snd % Int.ofNat (18446744073709551616 : Nat))) (Int.toNat ((1 : Int) % Int.ofNat (18446744073709551616 : Nat)))) : Int) = (0 : Int)) then obind
    (ref02_Half x_2.fst) fun (t : Int × Int) => again_2 (t, PUnit.unit) else obind (ref02_Less x.fst x_2.fst) fun (t : Bool) => bif t then obind (ref02_Minus x_2.fst x.fst) fun (t : Int ×
    Int) => again (t, x.fst, PUnit.unit) else obind (ref02_Minus x.fst x_2.fst) fun (t : Int × Int) => again (t, x_2.fst, PUnit.unit)) v10) (x_1.fst, PUnit.unit) else lp (Int × (Int × Int)
    × PUnit) (Int × Int) (fun (again : Int × (Int × Int) × PUnit → Option (Int × Int)) (x : Int × (Int × Int) × PUnit) => bif decide (x.fst > (0 : Int)) then obind (ref02_Plus x.snd.fst
    x.snd.fst) fun (t : Int × Int) => again (IntKind.wrap IntKind.i64 (x.fst - (1 : Int)), t, PUnit.unit) else some x.snd.fst) (x.fst, v10)) (x.snd.fst, x.snd.snd.fst, PUnit.unit) else none
    else none else none else none) ((0 : Int), x0, x1, PUnit.unit)
noncomputable def ref02_Gcd (x0 : Int × Int) (x1 : Int × Int) : Option (Int × Int) := ref02_Gcd_b lpK jnK ref02_Plus ref02_Less ref02_Minus ref02_Half x0 x1
noncomputable def c93 : Ctr := ⟨[T99, T99], [], [], .one T99, fun x _ _ => ref02_Gcd x.1 x.2.1⟩
theorem e93 (lp : Lp) (jn : Jn) (ref02_Plus : (Int × Int) → (Int × Int) → Option (Int × Int)) (ref02_Less : (Int × Int) → (Int × Int) → Option (Bool)) (ref02_Minus : (Int × Int) → (Int × Int) → Option (Int × Int)) (ref02_Half : (Int × Int) → Option (Int × Int)) : ∀ (x : TsS c93.as) (F : TsF c93.fs) (y : TsS c93.cs), ref02_Gcd_b lp jn ref02_Plus ref02_Less ref02_Minus ref02_Half x.1 x.2.1 = runC lp jn (ctxOf prog shs inls [(102, ⟨[T99], [], [], .one T99, fun x _ _ => ref02_Half x.1⟩), (71, ⟨[T99, T99], [], [], .one T99, fun x _ _ => ref02_Minus x.1 x.2.1⟩), (70, ⟨[T99, T99], [], [], .one .bool, fun x _ _ => ref02_Less x.1 x.2.1⟩), (69, ⟨[T99, T99], [], [], .one T99, fun x _ _ => ref02_Plus x.1 x.2.1⟩)] []) hints 4 93 f93 c93 x F y := fun x F y => by kernel_rfl
theorem l93 : (ctxOf prog shs inls [(102, c102), (71, c71), (70, c70), (69, c69)] []).ok := ctxOf_cons (ctxOf_cons (ctxOf_cons (ctxOf_cons (q0) (by kernel_rfl) ok69) (by kernel_rfl) ok70) (by kernel_rfl) ok71) (by kernel_rfl) ok102
theorem ok93 : c93.ok prog 93 := Ctr.of_den l93 hmix (hl := hints) (d := 4) func93 rfl (by decide) (e93 lpK jnK ref02_Plus ref02_Less ref02_Minus ref02_Half)

/-- loftblock loftblockref02.Valid -/
noncomputable def ref02_Valid_b (_ : Lp) (_ : Jn) (ref02_Size : (Int) → Option (Int)) (ref02_Gcd : (Int × Int) → (Int × Int) → Option (Int × Int)) (x0 : Int × Int) : Option Bool :=
  
  let v3 : Bool := decide (x0.snd < (1 : Int));
  let v4 : Bool := !v3;
  let v5 : Bool := bif v3 then true else decide (x0.snd > (1152921504606846976 : Int));
  let v6 : Bool := !v4 || v4;
  let v7 : Bool := !v5;
  let v8 : Bool := bif v5 then true else decide (x0.fst < (-1152921504606846976 : Int));
  let v9 : Bool := !v8;
  let v10 : Bool := !v7 || v7;
  let v11 : Bool := !v9 || v9; bif v6 then bif v6 then bif v3 || v4 then bif v10 then bif v10 then bif v5 || v7 then bif v11 then bif v11 then bif v8 || v9 then bif bif v8 then true else
    decide (x0.fst > (1152921504606846976 : Int)) then some false else obind (ref02_Size x0.fst) fun (t : Int) => obind (ref02_Size x0.snd) fun (t_1 : Int) => obind (ref02_Gcd ((0 : Int),
    t) ((0 : Int), t_1)) fun (t : Int × Int) => some (decide (t.fst = (0 : Int)) && (decide (t.snd = (1 : Int)) && true)) else none else none else none else none else none else none else
    none else none else none
noncomputable def ref02_Valid (x0 : Int × Int) : Option Bool := ref02_Valid_b lpK jnK ref02_Size ref02_Gcd x0
noncomputable def c65 : Ctr := ⟨[T41], [], [], .one .bool, fun x _ _ => ref02_Valid x.1⟩
theorem e65 (lp : Lp) (jn : Jn) (ref02_Size : (Int) → Option (Int)) (ref02_Gcd : (Int × Int) → (Int × Int) → Option (Int × Int)) : ∀ (x : TsS c65.as) (F : TsF c65.fs) (y : TsS c65.cs), ref02_Valid_b lp jn ref02_Size ref02_Gcd x.1 = runC lp jn (ctxOf prog shs inls [(93, ⟨[T99, T99], [], [], .one T99, fun x _ _ => ref02_Gcd x.1 x.2.1⟩), (68, ⟨[i64], [], [], .one (.int .u64), fun x _ _ => ref02_Size x.1⟩)] []) hints 4 65 f65 c65 x F y := fun x F y => by kernel_rfl
theorem l65 : (ctxOf prog shs inls [(93, c93), (68, c68)] []).ok := ctxOf_cons (ctxOf_cons (q0) (by kernel_rfl) ok68) (by kernel_rfl) ok93
theorem ok65 : c65.ok prog 65 := Ctr.of_den l65 hmix (hl := hints) (d := 4) func65 rfl (by decide) (e65 lpK jnK ref02_Size ref02_Gcd)

/-- loftblock loftblockref02.All -/
noncomputable def ref02_All_b (lp : Lp) (_ : Jn) (ref02_Valid : (Int × Int) → Option (Bool)) (x0 : List (Int × Int)) : Option Bool :=
  lp (Int × PUnit) Bool (fun (again : Int × PUnit → Option Bool) (x : Int × PUnit) => bif decide (x.fst < (↑(List.length x0) : Int)) then bif inB x.fst (List.length x0) then obind
    (ref02_Valid (List.getD x0 (Int.toNat x.fst) ((0 : Int), (0 : Int)))) fun (t : Bool) => bif !t then some false else again (IntKind.wrap IntKind.i64 (x.fst + (1 : Int)), PUnit.unit) else
    none else some true) ((0 : Int), PUnit.unit)
noncomputable def ref02_All (x0 : List (Int × Int)) : Option Bool := ref02_All_b lpK jnK ref02_Valid x0
noncomputable def c26 : Ctr := ⟨[(.sl T41)], [], [], .one .bool, fun x _ _ => ref02_All x.1⟩
theorem e26 (lp : Lp) (jn : Jn) (ref02_Valid : (Int × Int) → Option (Bool)) : ∀ (x : TsS c26.as) (F : TsF c26.fs) (y : TsS c26.cs), ref02_All_b lp jn ref02_Valid x.1 = runC lp jn (ctxOf prog shs inls [(65, ⟨[T41], [], [], .one .bool, fun x _ _ => ref02_Valid x.1⟩)] []) hints 4 26 f26 c26 x F y := fun x F y => by kernel_rfl
theorem l26 : (ctxOf prog shs inls [(65, c65)] []).ok := ctxOf_cons (q0) (by kernel_rfl) ok65
theorem ok26 : c26.ok prog 26 := Ctr.of_den l26 hmix (hl := hints) (d := 4) func26 rfl (by decide) (e26 lpK jnK ref02_Valid)

/-- loftblock loftblockref02.Of -/
noncomputable def ref02_Of_b (_ : Lp) (_ : Jn) (x0 : Int) : Option (Int × Int) :=
  some (x0, (1 : Int))
noncomputable def ref02_Of (x0 : Int) : Option (Int × Int) := ref02_Of_b lpK jnK x0
noncomputable def c27 : Ctr := ⟨[i64], [], [], .one T41, fun x _ _ => ref02_Of x.1⟩
theorem e27 (lp : Lp) (jn : Jn) : ∀ (x : TsS c27.as) (F : TsF c27.fs) (y : TsS c27.cs), ref02_Of_b lp jn x.1 = runC lp jn (ctxOf prog shs inls [] []) hints 4 27 f27 c27 x F y := fun x F y => by kernel_rfl
theorem l27 : (ctxOf prog shs inls [] []).ok := q0
theorem ok27 : c27.ok prog 27 := Ctr.of_den l27 hmix (hl := hints) (d := 4) func27 rfl (by decide) (e27 lpK jnK)

/-- loftblock loftblockref02.Div -/
noncomputable def ref02_Div_b (lp : Lp) (_ : Jn) (ref02_Less : (Int × Int) → (Int × Int) → Option (Bool)) (ref02_Minus : (Int × Int) → (Int × Int) → Option (Int × Int)) (x0 : Int × Int) (x1 : Int × Int) : Option ((Int × Int) × (Int × Int) × Unit) :=
  
  let v4 : Bool := nzB x1.snd;
  let v5 : Int := (2 : Int) ^ (63 : Nat);
  let v6 : Int := (2 : Int) ^ (1 : Nat);
  let v7 : Bool := decide (x0.fst = (0 : Int));
  let v8 : Bool := decide ((0 : Int) ≤ (63 : Int));
  let v9 : Bool := decide ((0 : Int) ≤ (1 : Int));
  let v10 : Bool := !v7 || v7; bif v10 then bif v10 then bif v10 then bif bif v7 then decide (x1.fst = (0 : Int)) else false then bif v4 then bif v4 then some (((0 : Int), IntKind.wrap
    IntKind.u64 (Int.tdiv x0.snd x1.snd)), ((0 : Int), Int.tmod x0.snd x1.snd), PUnit.unit) else none else none else lp (Int × (Int × Int) × (Int × Int) × (Int × Int) × PUnit) ((Int × Int)
    × (Int × Int) × PUnit) (fun (again : Int × (Int × Int) × (Int × Int) × (Int × Int) × PUnit → Option ((Int × Int) × (Int × Int) × PUnit)) (x : Int × (Int × Int) × (Int × Int) × (Int ×
    Int) × PUnit) =>
  let v13 : Int := IntKind.wrap IntKind.i64 (x.fst + (1 : Int));
  let v14 : Int := IntKind.wrap IntKind.u64 (x.snd.snd.fst.snd * v6);
  let v15 : Int := IntKind.wrap IntKind.u64 (IntKind.wrap IntKind.u64 (x.snd.snd.fst.fst * v6) + Int.fdiv x.snd.snd.fst.snd v5);
  let v16 : Bool := decide (Int.fdiv x.snd.snd.snd.fst.fst v5 > (0 : Int));
  let v17 : Bool := !v16;
  let v18 : Int × Int := (IntKind.wrap IntKind.u64 (IntKind.wrap IntKind.u64 (x.snd.fst.fst * v6) + Int.fdiv x.snd.fst.snd v5), IntKind.wrap IntKind.u64 (x.snd.fst.snd * v6));
  let v19 : Int × Int := (IntKind.wrap IntKind.u64 (IntKind.wrap IntKind.u64 (x.snd.snd.snd.fst.fst * v6) + Int.fdiv x.snd.snd.snd.fst.snd v5), IntKind.wrap IntKind.u64 (IntKind.wrap
    IntKind.u64 (x.snd.snd.snd.fst.snd * v6) + Int.fdiv x.snd.fst.fst v5));
  let v20 : Bool := !v17 || v17; bif decide (x.fst < (128 : Int)) then bif v8 then bif v9 then bif v8 then bif v9 then bif v8 then bif v9 then bif v8 then bif v9 then bif v9 then bif v8
    then bif v9 then bif v20 && v20 then obind (bif v17 then ref02_Less v19 x1 else some false) fun (t : Bool) => bif v20 then bif v16 || v17 then bif bif v16 then true else !t then obind
    (ref02_Minus v19 x1) fun (t : Int × Int) => again (v13, v18, (v15, IntKind.wrap IntKind.u64 (v14 + (1 : Int))), t, PUnit.unit) else again (v13, v18, (v15, v14), v19, PUnit.unit) else
    none else none else none else none else none else none else none else none else none else none else none else none else none else none else some (x.snd.snd.fst, x.snd.snd.snd.fst,
    PUnit.unit)) ((0 : Int), x0, ((0 : Int), (0 : Int)), ((0 : Int), (0 : Int)), PUnit.unit) else none else none else none
noncomputable def ref02_Div (x0 : Int × Int) (x1 : Int × Int) : Option ((Int × Int) × (Int × Int) × Unit) := ref02_Div_b lpK jnK ref02_Less ref02_Minus x0 x1
noncomputable def c94 : Ctr := ⟨[T99, T99], [], [], .tup [T99, T99], fun x _ _ => ref02_Div x.1 x.2.1⟩
theorem e94 (lp : Lp) (jn : Jn) (ref02_Less : (Int × Int) → (Int × Int) → Option (Bool)) (ref02_Minus : (Int × Int) → (Int × Int) → Option (Int × Int)) : ∀ (x : TsS c94.as) (F : TsF c94.fs) (y : TsS c94.cs), ref02_Div_b lp jn ref02_Less ref02_Minus x.1 x.2.1 = runC lp jn (ctxOf prog shs inls [(71, ⟨[T99, T99], [], [], .one T99, fun x _ _ => ref02_Minus x.1 x.2.1⟩), (70, ⟨[T99, T99], [], [], .one .bool, fun x _ _ => ref02_Less x.1 x.2.1⟩)] []) hints 4 94 f94 c94 x F y := fun x F y => by kernel_rfl
theorem l94 : (ctxOf prog shs inls [(71, c71), (70, c70)] []).ok := ctxOf_cons (ctxOf_cons (q0) (by kernel_rfl) ok70) (by kernel_rfl) ok71
theorem ok94 : c94.ok prog 94 := Ctr.of_den l94 hmix (hl := hints) (d := 4) func94 rfl (by decide) (e94 lpK jnK ref02_Less ref02_Minus)

/-- loftblock loftblockref02.Made -/
noncomputable def ref02_Made_b (_ : Lp) (_ : Jn) (ref02_Gcd : (Int × Int) → (Int × Int) → Option (Int × Int)) (ref02_Div : (Int × Int) → (Int × Int) → Option ((Int × Int) × (Int × Int) × Unit)) (x0 : Int × Int) (x1 : Bool) (x2 : Int × Int) : Option ((Int × Int) × Int × Unit) :=
  bif decide (x2.fst = (0 : Int)) && (decide (x2.snd = (0 : Int)) && true) then some (((0 : Int), (0 : Int)), (16 : Int), PUnit.unit) else obind (ref02_Gcd x0 x2) fun (t : Int × Int) => obind
    (ref02_Div x0 t) fun (t_1 : (Int × Int) × (Int × Int) × PUnit) =>
  let v7 : Int := IntKind.wrap IntKind.i64 t_1.fst.snd;
  let v8 : Bool := decide (t_1.fst.fst > (0 : Int));
  let v9 : Bool := !v8;
  let v10 : Bool := bif v8 then true else decide (t_1.fst.snd > (1152921504606846976 : Int));
  let v11 : Bool := !v9 || v9;
  let v12 : Bool := !v10;
  let v13 : Bool := !v12 || v12; obind (ref02_Div x2 t) fun (t : (Int × Int) × (Int × Int) × PUnit) =>
  let v15 : Int := IntKind.wrap IntKind.i64 t.fst.snd;
  let v16 : Bool := bif v10 then true else decide (t.fst.fst > (0 : Int));
  let v17 : Bool := !v16;
  let v18 : Bool := !v17 || v17; bif v11 then bif v11 then bif v8 || v9 then bif v13 then bif v13 then bif v10 || v12 then bif v18 then bif v18 then bif v16 || v17 then bif bif v16 then
    true else decide (t.fst.snd > (1152921504606846976 : Int)) then some (((0 : Int), (0 : Int)), (5 : Int), PUnit.unit) else bif x1 then some ((IntKind.wrap IntKind.i64 ((0 : Int) - v7),
    v15), (0 : Int), PUnit.unit) else some ((v7, v15), (0 : Int), PUnit.unit) else none else none else none else none else none else none else none else none else none
noncomputable def ref02_Made (x0 : Int × Int) (x1 : Bool) (x2 : Int × Int) : Option ((Int × Int) × Int × Unit) := ref02_Made_b lpK jnK ref02_Gcd ref02_Div x0 x1 x2
noncomputable def c66 : Ctr := ⟨[T99, .bool, T99], [], [], .tup [T41, i64], fun x _ _ => ref02_Made x.1 x.2.1 x.2.2.1⟩
theorem e66 (lp : Lp) (jn : Jn) (ref02_Gcd : (Int × Int) → (Int × Int) → Option (Int × Int)) (ref02_Div : (Int × Int) → (Int × Int) → Option ((Int × Int) × (Int × Int) × Unit)) : ∀ (x : TsS c66.as) (F : TsF c66.fs) (y : TsS c66.cs), ref02_Made_b lp jn ref02_Gcd ref02_Div x.1 x.2.1 x.2.2.1 = runC lp jn (ctxOf prog shs inls [(94, ⟨[T99, T99], [], [], .tup [T99, T99], fun x _ _ => ref02_Div x.1 x.2.1⟩), (93, ⟨[T99, T99], [], [], .one T99, fun x _ _ => ref02_Gcd x.1 x.2.1⟩)] []) hints 4 66 f66 c66 x F y := fun x F y => by kernel_rfl
theorem l66 : (ctxOf prog shs inls [(94, c94), (93, c93)] []).ok := ctxOf_cons (ctxOf_cons (q0) (by kernel_rfl) ok93) (by kernel_rfl) ok94
theorem ok66 : c66.ok prog 66 := Ctr.of_den l66 hmix (hl := hints) (d := 4) func66 rfl (by decide) (e66 lpK jnK ref02_Gcd ref02_Div)

/-- loftblock loftblockref02.Mul -/
noncomputable def ref02_Mul_b (_ : Lp) (_ : Jn) (x0 : Int) (x1 : Int) : Option (Int × Int) :=
  
  let v4 : Int := (2 : Int) ^ (32 : Nat);
  let v5 : Int := Int.fdiv x0 v4;
  let v6 : Int := Int.fdiv x1 v4;
  let v7 : Bool := decide ((0 : Int) ≤ (32 : Int));
  let v8 : Int := IntKind.wrap IntKind.u64 (↑(Nat.land (Int.toNat (x1 % Int.ofNat (18446744073709551616 : Nat))) (Int.toNat ((4294967295 : Int) % Int.ofNat (18446744073709551616 : Nat)))) :
    Int);
  let v9 : Int := IntKind.wrap IntKind.u64 (↑(Nat.land (Int.toNat (x0 % Int.ofNat (18446744073709551616 : Nat))) (Int.toNat ((4294967295 : Int) % Int.ofNat (18446744073709551616 : Nat)))) :
    Int);
  let v10 : Int := IntKind.wrap IntKind.u64 (v9 * v8);
  let v11 : Int := IntKind.wrap IntKind.u64 (IntKind.wrap IntKind.u64 (v5 * v8) + Int.fdiv v10 v4);
  let v12 : Int := IntKind.wrap IntKind.u64 (IntKind.wrap IntKind.u64 (v9 * v6) + IntKind.wrap IntKind.u64 (↑(Nat.land (Int.toNat (v11 % Int.ofNat (18446744073709551616 : Nat))) (Int.toNat
    ((4294967295 : Int) % Int.ofNat (18446744073709551616 : Nat)))) : Int)); bif v7 then bif v7 then bif v7 then bif v7 then bif v7 then bif v7 then some (IntKind.wrap IntKind.u64
    (IntKind.wrap IntKind.u64 (IntKind.wrap IntKind.u64 (v5 * v6) + Int.fdiv v11 v4) + Int.fdiv v12 v4), IntKind.wrap IntKind.u64 (IntKind.wrap IntKind.u64 (v12 * v4) + IntKind.wrap
    IntKind.u64 (↑(Nat.land (Int.toNat (v10 % Int.ofNat (18446744073709551616 : Nat))) (Int.toNat ((4294967295 : Int) % Int.ofNat (18446744073709551616 : Nat)))) : Int))) else none else
    none else none else none else none else none
noncomputable def ref02_Mul (x0 : Int) (x1 : Int) : Option (Int × Int) := ref02_Mul_b lpK jnK x0 x1
noncomputable def c67 : Ctr := ⟨[(.int .u64), (.int .u64)], [], [], .one T99, fun x _ _ => ref02_Mul x.1 x.2.1⟩
theorem e67 (lp : Lp) (jn : Jn) : ∀ (x : TsS c67.as) (F : TsF c67.fs) (y : TsS c67.cs), ref02_Mul_b lp jn x.1 x.2.1 = runC lp jn (ctxOf prog shs inls [] []) hints 4 67 f67 c67 x F y := fun x F y => by kernel_rfl
theorem l67 : (ctxOf prog shs inls [] []).ok := q0
theorem ok67 : c67.ok prog 67 := Ctr.of_den l67 hmix (hl := hints) (d := 4) func67 rfl (by decide) (e67 lpK jnK)

/-- loftblock loftblockref02.Times -/
noncomputable def ref02_Times_b (_ : Lp) (_ : Jn) (ref02_Size : (Int) → Option (Int)) (ref02_Made : (Int × Int) → (Bool) → (Int × Int) → Option ((Int × Int) × Int × Unit)) (ref02_Mul : (Int) → (Int) → Option (Int × Int)) (x0 : Int × Int) (x1 : Int × Int) : Option ((Int × Int) × Int × Unit) :=
  obind (ref02_Size x0.fst) fun (t : Int) => obind (ref02_Size x1.fst) fun (t_1 : Int) => obind (ref02_Mul t t_1) fun (t : Int × Int) => obind (ref02_Size x0.snd) fun (t_2 : Int) => obind
    (ref02_Size x1.snd) fun (t_3 : Int) => obind (ref02_Mul t_2 t_3) fun (t_4 : Int × Int) => obind (ref02_Made t (!decide (decide (x0.fst < (0 : Int)) = decide (x1.fst < (0 : Int)))) t_4)
    fun (t : (Int × Int) × Int × PUnit) => some (t.fst, t.snd.fst, PUnit.unit)
noncomputable def ref02_Times (x0 : Int × Int) (x1 : Int × Int) : Option ((Int × Int) × Int × Unit) := ref02_Times_b lpK jnK ref02_Size ref02_Made ref02_Mul x0 x1
noncomputable def c28 : Ctr := ⟨[T41, T41], [], [], .tup [T41, i64], fun x _ _ => ref02_Times x.1 x.2.1⟩
theorem e28 (lp : Lp) (jn : Jn) (ref02_Size : (Int) → Option (Int)) (ref02_Made : (Int × Int) → (Bool) → (Int × Int) → Option ((Int × Int) × Int × Unit)) (ref02_Mul : (Int) → (Int) → Option (Int × Int)) : ∀ (x : TsS c28.as) (F : TsF c28.fs) (y : TsS c28.cs), ref02_Times_b lp jn ref02_Size ref02_Made ref02_Mul x.1 x.2.1 = runC lp jn (ctxOf prog shs inls [(67, ⟨[(.int .u64), (.int .u64)], [], [], .one T99, fun x _ _ => ref02_Mul x.1 x.2.1⟩), (66, ⟨[T99, .bool, T99], [], [], .tup [T41, i64], fun x _ _ => ref02_Made x.1 x.2.1 x.2.2.1⟩), (68, ⟨[i64], [], [], .one (.int .u64), fun x _ _ => ref02_Size x.1⟩)] []) hints 4 28 f28 c28 x F y := fun x F y => by kernel_rfl
theorem l28 : (ctxOf prog shs inls [(67, c67), (66, c66), (68, c68)] []).ok := ctxOf_cons (ctxOf_cons (ctxOf_cons (q0) (by kernel_rfl) ok68) (by kernel_rfl) ok66) (by kernel_rfl) ok67
theorem ok28 : c28.ok prog 28 := Ctr.of_den l28 hmix (hl := hints) (d := 4) func28 rfl (by decide) (e28 lpK jnK ref02_Size ref02_Made ref02_Mul)

/-- loftblock loftblockref18.along -/
noncomputable def ref18_along_b (_ : Lp) (_ : Jn) (x0 : Int × Int × Int) (x1 : Int) : Option Int :=
  bif decide (x1 = (0 : Int)) then some x0.fst else bif decide (x1 = (1 : Int)) then some x0.snd.fst else some x0.snd.snd
noncomputable def ref18_along (x0 : Int × Int × Int) (x1 : Int) : Option Int := ref18_along_b lpK jnK x0 x1
noncomputable def c29 : Ctr := ⟨[T64, i64], [], [], .one i64, fun x _ _ => ref18_along x.1 x.2.1⟩
theorem e29 (lp : Lp) (jn : Jn) : ∀ (x : TsS c29.as) (F : TsF c29.fs) (y : TsS c29.cs), ref18_along_b lp jn x.1 x.2.1 = runC lp jn (ctxOf prog shs inls [] []) hints 4 29 f29 c29 x F y := fun x F y => by kernel_rfl
theorem l29 : (ctxOf prog shs inls [] []).ok := q0
theorem ok29 : c29.ok prog 29 := Ctr.of_den l29 hmix (hl := hints) (d := 4) func29 rfl (by decide) (e29 lpK jnK)

/-- loftblock loftblockref02.Add -/
noncomputable def ref02_Add_b (_ : Lp) (_ : Jn) (ref02_Size : (Int) → Option (Int)) (ref02_Plus : (Int × Int) → (Int × Int) → Option (Int × Int)) (ref02_Less : (Int × Int) → (Int × Int) → Option (Bool)) (ref02_Minus : (Int × Int) → (Int × Int) → Option (Int × Int)) (ref02_Made : (Int × Int) → (Bool) → (Int × Int) → Option ((Int × Int) × Int × Unit)) (ref02_Mul : (Int) → (Int) → Option (Int × Int)) (x0 : Int × Int) (x1 : Int × Int) : Option ((Int × Int) × Int × Unit) :=
  
  let v4 : Bool := decide (x0.fst < (0 : Int)); obind (ref02_Size x0.fst) fun (t : Int) => obind (ref02_Size x1.snd) fun (t_1 : Int) => obind (ref02_Mul t t_1) fun (t : Int × Int) => obind
    (ref02_Size x1.fst) fun (t_2 : Int) => obind (ref02_Size x0.snd) fun (t_3 : Int) => obind (ref02_Mul t_2 t_3) fun (t_4 : Int × Int) => obind (ref02_Size x0.snd) fun (t_5 : Int) => obind
    (ref02_Size x1.snd) fun (t_6 : Int) => obind (ref02_Mul t_5 t_6) fun (t_7 : Int × Int) => bif decide (v4 = decide (x1.fst < (0 : Int))) then obind (ref02_Plus t t_4) fun (t : Int × Int)
    => obind (ref02_Made t v4 t_7) fun (t : (Int × Int) × Int × PUnit) => some (t.fst, t.snd.fst, PUnit.unit) else obind (ref02_Less t t_4) fun (t_8 : Bool) => bif t_8 then obind
    (ref02_Minus t_4 t) fun (t : Int × Int) => obind (ref02_Made t (decide (x1.fst < (0 : Int))) t_7) fun (t : (Int × Int) × Int × PUnit) => some (t.fst, t.snd.fst, PUnit.unit) else obind
    (ref02_Minus t t_4) fun (t : Int × Int) => obind (ref02_Made t v4 t_7) fun (t : (Int × Int) × Int × PUnit) => some (t.fst, t.snd.fst, PUnit.unit)
noncomputable def ref02_Add (x0 : Int × Int) (x1 : Int × Int) : Option ((Int × Int) × Int × Unit) := ref02_Add_b lpK jnK ref02_Size ref02_Plus ref02_Less ref02_Minus ref02_Made ref02_Mul x0 x1
noncomputable def c31 : Ctr := ⟨[T41, T41], [], [], .tup [T41, i64], fun x _ _ => ref02_Add x.1 x.2.1⟩
theorem e31 (lp : Lp) (jn : Jn) (ref02_Size : (Int) → Option (Int)) (ref02_Plus : (Int × Int) → (Int × Int) → Option (Int × Int)) (ref02_Less : (Int × Int) → (Int × Int) → Option (Bool)) (ref02_Minus : (Int × Int) → (Int × Int) → Option (Int × Int)) (ref02_Made : (Int × Int) → (Bool) → (Int × Int) → Option ((Int × Int) × Int × Unit)) (ref02_Mul : (Int) → (Int) → Option (Int × Int)) : ∀ (x : TsS c31.as) (F : TsF c31.fs) (y : TsS c31.cs), ref02_Add_b lp jn ref02_Size ref02_Plus ref02_Less ref02_Minus ref02_Made ref02_Mul x.1 x.2.1 = runC lp jn (ctxOf prog shs inls [(67, ⟨[(.int .u64), (.int .u64)], [], [], .one T99, fun x _ _ => ref02_Mul x.1 x.2.1⟩), (66, ⟨[T99, .bool, T99], [], [], .tup [T41, i64], fun x _ _ => ref02_Made x.1 x.2.1 x.2.2.1⟩), (71, ⟨[T99, T99], [], [], .one T99, fun x _ _ => ref02_Minus x.1 x.2.1⟩), (70, ⟨[T99, T99], [], [], .one .bool, fun x _ _ => ref02_Less x.1 x.2.1⟩), (69, ⟨[T99, T99], [], [], .one T99, fun x _ _ => ref02_Plus x.1 x.2.1⟩), (68, ⟨[i64], [], [], .one (.int .u64), fun x _ _ => ref02_Size x.1⟩)] []) hints 4 31 f31 c31 x F y := fun x F y => by kernel_rfl
theorem l31 : (ctxOf prog shs inls [(67, c67), (66, c66), (71, c71), (70, c70), (69, c69), (68, c68)] []).ok := ctxOf_cons (ctxOf_cons (ctxOf_cons (ctxOf_cons (ctxOf_cons (ctxOf_cons (q0) (by kernel_rfl) ok68) (by kernel_rfl) ok69) (by kernel_rfl) ok70) (by kernel_rfl) ok71) (by kernel_rfl) ok66) (by kernel_rfl) ok67
theorem ok31 : c31.ok prog 31 := Ctr.of_den l31 hmix (hl := hints) (d := 4) func31 rfl (by decide) (e31 lpK jnK ref02_Size ref02_Plus ref02_Less ref02_Minus ref02_Made ref02_Mul)

/-- loftblock loftblockref18.Check -/
noncomputable def ref18_Check_b (lp : Lp) (jn : Jn) (ref18_Arm : ((Int × Int × Int) × Int × List (ByteArray × (Int × Int × Int) × Int)) → (Int) → Option (Int × Int × Int)) (ref18_Valid : ((Int × Int × Int) × Int × List (ByteArray × (Int × Int × Int) × Int)) → Option (Bool)) (ref02_All : (List (Int × Int)) → Option (Bool)) (ref02_Of : (Int) → Option (Int × Int)) (ref02_Times : (Int × Int) → (Int × Int) → Option ((Int × Int) × Int × Unit)) (ref18_along : (Int × Int × Int) → (Int) → Option (Int)) (ref02_Add : (Int × Int) → (Int × Int) → Option ((Int × Int) × Int × Unit)) (x0 : (Int × Int × Int) × Int × List (ByteArray × (Int × Int × Int) × Int)) (x1 : List (Int × Int)) : Option (Bool × Int × Unit) :=
  obind (ref18_Valid x0) fun (t : Bool) =>
  let v5 : Bool := !t;
  let v6 : Bool := !v5;
  let v7 : Bool := !v6 || v6; bif v7 then obind (bif v6 then ref02_All x1 else some false) fun (t : Bool) => bif v7 then bif v5 || v6 then bif bif v5 then true else !t then some (false, (1
    : Int), PUnit.unit) else bif !decide ((↑(List.length x1) : Int) = (↑(List.length x0.snd.snd) : Int)) then some (false, (3 : Int), PUnit.unit) else lp (Bool × Int × PUnit) (Bool × Int ×
    PUnit) (fun (again : Bool × Int × PUnit → Option (Bool × Int × PUnit)) (x : Bool × Int × PUnit) =>
  let v11 : Bool := !x.fst || x.fst; bif decide (x.snd.fst < (3 : Int)) then obind (ref02_Of (0 : Int)) fun (t : Int × Int) => lp (Int × (Int × Int) × PUnit) (Bool × Int × PUnit) (fun
    (again_1 : Int × (Int × Int) × PUnit → Option (Bool × Int × PUnit)) (x_1 : Int × (Int × Int) × PUnit) => bif decide (x_1.fst < (↑(List.length x1) : Int)) then bif inB x_1.fst
    (List.length x1) then obind (ref18_Arm x0 x_1.fst) fun (t : Int × Int × Int) => obind (ref18_along t x.snd.fst) fun (t : Int) => obind (ref02_Of t) fun (t : Int × Int) => obind
    (ref02_Times (List.getD x1 (Int.toNat x_1.fst) ((0 : Int), (0 : Int))) t) fun (t : (Int × Int) × Int × PUnit) => bif !decide (t.snd.fst = (0 : Int)) then some (false, t.snd.fst,
    PUnit.unit) else obind (ref02_Add x_1.snd.fst t.fst) fun (t : (Int × Int) × Int × PUnit) => bif !decide (t.snd.fst = (0 : Int)) then some (false, t.snd.fst, PUnit.unit) else again_1
    (IntKind.wrap IntKind.i64 (x_1.fst + (1 : Int)), t.fst, PUnit.unit) else none else jn (Int × PUnit) (Bool × Int × PUnit) (fun (x_2 : Int × PUnit) => bif v11 then obind (bif x.fst then
    ref02_Of x_2.fst else some ((0 : Int), (0 : Int))) fun (t : Int × Int) => bif v11 && v11 then bif v11 then again (bif x.fst then decide (x_1.snd.fst.fst = t.fst) && (decide
    (x_1.snd.fst.snd = t.snd) && true) else false, IntKind.wrap IntKind.i64 (x.snd.fst + (1 : Int)), PUnit.unit) else none else none else none) fun (j : Int × PUnit → Option (Bool × Int ×
    PUnit)) => bif decide (x.snd.fst = (2 : Int)) then j (x0.snd.fst, PUnit.unit) else j ((0 : Int), PUnit.unit)) ((0 : Int), t, PUnit.unit) else some (x.fst, (0 : Int), PUnit.unit)) (true,
    (0 : Int), PUnit.unit) else none else none else none
noncomputable def ref18_Check (x0 : (Int × Int × Int) × Int × List (ByteArray × (Int × Int × Int) × Int)) (x1 : List (Int × Int)) : Option (Bool × Int × Unit) := ref18_Check_b lpK jnK ref18_Arm ref18_Valid ref02_All ref02_Of ref02_Times ref18_along ref02_Add x0 x1
noncomputable def c8 : Ctr := ⟨[T26, (.sl T41)], [], [], .tup [.bool, i64], fun x _ _ => ref18_Check x.1 x.2.1⟩
theorem e8 (lp : Lp) (jn : Jn) (ref18_Arm : ((Int × Int × Int) × Int × List (ByteArray × (Int × Int × Int) × Int)) → (Int) → Option (Int × Int × Int)) (ref18_Valid : ((Int × Int × Int) × Int × List (ByteArray × (Int × Int × Int) × Int)) → Option (Bool)) (ref02_All : (List (Int × Int)) → Option (Bool)) (ref02_Of : (Int) → Option (Int × Int)) (ref02_Times : (Int × Int) → (Int × Int) → Option ((Int × Int) × Int × Unit)) (ref18_along : (Int × Int × Int) → (Int) → Option (Int)) (ref02_Add : (Int × Int) → (Int × Int) → Option ((Int × Int) × Int × Unit)) : ∀ (x : TsS c8.as) (F : TsF c8.fs) (y : TsS c8.cs), ref18_Check_b lp jn ref18_Arm ref18_Valid ref02_All ref02_Of ref02_Times ref18_along ref02_Add x.1 x.2.1 = runC lp jn (ctxOf prog shs inls [(31, ⟨[T41, T41], [], [], .tup [T41, i64], fun x _ _ => ref02_Add x.1 x.2.1⟩), (29, ⟨[T64, i64], [], [], .one i64, fun x _ _ => ref18_along x.1 x.2.1⟩), (28, ⟨[T41, T41], [], [], .tup [T41, i64], fun x _ _ => ref02_Times x.1 x.2.1⟩), (27, ⟨[i64], [], [], .one T41, fun x _ _ => ref02_Of x.1⟩), (26, ⟨[(.sl T41)], [], [], .one .bool, fun x _ _ => ref02_All x.1⟩), (9, ⟨[T26], [], [], .one .bool, fun x _ _ => ref18_Valid x.1⟩), (30, ⟨[T26, i64], [], [], .one T64, fun x _ _ => ref18_Arm x.1 x.2.1⟩)] []) hints 4 8 f8 c8 x F y := fun x F y => by kernel_rfl
theorem l8 : (ctxOf prog shs inls [(31, c31), (29, c29), (28, c28), (27, c27), (26, c26), (9, c9), (30, c30)] []).ok := ctxOf_cons (ctxOf_cons (ctxOf_cons (ctxOf_cons (ctxOf_cons (ctxOf_cons (ctxOf_cons (q0) (by kernel_rfl) ok30) (by kernel_rfl) ok9) (by kernel_rfl) ok26) (by kernel_rfl) ok27) (by kernel_rfl) ok28) (by kernel_rfl) ok29) (by kernel_rfl) ok31
theorem ok8 : c8.ok prog 8 := Ctr.of_den l8 hmix (hl := hints) (d := 4) func8 rfl (by decide) (e8 lpK jnK ref18_Arm ref18_Valid ref02_All ref02_Of ref02_Times ref18_along ref02_Add)

/-- loftblock loftblockref02.Make -/
noncomputable def ref02_Make_b (_ : Lp) (_ : Jn) (ref02_Size : (Int) → Option (Int)) (ref02_Made : (Int × Int) → (Bool) → (Int × Int) → Option ((Int × Int) × Int × Unit)) (x0 : Int) (x1 : Int) : Option ((Int × Int) × Int × Unit) :=
  obind (ref02_Size x0) fun (t : Int) => obind (ref02_Size x1) fun (t_1 : Int) => obind (ref02_Made ((0 : Int), t) (!decide (decide (x0 < (0 : Int)) = decide (x1 < (0 : Int)))) ((0 : Int),
    t_1)) fun (t : (Int × Int) × Int × PUnit) => some (t.fst, t.snd.fst, PUnit.unit)
noncomputable def ref02_Make (x0 : Int) (x1 : Int) : Option ((Int × Int) × Int × Unit) := ref02_Make_b lpK jnK ref02_Size ref02_Made x0 x1
noncomputable def c96 : Ctr := ⟨[i64, i64], [], [], .tup [T41, i64], fun x _ _ => ref02_Make x.1 x.2.1⟩
theorem e96 (lp : Lp) (jn : Jn) (ref02_Size : (Int) → Option (Int)) (ref02_Made : (Int × Int) → (Bool) → (Int × Int) → Option ((Int × Int) × Int × Unit)) : ∀ (x : TsS c96.as) (F : TsF c96.fs) (y : TsS c96.cs), ref02_Make_b lp jn ref02_Size ref02_Made x.1 x.2.1 = runC lp jn (ctxOf prog shs inls [(66, ⟨[T99, .bool, T99], [], [], .tup [T41, i64], fun x _ _ => ref02_Made x.1 x.2.1 x.2.2.1⟩), (68, ⟨[i64], [], [], .one (.int .u64), fun x _ _ => ref02_Size x.1⟩)] []) hints 4 96 f96 c96 x F y := fun x F y => by kernel_rfl
theorem l96 : (ctxOf prog shs inls [(66, c66), (68, c68)] []).ok := ctxOf_cons (ctxOf_cons (q0) (by kernel_rfl) ok68) (by kernel_rfl) ok66
theorem ok96 : c96.ok prog 96 := Ctr.of_den l96 hmix (hl := hints) (d := 4) func96 rfl (by decide) (e96 lpK jnK ref02_Size ref02_Made)

/-- loftblock loftblockref18.quotient -/
noncomputable def ref18_quotient_b (_ : Lp) (_ : Jn) (ref02_Make : (Int) → (Int) → Option ((Int × Int) × Int × Unit)) (x0 : Int) (x1 : Int) (x2 : Int) : Option (Int × Int) :=
  obind (ref02_Make (IntKind.wrap IntKind.i64 (x0 * x1)) x2) fun (t : (Int × Int) × Int × PUnit) => some t.fst
noncomputable def ref18_quotient (x0 : Int) (x1 : Int) (x2 : Int) : Option (Int × Int) := ref18_quotient_b lpK jnK ref02_Make x0 x1 x2
noncomputable def c75 : Ctr := ⟨[i64, i64, i64], [], [], .one T41, fun x _ _ => ref18_quotient x.1 x.2.1 x.2.2.1⟩
theorem e75 (lp : Lp) (jn : Jn) (ref02_Make : (Int) → (Int) → Option ((Int × Int) × Int × Unit)) : ∀ (x : TsS c75.as) (F : TsF c75.fs) (y : TsS c75.cs), ref18_quotient_b lp jn ref02_Make x.1 x.2.1 x.2.2.1 = runC lp jn (ctxOf prog shs inls [(96, ⟨[i64, i64], [], [], .tup [T41, i64], fun x _ _ => ref02_Make x.1 x.2.1⟩)] []) hints 4 75 f75 c75 x F y := fun x F y => by kernel_rfl
theorem l75 : (ctxOf prog shs inls [(96, c96)] []).ok := ctxOf_cons (q0) (by kernel_rfl) ok96
theorem ok75 : c75.ok prog 75 := Ctr.of_den l75 hmix (hl := hints) (d := 4) func75 rfl (by decide) (e75 lpK jnK ref02_Make)

/-- loftblock loftblockref18.one -/
noncomputable def ref18_one_b (_ : Lp) (_ : Jn) (ref02_Of : (Int) → Option (Int × Int)) (ref18_quotient : (Int) → (Int) → (Int) → Option (Int × Int)) (x0 : Int) (x1 : Int × Int × Int) : Option ((List (Int × Int)) × Int × Unit) :=
  
  let v4 : Bool := !decide (x1.fst = (0 : Int));
  let v5 : Bool := !v4;
  let v6 : Bool := !v5 || v5; bif decide (x0 = (0 : Int)) then obind (ref02_Of (0 : Int)) fun (t : Int × Int) => some ([t], (0 : Int), PUnit.unit) else bif v6 then bif v6 then bif v4 || v5
    then bif bif v4 then true else !decide (x1.snd.fst = (0 : Int)) then some ([], (22 : Int), PUnit.unit) else obind (ref18_quotient x0 (1 : Int) x1.snd.snd) fun (t : Int × Int) => some
    ([t], (0 : Int), PUnit.unit) else none else none else none
noncomputable def ref18_one (x0 : Int) (x1 : Int × Int × Int) : Option ((List (Int × Int)) × Int × Unit) := ref18_one_b lpK jnK ref02_Of ref18_quotient x0 x1
noncomputable def c36 : Ctr := ⟨[i64, T64], [], [], .tup [(.sl T41), i64], fun x _ _ => ref18_one x.1 x.2.1⟩
theorem e36 (lp : Lp) (jn : Jn) (ref02_Of : (Int) → Option (Int × Int)) (ref18_quotient : (Int) → (Int) → (Int) → Option (Int × Int)) : ∀ (x : TsS c36.as) (F : TsF c36.fs) (y : TsS c36.cs), ref18_one_b lp jn ref02_Of ref18_quotient x.1 x.2.1 = runC lp jn (ctxOf prog shs inls [(75, ⟨[i64, i64, i64], [], [], .one T41, fun x _ _ => ref18_quotient x.1 x.2.1 x.2.2.1⟩), (27, ⟨[i64], [], [], .one T41, fun x _ _ => ref02_Of x.1⟩)] []) hints 4 36 f36 c36 x F y := fun x F y => by kernel_rfl
theorem l36 : (ctxOf prog shs inls [(75, c75), (27, c27)] []).ok := ctxOf_cons (ctxOf_cons (q0) (by kernel_rfl) ok27) (by kernel_rfl) ok75
theorem ok36 : c36.ok prog 36 := Ctr.of_den l36 hmix (hl := hints) (d := 4) func36 rfl (by decide) (e36 lpK jnK ref02_Of ref18_quotient)

/-- loftblock loftblockref18.Cross -/
noncomputable def ref18_Cross_b (_ : Lp) (_ : Jn) (x0 : Int × Int × Int) (x1 : Int × Int × Int) : Option (Int × Int × Int) :=
  some (IntKind.wrap IntKind.i64 (IntKind.wrap IntKind.i64 (x0.snd.fst * x1.snd.snd) - IntKind.wrap IntKind.i64 (x0.snd.snd * x1.snd.fst)), IntKind.wrap IntKind.i64 (IntKind.wrap IntKind.i64
    (x0.snd.snd * x1.fst) - IntKind.wrap IntKind.i64 (x0.fst * x1.snd.snd)), IntKind.wrap IntKind.i64 (IntKind.wrap IntKind.i64 (x0.fst * x1.snd.fst) - IntKind.wrap IntKind.i64 (x0.snd.fst
    * x1.fst)))
noncomputable def ref18_Cross (x0 : Int × Int × Int) (x1 : Int × Int × Int) : Option (Int × Int × Int) := ref18_Cross_b lpK jnK x0 x1
noncomputable def c76 : Ctr := ⟨[T64, T64], [], [], .one T64, fun x _ _ => ref18_Cross x.1 x.2.1⟩
theorem e76 (lp : Lp) (jn : Jn) : ∀ (x : TsS c76.as) (F : TsF c76.fs) (y : TsS c76.cs), ref18_Cross_b lp jn x.1 x.2.1 = runC lp jn (ctxOf prog shs inls [] []) hints 4 76 f76 c76 x F y := fun x F y => by kernel_rfl
theorem l76 : (ctxOf prog shs inls [] []).ok := q0
theorem ok76 : c76.ok prog 76 := Ctr.of_den l76 hmix (hl := hints) (d := 4) func76 rfl (by decide) (e76 lpK jnK)

/-- loftblock loftblockref18.upright -/
noncomputable def ref18_upright_b (_ : Lp) (_ : Jn) (x0 : Int × Int × Int) : Option Bool :=
  
  let v3 : Bool := decide (x0.fst = (0 : Int));
  let v4 : Bool := !v3 || v3; bif v4 then bif v4 then bif v4 then some (bif v3 then decide (x0.snd.fst = (0 : Int)) else false) else none else none else none
noncomputable def ref18_upright (x0 : Int × Int × Int) : Option Bool := ref18_upright_b lpK jnK x0
noncomputable def c77 : Ctr := ⟨[T64], [], [], .one .bool, fun x _ _ => ref18_upright x.1⟩
theorem e77 (lp : Lp) (jn : Jn) : ∀ (x : TsS c77.as) (F : TsF c77.fs) (y : TsS c77.cs), ref18_upright_b lp jn x.1 = runC lp jn (ctxOf prog shs inls [] []) hints 4 77 f77 c77 x F y := fun x F y => by kernel_rfl
theorem l77 : (ctxOf prog shs inls [] []).ok := q0
theorem ok77 : c77.ok prog 77 := Ctr.of_den l77 hmix (hl := hints) (d := 4) func77 rfl (by decide) (e77 lpK jnK)

/-- loftblock loftblockref18.two -/
noncomputable def ref18_two_b (_ : Lp) (_ : Jn) (ref02_Of : (Int) → Option (Int × Int)) (ref18_quotient : (Int) → (Int) → (Int) → Option (Int × Int)) (ref18_Cross : (Int × Int × Int) → (Int × Int × Int) → Option (Int × Int × Int)) (ref18_upright : (Int × Int × Int) → Option (Bool)) (x0 : Int) (x1 : Int × Int × Int) (x2 : Int × Int × Int) : Option ((List (Int × Int)) × Int × Unit) :=
  
  let v5 : Bool := decide (x0 = (0 : Int));
  let v6 : Bool := !v5;
  let v7 : Int := IntKind.wrap IntKind.i64 (IntKind.wrap IntKind.i64 (x1.fst * x2.snd.snd) - IntKind.wrap IntKind.i64 (x1.snd.snd * x2.fst));
  let v8 : Int := IntKind.wrap IntKind.i64 (IntKind.wrap IntKind.i64 (x1.snd.fst * x2.snd.snd) - IntKind.wrap IntKind.i64 (x1.snd.snd * x2.snd.fst)); obind (ref18_Cross x1 x2) fun (t : Int
    × Int × Int) =>
  let v10 : Bool := decide (t.snd.fst = (0 : Int));
  let v11 : Bool := decide (t.snd.snd = (0 : Int)); bif decide (t.fst = (0 : Int)) && (v10 && (v11 && true)) then bif !v6 || v6 then obind (bif v6 then ref18_upright x1 else some false) fun
    (t : Bool) => bif v5 || v6 then bif bif v5 then true else t then some ([], (21 : Int), PUnit.unit) else some ([], (22 : Int), PUnit.unit) else none else none else bif v5 then obind
    (ref02_Of (0 : Int)) fun (t : Int × Int) => obind (ref02_Of (0 : Int)) fun (t_1 : Int × Int) => some ([t, t_1], (0 : Int), PUnit.unit) else bif !v11 then some ([], (22 : Int),
    PUnit.unit) else bif !v10 then obind (ref18_quotient x0 (IntKind.wrap IntKind.i64 ((0 : Int) - x2.fst)) v7) fun (t : Int × Int) => obind (ref18_quotient x0 x1.fst v7) fun (t_1 : Int ×
    Int) => some ([t, t_1], (0 : Int), PUnit.unit) else obind (ref18_quotient x0 (IntKind.wrap IntKind.i64 ((0 : Int) - x2.snd.fst)) v8) fun (t : Int × Int) => obind (ref18_quotient x0
    x1.snd.fst v8) fun (t_1 : Int × Int) => some ([t, t_1], (0 : Int), PUnit.unit)
noncomputable def ref18_two (x0 : Int) (x1 : Int × Int × Int) (x2 : Int × Int × Int) : Option ((List (Int × Int)) × Int × Unit) := ref18_two_b lpK jnK ref02_Of ref18_quotient ref18_Cross ref18_upright x0 x1 x2
noncomputable def c37 : Ctr := ⟨[i64, T64, T64], [], [], .tup [(.sl T41), i64], fun x _ _ => ref18_two x.1 x.2.1 x.2.2.1⟩
theorem e37 (lp : Lp) (jn : Jn) (ref02_Of : (Int) → Option (Int × Int)) (ref18_quotient : (Int) → (Int) → (Int) → Option (Int × Int)) (ref18_Cross : (Int × Int × Int) → (Int × Int × Int) → Option (Int × Int × Int)) (ref18_upright : (Int × Int × Int) → Option (Bool)) : ∀ (x : TsS c37.as) (F : TsF c37.fs) (y : TsS c37.cs), ref18_two_b lp jn ref02_Of ref18_quotient ref18_Cross ref18_upright x.1 x.2.1 x.2.2.1 = runC lp jn (ctxOf prog shs inls [(77, ⟨[T64], [], [], .one .bool, fun x _ _ => ref18_upright x.1⟩), (76, ⟨[T64, T64], [], [], .one T64, fun x _ _ => ref18_Cross x.1 x.2.1⟩), (75, ⟨[i64, i64, i64], [], [], .one T41, fun x _ _ => ref18_quotient x.1 x.2.1 x.2.2.1⟩), (27, ⟨[i64], [], [], .one T41, fun x _ _ => ref02_Of x.1⟩)] []) hints 4 37 f37 c37 x F y := fun x F y => by kernel_rfl
theorem l37 : (ctxOf prog shs inls [(77, c77), (76, c76), (75, c75), (27, c27)] []).ok := ctxOf_cons (ctxOf_cons (ctxOf_cons (ctxOf_cons (q0) (by kernel_rfl) ok27) (by kernel_rfl) ok75) (by kernel_rfl) ok76) (by kernel_rfl) ok77
theorem ok37 : c37.ok prog 37 := Ctr.of_den l37 hmix (hl := hints) (d := 4) func37 rfl (by decide) (e37 lpK jnK ref02_Of ref18_quotient ref18_Cross ref18_upright)

/-- loftblock loftblockref18.dot -/
noncomputable def ref18_dot_b (_ : Lp) (_ : Jn) (x0 : Int × Int × Int) (x1 : Int × Int × Int) : Option Int :=
  some (IntKind.wrap IntKind.i64 (IntKind.wrap IntKind.i64 (IntKind.wrap IntKind.i64 (x0.fst * x1.fst) + IntKind.wrap IntKind.i64 (x0.snd.fst * x1.snd.fst)) + IntKind.wrap IntKind.i64
    (x0.snd.snd * x1.snd.snd)))
noncomputable def ref18_dot (x0 : Int × Int × Int) (x1 : Int × Int × Int) : Option Int := ref18_dot_b lpK jnK x0 x1
noncomputable def c78 : Ctr := ⟨[T64, T64], [], [], .one i64, fun x _ _ => ref18_dot x.1 x.2.1⟩
theorem e78 (lp : Lp) (jn : Jn) : ∀ (x : TsS c78.as) (F : TsF c78.fs) (y : TsS c78.cs), ref18_dot_b lp jn x.1 x.2.1 = runC lp jn (ctxOf prog shs inls [] []) hints 4 78 f78 c78 x F y := fun x F y => by kernel_rfl
theorem l78 : (ctxOf prog shs inls [] []).ok := q0
theorem ok78 : c78.ok prog 78 := Ctr.of_den l78 hmix (hl := hints) (d := 4) func78 rfl (by decide) (e78 lpK jnK)

/-- loftblock loftblockref18.three -/
noncomputable def ref18_three_b (_ : Lp) (_ : Jn) (ref18_quotient : (Int) → (Int) → (Int) → Option (Int × Int)) (ref18_Cross : (Int × Int × Int) → (Int × Int × Int) → Option (Int × Int × Int)) (ref18_upright : (Int × Int × Int) → Option (Bool)) (ref18_dot : (Int × Int × Int) → (Int × Int × Int) → Option (Int)) (x0 : Int) (x1 : Int × Int × Int) (x2 : Int × Int × Int) (x3 : Int × Int × Int) : Option ((List (Int × Int)) × Int × Unit) :=
  obind (ref18_Cross x2 x3) fun (t : Int × Int × Int) =>
  let v7 : Bool := decide (t.snd.snd = (0 : Int));
  let v8 : Bool := !v7;
  let v9 : Bool := !v8;
  let v10 : Bool := !v9 || v9;
  let v11 : Bool := decide (t.fst = (0 : Int)) && (decide (t.snd.fst = (0 : Int)) && (v7 && true));
  let v12 : Bool := !v11 || v11; obind (ref18_Cross x3 x1) fun (t_1 : Int × Int × Int) =>
  let v14 : Bool := decide (t_1.snd.snd = (0 : Int));
  let v15 : Bool := bif v8 then true else !v14;
  let v16 : Bool := !v15;
  let v17 : Bool := !v16 || v16;
  let v18 : Bool := bif v11 then decide (t_1.fst = (0 : Int)) && (decide (t_1.snd.fst = (0 : Int)) && (v14 && true)) else false;
  let v19 : Bool := !v18 || v18; obind (ref18_Cross x1 x2) fun (t_2 : Int × Int × Int) =>
  let v21 : Bool := decide (t_2.snd.snd = (0 : Int)); obind (ref18_dot x1 t) fun (t_3 : Int) => bif !decide (t_3 = (0 : Int)) then obind (ref18_quotient x0 t.snd.snd t_3) fun (t : Int ×
    Int) => obind (ref18_quotient x0 t_1.snd.snd t_3) fun (t_4 : Int × Int) => obind (ref18_quotient x0 t_2.snd.snd t_3) fun (t_5 : Int × Int) => some ([t, t_4, t_5], (0 : Int), PUnit.unit)
    else bif decide (x0 = (0 : Int)) then some ([], (21 : Int), PUnit.unit) else bif v12 && v12 then bif v12 then bif v19 && v19 then bif v19 then bif bif v18 then decide (t_2.fst = (0 :
    Int)) && (decide (t_2.snd.fst = (0 : Int)) && (v21 && true)) else false then obind (ref18_upright x1) fun (t : Bool) => bif t then some ([], (21 : Int), PUnit.unit) else some ([], (22 :
    Int), PUnit.unit) else bif v10 then bif v10 then bif v8 || v9 then bif v17 then bif v17 then bif v15 || v16 then bif bif v15 then true else !v21 then some ([], (22 : Int), PUnit.unit)
    else some ([], (21 : Int), PUnit.unit) else none else none else none else none else none else none else none else none else none else none
noncomputable def ref18_three (x0 : Int) (x1 : Int × Int × Int) (x2 : Int × Int × Int) (x3 : Int × Int × Int) : Option ((List (Int × Int)) × Int × Unit) := ref18_three_b lpK jnK ref18_quotient ref18_Cross ref18_upright ref18_dot x0 x1 x2 x3
noncomputable def c38 : Ctr := ⟨[i64, T64, T64, T64], [], [], .tup [(.sl T41), i64], fun x _ _ => ref18_three x.1 x.2.1 x.2.2.1 x.2.2.2.1⟩
theorem e38 (lp : Lp) (jn : Jn) (ref18_quotient : (Int) → (Int) → (Int) → Option (Int × Int)) (ref18_Cross : (Int × Int × Int) → (Int × Int × Int) → Option (Int × Int × Int)) (ref18_upright : (Int × Int × Int) → Option (Bool)) (ref18_dot : (Int × Int × Int) → (Int × Int × Int) → Option (Int)) : ∀ (x : TsS c38.as) (F : TsF c38.fs) (y : TsS c38.cs), ref18_three_b lp jn ref18_quotient ref18_Cross ref18_upright ref18_dot x.1 x.2.1 x.2.2.1 x.2.2.2.1 = runC lp jn (ctxOf prog shs inls [(78, ⟨[T64, T64], [], [], .one i64, fun x _ _ => ref18_dot x.1 x.2.1⟩), (77, ⟨[T64], [], [], .one .bool, fun x _ _ => ref18_upright x.1⟩), (76, ⟨[T64, T64], [], [], .one T64, fun x _ _ => ref18_Cross x.1 x.2.1⟩), (75, ⟨[i64, i64, i64], [], [], .one T41, fun x _ _ => ref18_quotient x.1 x.2.1 x.2.2.1⟩)] []) hints 4 38 f38 c38 x F y := fun x F y => by kernel_rfl
theorem l38 : (ctxOf prog shs inls [(78, c78), (77, c77), (76, c76), (75, c75)] []).ok := ctxOf_cons (ctxOf_cons (ctxOf_cons (ctxOf_cons (q0) (by kernel_rfl) ok75) (by kernel_rfl) ok76) (by kernel_rfl) ok77) (by kernel_rfl) ok78
theorem ok38 : c38.ok prog 38 := Ctr.of_den l38 hmix (hl := hints) (d := 4) func38 rfl (by decide) (e38 lpK jnK ref18_quotient ref18_Cross ref18_upright ref18_dot)

/-- loftblock loftblockref18.Pulls -/
noncomputable def ref18_Pulls_b (_ : Lp) (_ : Jn) (ref18_Arm : ((Int × Int × Int) × Int × List (ByteArray × (Int × Int × Int) × Int)) → (Int) → Option (Int × Int × Int)) (ref18_one : (Int) → (Int × Int × Int) → Option ((List (Int × Int)) × Int × Unit)) (ref18_two : (Int) → (Int × Int × Int) → (Int × Int × Int) → Option ((List (Int × Int)) × Int × Unit)) (ref18_three : (Int) → (Int × Int × Int) → (Int × Int × Int) → (Int × Int × Int) → Option ((List (Int × Int)) × Int × Unit)) (x0 : (Int × Int × Int) × Int × List (ByteArray × (Int × Int × Int) × Int)) : Option ((List (Int × Int)) × Int × Unit) :=
  bif decide ((↑(List.length x0.snd.snd) : Int) = (1 : Int)) then obind (ref18_Arm x0 (0 : Int)) fun (t : Int × Int × Int) => obind (ref18_one x0.snd.fst t) fun (t : List (Int × Int) × Int ×
    PUnit) => some (t.fst, t.snd.fst, PUnit.unit) else bif decide ((↑(List.length x0.snd.snd) : Int) = (2 : Int)) then obind (ref18_Arm x0 (0 : Int)) fun (t : Int × Int × Int) => obind
    (ref18_Arm x0 (1 : Int)) fun (t_1 : Int × Int × Int) => obind (ref18_two x0.snd.fst t t_1) fun (t : List (Int × Int) × Int × PUnit) => some (t.fst, t.snd.fst, PUnit.unit) else obind
    (ref18_Arm x0 (0 : Int)) fun (t : Int × Int × Int) => obind (ref18_Arm x0 (1 : Int)) fun (t_1 : Int × Int × Int) => obind (ref18_Arm x0 (2 : Int)) fun (t_2 : Int × Int × Int) => obind
    (ref18_three x0.snd.fst t t_1 t_2) fun (t : List (Int × Int) × Int × PUnit) => some (t.fst, t.snd.fst, PUnit.unit)
noncomputable def ref18_Pulls (x0 : (Int × Int × Int) × Int × List (ByteArray × (Int × Int × Int) × Int)) : Option ((List (Int × Int)) × Int × Unit) := ref18_Pulls_b lpK jnK ref18_Arm ref18_one ref18_two ref18_three x0
noncomputable def c10 : Ctr := ⟨[T26], [], [], .tup [(.sl T41), i64], fun x _ _ => ref18_Pulls x.1⟩
theorem e10 (lp : Lp) (jn : Jn) (ref18_Arm : ((Int × Int × Int) × Int × List (ByteArray × (Int × Int × Int) × Int)) → (Int) → Option (Int × Int × Int)) (ref18_one : (Int) → (Int × Int × Int) → Option ((List (Int × Int)) × Int × Unit)) (ref18_two : (Int) → (Int × Int × Int) → (Int × Int × Int) → Option ((List (Int × Int)) × Int × Unit)) (ref18_three : (Int) → (Int × Int × Int) → (Int × Int × Int) → (Int × Int × Int) → Option ((List (Int × Int)) × Int × Unit)) : ∀ (x : TsS c10.as) (F : TsF c10.fs) (y : TsS c10.cs), ref18_Pulls_b lp jn ref18_Arm ref18_one ref18_two ref18_three x.1 = runC lp jn (ctxOf prog shs inls [(38, ⟨[i64, T64, T64, T64], [], [], .tup [(.sl T41), i64], fun x _ _ => ref18_three x.1 x.2.1 x.2.2.1 x.2.2.2.1⟩), (37, ⟨[i64, T64, T64], [], [], .tup [(.sl T41), i64], fun x _ _ => ref18_two x.1 x.2.1 x.2.2.1⟩), (36, ⟨[i64, T64], [], [], .tup [(.sl T41), i64], fun x _ _ => ref18_one x.1 x.2.1⟩), (30, ⟨[T26, i64], [], [], .one T64, fun x _ _ => ref18_Arm x.1 x.2.1⟩)] []) hints 4 10 f10 c10 x F y := fun x F y => by kernel_rfl
theorem l10 : (ctxOf prog shs inls [(38, c38), (37, c37), (36, c36), (30, c30)] []).ok := ctxOf_cons (ctxOf_cons (ctxOf_cons (ctxOf_cons (q0) (by kernel_rfl) ok30) (by kernel_rfl) ok36) (by kernel_rfl) ok37) (by kernel_rfl) ok38
theorem ok10 : c10.ok prog 10 := Ctr.of_den l10 hmix (hl := hints) (d := 4) func10 rfl (by decide) (e10 lpK jnK ref18_Arm ref18_one ref18_two ref18_three)

/-- loftblock loftblocklaw18.BridlePulls -/
noncomputable def law18_BridlePulls_b (_ : Lp) (_ : Jn) (bridle_Pulls : ((Int × Int × Int) × Int × List (ByteArray × (Int × Int × Int) × Int)) → Option ((List (Int × Int)) × Int × Unit)) (slices_Equal_11 : (List (Int × Int)) → (List (Int × Int)) → Option (Bool)) (law18_awake : Option (Bool)) (law18_long : ((Int × Int × Int) × Int × List (ByteArray × (Int × Int × Int) × Int)) → Option (Bool)) (bridle_Check : ((Int × Int × Int) × Int × List (ByteArray × (Int × Int × Int) × Int)) → (List (Int × Int)) → Option (Bool × Int × Unit)) (ref18_Valid : ((Int × Int × Int) × Int × List (ByteArray × (Int × Int × Int) × Int)) → Option (Bool)) (ref18_Check : ((Int × Int × Int) × Int × List (ByteArray × (Int × Int × Int) × Int)) → (List (Int × Int)) → Option (Bool × Int × Unit)) (ref18_Pulls : ((Int × Int × Int) × Int × List (ByteArray × (Int × Int × Int) × Int)) → Option ((List (Int × Int)) × Int × Unit)) (x0 : (Int × Int × Int) × Int × List (ByteArray × (Int × Int × Int) × Int)) (x1 : List (Int × Int)) : Option Bool :=
  obind law18_awake fun (t : Bool) => bif !t then some false else obind (law18_long x0) fun (t : Bool) =>
  let v6 : Bool := !t;
  let v7 : Bool := !v6 || v6; bif v7 then bif v7 then bif t || v6 then bif bif t then true else decide ((↑(List.length x1) : Int) > (10 : Int)) then some true else obind (bridle_Pulls x0)
    fun (t : List (Int × Int) × Int × PUnit) =>
  let v9 : Bool := decide ((↑(List.length t.fst) : Int) = (0 : Int));
  let v10 : Bool := !v9 || v9; obind (bridle_Check x0 x1) fun (t_1 : Bool × Int × PUnit) => obind (ref18_Check x0 x1) fun (t_2 : Bool × Int × PUnit) =>
  let v13 : Bool := !decide (t_1.fst = t_2.fst);
  let v14 : Bool := !v13;
  let v15 : Bool := !v14 || v14; bif v15 && v15 then bif v13 || v14 then bif bif v13 then true else !decide (t_1.snd.fst = t_2.snd.fst) then some false else obind (ref18_Valid x0) fun (t_3
    : Bool) => bif !t_3 then bif v10 then bif v10 then some (bif v9 then decide (t.snd.fst = (1 : Int)) else false) else none else none else obind (ref18_Pulls x0) fun (t_4 : List (Int ×
    Int) × Int × PUnit) => obind (slices_Equal_11 t.fst t_4.fst) fun (t_5 : Bool) =>
  let v19 : Bool := !t_5 || t_5; bif v19 && v19 then bif v19 then some (bif t_5 then decide (t.snd.fst = t_4.snd.fst) else false) else none else none else none else none else none else none
    else none
noncomputable def law18_BridlePulls (x0 : (Int × Int × Int) × Int × List (ByteArray × (Int × Int × Int) × Int)) (x1 : List (Int × Int)) : Option Bool := law18_BridlePulls_b lpK jnK bridle_Pulls slices_Equal_11 law18_awake law18_long bridle_Check ref18_Valid ref18_Check ref18_Pulls x0 x1
noncomputable def c3 : Ctr := ⟨[T26, (.sl T41)], [], [], .one .bool, fun x _ _ => law18_BridlePulls x.1 x.2.1⟩
theorem e3 (lp : Lp) (jn : Jn) (bridle_Pulls : ((Int × Int × Int) × Int × List (ByteArray × (Int × Int × Int) × Int)) → Option ((List (Int × Int)) × Int × Unit)) (slices_Equal_11 : (List (Int × Int)) → (List (Int × Int)) → Option (Bool)) (law18_awake : Option (Bool)) (law18_long : ((Int × Int × Int) × Int × List (ByteArray × (Int × Int × Int) × Int)) → Option (Bool)) (bridle_Check : ((Int × Int × Int) × Int × List (ByteArray × (Int × Int × Int) × Int)) → (List (Int × Int)) → Option (Bool × Int × Unit)) (ref18_Valid : ((Int × Int × Int) × Int × List (ByteArray × (Int × Int × Int) × Int)) → Option (Bool)) (ref18_Check : ((Int × Int × Int) × Int × List (ByteArray × (Int × Int × Int) × Int)) → (List (Int × Int)) → Option (Bool × Int × Unit)) (ref18_Pulls : ((Int × Int × Int) × Int × List (ByteArray × (Int × Int × Int) × Int)) → Option ((List (Int × Int)) × Int × Unit)) : ∀ (x : TsS c3.as) (F : TsF c3.fs) (y : TsS c3.cs), law18_BridlePulls_b lp jn bridle_Pulls slices_Equal_11 law18_awake law18_long bridle_Check ref18_Valid ref18_Check ref18_Pulls x.1 x.2.1 = runC lp jn (ctxOf prog shs inls [(10, ⟨[T26], [], [], .tup [(.sl T41), i64], fun x _ _ => ref18_Pulls x.1⟩), (8, ⟨[T26, (.sl T41)], [], [], .tup [.bool, i64], fun x _ _ => ref18_Check x.1 x.2.1⟩), (9, ⟨[T26], [], [], .one .bool, fun x _ _ => ref18_Valid x.1⟩), (7, ⟨[T26, (.sl T41)], [], [], .tup [.bool, i64], fun x _ _ => bridle_Check x.1 x.2.1⟩), (5, ⟨[T26], [], [], .one .bool, fun x _ _ => law18_long x.1⟩), (4, ⟨[], [], [], .one .bool, fun _ _ _ => law18_awake⟩), (11, ⟨[(.sl T41), (.sl T41)], [], [], .one .bool, fun x _ _ => slices_Equal_11 x.1 x.2.1⟩), (6, ⟨[T26], [], [], .tup [(.sl T41), i64], fun x _ _ => bridle_Pulls x.1⟩)] []) hints 4 3 f3 c3 x F y := fun x F y => by kernel_rfl
theorem l3 : (ctxOf prog shs inls [(10, c10), (8, c8), (9, c9), (7, c7), (5, c5), (4, c4), (11, c11), (6, c6)] []).ok := ctxOf_cons (ctxOf_cons (ctxOf_cons (ctxOf_cons (ctxOf_cons (ctxOf_cons (ctxOf_cons (ctxOf_cons (q0) (by kernel_rfl) ok6) (by kernel_rfl) ok11) (by kernel_rfl) ok4) (by kernel_rfl) ok5) (by kernel_rfl) ok7) (by kernel_rfl) ok9) (by kernel_rfl) ok8) (by kernel_rfl) ok10
theorem ok3 : c3.ok prog 3 := Ctr.of_den l3 hmix (hl := hints) (d := 4) func3 rfl (by decide) (e3 lpK jnK bridle_Pulls slices_Equal_11 law18_awake law18_long bridle_Check ref18_Valid ref18_Check ref18_Pulls)

end Go.Proofs.YtghjblbkbelcfaaGreat

namespace Go.Proofs.YtghjblbkbelcfaaGreat
namespace Dn

section
variable {T R α σ : Type}

theorem obind_some' {t : T} {k : T → Option R} : obind (some t) k = k t := rfl
theorem obind_none' {k : T → Option R} : obind none k = none := rfl

/-- The loop answers 'g', where every round does, given that it answers so wherever the measure is less. -/
theorem loopF_eq {F : (α → Option R) → α → Option R} {g : α → Option R} (I : α → Prop) (μ : α → Nat)
    (h : ∀ x rec, I x → (∀ y, I y → μ y < μ x → rec y = g y) → F rec x = g x) : ∀ {n : Nat} {x : α}, I x → μ x < n → loopF F n x = g x
  | 0, x, _, hn => by omega
  | n + 1, x, hx, hn => by
    rw [loopF_succ]
    exact h x _ hx fun y hy hlt => loopF_eq I μ h hy (by omega)

theorem lpK_loop {F : (α → Option R) → α → Option R} {g : α → Option R} (I : α → Prop) (μ : α → Nat)
    (h : ∀ x rec, I x → (∀ y, I y → μ y < μ x → rec y = g y) → F rec x = g x) {x : α} (hx : I x) (hn : μ x < 1180591620717411303424) : lpK α R F x = g x := loopF_eq I μ h hx hn
theorem jnK_eq' {j : α → Option R} {f : (α → Option R) → Option R} : jnK α R j f = f j := rfl

theorem wrap_id {x : Int} (h1 : -9223372036854775808 ≤ x) (h2 : x < 9223372036854775808) : IntKind.wrap .i64 x = x := by
  rw [IntKind.wrap_i64]; omega

/-- What a loop over 0..n-1 answers: a round may answer, or go on with another state. -/
def upF (b : Nat → σ → (σ → Option R) → Option R) (f : σ → Option R) : Nat → Nat → σ → Option R
  | 0, _, s => f s
  | k + 1, i, s => b i s (upF b f k (i + 1))

theorem loopF_up {F : (α → Option R) → α → Option R} (n : Nat) (hn : n ≤ 1180591620717411303423) (enc : Nat → σ → α) (b : Nat → σ → (σ → Option R) → Option R) (f : σ → Option R)
    (hb : ∀ again (i : Nat) s, i < n → F again (enc i s) = b i s (fun s' => again (enc (i + 1) s'))) (hf : ∀ again s, F again (enc n s) = f s) (s : σ) :
    loopF F K0 (enc 0 s) = upF b f n 0 s := by
  have key : ∀ (k : Nat) (i : Nat) (m : Nat) (s : σ), i + k = n → k < m → loopF F m (enc i s) = upF b f k i s := by
    intro k
    induction k with
    | zero =>
      intro i m s h1 h2
      obtain ⟨m, rfl⟩ : ∃ m', m = m' + 1 := ⟨m - 1, by omega⟩
      have : i = n := by omega
      subst this
      simp only [loopF_succ, hf, upF]
    | succ k ih =>
      intro i m s h1 h2
      obtain ⟨m, rfl⟩ : ∃ m', m = m' + 1 := ⟨m - 1, by omega⟩
      simp only [loopF_succ, upF]
      rw [hb _ _ _ (by omega)]
      congr 1
      funext s'
      exact ih (i + 1) m s' (by omega) (by omega)
  exact key n 0 K0 s (by omega) (by unfold K0; omega)
theorem loopF_K0 {F : (α → Option R) → α → Option R} {x : α} : loopF F K0 x = F (loopF F 1180591620717411303423) x := rfl
theorem loopF_K1 {F : (α → Option R) → α → Option R} {x : α} : loopF F 1180591620717411303423 x = F (loopF F 1180591620717411303422) x := rfl
theorem loopF_K2 {F : (α → Option R) → α → Option R} {x : α} : loopF F 1180591620717411303422 x = F (loopF F 1180591620717411303421) x := rfl
theorem loopF_K3 {F : (α → Option R) → α → Option R} {x : α} : loopF F 1180591620717411303421 x = F (loopF F 1180591620717411303420) x := rfl

theorem joinF_eq {j : α → Option R} {f : (α → Option R) → Option R} {r : Option R} (g : α → Option R) (h : ∀ x, j x = g x) (hf : f g = r) : joinF j f = r := by
  rw [show j = g from funext h]
  exact hf

theorem inB_nat {i n : Nat} : inB (i : Int) n = decide (i < n) := by
  rw [Bool.eq_iff_iff, inB_iff, decide_eq_true_iff]; omega
theorem inB_of {i : Int} {n : Nat} (h1 : 0 ≤ i) (h2 : i < n) : inB i n = true := inB_iff.2 ⟨h1, h2⟩
theorem nzB_of {n : Int} (h : n ≠ 0) : nzB n = true := nzB_iff.2 h
theorem slB_of {lo hi : Int} {n : Nat} (h1 : 0 ≤ lo) (h2 : lo ≤ hi) (h3 : hi ≤ n) : slB lo hi n = true := slB_iff.2 ⟨h1, h2, h3⟩
theorem fitB_of {n k : Nat} (h : n * k ≤ 140737488355328) : fitB n k = true := fitB_iff.2 h

theorem ble_of {n m : Nat} (h : n ≤ m) : Nat.ble n m = true := by rw [Nat.ble_eq]; exact h
/-- As 'cond_true', 'cond_false', but not by computation: for rewriting under loops. -/
theorem cT0 {α : Sort _} {c : Bool} (h : c = true) (a b : α) : cond c a b = a := by subst h; rfl
theorem cT {α : Sort _} (a b : α) : cond true a b = a := cT0 (Eq.trans rfl rfl) a b
theorem cF0 {α : Sort _} {c : Bool} (h : c = false) (a b : α) : cond c a b = b := by subst h; rfl
theorem cF {α : Sort _} (a b : α) : cond false a b = b := cF0 (Eq.trans rfl rfl) a b
theorem or_self_not {b : Bool} : (b || !b) = true := by cases b <;> rfl
theorem not_or_self' {b : Bool} : (!b || b) = true := by cases b <;> rfl
theorem bif_false' {b : Bool} {c : Bool} : (bif b then c else false) = (b && c) := by cases b <;> rfl
theorem bif_true' {b : Bool} {c : Bool} : (bif b then true else c) = (b || c) := by cases b <;> rfl

theorem ite_max {a b : Int} : (if b > a then b else a) = max a b := by omega
theorem ite_min {a b : Int} : (if b < a then b else a) = min a b := by omega
theorem getD_nat {l : List α} {d : α} {i : Nat} (h : i < l.length) : l.getD i d = l[i] := by simp [List.getD, h]

theorem lget_set_self {l : List α} {d a : α} {i : Nat} (h : i < l.length) : (l.set i a).getD i d = a := by simp [List.getD, h]
theorem lget_set_ne {l : List α} {d a : α} {i j : Nat} (h : i ≠ j) : (l.set i a).getD j d = l.getD j d := by simp [List.getD, List.getElem?_set_ne h]

/-- A search through a list: the first place that a round answers at. -/
theorem upF_find {b : Nat → σ → (σ → Option R) → Option R} {f : σ → Option R} {p : Nat → Bool} {r : Nat → Option R} {s : σ} (hb : ∀ i (k : σ → Option R), b i s k = bif p i then r i else k s) :
    ∀ (k i : Nat), upF b f k i s = match (List.range' i k).find? p with | some j => r j | none => f s
  | 0, i => rfl
  | k + 1, i => by
    simp only [upF, hb, List.range'_succ, List.find?_cons]
    cases hp : p i with
    | true => rfl
    | false => exact upF_find hb k (i + 1)

end

/-- As 'upF_find', for the rounds within the bound only. -/
theorem upF_findR {R σ : Type} {b : Nat → σ → (σ → Option R) → Option R} {f : σ → Option R} {p : Nat → Bool} {r : Nat → Option R} {s : σ} (n : Nat) (hb : ∀ i (k : σ → Option R), i < n → b i s k = bif p i then r i else k s) :
    ∀ (k i : Nat), i + k ≤ n → upF b f k i s = match (List.range' i k).find? p with | some j => r j | none => f s
  | 0, i, _ => rfl
  | k + 1, i, h => by
    simp only [upF, hb i _ (by omega), List.range'_succ, List.find?_cons]
    cases hp : p i with
    | true => rfl
    | false => exact upF_findR n hb k (i + 1) (by omega)

end Dn
end Go.Proofs.YtghjblbkbelcfaaGreat

namespace Go.Proofs.YtghjblbkbelcfaaGreat
namespace Dn

abbrev Fq := Int × Int

/-- A pair in lowest terms that fits. -/
def okF (a : Fq) : Prop := (1 ≤ a.2 ∧ a.2 ≤ 1152921504606846976) ∧ (-1152921504606846976 ≤ a.1 ∧ a.1 ≤ 1152921504606846976) ∧ Nat.gcd a.1.natAbs a.2.natAbs = 1
instance (a : Fq) : Decidable (okF a) := by unfold okF; infer_instance

def qv (a : Fq) : Rat := mkRat a.1 a.2.toNat
def fitsQ (q : Rat) : Prop := q.num.natAbs ≤ 1152921504606846976 ∧ q.den ≤ 1152921504606846976
instance (q : Rat) : Decidable (fitsQ q) := by unfold fitsQ; infer_instance
def prQ (q : Rat) : Fq := (q.num, (q.den : Int))
/-- What an operation with the result 'q' answers. -/
def fitQ (q : Rat) : Fq × Int × Unit := if fitsQ q then (prQ q, 0, ()) else ((0, 0), 5, ())

theorem okF_num {a : Fq} (h : okF a) : (qv a).num = a.1 := by
  obtain ⟨⟨h1, h2⟩, _, h3⟩ := h
  have h0 : a.2.toNat ≠ 0 := by omega
  have h4 : Nat.gcd a.2.toNat a.1.natAbs = 1 := by rw [Nat.gcd_comm, show a.2.toNat = a.2.natAbs by omega]; exact h3
  rw [qv, Rat.num_mkRat, if_neg h0, h4]
  simp
theorem okF_den {a : Fq} (h : okF a) : ((qv a).den : Int) = a.2 := by
  obtain ⟨⟨h1, h2⟩, _, h3⟩ := h
  have h0 : a.2.toNat ≠ 0 := by omega
  have h4 : Nat.gcd a.2.toNat a.1.natAbs = 1 := by rw [Nat.gcd_comm, show a.2.toNat = a.2.natAbs by omega]; exact h3
  rw [qv, Rat.den_mkRat, if_neg h0, h4]
  simp; omega
theorem prQ_qv {a : Fq} (h : okF a) : prQ (qv a) = a := by
  unfold prQ
  rw [okF_num h, okF_den h]
theorem qv_prQ (q : Rat) : qv (prQ q) = q := by
  unfold qv prQ
  simp only [Int.toNat_natCast]
  exact Rat.mkRat_self q
theorem okF_prQ {q : Rat} (h : fitsQ q) : okF (prQ q) := by
  obtain ⟨h1, h2⟩ := h
  have := q.den_pos
  refine ⟨⟨?_, ?_⟩, ⟨?_, ?_⟩, ?_⟩
  · simp only [prQ]; omega
  · simp only [prQ]; omega
  · simp only [prQ]; omega
  · simp only [prQ]; omega
  · simp only [prQ]
    rw [Int.natAbs_natCast]
    exact q.reduced
theorem fitsQ_qv {a : Fq} (h : okF a) : fitsQ (qv a) := by
  unfold fitsQ
  have h1 := okF_num h
  have h2 := okF_den h
  obtain ⟨⟨_, _⟩, ⟨_, _⟩, _⟩ := h
  rw [h1]
  omega
theorem fitQ_qv {a : Fq} (h : okF a) : fitQ (qv a) = (a, 0, ()) := by
  unfold fitQ
  rw [if_pos (fitsQ_qv h), prQ_qv h]
theorem qv_inj {a b : Fq} (ha : okF a) (hb : okF b) (h : qv a = qv b) : a = b := by
  rw [← prQ_qv ha, ← prQ_qv hb, h]
theorem qv_iff {a b : Fq} (ha : okF a) (hb : okF b) : qv a = qv b ↔ a = b := ⟨qv_inj ha hb, fun h => by rw [h]⟩
theorem fitQ_cases (q : Rat) : (fitsQ q ∧ fitQ q = (prQ q, 0, ())) ∨ (¬ fitsQ q ∧ fitQ q = ((0, 0), 5, ())) := by
  unfold fitQ
  by_cases h : fitsQ q
  · exact .inl ⟨h, by rw [if_pos h]⟩
  · exact .inr ⟨h, by rw [if_neg h]⟩

theorem qv_int (n : Int) : qv (n, 1) = (n : Rat) := by
  show mkRat n 1 = (n : Rat)
  rw [Rat.mkRat_eq_div]
  show (n : Rat) / ((1 : Nat) : Rat) = n
  rw [show ((1 : Nat) : Rat) = 1 from rfl]
  grind
theorem okF_int {n : Int} (h1 : -1152921504606846976 ≤ n) (h2 : n ≤ 1152921504606846976) : okF (n, 1) := ⟨⟨by simp, by simp⟩, ⟨h1, h2⟩, by simp⟩
theorem prQ_int (n : Int) : prQ (n : Rat) = (n, 1) := rfl

theorem okF_nonneg {a : Fq} (h : okF a) : 0 ≤ qv a ↔ 0 ≤ a.1 := by rw [← Rat.num_nonneg, okF_num h]
theorem okF_zero {a : Fq} (h : okF a) : qv a = 0 ↔ a.1 = 0 := by rw [← Rat.num_eq_zero, okF_num h]
theorem okF_neg {a : Fq} (h : okF a) : qv a < 0 ↔ a.1 < 0 := by
  rw [← Rat.not_le, okF_nonneg h]; omega
theorem okF_le {a b : Fq} (ha : okF a) (hb : okF b) : qv a ≤ qv b ↔ a.1 * b.2 ≤ b.1 * a.2 := by
  rw [Rat.le_iff, okF_num ha, okF_num hb, okF_den ha, okF_den hb]
theorem okF_lt {a b : Fq} (ha : okF a) (hb : okF b) : qv a < qv b ↔ a.1 * b.2 < b.1 * a.2 := by
  rw [Rat.lt_iff, okF_num ha, okF_num hb, okF_den ha, okF_den hb]

/-! ### Numbers by their size and their sign -/

/-- A number with a sign. -/
def sgn (s : Bool) (n : Nat) : Int := if s then -(n : Int) else n

/-- A quotient in lowest terms is the rational number. -/
theorem mkQ_low {s : Bool} {n d : Nat} (hd : 0 < d) (hc : Nat.gcd n d = 1) : (mkRat (sgn s n) d).num = sgn s n ∧ (mkRat (sgn s n) d).den = d := by
  have h0 : d ≠ 0 := by omega
  have ha : (sgn s n).natAbs = n := by unfold sgn; split <;> simp
  have hg : Nat.gcd d (sgn s n).natAbs = 1 := by rw [ha, Nat.gcd_comm]; exact hc
  rw [Rat.num_mkRat, Rat.den_mkRat, if_neg h0, if_neg h0, hg]
  simp

theorem mkQ_div {s : Bool} {n d : Nat} (hd : 0 < d) : mkRat (sgn s n) d = mkRat (sgn s (n / Nat.gcd n d)) (d / Nat.gcd n d) ∧ 0 < d / Nat.gcd n d ∧ Nat.gcd (n / Nat.gcd n d) (d / Nat.gcd n d) = 1 := by
  have hg : 0 < Nat.gcd n d := Nat.gcd_pos_of_pos_right _ hd
  have h1 : n / Nat.gcd n d * Nat.gcd n d = n := Nat.div_mul_cancel (Nat.gcd_dvd_left n d)
  have h2 : d / Nat.gcd n d * Nat.gcd n d = d := Nat.div_mul_cancel (Nat.gcd_dvd_right n d)
  refine ⟨?_, Nat.div_pos (Nat.le_of_dvd hd (Nat.gcd_dvd_right n d)) hg, Nat.gcd_div_gcd_div_gcd_of_pos_right hd⟩
  have h3 : sgn s n = sgn s (n / Nat.gcd n d) * (Nat.gcd n d : Int) := by
    unfold sgn
    split
    · rw [Int.neg_mul, ← Int.natCast_mul, h1]
    · rw [← Int.natCast_mul, h1]
  have h4 : mkRat (sgn s n) d = mkRat (sgn s (n / Nat.gcd n d) * (Nat.gcd n d : Int)) (d / Nat.gcd n d * Nat.gcd n d) := by rw [← h3, h2]
  rw [h4]
  exact Rat.mkRat_mul_right (by omega)

theorem mkQ_congr {s : Bool} {n d m e : Nat} (hd : 0 < d) (he : 0 < e) (h : n * e = m * d) : mkRat (sgn s n) d = mkRat (sgn s m) e := by
  rw [Rat.mkRat_eq_iff (by omega) (by omega)]
  unfold sgn
  split
  · rw [Int.neg_mul, Int.neg_mul, ← Int.natCast_mul, ← Int.natCast_mul, h]
  · rw [← Int.natCast_mul, ← Int.natCast_mul, h]

/-- What the two sizes in lowest terms answer. -/
theorem fit_low {s : Bool} {n d : Nat} (hd : 0 < d) (hc : Nat.gcd n d = 1) : fitQ (mkRat (sgn s n) d) = if n ≤ 1152921504606846976 ∧ d ≤ 1152921504606846976 then ((sgn s n, (d : Int)), 0, ()) else ((0, 0), 5, ()) := by
  obtain ⟨h1, h2⟩ := mkQ_low (s := s) hd hc
  have ha : (sgn s n).natAbs = n := by unfold sgn; split <;> simp
  unfold fitQ
  have e : fitsQ (mkRat (sgn s n) d) ↔ n ≤ 1152921504606846976 ∧ d ≤ 1152921504606846976 := by unfold fitsQ; rw [h1, h2, ha]
  have e2 : prQ (mkRat (sgn s n) d) = (sgn s n, (d : Int)) := by unfold prQ; rw [h1, h2]
  rw [e2]
  by_cases h : n ≤ 1152921504606846976 ∧ d ≤ 1152921504606846976
  · rw [if_pos h, if_pos (e.2 h)]
  · rw [if_neg h, if_neg (fun hh => h (e.1 hh))]

theorem size_sgn (n : Int) : n = sgn (decide (n < 0)) n.natAbs := by
  unfold sgn
  by_cases h : n < 0
  · simp [h]; omega
  · simp [h]; omega

theorem okF_mkQ (a : Fq) : qv a = mkRat (sgn (decide (a.1 < 0)) a.1.natAbs) a.2.toNat := by
  unfold qv
  rw [← size_sgn]

theorem mul_sgn {s t : Bool} {m n : Nat} : sgn s m * sgn t n = sgn (s != t) (m * n) := by
  unfold sgn
  cases s <;> cases t <;> simp [Int.neg_mul, Int.mul_neg]

/-- A product of two quotients. -/
theorem mkQ_mul {s t : Bool} {m n d e : Nat} : mkRat (sgn s m) d * mkRat (sgn t n) e = mkRat (sgn (s != t) (m * n)) (d * e) := by
  rw [Rat.mkRat_mul_mkRat, mul_sgn]

theorem sgn_zero (s t : Bool) : sgn s 0 = sgn t 0 := by unfold sgn; cases s <;> cases t <;> rfl

end Dn
end Go.Proofs.YtghjblbkbelcfaaGreat

namespace Go.Proofs.YtghjblbkbelcfaaGreat
open Tryz Dn Dn.Sh

theorem u_wrap {x : Int} (h1 : 0 ≤ x) (h2 : x < 18446744073709551616) : IntKind.wrap .u64 x = x := by
  rw [IntKind.wrap_u64]; omega

theorem size_ok {x : Int} (h1 : -9223372036854775808 ≤ x) (h2 : x < 9223372036854775808) : ratio_size x = some (x.natAbs : Int) := by
  simp only [ratio_size, ratio_size_b]
  by_cases h : x < 0
  · simp only [h, decide_true, cond_true]
    rw [IntKind.wrap_u64, IntKind.wrap_u64]
    congr 1; omega
  · simp only [h, decide_false, cond_false]
    rw [u_wrap (by omega) (by omega)]
    congr 1; omega

theorem gcd_ok (m n : Nat) (hn : n < 18446744073709551616) : ratio_gcd (m : Int) (n : Int) = some ((Nat.gcd m n : Nat) : Int) := by
  simp only [ratio_gcd, ratio_gcd_b]
  refine lpK_loop (g := fun x => some ((Nat.gcd x.1.toNat x.2.1.toNat : Nat) : Int)) (I := fun (x : Int × Int × PUnit) => 0 ≤ x.1 ∧ 0 ≤ x.2.1) (μ := fun (x : Int × Int × PUnit) => x.2.1.toNat) (x := ((m : Int), (n : Int), PUnit.unit)) ?_ ⟨Int.natCast_nonneg _, Int.natCast_nonneg _⟩ (by simp only; omega)
  rintro ⟨a, b, _⟩ rec ⟨h1, h2⟩ hrec
  simp only at h1 h2 ⊢
  by_cases hb : b = 0
  · subst hb
    simp only [decide_true, Bool.not_true, cond_false, Int.toNat_zero, Nat.gcd_zero_right]
    congr 1; omega
  · rw [decide_eq_false hb, nzB_of hb, Int.tmod_eq_emod_of_nonneg h1]
    simp only [Bool.not_false, cT]
    have h3 : 0 ≤ a % b := Int.emod_nonneg _ hb
    have h4 : a % b < b := Int.emod_lt_of_pos _ (by omega)
    rw [hrec _ ⟨by simp only; omega, by simp only; omega⟩ (by simp only; omega)]
    simp only
    congr 2
    rw [Int.toNat_emod h1 h2, Nat.gcd_comm a.toNat, Nat.gcd_rec b.toNat a.toNat, Nat.gcd_comm]

theorem signed_ok (s : Bool) (n d : Nat) (h1 : n < 18446744073709551616) (h2 : d < 18446744073709551616) :
    ratio_signed s (n : Int) (d : Int) = some (if n ≤ 1152921504606846976 ∧ d ≤ 1152921504606846976 then ((sgn s n, (d : Int)), 0, ()) else ((0, 0), 5, ())) := by
  simp only [ratio_signed, ratio_signed_b, not_or_self', or_self_not, cond_true]
  by_cases hn : n ≤ 1152921504606846976
  · by_cases hd : d ≤ 1152921504606846976
    · have e1 : decide ((n : Int) > 1152921504606846976) = false := decide_eq_false (by omega)
      have e2 : decide ((d : Int) > 1152921504606846976) = false := decide_eq_false (by omega)
      rw [wrap_id (x := (n : Int)) (by omega) (by omega), wrap_id (x := (d : Int)) (by omega) (by omega), wrap_id (x := 0 - (n : Int)) (by omega) (by omega)]
      simp only [e1, e2, cond_false, hn, hd, and_self, if_true]
      cases s <;> simp [sgn]
    · have e2 : decide ((d : Int) > 1152921504606846976) = true := decide_eq_true (by omega)
      simp only [e2, bif_true', Bool.or_true, cond_true, hd, and_false, if_false]
  · have e1 : decide ((n : Int) > 1152921504606846976) = true := decide_eq_true (by omega)
    simp only [e1, cond_true, hn, false_and, if_false]

/-- The quotient of two numbers. -/
def divQ (n d : Int) : Rat := mkRat (sgn (decide (n < 0) != decide (d < 0)) n.natAbs) d.natAbs

theorem divQ_eq {n d : Int} (hd : d ≠ 0) : divQ n d = (n : Rat) / d := by
  unfold divQ
  rw [← Rat.divInt_eq_div, show mkRat (sgn (decide (n < 0) != decide (d < 0)) n.natAbs) d.natAbs = Rat.divInt (sgn (decide (n < 0) != decide (d < 0)) n.natAbs) (d.natAbs : Int) from (Rat.divInt_ofNat _ _).symm]
  rw [Rat.divInt_eq_divInt_iff (by omega) hd]
  unfold sgn
  by_cases h1 : n < 0 <;> by_cases h2 : d < 0
  · rw [show ((n.natAbs : Nat) : Int) = -n by omega, show ((d.natAbs : Nat) : Int) = -d by omega]
    simp [h1, h2, Int.neg_mul, Int.mul_neg]
  · rw [show ((n.natAbs : Nat) : Int) = -n by omega, show ((d.natAbs : Nat) : Int) = d by omega]
    simp [h1, h2]
  · rw [show ((n.natAbs : Nat) : Int) = n by omega, show ((d.natAbs : Nat) : Int) = -d by omega]
    simp [h1, h2, Int.neg_mul, Int.mul_neg]
  · rw [show ((n.natAbs : Nat) : Int) = n by omega, show ((d.natAbs : Nat) : Int) = d by omega]
    simp [h1, h2]

theorem tdiv_nat (m n : Nat) : Int.tdiv (m : Int) (n : Int) = ((m / n : Nat) : Int) := by
  rw [Int.tdiv_eq_ediv_of_nonneg (by omega)]
  rfl

theorem Make_ok {n d : Int} (h1 : -9223372036854775808 ≤ n) (h2 : n < 9223372036854775808) (h3 : -9223372036854775808 ≤ d) (h4 : d < 9223372036854775808) :
    ratio_Make n d = some (if d = 0 then ((0, 0), 16, ()) else fitQ (divQ n d)) := by
  simp only [ratio_Make, ratio_Make_b, not_or_self', Bool.and_self, cond_true]
  by_cases hd : d = 0
  · simp only [hd, decide_true, cond_true, if_true]
  · simp only [hd, decide_false, cond_false, if_false]
    rw [size_ok h1 h2, obind_some', size_ok h3 h4, obind_some', gcd_ok _ _ (by omega), obind_some']
    have hg : 0 < Nat.gcd n.natAbs d.natAbs := Nat.gcd_pos_of_pos_right _ (by omega)
    have a1 : n.natAbs / Nat.gcd n.natAbs d.natAbs ≤ n.natAbs := Nat.div_le_self _ _
    have a2 : d.natAbs / Nat.gcd n.natAbs d.natAbs ≤ d.natAbs := Nat.div_le_self _ _
    have hz : nzB ((Nat.gcd n.natAbs d.natAbs : Nat) : Int) = true := nzB_of (by omega)
    obtain ⟨m1, m2, m3⟩ := mkQ_div (s := decide (n < 0) != decide (d < 0)) (n := n.natAbs) (d := d.natAbs) (by omega)
    have hs : n = 0 → n.natAbs / Nat.gcd n.natAbs d.natAbs = 0 := fun h => by subst h; simp
    rw [hz, cond_true, cond_true, tdiv_nat, tdiv_nat]
    unfold divQ
    rw [m1]
    generalize n.natAbs / Nat.gcd n.natAbs d.natAbs = p at *
    generalize d.natAbs / Nat.gcd n.natAbs d.natAbs = q at *
    rw [u_wrap (by omega) (by omega), u_wrap (by omega) (by omega), signed_ok _ _ _ (by omega) (by omega), obind_some', fit_low m2 m3]
    have hs : sgn (bif !decide (n = 0) then !decide (decide (n < 0) = decide (d < 0)) else false) p = sgn (decide (n < 0) != decide (d < 0)) p := by
      by_cases h0 : n = 0
      · rw [hs h0]
        exact sgn_zero _ _
      · simp only [h0, decide_false, Bool.not_false, cond_true]
        cases decide (n < 0) <;> cases decide (d < 0) <;> rfl
    rw [hs]

theorem Valid_ok {a : Fq} : ratio_Valid a = some (decide (okF a)) := by
  simp only [ratio_Valid, ratio_Valid_b, not_or_self', Bool.and_self, cond_true, bif_false']
  unfold okF
  by_cases h1 : 1 ≤ a.2
  · by_cases h2 : a.2 ≤ 1152921504606846976
    · by_cases h3 : -1152921504606846976 ≤ a.1
      · by_cases h4 : a.1 ≤ 1152921504606846976
        · have e : IntKind.wrap .u64 a.2 = ((a.2.natAbs : Nat) : Int) := by rw [u_wrap (by omega) (by omega)]; omega
          simp only [ge_iff_le, h1, h2, h3, h4, decide_true, Bool.and_self, cond_true]
          rw [size_ok (by omega) (by omega), obind_some', e, gcd_ok _ _ (by omega), obind_some']
          congr 1
          rw [Bool.eq_iff_iff]
          simp only [Bool.true_and, decide_eq_true_eq, true_and]
          generalize Nat.gcd a.1.natAbs a.2.natAbs = g
          omega
        · simp [obind_some', h4]
      · simp [obind_some', h3]
    · simp [obind_some', h2]
  · simp [obind_some', h1]

end Go.Proofs.YtghjblbkbelcfaaGreat

namespace Go.Proofs.YtghjblbkbelcfaaGreat
open Tryz Dn Dn.Sh

theorem land32 {x : Int} (h1 : 0 ≤ x) (h2 : x < 18446744073709551616) : ((Nat.land (Int.toNat (x % Int.ofNat 18446744073709551616)) (Int.toNat ((4294967295 : Int) % Int.ofNat 18446744073709551616)) : Nat) : Int) = x % 4294967296 := by
  have e1 : x % Int.ofNat 18446744073709551616 = x := Int.emod_eq_of_lt h1 h2
  have e2 : Int.toNat ((4294967295 : Int) % Int.ofNat 18446744073709551616) = 2 ^ 32 - 1 := by decide
  rw [e1, e2]
  have : Nat.land x.toNat (2 ^ 32 - 1) = x.toNat % 2 ^ 32 := Nat.and_two_pow_sub_one_eq_mod x.toNat 32
  rw [this]
  omega

/-- A number of two words. -/
def hl (n : Nat) : Int × Int := (((n / 18446744073709551616 : Nat) : Int), ((n % 18446744073709551616 : Nat) : Int))

theorem mulW {x y : Int} (x0 : 0 ≤ x) (x1 : x < 18446744073709551616) (y0 : 0 ≤ y) (y1 : y < 18446744073709551616) : bits_Mul64 x y = some (x * y / 18446744073709551616, x * y % 18446744073709551616, ()) := by
  have p32 : (2 : Int) ^ (32 : Nat) = 4294967296 := by decide
  simp only [bits_Mul64, bits_Mul64_b, p32, show decide ((0 : Int) ≤ 32) = true from rfl, cond_true]
  obtain ⟨a, b, ha, hb, hx⟩ : ∃ a b, a = x / 4294967296 ∧ b = x % 4294967296 ∧ x = a * 4294967296 + b := ⟨_, _, rfl, rfl, by omega⟩
  obtain ⟨c, d, hc, hd, hy⟩ : ∃ c d, c = y / 4294967296 ∧ d = y % 4294967296 ∧ y = c * 4294967296 + d := ⟨_, _, rfl, rfl, by omega⟩
  have fd : ∀ n : Int, Int.fdiv n 4294967296 = n / 4294967296 := fun n => Int.fdiv_eq_ediv_of_nonneg n (by omega)
  rw [land32 x0 x1, land32 y0 y1, ← hb, ← hd]
  simp only [fd, ← ha, ← hc]
  have a0 : 0 ≤ a ∧ a ≤ 4294967295 := by omega
  have b0 : 0 ≤ b ∧ b ≤ 4294967295 := by omega
  have c0 : 0 ≤ c ∧ c ≤ 4294967295 := by omega
  have d0 : 0 ≤ d ∧ d ≤ 4294967295 := by omega
  have mb : ∀ {m n : Int}, 0 ≤ m ∧ m ≤ 4294967295 → 0 ≤ n ∧ n ≤ 4294967295 → 0 ≤ m * n ∧ m * n ≤ 18446744065119617025 := fun {m n} hm hn => ⟨Int.mul_nonneg hm.1 hn.1, Int.le_trans (Int.mul_le_mul hm.2 hn.2 hn.1 (by omega)) (by decide)⟩
  have e1 := mb a0 c0
  have e2 := mb a0 d0
  have e3 := mb b0 c0
  have e4 := mb b0 d0
  have hxy : x * y = a * c * 18446744073709551616 + (a * d + b * c) * 4294967296 + b * d := by rw [hx, hy]; grind
  rw [IntKind.wrap_u64 (x * y)]
  rw [hxy]
  rw [u_wrap (x := b) (by omega) (by omega), u_wrap (x := d) (by omega) (by omega)]
  rw [u_wrap (x := b * d) (by omega) (by omega), u_wrap (x := a * d) (by omega) (by omega), u_wrap (x := b * c) (by omega) (by omega), u_wrap (x := a * c) (by omega) (by omega)]
  generalize b * d = bd at *
  generalize a * d = ad at *
  generalize b * c = bc at *
  generalize a * c = ac at *
  rw [u_wrap (x := ad + bd / 4294967296) (by omega) (by omega)]
  generalize ht : ad + bd / 4294967296 = t
  rw [land32 (by omega) (by omega)]
  rw [u_wrap (x := t % 4294967296) (by omega) (by omega)]
  rw [u_wrap (x := t % 4294967296 + bc) (by omega) (by omega), u_wrap (x := ac + t / 4294967296) (by omega) (by omega)]
  rw [u_wrap (x := ac + t / 4294967296 + (t % 4294967296 + bc) / 4294967296) (by omega) (by omega)]
  congr 1
  ext
  · simp only; omega
  · rfl

theorem product_ok {m n : Nat} (hm : m < 18446744073709551616) (hn : n < 18446744073709551616) : ratio_product (m : Int) (n : Int) = some (hl (m * n)) := by
  simp only [ratio_product, ratio_product_b]
  rw [mulW (by omega) (by omega) (by omega) (by omega), obind_some', ← Int.natCast_mul]
  rfl

theorem hl_small {n : Nat} (h : n < 18446744073709551616) : hl n = (0, (n : Int)) := by
  unfold hl
  rw [Nat.div_eq_of_lt h, Nat.mod_eq_of_lt h]
  rfl
theorem hl_big {n : Nat} (h : ¬ n < 18446744073709551616) : (hl n).1 > 0 := by
  unfold hl
  simp only
  omega

theorem Mul_ok {a b : Fq} (ha : okF a) (hb : okF b) : ratio_Mul a b = some (fitQ (qv a * qv b)) := by
  simp only [ratio_Mul, ratio_Mul_b, Valid_ok, ha, hb, decide_true, obind_some', Bool.not_true, Bool.not_false, Bool.and_self, cond_true, cond_false, not_or_self', or_self_not]
  have ha' := ha
  have hb' := hb
  obtain ⟨⟨a1, a2⟩, ⟨a3, a4⟩, a5⟩ := ha'
  obtain ⟨⟨b1, b2⟩, ⟨b3, b4⟩, b5⟩ := hb'
  rw [okF_mkQ a, okF_mkQ b, mkQ_mul]
  obtain ⟨d, hd⟩ : ∃ d : Nat, a.2 = (d : Int) := ⟨a.2.toNat, by omega⟩
  obtain ⟨e, he⟩ : ∃ e : Nat, b.2 = (e : Int) := ⟨b.2.toNat, by omega⟩
  rw [size_ok (by omega) (by omega), size_ok (by omega) (by omega)]
  simp only [obind_some', hd, he, Int.toNat_natCast] at *
  rw [u_wrap (x := (d : Int)) (by omega) (by omega), u_wrap (x := (e : Int)) (by omega) (by omega), gcd_ok _ _ (by omega), obind_some', gcd_ok _ _ (by omega), obind_some']
  have sa : a.1.natAbs ≤ 1152921504606846976 := by omega
  have sb : b.1.natAbs ≤ 1152921504606846976 := by omega
  have za : a.1 = 0 ↔ a.1.natAbs = 0 := by omega
  have zb : b.1 = 0 ↔ b.1.natAbs = 0 := by omega
  have hlt : decide (a.1 < 0) = true → a.1.natAbs ≠ 0 := fun h => by have := of_decide_eq_true h; omega
  rw [Int.natAbs_natCast] at a5 b5
  generalize a.1.natAbs = m at *
  generalize b.1.natAbs = n at *
  generalize decide (a.1 < 0) = s at *
  generalize decide (b.1 < 0) = t at *
  have hd0 : 0 < d := by omega
  have he0 : 0 < e := by omega
  have hg : 0 < Nat.gcd m e := Nat.gcd_pos_of_pos_right _ he0
  have hh : 0 < Nat.gcd n d := Nat.gcd_pos_of_pos_right _ hd0
  rw [nzB_of (show ((Nat.gcd m e : Nat) : Int) ≠ 0 by omega), nzB_of (show ((Nat.gcd n d : Nat) : Int) ≠ 0 by omega)]
  simp only [cond_true, tdiv_nat]
  have m1 : m / Nat.gcd m e * Nat.gcd m e = m := Nat.div_mul_cancel (Nat.gcd_dvd_left m e)
  have e1 : e / Nat.gcd m e * Nat.gcd m e = e := Nat.div_mul_cancel (Nat.gcd_dvd_right m e)
  have n1 : n / Nat.gcd n d * Nat.gcd n d = n := Nat.div_mul_cancel (Nat.gcd_dvd_left n d)
  have d1 : d / Nat.gcd n d * Nat.gcd n d = d := Nat.div_mul_cancel (Nat.gcd_dvd_right n d)
  have c1 : Nat.Coprime (m / Nat.gcd m e) (e / Nat.gcd m e) := Nat.coprime_div_gcd_div_gcd hg
  have c2 : Nat.Coprime (n / Nat.gcd n d) (d / Nat.gcd n d) := Nat.coprime_div_gcd_div_gcd hh
  have q1 : m / Nat.gcd m e ≤ m := Nat.div_le_self _ _
  have q2 : e / Nat.gcd m e ≤ e := Nat.div_le_self _ _
  have q3 : n / Nat.gcd n d ≤ n := Nat.div_le_self _ _
  have q4 : d / Nat.gcd n d ≤ d := Nat.div_le_self _ _
  have p2 : 0 < e / Nat.gcd m e := Nat.div_pos (Nat.le_of_dvd he0 (Nat.gcd_dvd_right m e)) hg
  have p4 : 0 < d / Nat.gcd n d := Nat.div_pos (Nat.le_of_dvd hd0 (Nat.gcd_dvd_right n d)) hh
  have x1 : m / Nat.gcd m e ∣ m := Nat.div_dvd_of_dvd (Nat.gcd_dvd_left m e)
  have x2 : e / Nat.gcd m e ∣ e := Nat.div_dvd_of_dvd (Nat.gcd_dvd_right m e)
  have x3 : n / Nat.gcd n d ∣ n := Nat.div_dvd_of_dvd (Nat.gcd_dvd_left n d)
  have x4 : d / Nat.gcd n d ∣ d := Nat.div_dvd_of_dvd (Nat.gcd_dvd_right n d)
  generalize Nat.gcd m e = g at *
  generalize Nat.gcd n d = h at *
  generalize m / g = m' at *
  generalize e / g = e' at *
  generalize n / h = n' at *
  generalize d / h = d' at *
  have cop : Nat.gcd (m' * n') (d' * e') = 1 := by
    refine Nat.Coprime.mul_left (Nat.Coprime.mul_right ?_ c1) (Nat.Coprime.mul_right c2 ?_)
    · exact Nat.Coprime.coprime_dvd_left x1 (Nat.Coprime.coprime_dvd_right x4 a5)
    · exact Nat.Coprime.coprime_dvd_left x3 (Nat.Coprime.coprime_dvd_right x2 b5)
  have hq : mkRat (sgn (s != t) (m * n)) (d * e) = mkRat (sgn (s != t) (m' * n')) (d' * e') := by
    refine mkQ_congr (Nat.mul_pos hd0 he0) (Nat.mul_pos p4 p2) ?_
    rw [← m1, ← n1, ← d1, ← e1]
    grind
  rw [hq, fit_low (Nat.mul_pos p4 p2) cop]
  rw [u_wrap (by omega) (by omega), u_wrap (by omega) (by omega), product_ok (by omega) (by omega), obind_some', u_wrap (by omega) (by omega), u_wrap (by omega) (by omega), product_ok (by omega) (by omega), obind_some']
  by_cases hN : m' * n' < 18446744073709551616
  · rw [hl_small hN]
    by_cases hD : d' * e' < 18446744073709551616
    · rw [hl_small hD]
      simp only [show decide ((0 : Int) > 0) = false from rfl, cond_false]
      rw [signed_ok _ _ _ hN hD, obind_some']
      have hs : sgn (bif decide (((m' * n' : Nat) : Int) > 0) then !decide (s = t) else false) (m' * n') = sgn (s != t) (m' * n') := by
        by_cases h0 : m' * n' = 0
        · rw [h0]; exact sgn_zero _ _
        · rw [decide_eq_true (show ((m' * n' : Nat) : Int) > 0 by omega)]
          cases s <;> cases t <;> rfl
      rw [hs]
    · have := hl_big hD
      simp only [show decide ((0 : Int) > 0) = false from rfl, cond_false, decide_eq_true this, cond_true]
      rw [if_neg (by omega)]
  · have := hl_big hN
    simp only [decide_eq_true this, cond_true]
    rw [if_neg (by omega)]

theorem Mul_bad {a b : Fq} (h : ¬ (okF a ∧ okF b)) : ratio_Mul a b = some ((0, 0), 1, ()) := by
  simp only [ratio_Mul, ratio_Mul_b, Valid_ok, obind_some', not_or_self', or_self_not, cond_true]
  by_cases ha : okF a
  · have hb : ¬ okF b := fun hb => h ⟨ha, hb⟩
    simp [ha, hb, obind_some']
  · simp [ha, obind_some']

theorem floor_ok {n d : Int} (h1 : -9223372036854775807 ≤ n) (h2 : n < 9223372036854775808) (hd : 0 < d) : ratio_floor n d = some (n / d) := by
  simp only [ratio_floor, ratio_floor_b, nzB_of (show d ≠ 0 by omega), cond_true]
  have hq : -9223372036854775807 ≤ Int.tdiv n d ∧ Int.tdiv n d < 9223372036854775808 := by
    rcases Int.le_total 0 n with h | h
    · rw [Int.tdiv_eq_ediv_of_nonneg h]
      have := Int.ediv_le_self d h
      have := Int.ediv_nonneg h (show 0 ≤ d by omega)
      omega
    · obtain ⟨m, rfl⟩ : ∃ m, n = -m := ⟨-n, by omega⟩
      rw [Int.neg_tdiv, Int.tdiv_eq_ediv_of_nonneg (by omega)]
      have := Int.ediv_le_self d (show 0 ≤ m by omega)
      have := Int.ediv_nonneg (show 0 ≤ m by omega) (show 0 ≤ d by omega)
      omega
  rw [wrap_id (x := Int.tdiv n d) (by omega) (by omega)]
  have e1 := Int.mul_tdiv_add_tmod n d
  have e2 := Int.mul_ediv_add_emod n d
  have b1 := Int.emod_nonneg n (show d ≠ 0 by omega)
  have b2 := Int.emod_lt_of_pos n hd
  have b3 : -d < Int.tmod n d ∧ Int.tmod n d < d := by
    rcases Int.le_total 0 n with h | h
    · rw [Int.tmod_eq_emod_of_nonneg h]; omega
    · obtain ⟨m, rfl⟩ : ∃ m, n = -m := ⟨-n, by omega⟩
      rw [Int.neg_tmod, Int.tmod_eq_emod_of_nonneg (by omega)]
      have := Int.emod_nonneg m (show d ≠ 0 by omega)
      have := Int.emod_lt_of_pos m hd
      omega
  have hb : -9223372036854775808 ≤ n / d ∧ n / d < 9223372036854775808 := by
    constructor
    · rw [Int.le_ediv_iff_mul_le hd]
      have := Int.mul_le_mul_of_nonneg_left (show 1 ≤ d by omega) (show (0 : Int) ≤ 9223372036854775808 by omega)
      omega
    · rw [Int.ediv_lt_iff_lt_mul hd]
      have := Int.mul_le_mul_of_nonneg_left (show 1 ≤ d by omega) (show (0 : Int) ≤ 9223372036854775808 by omega)
      omega
  obtain ⟨hb1, hb2⟩ := hb
  generalize Int.tdiv n d = q at *
  generalize Int.tmod n d = r at *
  generalize n / d = q' at *
  generalize n % d = r' at *
  have key : d * (q - q') = r' - r := by rw [Int.mul_sub]; omega
  by_cases hr : r < 0
  · have h3 : q - q' = 1 := by
      have l1 : d * 0 < d * (q - q') := by omega
      have l2 : d * (q - q') < d * 2 := by omega
      have := Int.lt_of_mul_lt_mul_left l1 (show 0 ≤ d by omega)
      have := Int.lt_of_mul_lt_mul_left l2 (show 0 ≤ d by omega)
      omega
    have hq2 : q - 1 = q' := by omega
    rw [decide_eq_true hr, cond_true, hq2, wrap_id (x := q') hb1 hb2]
  · rw [decide_eq_false hr, cond_false]
    have h3 : q - q' = 0 := by
      have l1 : d * (-1) < d * (q - q') := by omega
      have l2 : d * (q - q') < d * 1 := by omega
      have := Int.lt_of_mul_lt_mul_left l1 (show 0 ≤ d by omega)
      have := Int.lt_of_mul_lt_mul_left l2 (show 0 ≤ d by omega)
      omega
    congr 1; omega

theorem Floor_ok {a : Fq} (ha : okF a) : ratio_Floor a = some ((qv a).floor, 0, ()) := by
  simp only [ratio_Floor, ratio_Floor_b, Valid_ok, ha, decide_true, obind_some', Bool.not_true, cond_false]
  have e1 := okF_num ha
  have e2 := okF_den ha
  obtain ⟨⟨a1, a2⟩, ⟨a3, a4⟩, _⟩ := ha
  rw [floor_ok (by omega) (by omega) (by omega), obind_some', Rat.floor_def, e1, e2]

theorem Ceil_ok {a : Fq} (ha : okF a) : ratio_Ceil a = some ((qv a).ceil, 0, ()) := by
  simp only [ratio_Ceil, ratio_Ceil_b, Valid_ok, ha, decide_true, obind_some', Bool.not_true, cond_false]
  have e1 := okF_num ha
  have e2 := okF_den ha
  obtain ⟨⟨a1, a2⟩, ⟨a3, a4⟩, _⟩ := ha
  rw [wrap_id (x := 0 - a.1) (by omega) (by omega), Int.zero_sub, floor_ok (by omega) (by omega) (by omega), obind_some', Rat.ceil_eq_neg_floor_neg, Rat.floor_def, Rat.neg_num, Rat.neg_den, e1, e2]
  have h1 : -1152921504606846976 ≤ -a.1 / a.2 ∧ -a.1 / a.2 ≤ 1152921504606846976 := by
    constructor
    · rw [Int.le_ediv_iff_mul_le (by omega)]
      have := Int.mul_le_mul_of_nonneg_left (show 1 ≤ a.2 by omega) (show (0 : Int) ≤ 1152921504606846976 by omega)
      omega
    · rw [← Int.lt_add_one_iff, Int.ediv_lt_iff_lt_mul (by omega)]
      have := Int.mul_le_mul_of_nonneg_left (show 1 ≤ a.2 by omega) (show (0 : Int) ≤ 1152921504606846977 by omega)
      omega
  rw [wrap_id (by omega) (by omega), Int.zero_sub]

end Go.Proofs.YtghjblbkbelcfaaGreat
