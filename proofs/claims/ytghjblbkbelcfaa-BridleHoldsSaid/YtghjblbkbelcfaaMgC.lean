/- r18: the shapes of its types, and the places of its loops. r18: what its functions answer (printed by a program), and that they do. -/
import Derived.Test.YtghjblbkbelcfaaProg
import Derived.KernelRfl
import Derived.Test.YtghjblbkbelcfaaMgB

namespace Go.Proofs.Ytghjblbkbelcfaa
open Try Dn Dn.Sh

abbrev i64 : Sh := .int .i64
/-- api.Point -/
abbrev T23 : Sh := .agg (.pair i64 (.pair i64 i64))
/-- api.Leg -/
abbrev T39 : Sh := .agg (.pair .str (.pair T23 i64))
/-- api.Bridle -/
abbrev T26 : Sh := .agg (.pair T23 (.pair i64 (.sl T39)))
/-- api.Span -/
abbrev T30 : Sh := .agg (.pair i64 i64)
/-- loftblockref18.Vec -/
abbrev T40 : Sh := .agg (.pair i64 (.pair i64 i64))
/-- struct 3  b 26 0 0    loftblock loftblocklaw18 0  num 3 5 0  -/
abbrev T45 : Sh := .agg (.pair T26 (.pair i64 i64))
/-- api.Frac -/
abbrev T48 : Sh := .agg (.pair i64 i64)
/-- array 3 48  [3]api.Frac 6 48 0 8 8   agg 6 int i64 0 int i64 -/
abbrev T55 : Sh := .agg (.pair T48 (.pair T48 T48))
/-- ratio.wide -/
abbrev T94 : Sh := .agg (.pair (.int .u64) (.int .u64))
/-- loftblockref02.U -/
abbrev T137 : Sh := .agg (.pair (.int .u64) (.int .u64))
/-- points.vector -/
abbrev T141 : Sh := .agg (.pair i64 (.pair i64 i64))
def shs : TypeId → Option Sh
  | 3 => some i64
  | 23 => some T23
  | 26 => some T26
  | 39 => some T39
  | 45 => some T45
  | 48 => some T48
  | _ => none

/-- slices.IndexFunc   loftblock api.Leg loftblock api.Leg  -/
def loops76 : Nat → Option Hd
  | 2 => some ⟨[(8, false, [.d i64])], [], []⟩
  | _ => none
/-- loftblock decimal.word -/
def loops79 : Nat → Option Hd
  | 2 => some ⟨[(3, false, [.d i64])], [], []⟩
  | _ => none
/-- loftblock bridle.Valid -/
def loops12 : Nat → Option Hd
  | 4 => some ⟨[(30, false, [.d i64])], [], []⟩
  | _ => none
/-- slices.IndexFunc   loftblock api.Point loftblock api.Point  -/
def loops125 : Nat → Option Hd
  | 2 => some ⟨[(8, false, [.d i64])], [], []⟩
  | _ => none
/-- loftblock points.Root -/
def loops70 : Nat → Option Hd
  | 5 => some ⟨[(4, false, [.d i64]), (5, false, [.d i64])], [], []⟩
  | _ => none
/-- loftblock ratio.gcd -/
def loops55 : Nat → Option Hd
  | 1 => some ⟨[(0, false, [.d (.int .u64)]), (1, false, [.d (.int .u64)])], [], []⟩
  | _ => none
/-- loftblock bridle.quotients -/
def loops88 : Nat → Option Hd
  | 3 => some ⟨[(6, false, [.row 48 T48]), (13, false, [.d i64])], [], []⟩
  | _ => none
/-- loftblock bridle.upright -/
def loops109 : Nat → Option Hd
  | 3 => some ⟨[(10, false, [.d i64])], [(3, [.d T23])], []⟩
  | 6 => some ⟨[(14, false, [.d i64])], [(3, [.d T23])], []⟩
  | _ => none
/-- loftblock bridle.solve -/
def loops53 : Nat → Option Hd
  | 3 => some ⟨[(4, false, [.row 23 T23]), (11, false, [.d i64])], [], []⟩
  | _ => none
/-- slices.IndexFunc   loftblock api.Frac loftblock api.Frac  -/
def loops93 : Nat → Option Hd
  | 2 => some ⟨[(8, false, [.d i64])], [], []⟩
  | _ => none
/-- loftblock bridle.Within -/
def loops24 : Nat → Option Hd
  | 8 => some ⟨[(6, false, [.d .bool]), (23, false, [.d i64])], [], []⟩
  | _ => none
/-- slices.Equal   loftblock api.Frac loftblock api.Frac  -/
def loops38 : Nat → Option Hd
  | 4 => some ⟨[(13, false, [.d i64])], [], []⟩
  | _ => none
/-- loftblock loftblockref18.Find -/
def loops16 : Nat → Option Hd
  | 2 => some ⟨[(5, false, [.d i64])], [], []⟩
  | _ => none
/-- loftblock loftblockref01.word -/
def loops82 : Nat → Option Hd
  | 1 => some ⟨[(1, false, [.d i64])], [], []⟩
  | _ => none
/-- loftblock loftblockref18.Valid -/
def loops13 : Nat → Option Hd
  | 4 => some ⟨[(3, false, [.d i64])], [], []⟩
  | _ => none
/-- loftblock loftblockref09.Root -/
def loops51 : Nat → Option Hd
  | 2 => some ⟨[(3, false, [.d i64]), (4, false, [.d i64])], [], []⟩
  | _ => none
/-- loftblock loftblocklaw18.BridleTwice -/
def loops4 : Nat → Option Hd
  | 10 => some ⟨[(44, false, [.d i64])], [], [(6, some 4, 39, T39)]⟩
  | 18 => some ⟨[(102, false, [.d i64])], [], []⟩
  | 25 => some ⟨[(128, false, [.d i64])], [], []⟩
  | _ => none
/-- loftblock bridle.Anchor -/
def loops25 : Nat → Option Hd
  | 7 => some ⟨[(40, false, [.d i64])], [(4, [.d T55]), (10, [.d T55])], []⟩
  | _ => none
/-- loftblock loftblockref02.Gcd -/
def loops116 : Nat → Option Hd
  | 4 => some ⟨[(5, false, [.d i64])], [(2, [.d T137]), (3, [.d T137])], []⟩
  | 6 => some ⟨[], [(2, [.d T137]), (3, [.d T137])], []⟩
  | 7 => some ⟨[], [(2, [.d T137])], []⟩
  | 9 => some ⟨[], [(3, [.d T137])], []⟩
  | 14 => some ⟨[(5, false, [.d i64])], [(3, [.d T137])], []⟩
  | _ => none
/-- loftblock loftblockref02.Div -/
def loops117 : Nat → Option Hd
  | 5 => some ⟨[(8, false, [.d i64])], [(2, [.d T137]), (6, [.d T137]), (7, [.d T137])], []⟩
  | _ => none
/-- loftblock loftblockref18.Within -/
def loops27 : Nat → Option Hd
  | 7 => some ⟨[(6, false, [.d i64])], [], []⟩
  | 13 => some ⟨[(7, false, [.d .bool]), (8, false, [.d i64])], [], []⟩
  | _ => none
/-- loftblock loftblockref18.Anchor -/
def loops28 : Nat → Option Hd
  | 10 => some ⟨[(11, false, [.d i64])], [(4, [.d T55]), (6, [.d T55])], []⟩
  | _ => none
/-- slices.Reverse   loftblock api.Leg loftblock api.Leg  -/
def loops31 : Nat → Option Hd
  | 1 => some ⟨[(2, false, [.d i64]), (3, false, [.d i64])], [], [(0, none, 39, T39)]⟩
  | _ => none
/-- loftblock loftblocklaw18.BridleMoved -/
def loops6 : Nat → Option Hd
  | 11 => some ⟨[(62, false, [.d i64])], [], [(9, some 4, 39, T39), (10, some 4, 39, T39)]⟩
  | 17 => some ⟨[(92, false, [.d i64])], [], []⟩
  | 22 => some ⟨[(115, false, [.d i64])], [], []⟩
  | _ => none
/-- loftblock loftblocklaw18.BridleStrong -/
def loops7 : Nat → Option Hd
  | 13 => some ⟨[(9, false, [.d .bool]), (64, false, [.d i64])], [], []⟩
  | 38 => some ⟨[(161, false, [.d i64])], [], [(19, some 4, 39, T39)]⟩
  | _ => none
def joins126 : Nat → Option Hd
  | 1000002 => some ⟨[(0, false, [.d (.int .u64)]), (2, false, [.d i64])], [], []⟩
  | 1000005 => some ⟨[(0, false, [.d (.int .u64)]), (2, false, [.d i64])], [], []⟩
  | _ => none
/-- math bits.Div64 -/
def loops106 : Nat → Option Hd
  | 17 => some ⟨[(15, false, [.d (.int .u64)]), (16, false, [.d (.int .u64)])], [], []⟩
  | 24 => some ⟨[(16, false, [.d (.int .u64)]), (18, false, [.d (.int .u64)])], [], []⟩
  | _ => none
def joins106 : Nat → Option Hd
  | 0 => some ⟨[(15, false, [.d (.int .u64)])], [], []⟩
  | 2 => some ⟨[(18, false, [.d (.int .u64)])], [], []⟩
  | 1000002 => some ⟨[], [], []⟩
  | 1000004 => some ⟨[], [], []⟩
  | _ => none
def joins35 : Nat → Option Hd
  | 1000008 => some ⟨[(9, false, [.d .bool])], [(10, [.d T94])], []⟩
  | 1000010 => some ⟨[(9, false, [.d .bool])], [(10, [.d T94])], []⟩
  | _ => none
/-- loftblock bridle.Check -/
def loops34 : Nat → Option Hd
  | 7 => some ⟨[(6, false, [.d .bool]), (33, false, [.d i64])], [], []⟩
  | 11 => some ⟨[(40, false, [.d i64])], [(9, [.d T48])], []⟩
  | _ => none
/-- loftblock loftblocklaw18.BridleHolds -/
def loops8 : Nat → Option Hd
  | 15 => some ⟨[(65, false, [.d i64])], [(11, [.d T55])], []⟩
  | 21 => some ⟨[(80, false, [.d i64])], [(11, [.d T55])], []⟩
  | _ => none
def thaws6 : Nat → List Nat
  | 17 => [9, 10, 11]
  | _ => []
def hints : FuncId → Hint
  | 76 => {loop := loops76}
  | 79 => {loop := loops79}
  | 12 => {loop := loops12}
  | 125 => {loop := loops125}
  | 70 => {loop := loops70}
  | 55 => {loop := loops55}
  | 88 => {loop := loops88}
  | 109 => {loop := loops109}
  | 53 => {loop := loops53}
  | 93 => {loop := loops93}
  | 24 => {loop := loops24}
  | 38 => {loop := loops38}
  | 16 => {loop := loops16}
  | 82 => {loop := loops82}
  | 13 => {loop := loops13}
  | 51 => {loop := loops51}
  | 4 => {loop := loops4}
  | 25 => {loop := loops25}
  | 116 => {loop := loops116}
  | 117 => {loop := loops117}
  | 27 => {loop := loops27}
  | 28 => {loop := loops28}
  | 31 => {loop := loops31}
  | 6 => {loop := loops6, thaw := thaws6}
  | 7 => {loop := loops7}
  | 126 => {join := joins126}
  | 106 => {loop := loops106, join := joins106}
  | 35 => {join := joins35}
  | 34 => {loop := loops34}
  | 8 => {loop := loops8}
  | _ => {}
def inls : List Nat := [31]
end Go.Proofs.Ytghjblbkbelcfaa

namespace Go.Proofs.Ytghjblbkbelcfaa
open Try Dn Dn.Sh

set_option maxRecDepth 100000
theorem hmix : prog.follows .mixedOrders = true := by kernel_rfl
theorem inlsOk : inlOk prog inls = true := by kernel_rfl
theorem q0 : (ctxOf prog shs inls [] []).ok := ctxOf_nil inlsOk
/-- slices.Clone[[]loftblock api.Leg,loftblock api.Leg] -/
noncomputable def slices_Clone_18_b (_ : Lp) (_ : Jn) (x0 : List (ByteArray × (Int × Int × Int) × Int)) : Option (List (ByteArray × (Int × Int × Int) × Int)) :=
  bif fitB ((0 : Nat) + List.length x0) (48 : Nat) then some x0 else none
noncomputable def slices_Clone_18 (x0 : List (ByteArray × (Int × Int × Int) × Int)) : Option (List (ByteArray × (Int × Int × Int) × Int)) := slices_Clone_18_b lpK jnK x0
noncomputable def r18 : RCtr := ⟨[(.sl T39)], 39, T39, fun x => slices_Clone_18 x.1⟩
theorem e18 (lp : Lp) (jn : Jn) : ∀ x : TsS r18.as, slices_Clone_18_b lp jn x.1 = runR lp jn (ctxOf prog shs inls [] []) hints 4 18 f18 r18.t r18.e (initN r18.as x true) := fun x => by kernel_rfl
theorem okr18 : r18.ok prog 18 := RCtr.of_den_nil (c := r18) q0 hmix (hl := hints) (d := 4) rfl func18 rfl (by decide) (e18 lpK jnK) fun x h => by
  obtain ⟨l, u⟩ := x
  simp only at h
  subst h
  kernel_rfl
theorem q18 : (ctxOf prog shs inls [] [(18, r18)]).ok := ctxOf_row q0 (by kernel_rfl) okr18

/-- slices.Clone[[]loftblock api.Frac,loftblock api.Frac] -/
noncomputable def slices_Clone_36_b (_ : Lp) (_ : Jn) (x0 : List (Int × Int)) : Option (List (Int × Int)) :=
  bif fitB ((0 : Nat) + List.length x0) (16 : Nat) then some x0 else none
noncomputable def slices_Clone_36 (x0 : List (Int × Int)) : Option (List (Int × Int)) := slices_Clone_36_b lpK jnK x0
noncomputable def r36 : RCtr := ⟨[(.sl T48)], 48, T48, fun x => slices_Clone_36 x.1⟩
theorem e36 (lp : Lp) (jn : Jn) : ∀ x : TsS r36.as, slices_Clone_36_b lp jn x.1 = runR lp jn (ctxOf prog shs inls [] [(18, r18)]) hints 4 36 f36 r36.t r36.e (initN r36.as x true) := fun x => by kernel_rfl
theorem okr36 : r36.ok prog 36 := RCtr.of_den_nil (c := r36) q18 hmix (hl := hints) (d := 4) rfl func36 rfl (by decide) (e36 lpK jnK) fun x h => by
  obtain ⟨l, u⟩ := x
  simp only at h
  subst h
  kernel_rfl
theorem q36 : (ctxOf prog shs inls [] [(36, r36), (18, r18)]).ok := ctxOf_row q18 (by kernel_rfl) okr36

/-- slices.IndexFunc[[]loftblock api.Leg,loftblock api.Leg] -/
noncomputable def slices_IndexFunc_76_b (lp : Lp) (_ : Jn) (x0 : List (ByteArray × (Int × Int × Int) × Int)) (f0 : (((ByteArray × (Int × Int × Int) × Int) × Unit) → Option Bool)) : Option Int :=
  lp (Int × PUnit) Int (fun (again : Int × PUnit → Option Int) (x : Int × PUnit) => bif decide (x.fst < (↑(List.length x0) : Int)) then bif inB x.fst (List.length x0) then obind (f0
    (List.getD x0 (Int.toNat x.fst) ({ data := { toList := [] } }, ((0 : Int), (0 : Int), (0 : Int)), (0 : Int)), PUnit.unit)) fun (t : Bool) => bif t then some x.fst else again
    (IntKind.wrap IntKind.i64 (x.fst + (1 : Int)), PUnit.unit) else none else some (-1 : Int)) ((0 : Int), PUnit.unit)
noncomputable def slices_IndexFunc_76 (x0 : List (ByteArray × (Int × Int × Int) × Int)) (f0 : (((ByteArray × (Int × Int × Int) × Int) × Unit) → Option Bool)) : Option Int := slices_IndexFunc_76_b lpK jnK x0 f0
noncomputable def c76 : Ctr := ⟨[(.sl T39)], [([T39], .bool)], [], .one i64, fun x F _ => slices_IndexFunc_76 x.1 F.1⟩
theorem e76 (lp : Lp) (jn : Jn) : ∀ (x : TsS c76.as) (F : TsF c76.fs) (y : TsS c76.cs), slices_IndexFunc_76_b lp jn x.1 F.1 = runC lp jn (ctxOf prog shs inls [] [(36, r36), (18, r18)]) hints 4 76 f76 c76 x F y := fun x F y => by kernel_rfl
theorem l76 : (ctxOf prog shs inls [] [(36, r36), (18, r18)]).ok := q36
theorem ok76 : c76.ok prog 76 := Ctr.of_den l76 hmix (hl := hints) (d := 4) func76 rfl (by decide) (e76 lpK jnK)

/-- loftblock bridle.find$1 -/
noncomputable def bridle_find_1_b (_ : Lp) (_ : Jn) (x0 : ByteArray × (Int × Int × Int) × Int) (y0 : ByteArray) : Option Bool :=
  some (List.beq (ByteArray.toList x0.fst) (ByteArray.toList y0))
noncomputable def bridle_find_1 (x0 : ByteArray × (Int × Int × Int) × Int) (y0 : ByteArray) : Option Bool := bridle_find_1_b lpK jnK x0 y0
noncomputable def c77 : Ctr := ⟨[T39], [], [.str], .one .bool, fun x _ y => bridle_find_1 x.1 y.1⟩
theorem e77 (lp : Lp) (jn : Jn) : ∀ (x : TsS c77.as) (F : TsF c77.fs) (y : TsS c77.cs), bridle_find_1_b lp jn x.1 y.1 = runC lp jn (ctxOf prog shs inls [] [(36, r36), (18, r18)]) hints 4 77 f77 c77 x F y := fun x F y => by kernel_rfl
theorem l77 : (ctxOf prog shs inls [] [(36, r36), (18, r18)]).ok := q36
theorem ok77 : c77.ok prog 77 := Ctr.of_den l77 hmix (hl := hints) (d := 4) func77 rfl (by decide) (e77 lpK jnK)

/-- loftblock bridle.find -/
noncomputable def bridle_find_b (_ : Lp) (_ : Jn) (slices_IndexFunc_76 : (List (ByteArray × (Int × Int × Int) × Int)) → ((((ByteArray × (Int × Int × Int) × Int) × Unit) → Option Bool)) → Option (Int)) (bridle_find_1 : (ByteArray × (Int × Int × Int) × Int) → (ByteArray) → Option (Bool)) (x0 : (Int × Int × Int) × Int × List (ByteArray × (Int × Int × Int) × Int)) (x1 : ByteArray) : Option Int :=
  obind (slices_IndexFunc_76 x0.snd.snd fun (x : (ByteArray × (Int × Int × Int) × Int) × PUnit) => bridle_find_1 x.fst x1) fun (t : Int) => some t
noncomputable def bridle_find (x0 : (Int × Int × Int) × Int × List (ByteArray × (Int × Int × Int) × Int)) (x1 : ByteArray) : Option Int := bridle_find_b lpK jnK slices_IndexFunc_76 bridle_find_1 x0 x1
noncomputable def c41 : Ctr := ⟨[T26, .str], [], [], .one i64, fun x _ _ => bridle_find x.1 x.2.1⟩
theorem e41 (lp : Lp) (jn : Jn) (slices_IndexFunc_76 : (List (ByteArray × (Int × Int × Int) × Int)) → ((((ByteArray × (Int × Int × Int) × Int) × Unit) → Option Bool)) → Option (Int)) (bridle_find_1 : (ByteArray × (Int × Int × Int) × Int) → (ByteArray) → Option (Bool)) : ∀ (x : TsS c41.as) (F : TsF c41.fs) (y : TsS c41.cs), bridle_find_b lp jn slices_IndexFunc_76 bridle_find_1 x.1 x.2.1 = runC lp jn (ctxOf prog shs inls [(77, ⟨[T39], [], [.str], .one .bool, fun x _ y => bridle_find_1 x.1 y.1⟩), (76, ⟨[(.sl T39)], [([T39], .bool)], [], .one i64, fun x F _ => slices_IndexFunc_76 x.1 F.1⟩)] [(36, r36), (18, r18)]) hints 4 41 f41 c41 x F y := fun x F y => by kernel_rfl
theorem l41 : (ctxOf prog shs inls [(77, c77), (76, c76)] [(36, r36), (18, r18)]).ok := ctxOf_cons (ctxOf_cons (q36) (by kernel_rfl) ok76) (by kernel_rfl) ok77
theorem ok41 : c41.ok prog 41 := Ctr.of_den l41 hmix (hl := hints) (d := 4) func41 rfl (by decide) (e41 lpK jnK slices_IndexFunc_76 bridle_find_1)

/-- loftblock points.Valid -/
noncomputable def points_Valid_b (_ : Lp) (_ : Jn) (x0 : Int × Int × Int) : Option Bool :=
  
  let v3 : Bool := decide ((if x0.snd.snd > if x0.snd.fst > x0.fst then x0.snd.fst else x0.fst then x0.snd.snd else if x0.snd.fst > x0.fst then x0.snd.fst else x0.fst) ≤ (1048576 : Int));
  let v4 : Bool := !v3 || v3; bif v4 then bif v4 then bif v4 then bif v4 && (v4 && v4) then bif v4 then bif v4 then some (bif v3 then decide ((if x0.snd.snd < if x0.snd.fst < x0.fst then
    x0.snd.fst else x0.fst then x0.snd.snd else if x0.snd.fst < x0.fst then x0.snd.fst else x0.fst) ≥ (-1048576 : Int)) else false) else none else none else none else none else none else
    none
noncomputable def points_Valid (x0 : Int × Int × Int) : Option Bool := points_Valid_b lpK jnK x0
noncomputable def c43 : Ctr := ⟨[T23], [], [], .one .bool, fun x _ _ => points_Valid x.1⟩
theorem e43 (lp : Lp) (jn : Jn) : ∀ (x : TsS c43.as) (F : TsF c43.fs) (y : TsS c43.cs), points_Valid_b lp jn x.1 = runC lp jn (ctxOf prog shs inls [] [(36, r36), (18, r18)]) hints 4 43 f43 c43 x F y := fun x F y => by kernel_rfl
theorem l43 : (ctxOf prog shs inls [] [(36, r36), (18, r18)]).ok := q36
theorem ok43 : c43.ok prog 43 := Ctr.of_den l43 hmix (hl := hints) (d := 4) func43 rfl (by decide) (e43 lpK jnK)

/-- loftblock bridle.weight -/
noncomputable def bridle_weight_b (_ : Lp) (_ : Jn) (x0 : Int) : Option Bool :=
  
  let v3 : Bool := decide (x0 ≥ (0 : Int));
  let v4 : Bool := !v3 || v3; bif v4 then bif v4 then some (bif v3 then decide (x0 ≤ (67108864 : Int)) else false) else none else none
noncomputable def bridle_weight (x0 : Int) : Option Bool := bridle_weight_b lpK jnK x0
noncomputable def c44 : Ctr := ⟨[i64], [], [], .one .bool, fun x _ _ => bridle_weight x.1⟩
theorem e44 (lp : Lp) (jn : Jn) : ∀ (x : TsS c44.as) (F : TsF c44.fs) (y : TsS c44.cs), bridle_weight_b lp jn x.1 = runC lp jn (ctxOf prog shs inls [] [(36, r36), (18, r18)]) hints 4 44 f44 c44 x F y := fun x F y => by kernel_rfl
theorem l44 : (ctxOf prog shs inls [] [(36, r36), (18, r18)]).ok := q36
theorem ok44 : c44.ok prog 44 := Ctr.of_den l44 hmix (hl := hints) (d := 4) func44 rfl (by decide) (e44 lpK jnK)

/-- loftblock decimal.letter -/
noncomputable def decimal_letter_b (_ : Lp) (_ : Jn) (x0 : Int) : Option Bool :=
  
  let v3 : Bool := decide (x0 ≥ (97 : Int));
  let v4 : Bool := decide (x0 ≥ (65 : Int));
  let v5 : Bool := !v3 || v3;
  let v6 : Bool := bif v3 then decide (x0 ≤ (122 : Int)) else false;
  let v7 : Bool := !v6;
  let v8 : Bool := !v7;
  let v9 : Bool := v7 && v4;
  let v10 : Bool := v8 || v7; bif v5 then bif v5 then bif v10 then bif v10 then bif !v9 || v9 then bif (v8 || v10) && (v8 || (!v4 || (v8 || v9))) then bif v6 || v7 then some (bif v6 then
    true else bif v4 then decide (x0 ≤ (90 : Int)) else false) else none else none else none else none else none else none else none
noncomputable def decimal_letter (x0 : Int) : Option Bool := decimal_letter_b lpK jnK x0
noncomputable def c78 : Ctr := ⟨[(.int .u8)], [], [], .one .bool, fun x _ _ => decimal_letter x.1⟩
theorem e78 (lp : Lp) (jn : Jn) : ∀ (x : TsS c78.as) (F : TsF c78.fs) (y : TsS c78.cs), decimal_letter_b lp jn x.1 = runC lp jn (ctxOf prog shs inls [] [(36, r36), (18, r18)]) hints 4 78 f78 c78 x F y := fun x F y => by kernel_rfl
theorem l78 : (ctxOf prog shs inls [] [(36, r36), (18, r18)]).ok := q36
theorem ok78 : c78.ok prog 78 := Ctr.of_den l78 hmix (hl := hints) (d := 4) func78 rfl (by decide) (e78 lpK jnK)

/-- loftblock decimal.digit -/
noncomputable def decimal_digit_b (_ : Lp) (_ : Jn) (x0 : Int) : Option Bool :=
  
  let v3 : Bool := decide (x0 ≥ (48 : Int));
  let v4 : Bool := !v3 || v3; bif v4 then bif v4 then some (bif v3 then decide (x0 ≤ (57 : Int)) else false) else none else none
noncomputable def decimal_digit (x0 : Int) : Option Bool := decimal_digit_b lpK jnK x0
noncomputable def c107 : Ctr := ⟨[(.int .u8)], [], [], .one .bool, fun x _ _ => decimal_digit x.1⟩
theorem e107 (lp : Lp) (jn : Jn) : ∀ (x : TsS c107.as) (F : TsF c107.fs) (y : TsS c107.cs), decimal_digit_b lp jn x.1 = runC lp jn (ctxOf prog shs inls [] [(36, r36), (18, r18)]) hints 4 107 f107 c107 x F y := fun x F y => by kernel_rfl
theorem l107 : (ctxOf prog shs inls [] [(36, r36), (18, r18)]).ok := q36
theorem ok107 : c107.ok prog 107 := Ctr.of_den l107 hmix (hl := hints) (d := 4) func107 rfl (by decide) (e107 lpK jnK)

/-- loftblock decimal.word -/
noncomputable def decimal_word_b (lp : Lp) (_ : Jn) (decimal_letter : (Int) → Option (Bool)) (decimal_digit : (Int) → Option (Bool)) (x0 : ByteArray) : Option Int :=
  lp (Int × PUnit) Int (fun (again : Int × PUnit → Option Int) (x : Int × PUnit) =>
  let v5 : Bool := inB x.fst (ByteArray.size x0);
  let v6 : Int := byteAt x0 (Int.toNat x.fst);
  let v7 : Bool := decide (x.fst < (↑(ByteArray.size x0) : Int));
  let v8 : Bool := !v7;
  let v9 : Bool := v8 || v7;
  let v10 : Bool := v8 || v9; bif v9 && (v9 && (v8 || v5)) then bif v9 then obind (bif v7 then decimal_letter v6 else some false) fun (t : Bool) =>
  let v12 : Bool := v7 && !t;
  let v13 : Bool := !v12;
  let v14 : Bool := v13 || v12; bif v9 then bif v14 && (v14 && (v13 || v5)) then bif v14 then obind (bif v12 then decimal_digit v6 else some false) fun (t_1 : Bool) =>
  let v16 : Bool := bif t then true else t_1;
  let v17 : Bool := v7 && !v16;
  let v18 : Bool := !v17;
  let v19 : Bool := v18 || v17; bif v10 && (v8 || (t || (v8 || v12))) then bif v9 then bif v19 && (v19 && (v18 || v5)) then bif v19 then bif v10 && (v8 || (v16 || (v8 || v17))) then bif v9
    then bif bif v7 then bif v16 then true else decide (v6 = (95 : Int)) else false then again (IntKind.wrap IntKind.i64 (x.fst + (1 : Int)), PUnit.unit) else some x.fst else none else none
    else none else none else none else none else none else none else none else none else none) ((0 : Int), PUnit.unit)
noncomputable def decimal_word (x0 : ByteArray) : Option Int := decimal_word_b lpK jnK decimal_letter decimal_digit x0
noncomputable def c79 : Ctr := ⟨[.str], [], [], .one i64, fun x _ _ => decimal_word x.1⟩
theorem e79 (lp : Lp) (jn : Jn) (decimal_letter : (Int) → Option (Bool)) (decimal_digit : (Int) → Option (Bool)) : ∀ (x : TsS c79.as) (F : TsF c79.fs) (y : TsS c79.cs), decimal_word_b lp jn decimal_letter decimal_digit x.1 = runC lp jn (ctxOf prog shs inls [(107, ⟨[(.int .u8)], [], [], .one .bool, fun x _ _ => decimal_digit x.1⟩), (78, ⟨[(.int .u8)], [], [], .one .bool, fun x _ _ => decimal_letter x.1⟩)] [(36, r36), (18, r18)]) hints 4 79 f79 c79 x F y := fun x F y => by kernel_rfl
theorem l79 : (ctxOf prog shs inls [(107, c107), (78, c78)] [(36, r36), (18, r18)]).ok := ctxOf_cons (ctxOf_cons (q36) (by kernel_rfl) ok78) (by kernel_rfl) ok107
theorem ok79 : c79.ok prog 79 := Ctr.of_den l79 hmix (hl := hints) (d := 4) func79 rfl (by decide) (e79 lpK jnK decimal_letter decimal_digit)

/-- loftblock decimal.IsName -/
noncomputable def decimal_IsName_b (_ : Lp) (_ : Jn) (decimal_letter : (Int) → Option (Bool)) (decimal_word : (ByteArray) → Option (Int)) (x0 : ByteArray) : Option Bool :=
  
  let v3 : Bool := !List.beq (ByteArray.toList x0) (ByteArray.toList { data := #[] });
  let v4 : Bool := !v3 || v3;
  let v5 : Bool := bif v3 then decide ((↑(ByteArray.size x0) : Int) ≤ (20 : Int)) else false;
  let v6 : Bool := !v5;
  let v7 : Bool := v6 || v5; bif v4 then bif v4 then bif v4 then bif v7 && (v6 || inB (0 : Int) (ByteArray.size x0)) then bif v7 then obind (bif v5 then decimal_letter (byteAt x0 (0 : Nat))
    else some false) fun (t : Bool) =>
  let v9 : Bool := bif v5 then t else false;
  let v10 : Bool := !v9 || v9; bif v7 then bif v10 then obind (bif v9 then decimal_word x0 else some (0 : Int)) fun (t : Int) => bif v10 then bif v10 && v10 then bif v10 then some (bif v9
    then decide (t = (↑(ByteArray.size x0) : Int)) else false) else none else none else none else none else none else none else none else none else none else none
noncomputable def decimal_IsName (x0 : ByteArray) : Option Bool := decimal_IsName_b lpK jnK decimal_letter decimal_word x0
noncomputable def c45 : Ctr := ⟨[.str], [], [], .one .bool, fun x _ _ => decimal_IsName x.1⟩
theorem e45 (lp : Lp) (jn : Jn) (decimal_letter : (Int) → Option (Bool)) (decimal_word : (ByteArray) → Option (Int)) : ∀ (x : TsS c45.as) (F : TsF c45.fs) (y : TsS c45.cs), decimal_IsName_b lp jn decimal_letter decimal_word x.1 = runC lp jn (ctxOf prog shs inls [(79, ⟨[.str], [], [], .one i64, fun x _ _ => decimal_word x.1⟩), (78, ⟨[(.int .u8)], [], [], .one .bool, fun x _ _ => decimal_letter x.1⟩)] [(36, r36), (18, r18)]) hints 4 45 f45 c45 x F y := fun x F y => by kernel_rfl
theorem l45 : (ctxOf prog shs inls [(79, c79), (78, c78)] [(36, r36), (18, r18)]).ok := ctxOf_cons (ctxOf_cons (q36) (by kernel_rfl) ok78) (by kernel_rfl) ok79
theorem ok45 : c45.ok prog 45 := Ctr.of_den l45 hmix (hl := hints) (d := 4) func45 rfl (by decide) (e45 lpK jnK decimal_letter decimal_word)

/-- loftblock bridle.near -/
noncomputable def bridle_near_b (_ : Lp) (_ : Jn) (x0 : Int × Int × Int) : Option Bool :=
  some (decide ((if IntKind.wrap IntKind.i64 ((0 : Int) - x0.snd.snd) > if x0.snd.snd > if IntKind.wrap IntKind.i64 ((0 : Int) - x0.snd.fst) > if x0.snd.fst > if IntKind.wrap IntKind.i64 ((0
    : Int) - x0.fst) > x0.fst then IntKind.wrap IntKind.i64 ((0 : Int) - x0.fst) else x0.fst then x0.snd.fst else if IntKind.wrap IntKind.i64 ((0 : Int) - x0.fst) > x0.fst then IntKind.wrap
    IntKind.i64 ((0 : Int) - x0.fst) else x0.fst then IntKind.wrap IntKind.i64 ((0 : Int) - x0.snd.fst) else if x0.snd.fst > if IntKind.wrap IntKind.i64 ((0 : Int) - x0.fst) > x0.fst then
    IntKind.wrap IntKind.i64 ((0 : Int) - x0.fst) else x0.fst then x0.snd.fst else if IntKind.wrap IntKind.i64 ((0 : Int) - x0.fst) > x0.fst then IntKind.wrap IntKind.i64 ((0 : Int) -
    x0.fst) else x0.fst then x0.snd.snd else if IntKind.wrap IntKind.i64 ((0 : Int) - x0.snd.fst) > if x0.snd.fst > if IntKind.wrap IntKind.i64 ((0 : Int) - x0.fst) > x0.fst then
    IntKind.wrap IntKind.i64 ((0 : Int) - x0.fst) else x0.fst then x0.snd.fst else if IntKind.wrap IntKind.i64 ((0 : Int) - x0.fst) > x0.fst then IntKind.wrap IntKind.i64 ((0 : Int) -
    x0.fst) else x0.fst then IntKind.wrap IntKind.i64 ((0 : Int) - x0.snd.fst) else if x0.snd.fst > if IntKind.wrap IntKind.i64 ((0 : Int) - x0.fst) > x0.fst then IntKind.wrap IntKind.i64
    ((0 : Int) - x0.fst) else x0.fst then x0.snd.fst else if IntKind.wrap IntKind.i64 ((0 : Int) - x0.fst) > x0.fst then IntKind.wrap IntKind.i64 ((0 : Int) - x0.fst) else x0.fst then
    IntKind.wrap IntKind.i64 ((0 : Int) - x0.snd.snd) else if x0.snd.snd > if IntKind.wrap IntKind.i64 ((0 : Int) - x0.snd.fst) > if x0.snd.fst > if IntKind.wrap IntKind.i64 ((0 : Int) -
    x0.fst) > x0.fst then IntKind.wrap IntKind.i64 ((0 : Int) - x0.fst) else x0.fst then x0.snd.fst else if IntKind.wrap IntKind.i64 ((0 : Int) - x0.fst) > x0.fst then IntKind.wrap
    IntKind.i64 ((0 : Int) - x0.fst) else x0.fst then IntKind.wrap IntKind.i64 ((0 : Int) - x0.snd.fst) else if x0.snd.fst > if IntKind.wrap IntKind.i64 ((0 : Int) - x0.fst) > x0.fst then
    IntKind.wrap IntKind.i64 ((0 : Int) - x0.fst) else x0.fst then x0.snd.fst else if IntKind.wrap IntKind.i64 ((0 : Int) - x0.fst) > x0.fst then IntKind.wrap IntKind.i64 ((0 : Int) -
    x0.fst) else x0.fst then x0.snd.snd else if IntKind.wrap IntKind.i64 ((0 : Int) - x0.snd.fst) > if x0.snd.fst > if IntKind.wrap IntKind.i64 ((0 : Int) - x0.fst) > x0.fst then
    IntKind.wrap IntKind.i64 ((0 : Int) - x0.fst) else x0.fst then x0.snd.fst else if IntKind.wrap IntKind.i64 ((0 : Int) - x0.fst) > x0.fst then IntKind.wrap IntKind.i64 ((0 : Int) -
    x0.fst) else x0.fst then IntKind.wrap IntKind.i64 ((0 : Int) - x0.snd.fst) else if x0.snd.fst > if IntKind.wrap IntKind.i64 ((0 : Int) - x0.fst) > x0.fst then IntKind.wrap IntKind.i64
    ((0 : Int) - x0.fst) else x0.fst then x0.snd.fst else if IntKind.wrap IntKind.i64 ((0 : Int) - x0.fst) > x0.fst then IntKind.wrap IntKind.i64 ((0 : Int) - x0.fst) else x0.fst) ≤ (32768
    : Int)))
noncomputable def bridle_near (x0 : Int × Int × Int) : Option Bool := bridle_near_b lpK jnK x0
noncomputable def c46 : Ctr := ⟨[T23], [], [], .one .bool, fun x _ _ => bridle_near x.1⟩
theorem e46 (lp : Lp) (jn : Jn) : ∀ (x : TsS c46.as) (F : TsF c46.fs) (y : TsS c46.cs), bridle_near_b lp jn x.1 = runC lp jn (ctxOf prog shs inls [] [(36, r36), (18, r18)]) hints 4 46 f46 c46 x F y := fun x F y => by kernel_rfl
theorem l46 : (ctxOf prog shs inls [] [(36, r36), (18, r18)]).ok := q36
theorem ok46 : c46.ok prog 46 := Ctr.of_den l46 hmix (hl := hints) (d := 4) func46 rfl (by decide) (e46 lpK jnK)

/-- loftblock bridle.minus -/
noncomputable def bridle_minus_b (_ : Lp) (_ : Jn) (x0 : Int × Int × Int) (x1 : Int × Int × Int) : Option (Int × Int × Int) :=
  some (IntKind.wrap IntKind.i64 (x0.fst - x1.fst), IntKind.wrap IntKind.i64 (x0.snd.fst - x1.snd.fst), IntKind.wrap IntKind.i64 (x0.snd.snd - x1.snd.snd))
noncomputable def bridle_minus (x0 : Int × Int × Int) (x1 : Int × Int × Int) : Option (Int × Int × Int) := bridle_minus_b lpK jnK x0 x1
noncomputable def c63 : Ctr := ⟨[T23, T23], [], [], .one T23, fun x _ _ => bridle_minus x.1 x.2.1⟩
theorem e63 (lp : Lp) (jn : Jn) : ∀ (x : TsS c63.as) (F : TsF c63.fs) (y : TsS c63.cs), bridle_minus_b lp jn x.1 x.2.1 = runC lp jn (ctxOf prog shs inls [] [(36, r36), (18, r18)]) hints 4 63 f63 c63 x F y := fun x F y => by kernel_rfl
theorem l63 : (ctxOf prog shs inls [] [(36, r36), (18, r18)]).ok := q36
theorem ok63 : c63.ok prog 63 := Ctr.of_den l63 hmix (hl := hints) (d := 4) func63 rfl (by decide) (e63 lpK jnK)

/-- loftblock bridle.arm -/
noncomputable def bridle_arm_b (_ : Lp) (_ : Jn) (bridle_minus : (Int × Int × Int) → (Int × Int × Int) → Option (Int × Int × Int)) (x0 : (Int × Int × Int) × Int × List (ByteArray × (Int × Int × Int) × Int)) (x1 : Int) : Option (Int × Int × Int) :=
  bif inB x1 (List.length x0.snd.snd) then obind (bridle_minus (List.getD x0.snd.snd (Int.toNat x1) ({ data := { toList := [] } }, ((0 : Int), (0 : Int), (0 : Int)), (0 : Int))).snd.fst
    x0.fst) fun (t : Int × Int × Int) => some t else none
noncomputable def bridle_arm (x0 : (Int × Int × Int) × Int × List (ByteArray × (Int × Int × Int) × Int)) (x1 : Int) : Option (Int × Int × Int) := bridle_arm_b lpK jnK bridle_minus x0 x1
noncomputable def c47 : Ctr := ⟨[T26, i64], [], [], .one T23, fun x _ _ => bridle_arm x.1 x.2.1⟩
theorem e47 (lp : Lp) (jn : Jn) (bridle_minus : (Int × Int × Int) → (Int × Int × Int) → Option (Int × Int × Int)) : ∀ (x : TsS c47.as) (F : TsF c47.fs) (y : TsS c47.cs), bridle_arm_b lp jn bridle_minus x.1 x.2.1 = runC lp jn (ctxOf prog shs inls [(63, ⟨[T23, T23], [], [], .one T23, fun x _ _ => bridle_minus x.1 x.2.1⟩)] [(36, r36), (18, r18)]) hints 4 47 f47 c47 x F y := fun x F y => by kernel_rfl
theorem l47 : (ctxOf prog shs inls [(63, c63)] [(36, r36), (18, r18)]).ok := ctxOf_cons (q36) (by kernel_rfl) ok63
theorem ok47 : c47.ok prog 47 := Ctr.of_den l47 hmix (hl := hints) (d := 4) func47 rfl (by decide) (e47 lpK jnK bridle_minus)

/-- loftblock bridle.Valid -/
noncomputable def bridle_Valid_b (lp : Lp) (_ : Jn) (bridle_find : ((Int × Int × Int) × Int × List (ByteArray × (Int × Int × Int) × Int)) → (ByteArray) → Option (Int)) (points_Valid : (Int × Int × Int) → Option (Bool)) (bridle_weight : (Int) → Option (Bool)) (decimal_IsName : (ByteArray) → Option (Bool)) (bridle_near : (Int × Int × Int) → Option (Bool)) (bridle_arm : ((Int × Int × Int) × Int × List (ByteArray × (Int × Int × Int) × Int)) → (Int) → Option (Int × Int × Int)) (x0 : (Int × Int × Int) × Int × List (ByteArray × (Int × Int × Int) × Int)) : Option Bool :=
  obind (points_Valid x0.fst) fun (t : Bool) =>
  let v4 : Bool := !t;
  let v5 : Bool := !v4;
  let v6 : Bool := !v5 || v5; bif v6 then bif v6 then obind (bif v5 then bridle_weight x0.snd.fst else some false) fun (t : Bool) =>
  let v8 : Bool := bif v4 then true else !t;
  let v9 : Bool := !v8;
  let v10 : Bool := !v9 || v9;
  let v11 : Bool := bif v8 then true else decide ((↑(List.length x0.snd.snd) : Int) < (1 : Int));
  let v12 : Bool := !v11;
  let v13 : Bool := !v12 || v12; bif v6 then bif v4 || v5 then bif v10 then bif v10 then bif v10 then bif v8 || v9 then bif v13 then bif v13 then bif v13 then bif v11 || v12 then bif bif
    v11 then true else decide ((↑(List.length x0.snd.snd) : Int) > (3 : Int)) then some false else lp (Int × PUnit) Bool (fun (again : Int × PUnit → Option Bool) (x : Int × PUnit) =>
  let v16 : ByteArray × (Int × Int × Int) × Int := List.getD x0.snd.snd (Int.toNat x.fst) ({ data := { toList := [] } }, ((0 : Int), (0 : Int), (0 : Int)), (0 : Int));
  let v17 : Bool := decide (v16.snd.fst.fst = x0.fst.fst) && (decide (v16.snd.fst.snd.fst = x0.fst.snd.fst) && (decide (v16.snd.fst.snd.snd = x0.fst.snd.snd) && true)); bif decide (x.fst <
    (↑(List.length x0.snd.snd) : Int)) then bif inB x.fst (List.length x0.snd.snd) then obind (decimal_IsName v16.fst) fun (t : Bool) =>
  let v19 : Bool := !t;
  let v20 : Bool := !v19;
  let v21 : Bool := !v20 || v20;
  let v22 : Bool := v21 && v21; bif v21 then bif v22 then obind (bif v20 then bridle_find x0 v16.fst else some (0 : Int)) fun (t : Int) =>
  let v24 : Bool := bif v19 then true else !decide (t = x.fst);
  let v25 : Bool := !v24;
  let v26 : Bool := !v25 || v25; bif v22 then bif v19 || v20 then bif v26 then bif v26 then obind (bif v25 then points_Valid v16.snd.fst else some false) fun (t : Bool) =>
  let v28 : Bool := bif v24 then true else !t;
  let v29 : Bool := !v28;
  let v30 : Bool := bif v28 then true else v17;
  let v31 : Bool := !v30;
  let v32 : Bool := !v29 || v29;
  let v33 : Bool := !v31 || v31; bif v26 then bif v24 || v25 then bif v32 then bif v32 then bif v32 && v32 then bif v28 || v29 then bif v33 && v33 then obind (bif v31 then bridle_arm x0
    x.fst else some ((0 : Int), (0 : Int), (0 : Int))) fun (t : Int × Int × Int) => bif v33 then obind (bif v31 then bridle_near t else some false) fun (t : Bool) =>
  let v36 : Bool := bif v30 then true else !t;
  let v37 : Bool := !v36;
  let v38 : Bool := !v37 || v37; bif v33 then bif v30 || v31 then bif v38 then bif v38 then obind (bif v37 then bridle_weight v16.snd.snd else some false) fun (t : Bool) => bif v38 then bif
    v36 || v37 then bif bif v36 then true else !t then some false else again (IntKind.wrap IntKind.i64 (x.fst + (1 : Int)), PUnit.unit) else none else none else none else none else none
    else none else none else none else none else none else none else none else none else none else none else none else none else none else none else none else none else some true) ((0 :
    Int), PUnit.unit) else none else none else none else none else none else none else none else none else none else none else none else none
noncomputable def bridle_Valid (x0 : (Int × Int × Int) × Int × List (ByteArray × (Int × Int × Int) × Int)) : Option Bool := bridle_Valid_b lpK jnK bridle_find points_Valid bridle_weight decimal_IsName bridle_near bridle_arm x0
noncomputable def c12 : Ctr := ⟨[T26], [], [], .one .bool, fun x _ _ => bridle_Valid x.1⟩
theorem e12 (lp : Lp) (jn : Jn) (bridle_find : ((Int × Int × Int) × Int × List (ByteArray × (Int × Int × Int) × Int)) → (ByteArray) → Option (Int)) (points_Valid : (Int × Int × Int) → Option (Bool)) (bridle_weight : (Int) → Option (Bool)) (decimal_IsName : (ByteArray) → Option (Bool)) (bridle_near : (Int × Int × Int) → Option (Bool)) (bridle_arm : ((Int × Int × Int) × Int × List (ByteArray × (Int × Int × Int) × Int)) → (Int) → Option (Int × Int × Int)) : ∀ (x : TsS c12.as) (F : TsF c12.fs) (y : TsS c12.cs), bridle_Valid_b lp jn bridle_find points_Valid bridle_weight decimal_IsName bridle_near bridle_arm x.1 = runC lp jn (ctxOf prog shs inls [(47, ⟨[T26, i64], [], [], .one T23, fun x _ _ => bridle_arm x.1 x.2.1⟩), (46, ⟨[T23], [], [], .one .bool, fun x _ _ => bridle_near x.1⟩), (45, ⟨[.str], [], [], .one .bool, fun x _ _ => decimal_IsName x.1⟩), (44, ⟨[i64], [], [], .one .bool, fun x _ _ => bridle_weight x.1⟩), (43, ⟨[T23], [], [], .one .bool, fun x _ _ => points_Valid x.1⟩), (41, ⟨[T26, .str], [], [], .one i64, fun x _ _ => bridle_find x.1 x.2.1⟩)] [(36, r36), (18, r18)]) hints 4 12 f12 c12 x F y := fun x F y => by kernel_rfl
theorem l12 : (ctxOf prog shs inls [(47, c47), (46, c46), (45, c45), (44, c44), (43, c43), (41, c41)] [(36, r36), (18, r18)]).ok := ctxOf_cons (ctxOf_cons (ctxOf_cons (ctxOf_cons (ctxOf_cons (ctxOf_cons (q36) (by kernel_rfl) ok41) (by kernel_rfl) ok43) (by kernel_rfl) ok44) (by kernel_rfl) ok45) (by kernel_rfl) ok46) (by kernel_rfl) ok47
theorem ok12 : c12.ok prog 12 := Ctr.of_den l12 hmix (hl := hints) (d := 4) func12 rfl (by decide) (e12 lpK jnK bridle_find points_Valid bridle_weight decimal_IsName bridle_near bridle_arm)

/-- slices.IndexFunc[[]loftblock api.Point,loftblock api.Point] -/
noncomputable def slices_IndexFunc_125_b (lp : Lp) (_ : Jn) (x0 : List (Int × Int × Int)) (f0 : (((Int × Int × Int) × Unit) → Option Bool)) : Option Int :=
  lp (Int × PUnit) Int (fun (again : Int × PUnit → Option Int) (x : Int × PUnit) => bif decide (x.fst < (↑(List.length x0) : Int)) then bif inB x.fst (List.length x0) then obind (f0
    (List.getD x0 (Int.toNat x.fst) ((0 : Int), (0 : Int), (0 : Int)), PUnit.unit)) fun (t : Bool) => bif t then some x.fst else again (IntKind.wrap IntKind.i64 (x.fst + (1 : Int)),
    PUnit.unit) else none else some (-1 : Int)) ((0 : Int), PUnit.unit)
noncomputable def slices_IndexFunc_125 (x0 : List (Int × Int × Int)) (f0 : (((Int × Int × Int) × Unit) → Option Bool)) : Option Int := slices_IndexFunc_125_b lpK jnK x0 f0
noncomputable def c125 : Ctr := ⟨[(.sl T23)], [([T23], .bool)], [], .one i64, fun x F _ => slices_IndexFunc_125 x.1 F.1⟩
theorem e125 (lp : Lp) (jn : Jn) : ∀ (x : TsS c125.as) (F : TsF c125.fs) (y : TsS c125.cs), slices_IndexFunc_125_b lp jn x.1 F.1 = runC lp jn (ctxOf prog shs inls [] [(36, r36), (18, r18)]) hints 4 125 f125 c125 x F y := fun x F y => by kernel_rfl
theorem l125 : (ctxOf prog shs inls [] [(36, r36), (18, r18)]).ok := q36
theorem ok125 : c125.ok prog 125 := Ctr.of_den l125 hmix (hl := hints) (d := 4) func125 rfl (by decide) (e125 lpK jnK)

/-- slices.ContainsFunc[[]loftblock api.Point,loftblock api.Point] -/
noncomputable def slices_ContainsFunc_118_b (_ : Lp) (_ : Jn) (slices_IndexFunc_125 : (List (Int × Int × Int)) → ((((Int × Int × Int) × Unit) → Option Bool)) → Option (Int)) (x0 : List (Int × Int × Int)) (f0 : (((Int × Int × Int) × Unit) → Option Bool)) : Option Bool :=
  obind (slices_IndexFunc_125 x0 f0) fun (t : Int) => some (decide (t ≥ (0 : Int)))
noncomputable def slices_ContainsFunc_118 (x0 : List (Int × Int × Int)) (f0 : (((Int × Int × Int) × Unit) → Option Bool)) : Option Bool := slices_ContainsFunc_118_b lpK jnK slices_IndexFunc_125 x0 f0
noncomputable def c118 : Ctr := ⟨[(.sl T23)], [([T23], .bool)], [], .one .bool, fun x F _ => slices_ContainsFunc_118 x.1 F.1⟩
theorem e118 (lp : Lp) (jn : Jn) (slices_IndexFunc_125 : (List (Int × Int × Int)) → ((((Int × Int × Int) × Unit) → Option Bool)) → Option (Int)) : ∀ (x : TsS c118.as) (F : TsF c118.fs) (y : TsS c118.cs), slices_ContainsFunc_118_b lp jn slices_IndexFunc_125 x.1 F.1 = runC lp jn (ctxOf prog shs inls [(125, ⟨[(.sl T23)], [([T23], .bool)], [], .one i64, fun x F _ => slices_IndexFunc_125 x.1 F.1⟩)] [(36, r36), (18, r18)]) hints 4 118 f118 c118 x F y := fun x F y => by kernel_rfl
theorem l118 : (ctxOf prog shs inls [(125, c125)] [(36, r36), (18, r18)]).ok := ctxOf_cons (q36) (by kernel_rfl) ok125
theorem ok118 : c118.ok prog 118 := Ctr.of_den l118 hmix (hl := hints) (d := 4) func118 rfl (by decide) (e118 lpK jnK slices_IndexFunc_125)

/-- loftblock points.all$1 -/
noncomputable def points_all_1_b (_ : Lp) (_ : Jn) (points_Valid : (Int × Int × Int) → Option (Bool)) (x0 : Int × Int × Int) : Option Bool :=
  obind (points_Valid x0) fun (t : Bool) => some !t
noncomputable def points_all_1 (x0 : Int × Int × Int) : Option Bool := points_all_1_b lpK jnK points_Valid x0
noncomputable def c119 : Ctr := ⟨[T23], [], [], .one .bool, fun x _ _ => points_all_1 x.1⟩
theorem e119 (lp : Lp) (jn : Jn) (points_Valid : (Int × Int × Int) → Option (Bool)) : ∀ (x : TsS c119.as) (F : TsF c119.fs) (y : TsS c119.cs), points_all_1_b lp jn points_Valid x.1 = runC lp jn (ctxOf prog shs inls [(43, ⟨[T23], [], [], .one .bool, fun x _ _ => points_Valid x.1⟩)] [(36, r36), (18, r18)]) hints 4 119 f119 c119 x F y := fun x F y => by kernel_rfl
theorem l119 : (ctxOf prog shs inls [(43, c43)] [(36, r36), (18, r18)]).ok := ctxOf_cons (q36) (by kernel_rfl) ok43
theorem ok119 : c119.ok prog 119 := Ctr.of_den l119 hmix (hl := hints) (d := 4) func119 rfl (by decide) (e119 lpK jnK points_Valid)

/-- loftblock points.all -/
noncomputable def points_all_b (_ : Lp) (_ : Jn) (slices_ContainsFunc_118 : (List (Int × Int × Int)) → ((((Int × Int × Int) × Unit) → Option Bool)) → Option (Bool)) (points_all_1 : (Int × Int × Int) → Option (Bool)) (x0 : List (Int × Int × Int)) : Option Bool :=
  obind (slices_ContainsFunc_118 x0 fun (x : (Int × Int × Int) × PUnit) => points_all_1 x.fst) fun (t : Bool) => some !t
noncomputable def points_all (x0 : List (Int × Int × Int)) : Option Bool := points_all_b lpK jnK slices_ContainsFunc_118 points_all_1 x0
noncomputable def c102 : Ctr := ⟨[(.sl T23)], [], [], .one .bool, fun x _ _ => points_all x.1⟩
theorem e102 (lp : Lp) (jn : Jn) (slices_ContainsFunc_118 : (List (Int × Int × Int)) → ((((Int × Int × Int) × Unit) → Option Bool)) → Option (Bool)) (points_all_1 : (Int × Int × Int) → Option (Bool)) : ∀ (x : TsS c102.as) (F : TsF c102.fs) (y : TsS c102.cs), points_all_b lp jn slices_ContainsFunc_118 points_all_1 x.1 = runC lp jn (ctxOf prog shs inls [(119, ⟨[T23], [], [], .one .bool, fun x _ _ => points_all_1 x.1⟩), (118, ⟨[(.sl T23)], [([T23], .bool)], [], .one .bool, fun x F _ => slices_ContainsFunc_118 x.1 F.1⟩)] [(36, r36), (18, r18)]) hints 4 102 f102 c102 x F y := fun x F y => by kernel_rfl
theorem l102 : (ctxOf prog shs inls [(119, c119), (118, c118)] [(36, r36), (18, r18)]).ok := ctxOf_cons (ctxOf_cons (q36) (by kernel_rfl) ok118) (by kernel_rfl) ok119
theorem ok102 : c102.ok prog 102 := Ctr.of_den l102 hmix (hl := hints) (d := 4) func102 rfl (by decide) (e102 lpK jnK slices_ContainsFunc_118 points_all_1)

/-- loftblock points.to -/
noncomputable def points_to_b (_ : Lp) (_ : Jn) (x0 : Int × Int × Int) (x1 : Int × Int × Int) : Option (Int × Int × Int) :=
  some (IntKind.wrap IntKind.i64 (x1.fst - x0.fst), IntKind.wrap IntKind.i64 (x1.snd.fst - x0.snd.fst), IntKind.wrap IntKind.i64 (x1.snd.snd - x0.snd.snd))
noncomputable def points_to (x0 : Int × Int × Int) (x1 : Int × Int × Int) : Option (Int × Int × Int) := points_to_b lpK jnK x0 x1
noncomputable def c103 : Ctr := ⟨[T23, T23], [], [], .one T141, fun x _ _ => points_to x.1 x.2.1⟩
theorem e103 (lp : Lp) (jn : Jn) : ∀ (x : TsS c103.as) (F : TsF c103.fs) (y : TsS c103.cs), points_to_b lp jn x.1 x.2.1 = runC lp jn (ctxOf prog shs inls [] [(36, r36), (18, r18)]) hints 4 103 f103 c103 x F y := fun x F y => by kernel_rfl
theorem l103 : (ctxOf prog shs inls [] [(36, r36), (18, r18)]).ok := q36
theorem ok103 : c103.ok prog 103 := Ctr.of_den l103 hmix (hl := hints) (d := 4) func103 rfl (by decide) (e103 lpK jnK)

/-- loftblock points.Square -/
noncomputable def points_Square_b (_ : Lp) (_ : Jn) (points_all : (List (Int × Int × Int)) → Option (Bool)) (points_to : (Int × Int × Int) → (Int × Int × Int) → Option (Int × Int × Int)) (x0 : Int × Int × Int) (x1 : Int × Int × Int) : Option (Int × Int × Unit) :=
  obind (points_all [x0, x1]) fun (t : Bool) => bif !t then some ((0 : Int), (1 : Int), PUnit.unit) else obind (points_to x0 x1) fun (t : Int × Int × Int) => some (IntKind.wrap IntKind.i64
    (IntKind.wrap IntKind.i64 (IntKind.wrap IntKind.i64 (t.fst * t.fst) + IntKind.wrap IntKind.i64 (t.snd.fst * t.snd.fst)) + IntKind.wrap IntKind.i64 (t.snd.snd * t.snd.snd)), (0 : Int),
    PUnit.unit)
noncomputable def points_Square (x0 : Int × Int × Int) (x1 : Int × Int × Int) : Option (Int × Int × Unit) := points_Square_b lpK jnK points_all points_to x0 x1
noncomputable def c69 : Ctr := ⟨[T23, T23], [], [], .tup [i64, i64], fun x _ _ => points_Square x.1 x.2.1⟩
theorem e69 (lp : Lp) (jn : Jn) (points_all : (List (Int × Int × Int)) → Option (Bool)) (points_to : (Int × Int × Int) → (Int × Int × Int) → Option (Int × Int × Int)) : ∀ (x : TsS c69.as) (F : TsF c69.fs) (y : TsS c69.cs), points_Square_b lp jn points_all points_to x.1 x.2.1 = runC lp jn (ctxOf prog shs inls [(103, ⟨[T23, T23], [], [], .one T141, fun x _ _ => points_to x.1 x.2.1⟩), (102, ⟨[(.sl T23)], [], [], .one .bool, fun x _ _ => points_all x.1⟩)] [(36, r36), (18, r18)]) hints 4 69 f69 c69 x F y := fun x F y => by kernel_rfl
theorem l69 : (ctxOf prog shs inls [(103, c103), (102, c102)] [(36, r36), (18, r18)]).ok := ctxOf_cons (ctxOf_cons (q36) (by kernel_rfl) ok102) (by kernel_rfl) ok103
theorem ok69 : c69.ok prog 69 := Ctr.of_den l69 hmix (hl := hints) (d := 4) func69 rfl (by decide) (e69 lpK jnK points_all points_to)

/-- loftblock points.Root -/
noncomputable def points_Root_b (lp : Lp) (_ : Jn) (x0 : Int) : Option ((Int × Int) × Int × Unit) :=
  
  let v3 : Bool := decide (x0 < (0 : Int));
  let v4 : Bool := !v3; bif !v4 || v4 then bif v3 || v4 then bif bif v3 then true else decide (x0 > (1152921504606846976 : Int)) then some (((0 : Int), (0 : Int)), (2 : Int), PUnit.unit)
    else lp (Int × Int × PUnit) ((Int × Int) × Int × PUnit) (fun (again : Int × Int × PUnit → Option ((Int × Int) × Int × PUnit)) (x : Int × Int × PUnit) =>
  let v7 : Int × PUnit := (IntKind.wrap IntKind.i64 (Int.tdiv x.snd.fst (2 : Int)), PUnit.unit); bif decide (x.snd.fst > (0 : Int)) then bif decide (IntKind.wrap IntKind.i64 (IntKind.wrap
    IntKind.i64 (x.fst + x.snd.fst) * IntKind.wrap IntKind.i64 (x.fst + x.snd.fst)) ≤ x0) then again (IntKind.wrap IntKind.i64 (x.fst + x.snd.fst), v7) else again (x.fst, v7) else bif
    decide (IntKind.wrap IntKind.i64 (x.fst * x.fst) < x0) then some ((x.fst, IntKind.wrap IntKind.i64 (x.fst + (1 : Int))), (0 : Int), PUnit.unit) else some ((x.fst, x.fst), (0 : Int),
    PUnit.unit)) ((0 : Int), (1073741824 : Int), PUnit.unit) else none else none
noncomputable def points_Root (x0 : Int) : Option ((Int × Int) × Int × Unit) := points_Root_b lpK jnK x0
noncomputable def c70 : Ctr := ⟨[i64], [], [], .tup [T30, i64], fun x _ _ => points_Root x.1⟩
theorem e70 (lp : Lp) (jn : Jn) : ∀ (x : TsS c70.as) (F : TsF c70.fs) (y : TsS c70.cs), points_Root_b lp jn x.1 = runC lp jn (ctxOf prog shs inls [] [(36, r36), (18, r18)]) hints 4 70 f70 c70 x F y := fun x F y => by kernel_rfl
theorem l70 : (ctxOf prog shs inls [] [(36, r36), (18, r18)]).ok := q36
theorem ok70 : c70.ok prog 70 := Ctr.of_den l70 hmix (hl := hints) (d := 4) func70 rfl (by decide) (e70 lpK jnK)

/-- loftblock bridle.length -/
noncomputable def bridle_length_b (_ : Lp) (_ : Jn) (points_Square : (Int × Int × Int) → (Int × Int × Int) → Option (Int × Int × Unit)) (points_Root : (Int) → Option ((Int × Int) × Int × Unit)) (x0 : (Int × Int × Int) × Int × List (ByteArray × (Int × Int × Int) × Int)) (x1 : Int) : Option ((Int × Int) × Int × Unit) :=
  bif inB x1 (List.length x0.snd.snd) then obind (points_Square x0.fst (List.getD x0.snd.snd (Int.toNat x1) ({ data := { toList := [] } }, ((0 : Int), (0 : Int), (0 : Int)), (0 :
    Int))).snd.fst) fun (t : Int × Int × PUnit) => bif !decide (t.snd.fst = (0 : Int)) then some (((0 : Int), (0 : Int)), t.snd.fst, PUnit.unit) else obind (points_Root (IntKind.wrap
    IntKind.i64 ((1000000 : Int) * t.fst))) fun (t : (Int × Int) × Int × PUnit) => some (t.fst, t.snd.fst, PUnit.unit) else none
noncomputable def bridle_length (x0 : (Int × Int × Int) × Int × List (ByteArray × (Int × Int × Int) × Int)) (x1 : Int) : Option ((Int × Int) × Int × Unit) := bridle_length_b lpK jnK points_Square points_Root x0 x1
noncomputable def c42 : Ctr := ⟨[T26, i64], [], [], .tup [T30, i64], fun x _ _ => bridle_length x.1 x.2.1⟩
theorem e42 (lp : Lp) (jn : Jn) (points_Square : (Int × Int × Int) → (Int × Int × Int) → Option (Int × Int × Unit)) (points_Root : (Int) → Option ((Int × Int) × Int × Unit)) : ∀ (x : TsS c42.as) (F : TsF c42.fs) (y : TsS c42.cs), bridle_length_b lp jn points_Square points_Root x.1 x.2.1 = runC lp jn (ctxOf prog shs inls [(70, ⟨[i64], [], [], .tup [T30, i64], fun x _ _ => points_Root x.1⟩), (69, ⟨[T23, T23], [], [], .tup [i64, i64], fun x _ _ => points_Square x.1 x.2.1⟩)] [(36, r36), (18, r18)]) hints 4 42 f42 c42 x F y := fun x F y => by kernel_rfl
theorem l42 : (ctxOf prog shs inls [(70, c70), (69, c69)] [(36, r36), (18, r18)]).ok := ctxOf_cons (ctxOf_cons (q36) (by kernel_rfl) ok69) (by kernel_rfl) ok70
theorem ok42 : c42.ok prog 42 := Ctr.of_den l42 hmix (hl := hints) (d := 4) func42 rfl (by decide) (e42 lpK jnK points_Square points_Root)

/-- loftblock bridle.Length -/
noncomputable def bridle_Length_b (_ : Lp) (_ : Jn) (bridle_find : ((Int × Int × Int) × Int × List (ByteArray × (Int × Int × Int) × Int)) → (ByteArray) → Option (Int)) (bridle_Valid : ((Int × Int × Int) × Int × List (ByteArray × (Int × Int × Int) × Int)) → Option (Bool)) (bridle_length : ((Int × Int × Int) × Int × List (ByteArray × (Int × Int × Int) × Int)) → (Int) → Option ((Int × Int) × Int × Unit)) (x0 : (Int × Int × Int) × Int × List (ByteArray × (Int × Int × Int) × Int)) (x1 : ByteArray) : Option ((Int × Int) × Int × Unit) :=
  obind (bridle_Valid x0) fun (t : Bool) => bif !t then some (((0 : Int), (0 : Int)), (1 : Int), PUnit.unit) else obind (bridle_find x0 x1) fun (t : Int) => bif decide (t < (0 : Int)) then
    some (((0 : Int), (0 : Int)), (9 : Int), PUnit.unit) else obind (bridle_length x0 t) fun (t : (Int × Int) × Int × PUnit) => some (t.fst, t.snd.fst, PUnit.unit)
noncomputable def bridle_Length (x0 : (Int × Int × Int) × Int × List (ByteArray × (Int × Int × Int) × Int)) (x1 : ByteArray) : Option ((Int × Int) × Int × Unit) := bridle_Length_b lpK jnK bridle_find bridle_Valid bridle_length x0 x1
noncomputable def c11 : Ctr := ⟨[T26, .str], [], [], .tup [T30, i64], fun x _ _ => bridle_Length x.1 x.2.1⟩
theorem e11 (lp : Lp) (jn : Jn) (bridle_find : ((Int × Int × Int) × Int × List (ByteArray × (Int × Int × Int) × Int)) → (ByteArray) → Option (Int)) (bridle_Valid : ((Int × Int × Int) × Int × List (ByteArray × (Int × Int × Int) × Int)) → Option (Bool)) (bridle_length : ((Int × Int × Int) × Int × List (ByteArray × (Int × Int × Int) × Int)) → (Int) → Option ((Int × Int) × Int × Unit)) : ∀ (x : TsS c11.as) (F : TsF c11.fs) (y : TsS c11.cs), bridle_Length_b lp jn bridle_find bridle_Valid bridle_length x.1 x.2.1 = runC lp jn (ctxOf prog shs inls [(42, ⟨[T26, i64], [], [], .tup [T30, i64], fun x _ _ => bridle_length x.1 x.2.1⟩), (12, ⟨[T26], [], [], .one .bool, fun x _ _ => bridle_Valid x.1⟩), (41, ⟨[T26, .str], [], [], .one i64, fun x _ _ => bridle_find x.1 x.2.1⟩)] [(36, r36), (18, r18)]) hints 4 11 f11 c11 x F y := fun x F y => by kernel_rfl
theorem l11 : (ctxOf prog shs inls [(42, c42), (12, c12), (41, c41)] [(36, r36), (18, r18)]).ok := ctxOf_cons (ctxOf_cons (ctxOf_cons (q36) (by kernel_rfl) ok41) (by kernel_rfl) ok12) (by kernel_rfl) ok42
theorem ok11 : c11.ok prog 11 := Ctr.of_den l11 hmix (hl := hints) (d := 4) func11 rfl (by decide) (e11 lpK jnK bridle_find bridle_Valid bridle_length)

/-- loftblock ratio.size -/
noncomputable def ratio_size_b (_ : Lp) (_ : Jn) (x0 : Int) : Option Int :=
  
  let v3 : Int := IntKind.wrap IntKind.u64 x0; bif decide (x0 < (0 : Int)) then some (IntKind.wrap IntKind.u64 ((0 : Int) - v3)) else some v3
noncomputable def ratio_size (x0 : Int) : Option Int := ratio_size_b lpK jnK x0
noncomputable def c54 : Ctr := ⟨[i64], [], [], .one (.int .u64), fun x _ _ => ratio_size x.1⟩
theorem e54 (lp : Lp) (jn : Jn) : ∀ (x : TsS c54.as) (F : TsF c54.fs) (y : TsS c54.cs), ratio_size_b lp jn x.1 = runC lp jn (ctxOf prog shs inls [] [(36, r36), (18, r18)]) hints 4 54 f54 c54 x F y := fun x F y => by kernel_rfl
theorem l54 : (ctxOf prog shs inls [] [(36, r36), (18, r18)]).ok := q36
theorem ok54 : c54.ok prog 54 := Ctr.of_den l54 hmix (hl := hints) (d := 4) func54 rfl (by decide) (e54 lpK jnK)

/-- loftblock ratio.gcd -/
noncomputable def ratio_gcd_b (lp : Lp) (_ : Jn) (x0 : Int) (x1 : Int) : Option Int :=
  lp (Int × Int × PUnit) Int (fun (again : Int × Int × PUnit → Option Int) (x : Int × Int × PUnit) => bif !decide (x.snd.fst = (0 : Int)) then bif nzB x.snd.fst then again (x.snd.fst,
    Int.tmod x.fst x.snd.fst, PUnit.unit) else none else some x.fst) (x0, x1, PUnit.unit)
noncomputable def ratio_gcd (x0 : Int) (x1 : Int) : Option Int := ratio_gcd_b lpK jnK x0 x1
noncomputable def c55 : Ctr := ⟨[(.int .u64), (.int .u64)], [], [], .one (.int .u64), fun x _ _ => ratio_gcd x.1 x.2.1⟩
theorem e55 (lp : Lp) (jn : Jn) : ∀ (x : TsS c55.as) (F : TsF c55.fs) (y : TsS c55.cs), ratio_gcd_b lp jn x.1 x.2.1 = runC lp jn (ctxOf prog shs inls [] [(36, r36), (18, r18)]) hints 4 55 f55 c55 x F y := fun x F y => by kernel_rfl
theorem l55 : (ctxOf prog shs inls [] [(36, r36), (18, r18)]).ok := q36
theorem ok55 : c55.ok prog 55 := Ctr.of_den l55 hmix (hl := hints) (d := 4) func55 rfl (by decide) (e55 lpK jnK)

/-- loftblock ratio.signed -/
noncomputable def ratio_signed_b (_ : Lp) (_ : Jn) (x0 : Bool) (x1 : Int) (x2 : Int) : Option ((Int × Int) × Int × Unit) :=
  
  let v5 : Int := IntKind.wrap IntKind.i64 x1;
  let v6 : Int := IntKind.wrap IntKind.i64 x2;
  let v7 : Bool := decide (x1 > (1152921504606846976 : Int));
  let v8 : Bool := !v7; bif !v8 || v8 then bif v7 || v8 then bif bif v7 then true else decide (x2 > (1152921504606846976 : Int)) then some (((0 : Int), (0 : Int)), (5 : Int), PUnit.unit)
    else bif x0 then some ((IntKind.wrap IntKind.i64 ((0 : Int) - v5), v6), (0 : Int), PUnit.unit) else some ((v5, v6), (0 : Int), PUnit.unit) else none else none
noncomputable def ratio_signed (x0 : Bool) (x1 : Int) (x2 : Int) : Option ((Int × Int) × Int × Unit) := ratio_signed_b lpK jnK x0 x1 x2
noncomputable def c56 : Ctr := ⟨[.bool, (.int .u64), (.int .u64)], [], [], .tup [T48, i64], fun x _ _ => ratio_signed x.1 x.2.1 x.2.2.1⟩
theorem e56 (lp : Lp) (jn : Jn) : ∀ (x : TsS c56.as) (F : TsF c56.fs) (y : TsS c56.cs), ratio_signed_b lp jn x.1 x.2.1 x.2.2.1 = runC lp jn (ctxOf prog shs inls [] [(36, r36), (18, r18)]) hints 4 56 f56 c56 x F y := fun x F y => by kernel_rfl
theorem l56 : (ctxOf prog shs inls [] [(36, r36), (18, r18)]).ok := q36
theorem ok56 : c56.ok prog 56 := Ctr.of_den l56 hmix (hl := hints) (d := 4) func56 rfl (by decide) (e56 lpK jnK)

/-- loftblock ratio.Make -/
noncomputable def ratio_Make_b (_ : Lp) (_ : Jn) (ratio_size : (Int) → Option (Int)) (ratio_gcd : (Int) → (Int) → Option (Int)) (ratio_signed : (Bool) → (Int) → (Int) → Option ((Int × Int) × Int × Unit)) (x0 : Int) (x1 : Int) : Option ((Int × Int) × Int × Unit) :=
  
  let v4 : Bool := !decide (x0 = (0 : Int));
  let v5 : Bool := !v4 || v4; bif decide (x1 = (0 : Int)) then some (((0 : Int), (0 : Int)), (16 : Int), PUnit.unit) else obind (ratio_size x0) fun (t : Int) => obind (ratio_size x1) fun
    (t_1 : Int) => obind (ratio_gcd t t_1) fun (t_2 : Int) =>
  let v9 : Bool := nzB t_2; bif v5 then bif v5 then bif v5 && v5 then bif v5 then bif v9 then bif v9 then obind (ratio_signed (bif v4 then !decide (decide (x0 < (0 : Int)) = decide (x1 < (0
    : Int))) else false) (IntKind.wrap IntKind.u64 (Int.tdiv t t_2)) (IntKind.wrap IntKind.u64 (Int.tdiv t_1 t_2))) fun (t : (Int × Int) × Int × PUnit) => some (t.fst, t.snd.fst,
    PUnit.unit) else none else none else none else none else none else none
noncomputable def ratio_Make (x0 : Int) (x1 : Int) : Option ((Int × Int) × Int × Unit) := ratio_Make_b lpK jnK ratio_size ratio_gcd ratio_signed x0 x1
noncomputable def c21 : Ctr := ⟨[i64, i64], [], [], .tup [T48, i64], fun x _ _ => ratio_Make x.1 x.2.1⟩
theorem e21 (lp : Lp) (jn : Jn) (ratio_size : (Int) → Option (Int)) (ratio_gcd : (Int) → (Int) → Option (Int)) (ratio_signed : (Bool) → (Int) → (Int) → Option ((Int × Int) × Int × Unit)) : ∀ (x : TsS c21.as) (F : TsF c21.fs) (y : TsS c21.cs), ratio_Make_b lp jn ratio_size ratio_gcd ratio_signed x.1 x.2.1 = runC lp jn (ctxOf prog shs inls [(56, ⟨[.bool, (.int .u64), (.int .u64)], [], [], .tup [T48, i64], fun x _ _ => ratio_signed x.1 x.2.1 x.2.2.1⟩), (55, ⟨[(.int .u64), (.int .u64)], [], [], .one (.int .u64), fun x _ _ => ratio_gcd x.1 x.2.1⟩), (54, ⟨[i64], [], [], .one (.int .u64), fun x _ _ => ratio_size x.1⟩)] [(36, r36), (18, r18)]) hints 4 21 f21 c21 x F y := fun x F y => by kernel_rfl
theorem l21 : (ctxOf prog shs inls [(56, c56), (55, c55), (54, c54)] [(36, r36), (18, r18)]).ok := ctxOf_cons (ctxOf_cons (ctxOf_cons (q36) (by kernel_rfl) ok54) (by kernel_rfl) ok55) (by kernel_rfl) ok56
theorem ok21 : c21.ok prog 21 := Ctr.of_den l21 hmix (hl := hints) (d := 4) func21 rfl (by decide) (e21 lpK jnK ratio_size ratio_gcd ratio_signed)

/-- loftblock bridle.quotients -/
noncomputable def bridle_quotients_b (lp : Lp) (_ : Jn) (ratio_Make : (Int) → (Int) → Option ((Int × Int) × Int × Unit)) (x0 : Int) (x1 : List Int) : Option ((List (Int × Int)) × Int × Unit) :=
  lp (List (Int × Int) × Int × PUnit) (List (Int × Int) × Int × PUnit) (fun (again : List (Int × Int) × Int × PUnit → Option (List (Int × Int) × Int × PUnit)) (x : List (Int × Int) × Int ×
    PUnit) => bif decide (x.snd.fst < (↑(List.length x1) : Int)) then bif inB x.snd.fst (List.length x1) then obind (ratio_Make (List.getD x1 (Int.toNat x.snd.fst) (0 : Int)) x0) fun (t :
    (Int × Int) × Int × PUnit) => bif !decide (t.snd.fst = (0 : Int)) then some ([], t.snd.fst, PUnit.unit) else bif fitB (List.length x.fst + (1 : Nat)) (16 : Nat) then again (x.fst ++
    [t.fst], IntKind.wrap IntKind.i64 (x.snd.fst + (1 : Int)), PUnit.unit) else none else none else some (x.fst, (0 : Int), PUnit.unit)) ([], (0 : Int), PUnit.unit)
noncomputable def bridle_quotients (x0 : Int) (x1 : List Int) : Option ((List (Int × Int)) × Int × Unit) := bridle_quotients_b lpK jnK ratio_Make x0 x1
noncomputable def c88 : Ctr := ⟨[i64, (.sl i64)], [], [], .tup [(.sl T48), i64], fun x _ _ => bridle_quotients x.1 x.2.1⟩
theorem e88 (lp : Lp) (jn : Jn) (ratio_Make : (Int) → (Int) → Option ((Int × Int) × Int × Unit)) : ∀ (x : TsS c88.as) (F : TsF c88.fs) (y : TsS c88.cs), bridle_quotients_b lp jn ratio_Make x.1 x.2.1 = runC lp jn (ctxOf prog shs inls [(21, ⟨[i64, i64], [], [], .tup [T48, i64], fun x _ _ => ratio_Make x.1 x.2.1⟩)] [(36, r36), (18, r18)]) hints 4 88 f88 c88 x F y := fun x F y => by kernel_rfl
theorem l88 : (ctxOf prog shs inls [(21, c21)] [(36, r36), (18, r18)]).ok := ctxOf_cons (q36) (by kernel_rfl) ok21
theorem ok88 : c88.ok prog 88 := Ctr.of_den l88 hmix (hl := hints) (d := 4) func88 rfl (by decide) (e88 lpK jnK ratio_Make)

/-- loftblock bridle.single -/
noncomputable def bridle_single_b (_ : Lp) (_ : Jn) (bridle_quotients : (Int) → (List Int) → Option ((List (Int × Int)) × Int × Unit)) (x0 : Int × Int × Int) (x1 : Int) : Option ((List (Int × Int)) × Int × Unit) :=
  
  let v4 : Bool := !decide (x0.fst = (0 : Int));
  let v5 : Bool := !v4;
  let v6 : Bool := !v5 || v5; bif decide (x1 = (0 : Int)) then obind (bridle_quotients (1 : Int) [(0 : Int)]) fun (t : List (Int × Int) × Int × PUnit) => some (t.fst, t.snd.fst, PUnit.unit)
    else bif v6 then bif v6 then bif v4 || v5 then bif bif v4 then true else !decide (x0.snd.fst = (0 : Int)) then some ([], (22 : Int), PUnit.unit) else obind (bridle_quotients x0.snd.snd
    [x1]) fun (t : List (Int × Int) × Int × PUnit) => some (t.fst, t.snd.fst, PUnit.unit) else none else none else none
noncomputable def bridle_single (x0 : Int × Int × Int) (x1 : Int) : Option ((List (Int × Int)) × Int × Unit) := bridle_single_b lpK jnK bridle_quotients x0 x1
noncomputable def c83 : Ctr := ⟨[T23, i64], [], [], .tup [(.sl T48), i64], fun x _ _ => bridle_single x.1 x.2.1⟩
theorem e83 (lp : Lp) (jn : Jn) (bridle_quotients : (Int) → (List Int) → Option ((List (Int × Int)) × Int × Unit)) : ∀ (x : TsS c83.as) (F : TsF c83.fs) (y : TsS c83.cs), bridle_single_b lp jn bridle_quotients x.1 x.2.1 = runC lp jn (ctxOf prog shs inls [(88, ⟨[i64, (.sl i64)], [], [], .tup [(.sl T48), i64], fun x _ _ => bridle_quotients x.1 x.2.1⟩)] [(36, r36), (18, r18)]) hints 4 83 f83 c83 x F y := fun x F y => by kernel_rfl
theorem l83 : (ctxOf prog shs inls [(88, c88)] [(36, r36), (18, r18)]).ok := ctxOf_cons (q36) (by kernel_rfl) ok88
theorem ok83 : c83.ok prog 83 := Ctr.of_den l83 hmix (hl := hints) (d := 4) func83 rfl (by decide) (e83 lpK jnK bridle_quotients)

/-- loftblock bridle.cross -/
noncomputable def bridle_cross_b (_ : Lp) (_ : Jn) (x0 : Int × Int × Int) (x1 : Int × Int × Int) : Option (Int × Int × Int) :=
  some (IntKind.wrap IntKind.i64 (IntKind.wrap IntKind.i64 (x0.snd.fst * x1.snd.snd) - IntKind.wrap IntKind.i64 (x0.snd.snd * x1.snd.fst)), IntKind.wrap IntKind.i64 (IntKind.wrap IntKind.i64
    (x0.snd.snd * x1.fst) - IntKind.wrap IntKind.i64 (x0.fst * x1.snd.snd)), IntKind.wrap IntKind.i64 (IntKind.wrap IntKind.i64 (x0.fst * x1.snd.fst) - IntKind.wrap IntKind.i64 (x0.snd.fst
    * x1.fst)))
noncomputable def bridle_cross (x0 : Int × Int × Int) (x1 : Int × Int × Int) : Option (Int × Int × Int) := bridle_cross_b lpK jnK x0 x1
noncomputable def c86 : Ctr := ⟨[T23, T23], [], [], .one T23, fun x _ _ => bridle_cross x.1 x.2.1⟩
theorem e86 (lp : Lp) (jn : Jn) : ∀ (x : TsS c86.as) (F : TsF c86.fs) (y : TsS c86.cs), bridle_cross_b lp jn x.1 x.2.1 = runC lp jn (ctxOf prog shs inls [] [(36, r36), (18, r18)]) hints 4 86 f86 c86 x F y := fun x F y => by kernel_rfl
theorem l86 : (ctxOf prog shs inls [] [(36, r36), (18, r18)]).ok := q36
theorem ok86 : c86.ok prog 86 := Ctr.of_den l86 hmix (hl := hints) (d := 4) func86 rfl (by decide) (e86 lpK jnK)

/-- loftblock bridle.upright -/
noncomputable def bridle_upright_b (lp : Lp) (_ : Jn) (bridle_cross : (Int × Int × Int) → (Int × Int × Int) → Option (Int × Int × Int)) (x0 : List (Int × Int × Int)) : Option Bool :=
  
  let v3 : Bool := inB (0 : Int) (List.length x0);
  let v4 : Bool := decide ((List.getD x0 (0 : Nat) ((0 : Int), (0 : Int), (0 : Int))).fst = (0 : Int));
  let v5 : Bool := !v4;
  let v6 : Bool := v5 || v4; lp (Int × (Int × Int × Int) × PUnit) Bool (fun (again : Int × (Int × Int × Int) × PUnit → Option Bool) (x : Int × (Int × Int × Int) × PUnit) =>
  let v9 : Bool := decide (x.snd.fst.snd.snd = (0 : Int)); bif decide (x.fst < (↑(List.length x0) : Int)) then lp (Int × (Int × Int × Int) × PUnit) Bool (fun (again_1 : Int × (Int × Int ×
    Int) × PUnit → Option Bool) (x_1 : Int × (Int × Int × Int) × PUnit) =>
  let v12 : Int := IntKind.wrap IntKind.i64 (x_1.fst + (1 : Int));
  let v13 : (Int × Int × Int) × PUnit := (x_1.snd.fst, PUnit.unit); bif decide (x_1.fst < x.fst) then bif inB x_1.fst (List.length x0) then bif inB x.fst (List.length x0) then obind
    (bridle_cross (List.getD x0 (Int.toNat x_1.fst) ((0 : Int), (0 : Int), (0 : Int))) (List.getD x0 (Int.toNat x.fst) ((0 : Int), (0 : Int), (0 : Int)))) fun (t : Int × Int × Int) => bif
    !(decide (t.fst = (0 : Int)) && (decide (t.snd.fst = (0 : Int)) && (decide (t.snd.snd = (0 : Int)) && true))) then again_1 (v12, t, PUnit.unit) else again_1 (v12, v13) else none else
    none else again (IntKind.wrap IntKind.i64 (x.fst + (1 : Int)), v13)) ((0 : Int), x.snd.fst, PUnit.unit) else bif !(decide (x.snd.fst.fst = (0 : Int)) && (decide (x.snd.fst.snd.fst = (0
    : Int)) && (v9 && true))) then some v9 else bif v3 then bif v6 && (v5 || v3) then bif v6 then bif v6 then bif v6 then bif v6 then some (bif v4 then decide ((List.getD x0 (0 : Nat) ((0 :
    Int), (0 : Int), (0 : Int))).snd.fst = (0 : Int)) else false) else none else none else none else none else none else none) ((0 : Int), ((0 : Int), (0 : Int), (0 : Int)), PUnit.unit)
noncomputable def bridle_upright (x0 : List (Int × Int × Int)) : Option Bool := bridle_upright_b lpK jnK bridle_cross x0
noncomputable def c109 : Ctr := ⟨[(.sl T23)], [], [], .one .bool, fun x _ _ => bridle_upright x.1⟩
theorem e109 (lp : Lp) (jn : Jn) (bridle_cross : (Int × Int × Int) → (Int × Int × Int) → Option (Int × Int × Int)) : ∀ (x : TsS c109.as) (F : TsF c109.fs) (y : TsS c109.cs), bridle_upright_b lp jn bridle_cross x.1 = runC lp jn (ctxOf prog shs inls [(86, ⟨[T23, T23], [], [], .one T23, fun x _ _ => bridle_cross x.1 x.2.1⟩)] [(36, r36), (18, r18)]) hints 4 109 f109 c109 x F y := fun x F y => by kernel_rfl
theorem l109 : (ctxOf prog shs inls [(86, c86)] [(36, r36), (18, r18)]).ok := ctxOf_cons (q36) (by kernel_rfl) ok86
theorem ok109 : c109.ok prog 109 := Ctr.of_den l109 hmix (hl := hints) (d := 4) func109 rfl (by decide) (e109 lpK jnK bridle_cross)

/-- loftblock bridle.dependent -/
noncomputable def bridle_dependent_b (_ : Lp) (_ : Jn) (bridle_upright : (List (Int × Int × Int)) → Option (Bool)) (x0 : List (Int × Int × Int)) (x1 : Int) : Option Int :=
  
  let v4 : Bool := decide (x1 = (0 : Int));
  let v5 : Bool := !v4; bif !v5 || v5 then obind (bif v5 then bridle_upright x0 else some false) fun (t : Bool) => bif v4 || v5 then bif bif v4 then true else t then some (21 : Int) else
    some (22 : Int) else none else none
noncomputable def bridle_dependent (x0 : List (Int × Int × Int)) (x1 : Int) : Option Int := bridle_dependent_b lpK jnK bridle_upright x0 x1
noncomputable def c87 : Ctr := ⟨[(.sl T23), i64], [], [], .one i64, fun x _ _ => bridle_dependent x.1 x.2.1⟩
theorem e87 (lp : Lp) (jn : Jn) (bridle_upright : (List (Int × Int × Int)) → Option (Bool)) : ∀ (x : TsS c87.as) (F : TsF c87.fs) (y : TsS c87.cs), bridle_dependent_b lp jn bridle_upright x.1 x.2.1 = runC lp jn (ctxOf prog shs inls [(109, ⟨[(.sl T23)], [], [], .one .bool, fun x _ _ => bridle_upright x.1⟩)] [(36, r36), (18, r18)]) hints 4 87 f87 c87 x F y := fun x F y => by kernel_rfl
theorem l87 : (ctxOf prog shs inls [(109, c109)] [(36, r36), (18, r18)]).ok := ctxOf_cons (q36) (by kernel_rfl) ok109
theorem ok87 : c87.ok prog 87 := Ctr.of_den l87 hmix (hl := hints) (d := 4) func87 rfl (by decide) (e87 lpK jnK bridle_upright)

/-- loftblock bridle.double -/
noncomputable def bridle_double_b (_ : Lp) (_ : Jn) (bridle_quotients : (Int) → (List Int) → Option ((List (Int × Int)) × Int × Unit)) (bridle_cross : (Int × Int × Int) → (Int × Int × Int) → Option (Int × Int × Int)) (bridle_dependent : (List (Int × Int × Int)) → (Int) → Option (Int)) (x0 : Int × Int × Int) (x1 : Int × Int × Int) (x2 : Int) : Option ((List (Int × Int)) × Int × Unit) :=
  
  let v5 : Bool := !decide (x2 = (0 : Int));
  let v6 : Int × Int × Int := ((0 : Int), (0 : Int), x2);
  let v7 : Bool := !v5 || v5; obind (bridle_cross x0 x1) fun (t : Int × Int × Int) =>
  let v9 : Bool := decide (t.fst = (0 : Int));
  let v10 : Bool := decide (t.snd.fst = (0 : Int));
  let v11 : Bool := decide (t.snd.snd = (0 : Int)); bif v9 && (v10 && (v11 && true)) then obind (bridle_dependent [x0, x1] x2) fun (t : Int) => some ([], t, PUnit.unit) else bif v7 then bif
    v7 then bif v7 then bif bif v5 then !v11 else false then some ([], (22 : Int), PUnit.unit) else obind (bridle_cross v6 x1) fun (t_1 : Int × Int × Int) => obind (bridle_cross x0 v6) fun
    (t_2 : Int × Int × Int) => bif !v9 then obind (bridle_quotients t.fst [t_1.fst, t_2.fst]) fun (t : List (Int × Int) × Int × PUnit) => some (t.fst, t.snd.fst, PUnit.unit) else bif !v10
    then obind (bridle_quotients t.snd.fst [t_1.snd.fst, t_2.snd.fst]) fun (t : List (Int × Int) × Int × PUnit) => some (t.fst, t.snd.fst, PUnit.unit) else obind (bridle_quotients t.snd.snd
    [t_1.snd.snd, t_2.snd.snd]) fun (t : List (Int × Int) × Int × PUnit) => some (t.fst, t.snd.fst, PUnit.unit) else none else none else none
noncomputable def bridle_double (x0 : Int × Int × Int) (x1 : Int × Int × Int) (x2 : Int) : Option ((List (Int × Int)) × Int × Unit) := bridle_double_b lpK jnK bridle_quotients bridle_cross bridle_dependent x0 x1 x2
noncomputable def c84 : Ctr := ⟨[T23, T23, i64], [], [], .tup [(.sl T48), i64], fun x _ _ => bridle_double x.1 x.2.1 x.2.2.1⟩
theorem e84 (lp : Lp) (jn : Jn) (bridle_quotients : (Int) → (List Int) → Option ((List (Int × Int)) × Int × Unit)) (bridle_cross : (Int × Int × Int) → (Int × Int × Int) → Option (Int × Int × Int)) (bridle_dependent : (List (Int × Int × Int)) → (Int) → Option (Int)) : ∀ (x : TsS c84.as) (F : TsF c84.fs) (y : TsS c84.cs), bridle_double_b lp jn bridle_quotients bridle_cross bridle_dependent x.1 x.2.1 x.2.2.1 = runC lp jn (ctxOf prog shs inls [(87, ⟨[(.sl T23), i64], [], [], .one i64, fun x _ _ => bridle_dependent x.1 x.2.1⟩), (86, ⟨[T23, T23], [], [], .one T23, fun x _ _ => bridle_cross x.1 x.2.1⟩), (88, ⟨[i64, (.sl i64)], [], [], .tup [(.sl T48), i64], fun x _ _ => bridle_quotients x.1 x.2.1⟩)] [(36, r36), (18, r18)]) hints 4 84 f84 c84 x F y := fun x F y => by kernel_rfl
theorem l84 : (ctxOf prog shs inls [(87, c87), (86, c86), (88, c88)] [(36, r36), (18, r18)]).ok := ctxOf_cons (ctxOf_cons (ctxOf_cons (q36) (by kernel_rfl) ok88) (by kernel_rfl) ok86) (by kernel_rfl) ok87
theorem ok84 : c84.ok prog 84 := Ctr.of_den l84 hmix (hl := hints) (d := 4) func84 rfl (by decide) (e84 lpK jnK bridle_quotients bridle_cross bridle_dependent)

/-- loftblock bridle.dot -/
noncomputable def bridle_dot_b (_ : Lp) (_ : Jn) (x0 : Int × Int × Int) (x1 : Int × Int × Int) : Option Int :=
  some (IntKind.wrap IntKind.i64 (IntKind.wrap IntKind.i64 (IntKind.wrap IntKind.i64 (x0.fst * x1.fst) + IntKind.wrap IntKind.i64 (x0.snd.fst * x1.snd.fst)) + IntKind.wrap IntKind.i64
    (x0.snd.snd * x1.snd.snd)))
noncomputable def bridle_dot (x0 : Int × Int × Int) (x1 : Int × Int × Int) : Option Int := bridle_dot_b lpK jnK x0 x1
noncomputable def c85 : Ctr := ⟨[T23, T23], [], [], .one i64, fun x _ _ => bridle_dot x.1 x.2.1⟩
theorem e85 (lp : Lp) (jn : Jn) : ∀ (x : TsS c85.as) (F : TsF c85.fs) (y : TsS c85.cs), bridle_dot_b lp jn x.1 x.2.1 = runC lp jn (ctxOf prog shs inls [] [(36, r36), (18, r18)]) hints 4 85 f85 c85 x F y := fun x F y => by kernel_rfl
theorem l85 : (ctxOf prog shs inls [] [(36, r36), (18, r18)]).ok := q36
theorem ok85 : c85.ok prog 85 := Ctr.of_den l85 hmix (hl := hints) (d := 4) func85 rfl (by decide) (e85 lpK jnK)

/-- loftblock bridle.solve -/
noncomputable def bridle_solve_b (lp : Lp) (_ : Jn) (bridle_arm : ((Int × Int × Int) × Int × List (ByteArray × (Int × Int × Int) × Int)) → (Int) → Option (Int × Int × Int)) (bridle_quotients : (Int) → (List Int) → Option ((List (Int × Int)) × Int × Unit)) (bridle_single : (Int × Int × Int) → (Int) → Option ((List (Int × Int)) × Int × Unit)) (bridle_cross : (Int × Int × Int) → (Int × Int × Int) → Option (Int × Int × Int)) (bridle_dependent : (List (Int × Int × Int)) → (Int) → Option (Int)) (bridle_double : (Int × Int × Int) → (Int × Int × Int) → (Int) → Option ((List (Int × Int)) × Int × Unit)) (bridle_dot : (Int × Int × Int) → (Int × Int × Int) → Option (Int)) (x0 : (Int × Int × Int) × Int × List (ByteArray × (Int × Int × Int) × Int)) : Option ((List (Int × Int)) × Int × Unit) :=
  lp (List (Int × Int × Int) × Int × PUnit) (List (Int × Int) × Int × PUnit) (fun (again : List (Int × Int × Int) × Int × PUnit → Option (List (Int × Int) × Int × PUnit)) (x : List (Int × Int
    × Int) × Int × PUnit) =>
  let v5 : Bool := inB (0 : Int) (List.length x.fst);
  let v6 : Bool := Nat.ble (1 : Nat) (List.length x.fst);
  let v7 : Bool := inB (1 : Int) (List.length x.fst);
  let v8 : Bool := Nat.ble (2 : Nat) (List.length x.fst);
  let v9 : Bool := inB (2 : Int) (List.length x.fst);
  let v10 : Bool := Nat.ble (3 : Nat) (List.length x.fst);
  let v11 : Int × Int × Int := List.getD x.fst (0 : Nat) ((0 : Int), (0 : Int), (0 : Int));
  let v12 : Int × Int × Int := List.getD x.fst (1 : Nat) ((0 : Int), (0 : Int), (0 : Int));
  let v13 : Int × Int × Int := List.getD x.fst (2 : Nat) ((0 : Int), (0 : Int), (0 : Int)); bif decide (x.snd.fst < (↑(List.length x0.snd.snd) : Int)) then obind (bridle_arm x0 x.snd.fst)
    fun (t : Int × Int × Int) => bif fitB (List.length x.fst + (1 : Nat)) (24 : Nat) then again (x.fst ++ [t], IntKind.wrap IntKind.i64 (x.snd.fst + (1 : Int)), PUnit.unit) else none else
    bif decide ((↑(List.length x.fst) : Int) = (1 : Int)) then bif v5 then bif v6 then obind (bridle_single v11 x0.snd.fst) fun (t : List (Int × Int) × Int × PUnit) => some (t.fst,
    t.snd.fst, PUnit.unit) else none else none else bif decide ((↑(List.length x.fst) : Int) = (2 : Int)) then bif v5 then bif v6 then bif v7 then bif v8 then obind (bridle_double v11 v12
    x0.snd.fst) fun (t : List (Int × Int) × Int × PUnit) => some (t.fst, t.snd.fst, PUnit.unit) else none else none else none else none else bif v5 then bif v6 then bif v7 then bif v8 then
    bif v9 then bif v10 then obind (bridle_cross v12 v13) fun (t : Int × Int × Int) => obind (bridle_dot v11 t) fun (t : Int) => bif decide (t = (0 : Int)) then obind (bridle_dependent
    x.fst x0.snd.fst) fun (t : Int) => some ([], t, PUnit.unit) else bif v7 then bif v8 then bif v9 then bif v10 then obind (bridle_cross v12 v13) fun (t_1 : Int × Int × Int) => bif v9 then
    bif v10 then bif v5 then bif v6 then obind (bridle_cross v13 v11) fun (t_2 : Int × Int × Int) => bif v5 then bif v6 then bif v7 then bif v8 then obind (bridle_cross v11 v12) fun (t_3 :
    Int × Int × Int) => obind (bridle_quotients t [IntKind.wrap IntKind.i64 (x0.snd.fst * t_1.snd.snd), IntKind.wrap IntKind.i64 (x0.snd.fst * t_2.snd.snd), IntKind.wrap IntKind.i64
    (x0.snd.fst * t_3.snd.snd)]) fun (t : List (Int × Int) × Int × PUnit) => some (t.fst, t.snd.fst, PUnit.unit) else none else none else none else none else none else none else none else
    none else none else none else none else none else none else none else none else none else none else none) ([], (0 : Int), PUnit.unit)
noncomputable def bridle_solve (x0 : (Int × Int × Int) × Int × List (ByteArray × (Int × Int × Int) × Int)) : Option ((List (Int × Int)) × Int × Unit) := bridle_solve_b lpK jnK bridle_arm bridle_quotients bridle_single bridle_cross bridle_dependent bridle_double bridle_dot x0
noncomputable def c53 : Ctr := ⟨[T26], [], [], .tup [(.sl T48), i64], fun x _ _ => bridle_solve x.1⟩
theorem e53 (lp : Lp) (jn : Jn) (bridle_arm : ((Int × Int × Int) × Int × List (ByteArray × (Int × Int × Int) × Int)) → (Int) → Option (Int × Int × Int)) (bridle_quotients : (Int) → (List Int) → Option ((List (Int × Int)) × Int × Unit)) (bridle_single : (Int × Int × Int) → (Int) → Option ((List (Int × Int)) × Int × Unit)) (bridle_cross : (Int × Int × Int) → (Int × Int × Int) → Option (Int × Int × Int)) (bridle_dependent : (List (Int × Int × Int)) → (Int) → Option (Int)) (bridle_double : (Int × Int × Int) → (Int × Int × Int) → (Int) → Option ((List (Int × Int)) × Int × Unit)) (bridle_dot : (Int × Int × Int) → (Int × Int × Int) → Option (Int)) : ∀ (x : TsS c53.as) (F : TsF c53.fs) (y : TsS c53.cs), bridle_solve_b lp jn bridle_arm bridle_quotients bridle_single bridle_cross bridle_dependent bridle_double bridle_dot x.1 = runC lp jn (ctxOf prog shs inls [(85, ⟨[T23, T23], [], [], .one i64, fun x _ _ => bridle_dot x.1 x.2.1⟩), (84, ⟨[T23, T23, i64], [], [], .tup [(.sl T48), i64], fun x _ _ => bridle_double x.1 x.2.1 x.2.2.1⟩), (87, ⟨[(.sl T23), i64], [], [], .one i64, fun x _ _ => bridle_dependent x.1 x.2.1⟩), (86, ⟨[T23, T23], [], [], .one T23, fun x _ _ => bridle_cross x.1 x.2.1⟩), (83, ⟨[T23, i64], [], [], .tup [(.sl T48), i64], fun x _ _ => bridle_single x.1 x.2.1⟩), (88, ⟨[i64, (.sl i64)], [], [], .tup [(.sl T48), i64], fun x _ _ => bridle_quotients x.1 x.2.1⟩), (47, ⟨[T26, i64], [], [], .one T23, fun x _ _ => bridle_arm x.1 x.2.1⟩)] [(36, r36), (18, r18)]) hints 4 53 f53 c53 x F y := fun x F y => by kernel_rfl
theorem l53 : (ctxOf prog shs inls [(85, c85), (84, c84), (87, c87), (86, c86), (83, c83), (88, c88), (47, c47)] [(36, r36), (18, r18)]).ok := ctxOf_cons (ctxOf_cons (ctxOf_cons (ctxOf_cons (ctxOf_cons (ctxOf_cons (ctxOf_cons (q36) (by kernel_rfl) ok47) (by kernel_rfl) ok88) (by kernel_rfl) ok83) (by kernel_rfl) ok86) (by kernel_rfl) ok87) (by kernel_rfl) ok84) (by kernel_rfl) ok85
theorem ok53 : c53.ok prog 53 := Ctr.of_den l53 hmix (hl := hints) (d := 4) func53 rfl (by decide) (e53 lpK jnK bridle_arm bridle_quotients bridle_single bridle_cross bridle_dependent bridle_double bridle_dot)

/-- loftblock bridle.Pulls -/
noncomputable def bridle_Pulls_b (_ : Lp) (_ : Jn) (bridle_Valid : ((Int × Int × Int) × Int × List (ByteArray × (Int × Int × Int) × Int)) → Option (Bool)) (bridle_solve : ((Int × Int × Int) × Int × List (ByteArray × (Int × Int × Int) × Int)) → Option ((List (Int × Int)) × Int × Unit)) (x0 : (Int × Int × Int) × Int × List (ByteArray × (Int × Int × Int) × Int)) : Option ((List (Int × Int)) × Int × Unit) :=
  obind (bridle_Valid x0) fun (t : Bool) => bif !t then some ([], (1 : Int), PUnit.unit) else obind (bridle_solve x0) fun (t : List (Int × Int) × Int × PUnit) => some (t.fst, t.snd.fst,
    PUnit.unit)
noncomputable def bridle_Pulls (x0 : (Int × Int × Int) × Int × List (ByteArray × (Int × Int × Int) × Int)) : Option ((List (Int × Int)) × Int × Unit) := bridle_Pulls_b lpK jnK bridle_Valid bridle_solve x0
noncomputable def c20 : Ctr := ⟨[T26], [], [], .tup [(.sl T48), i64], fun x _ _ => bridle_Pulls x.1⟩
theorem e20 (lp : Lp) (jn : Jn) (bridle_Valid : ((Int × Int × Int) × Int × List (ByteArray × (Int × Int × Int) × Int)) → Option (Bool)) (bridle_solve : ((Int × Int × Int) × Int × List (ByteArray × (Int × Int × Int) × Int)) → Option ((List (Int × Int)) × Int × Unit)) : ∀ (x : TsS c20.as) (F : TsF c20.fs) (y : TsS c20.cs), bridle_Pulls_b lp jn bridle_Valid bridle_solve x.1 = runC lp jn (ctxOf prog shs inls [(53, ⟨[T26], [], [], .tup [(.sl T48), i64], fun x _ _ => bridle_solve x.1⟩), (12, ⟨[T26], [], [], .one .bool, fun x _ _ => bridle_Valid x.1⟩)] [(36, r36), (18, r18)]) hints 4 20 f20 c20 x F y := fun x F y => by kernel_rfl
theorem l20 : (ctxOf prog shs inls [(53, c53), (12, c12)] [(36, r36), (18, r18)]).ok := ctxOf_cons (ctxOf_cons (q36) (by kernel_rfl) ok12) (by kernel_rfl) ok53
theorem ok20 : c20.ok prog 20 := Ctr.of_den l20 hmix (hl := hints) (d := 4) func20 rfl (by decide) (e20 lpK jnK bridle_Valid bridle_solve)

/-- loftblock bridle.pull -/
noncomputable def bridle_pull_b (_ : Lp) (_ : Jn) (bridle_find : ((Int × Int × Int) × Int × List (ByteArray × (Int × Int × Int) × Int)) → (ByteArray) → Option (Int)) (bridle_Valid : ((Int × Int × Int) × Int × List (ByteArray × (Int × Int × Int) × Int)) → Option (Bool)) (bridle_solve : ((Int × Int × Int) × Int × List (ByteArray × (Int × Int × Int) × Int)) → Option ((List (Int × Int)) × Int × Unit)) (x0 : (Int × Int × Int) × Int × List (ByteArray × (Int × Int × Int) × Int)) (x1 : ByteArray) : Option (Int × (Int × Int) × Int × Unit) :=
  obind (bridle_Valid x0) fun (t : Bool) => bif !t then some ((0 : Int), ((0 : Int), (0 : Int)), (1 : Int), PUnit.unit) else obind (bridle_find x0 x1) fun (t : Int) => bif decide (t < (0 :
    Int)) then some ((0 : Int), ((0 : Int), (0 : Int)), (9 : Int), PUnit.unit) else obind (bridle_solve x0) fun (t_1 : List (Int × Int) × Int × PUnit) => bif !decide (t_1.snd.fst = (0 :
    Int)) then some ((0 : Int), ((0 : Int), (0 : Int)), t_1.snd.fst, PUnit.unit) else bif inB t (List.length t_1.fst) then some (t, List.getD t_1.fst (Int.toNat t) ((0 : Int), (0 : Int)),
    (0 : Int), PUnit.unit) else none
noncomputable def bridle_pull (x0 : (Int × Int × Int) × Int × List (ByteArray × (Int × Int × Int) × Int)) (x1 : ByteArray) : Option (Int × (Int × Int) × Int × Unit) := bridle_pull_b lpK jnK bridle_find bridle_Valid bridle_solve x0 x1
noncomputable def c59 : Ctr := ⟨[T26, .str], [], [], .tup [i64, T48, i64], fun x _ _ => bridle_pull x.1 x.2.1⟩
theorem e59 (lp : Lp) (jn : Jn) (bridle_find : ((Int × Int × Int) × Int × List (ByteArray × (Int × Int × Int) × Int)) → (ByteArray) → Option (Int)) (bridle_Valid : ((Int × Int × Int) × Int × List (ByteArray × (Int × Int × Int) × Int)) → Option (Bool)) (bridle_solve : ((Int × Int × Int) × Int × List (ByteArray × (Int × Int × Int) × Int)) → Option ((List (Int × Int)) × Int × Unit)) : ∀ (x : TsS c59.as) (F : TsF c59.fs) (y : TsS c59.cs), bridle_pull_b lp jn bridle_find bridle_Valid bridle_solve x.1 x.2.1 = runC lp jn (ctxOf prog shs inls [(53, ⟨[T26], [], [], .tup [(.sl T48), i64], fun x _ _ => bridle_solve x.1⟩), (12, ⟨[T26], [], [], .one .bool, fun x _ _ => bridle_Valid x.1⟩), (41, ⟨[T26, .str], [], [], .one i64, fun x _ _ => bridle_find x.1 x.2.1⟩)] [(36, r36), (18, r18)]) hints 4 59 f59 c59 x F y := fun x F y => by kernel_rfl
theorem l59 : (ctxOf prog shs inls [(53, c53), (12, c12), (41, c41)] [(36, r36), (18, r18)]).ok := ctxOf_cons (ctxOf_cons (ctxOf_cons (q36) (by kernel_rfl) ok41) (by kernel_rfl) ok12) (by kernel_rfl) ok53
theorem ok59 : c59.ok prog 59 := Ctr.of_den l59 hmix (hl := hints) (d := 4) func59 rfl (by decide) (e59 lpK jnK bridle_find bridle_Valid bridle_solve)

/-- loftblock ratio.Valid -/
noncomputable def ratio_Valid_b (_ : Lp) (_ : Jn) (ratio_size : (Int) → Option (Int)) (ratio_gcd : (Int) → (Int) → Option (Int)) (x0 : Int × Int) : Option Bool :=
  
  let v3 : Bool := decide (x0.snd ≥ (1 : Int));
  let v4 : Bool := !v3 || v3;
  let v5 : Bool := bif v3 then decide (x0.snd ≤ (1152921504606846976 : Int)) else false;
  let v6 : Bool := bif v5 then decide (x0.fst ≥ (-1152921504606846976 : Int)) else false;
  let v7 : Bool := !v5 || v5;
  let v8 : Bool := bif v6 then decide (x0.fst ≤ (1152921504606846976 : Int)) else false;
  let v9 : Bool := !v6 || v6;
  let v10 : Bool := !v8 || v8; bif v4 then bif v4 then bif v4 then bif v7 then bif v7 then bif v7 then bif v9 then bif v9 then bif v9 then bif v10 then bif v10 then obind (bif v8 then
    ratio_size x0.fst else some (0 : Int)) fun (t : Int) => bif v10 then bif v10 then bif v10 && v10 then obind (bif v8 then ratio_gcd t (IntKind.wrap IntKind.u64 x0.snd) else some (0 :
    Int)) fun (t : Int) => bif v10 then bif v10 then some (bif v8 then decide (t = (1 : Int)) else false) else none else none else none else none else none else none else none else none
    else none else none else none else none else none else none else none else none
noncomputable def ratio_Valid (x0 : Int × Int) : Option Bool := ratio_Valid_b lpK jnK ratio_size ratio_gcd x0
noncomputable def c57 : Ctr := ⟨[T48], [], [], .one .bool, fun x _ _ => ratio_Valid x.1⟩
theorem e57 (lp : Lp) (jn : Jn) (ratio_size : (Int) → Option (Int)) (ratio_gcd : (Int) → (Int) → Option (Int)) : ∀ (x : TsS c57.as) (F : TsF c57.fs) (y : TsS c57.cs), ratio_Valid_b lp jn ratio_size ratio_gcd x.1 = runC lp jn (ctxOf prog shs inls [(55, ⟨[(.int .u64), (.int .u64)], [], [], .one (.int .u64), fun x _ _ => ratio_gcd x.1 x.2.1⟩), (54, ⟨[i64], [], [], .one (.int .u64), fun x _ _ => ratio_size x.1⟩)] [(36, r36), (18, r18)]) hints 4 57 f57 c57 x F y := fun x F y => by kernel_rfl
theorem l57 : (ctxOf prog shs inls [(55, c55), (54, c54)] [(36, r36), (18, r18)]).ok := ctxOf_cons (ctxOf_cons (q36) (by kernel_rfl) ok54) (by kernel_rfl) ok55
theorem ok57 : c57.ok prog 57 := Ctr.of_den l57 hmix (hl := hints) (d := 4) func57 rfl (by decide) (e57 lpK jnK ratio_size ratio_gcd)

/-- math bits.Mul64 -/
noncomputable def bits_Mul64_b (_ : Lp) (_ : Jn) (x0 : Int) (x1 : Int) : Option (Int × Int × Unit) :=
  
  let v4 : Int := (2 : Int) ^ (32 : Nat);
  let v5 : Int := Int.fdiv x0 v4;
  let v6 : Int := Int.fdiv x1 v4;
  let v7 : Bool := decide ((0 : Int) ≤ (32 : Int));
  let v8 : Int := IntKind.wrap IntKind.u64 (↑(Nat.land (Int.toNat (x1 % Int.ofNat (18446744073709551616 : Nat))) (Int.toNat ((4294967295 : Int) % Int.ofNat (18446744073709551616 : Nat)))) :
    Int);
  let v9 : Int := IntKind.wrap IntKind.u64 (↑(Nat.land (Int.toNat (x0 % Int.ofNat (18446744073709551616 : Nat))) (Int.toNat ((4294967295 : Int) % Int.ofNat (18446744073709551616 : Nat)))) :
    Int);
  let v10 : Int := IntKind.wrap IntKind.u64 (IntKind.wrap IntKind.u64 (v5 * v8) + Int.fdiv (IntKind.wrap IntKind.u64 (v9 * v8)) v4); bif v7 then bif v7 then bif v7 then bif v7 then bif v7
    then some (IntKind.wrap IntKind.u64 (IntKind.wrap IntKind.u64 (IntKind.wrap IntKind.u64 (v5 * v6) + Int.fdiv v10 v4) + Int.fdiv (IntKind.wrap IntKind.u64 (IntKind.wrap IntKind.u64
    (↑(Nat.land (Int.toNat (v10 % Int.ofNat (18446744073709551616 : Nat))) (Int.toNat ((4294967295 : Int) % Int.ofNat (18446744073709551616 : Nat)))) : Int) + IntKind.wrap IntKind.u64 (v9 *
    v6))) v4), IntKind.wrap IntKind.u64 (x0 * x1), PUnit.unit) else none else none else none else none else none
noncomputable def bits_Mul64 (x0 : Int) (x1 : Int) : Option (Int × Int × Unit) := bits_Mul64_b lpK jnK x0 x1
noncomputable def c89 : Ctr := ⟨[(.int .u64), (.int .u64)], [], [], .tup [(.int .u64), (.int .u64)], fun x _ _ => bits_Mul64 x.1 x.2.1⟩
theorem e89 (lp : Lp) (jn : Jn) : ∀ (x : TsS c89.as) (F : TsF c89.fs) (y : TsS c89.cs), bits_Mul64_b lp jn x.1 x.2.1 = runC lp jn (ctxOf prog shs inls [] [(36, r36), (18, r18)]) hints 4 89 f89 c89 x F y := fun x F y => by kernel_rfl
theorem l89 : (ctxOf prog shs inls [] [(36, r36), (18, r18)]).ok := q36
theorem ok89 : c89.ok prog 89 := Ctr.of_den l89 hmix (hl := hints) (d := 4) func89 rfl (by decide) (e89 lpK jnK)

/-- loftblock ratio.product -/
noncomputable def ratio_product_b (_ : Lp) (_ : Jn) (bits_Mul64 : (Int) → (Int) → Option (Int × Int × Unit)) (x0 : Int) (x1 : Int) : Option (Int × Int) :=
  obind (bits_Mul64 x0 x1) fun (t : Int × Int × PUnit) => some (t.fst, t.snd.fst)
noncomputable def ratio_product (x0 : Int) (x1 : Int) : Option (Int × Int) := ratio_product_b lpK jnK bits_Mul64 x0 x1
noncomputable def c58 : Ctr := ⟨[(.int .u64), (.int .u64)], [], [], .one T94, fun x _ _ => ratio_product x.1 x.2.1⟩
theorem e58 (lp : Lp) (jn : Jn) (bits_Mul64 : (Int) → (Int) → Option (Int × Int × Unit)) : ∀ (x : TsS c58.as) (F : TsF c58.fs) (y : TsS c58.cs), ratio_product_b lp jn bits_Mul64 x.1 x.2.1 = runC lp jn (ctxOf prog shs inls [(89, ⟨[(.int .u64), (.int .u64)], [], [], .tup [(.int .u64), (.int .u64)], fun x _ _ => bits_Mul64 x.1 x.2.1⟩)] [(36, r36), (18, r18)]) hints 4 58 f58 c58 x F y := fun x F y => by kernel_rfl
theorem l58 : (ctxOf prog shs inls [(89, c89)] [(36, r36), (18, r18)]).ok := ctxOf_cons (q36) (by kernel_rfl) ok89
theorem ok58 : c58.ok prog 58 := Ctr.of_den l58 hmix (hl := hints) (d := 4) func58 rfl (by decide) (e58 lpK jnK bits_Mul64)

/-- loftblock ratio.Mul -/
noncomputable def ratio_Mul_b (_ : Lp) (_ : Jn) (ratio_size : (Int) → Option (Int)) (ratio_gcd : (Int) → (Int) → Option (Int)) (ratio_signed : (Bool) → (Int) → (Int) → Option ((Int × Int) × Int × Unit)) (ratio_Valid : (Int × Int) → Option (Bool)) (ratio_product : (Int) → (Int) → Option (Int × Int)) (x0 : Int × Int) (x1 : Int × Int) : Option ((Int × Int) × Int × Unit) :=
  
  let v4 : Int := IntKind.wrap IntKind.u64 x1.snd;
  let v5 : Int := IntKind.wrap IntKind.u64 x0.snd; obind (ratio_Valid x0) fun (t : Bool) =>
  let v7 : Bool := !t;
  let v8 : Bool := !v7;
  let v9 : Bool := !v8 || v8; bif v9 then obind (bif v8 then ratio_Valid x1 else some false) fun (t : Bool) => bif v9 then bif v7 || v8 then bif bif v7 then true else !t then some (((0 :
    Int), (0 : Int)), (1 : Int), PUnit.unit) else obind (ratio_size x0.fst) fun (t : Int) => obind (ratio_gcd t v4) fun (t : Int) =>
  let v13 : Bool := nzB t; obind (ratio_size x1.fst) fun (t_1 : Int) => obind (ratio_gcd t_1 v5) fun (t_2 : Int) =>
  let v16 : Bool := nzB t_2; obind (ratio_size x0.fst) fun (t_3 : Int) => bif v13 then obind (ratio_size x1.fst) fun (t_4 : Int) => bif v16 then obind (ratio_product (IntKind.wrap
    IntKind.u64 (Int.tdiv t_3 t)) (IntKind.wrap IntKind.u64 (Int.tdiv t_4 t_2))) fun (t_5 : Int × Int) =>
  let v20 : Bool := decide (t_5.fst > (0 : Int));
  let v21 : Bool := decide (t_5.snd > (0 : Int));
  let v22 : Bool := !v20;
  let v23 : Bool := !v21 || v21;
  let v24 : Bool := !v22 || v22; bif v16 then bif v13 then obind (ratio_product (IntKind.wrap IntKind.u64 (Int.tdiv v5 t_2)) (IntKind.wrap IntKind.u64 (Int.tdiv v4 t))) fun (t : Int × Int)
    => bif v24 then bif v24 then bif v20 || v22 then bif bif v20 then true else decide (t.fst > (0 : Int)) then some (((0 : Int), (0 : Int)), (5 : Int), PUnit.unit) else bif v23 then bif
    v23 then bif v23 then bif v23 then bif v23 && v23 then bif v23 then obind (ratio_signed (bif v21 then !decide (decide (x0.fst < (0 : Int)) = decide (x1.fst < (0 : Int))) else false)
    t_5.snd t.snd) fun (t : (Int × Int) × Int × PUnit) => some (t.fst, t.snd.fst, PUnit.unit) else none else none else none else none else none else none else none else none else none else
    none else none else none else none else none else none else none
noncomputable def ratio_Mul (x0 : Int × Int) (x1 : Int × Int) : Option ((Int × Int) × Int × Unit) := ratio_Mul_b lpK jnK ratio_size ratio_gcd ratio_signed ratio_Valid ratio_product x0 x1
noncomputable def c22 : Ctr := ⟨[T48, T48], [], [], .tup [T48, i64], fun x _ _ => ratio_Mul x.1 x.2.1⟩
theorem e22 (lp : Lp) (jn : Jn) (ratio_size : (Int) → Option (Int)) (ratio_gcd : (Int) → (Int) → Option (Int)) (ratio_signed : (Bool) → (Int) → (Int) → Option ((Int × Int) × Int × Unit)) (ratio_Valid : (Int × Int) → Option (Bool)) (ratio_product : (Int) → (Int) → Option (Int × Int)) : ∀ (x : TsS c22.as) (F : TsF c22.fs) (y : TsS c22.cs), ratio_Mul_b lp jn ratio_size ratio_gcd ratio_signed ratio_Valid ratio_product x.1 x.2.1 = runC lp jn (ctxOf prog shs inls [(58, ⟨[(.int .u64), (.int .u64)], [], [], .one T94, fun x _ _ => ratio_product x.1 x.2.1⟩), (57, ⟨[T48], [], [], .one .bool, fun x _ _ => ratio_Valid x.1⟩), (56, ⟨[.bool, (.int .u64), (.int .u64)], [], [], .tup [T48, i64], fun x _ _ => ratio_signed x.1 x.2.1 x.2.2.1⟩), (55, ⟨[(.int .u64), (.int .u64)], [], [], .one (.int .u64), fun x _ _ => ratio_gcd x.1 x.2.1⟩), (54, ⟨[i64], [], [], .one (.int .u64), fun x _ _ => ratio_size x.1⟩)] [(36, r36), (18, r18)]) hints 4 22 f22 c22 x F y := fun x F y => by kernel_rfl
theorem l22 : (ctxOf prog shs inls [(58, c58), (57, c57), (56, c56), (55, c55), (54, c54)] [(36, r36), (18, r18)]).ok := ctxOf_cons (ctxOf_cons (ctxOf_cons (ctxOf_cons (ctxOf_cons (q36) (by kernel_rfl) ok54) (by kernel_rfl) ok55) (by kernel_rfl) ok56) (by kernel_rfl) ok57) (by kernel_rfl) ok58
theorem ok22 : c22.ok prog 22 := Ctr.of_den l22 hmix (hl := hints) (d := 4) func22 rfl (by decide) (e22 lpK jnK ratio_size ratio_gcd ratio_signed ratio_Valid ratio_product)

/-- loftblock bridle.times -/
noncomputable def bridle_times_b (_ : Lp) (_ : Jn) (ratio_Make : (Int) → (Int) → Option ((Int × Int) × Int × Unit)) (ratio_Mul : (Int × Int) → (Int × Int) → Option ((Int × Int) × Int × Unit)) (x0 : Int × Int) (x1 : Int) : Option ((Int × Int) × Int × Unit) :=
  obind (ratio_Make x1 (1000 : Int)) fun (t : (Int × Int) × Int × PUnit) => bif !decide (t.snd.fst = (0 : Int)) then some (((0 : Int), (0 : Int)), t.snd.fst, PUnit.unit) else obind (ratio_Mul
    x0 t.fst) fun (t : (Int × Int) × Int × PUnit) => some (t.fst, t.snd.fst, PUnit.unit)
noncomputable def bridle_times (x0 : Int × Int) (x1 : Int) : Option ((Int × Int) × Int × Unit) := bridle_times_b lpK jnK ratio_Make ratio_Mul x0 x1
noncomputable def c90 : Ctr := ⟨[T48, i64], [], [], .tup [T48, i64], fun x _ _ => bridle_times x.1 x.2.1⟩
theorem e90 (lp : Lp) (jn : Jn) (ratio_Make : (Int) → (Int) → Option ((Int × Int) × Int × Unit)) (ratio_Mul : (Int × Int) → (Int × Int) → Option ((Int × Int) × Int × Unit)) : ∀ (x : TsS c90.as) (F : TsF c90.fs) (y : TsS c90.cs), bridle_times_b lp jn ratio_Make ratio_Mul x.1 x.2.1 = runC lp jn (ctxOf prog shs inls [(22, ⟨[T48, T48], [], [], .tup [T48, i64], fun x _ _ => ratio_Mul x.1 x.2.1⟩), (21, ⟨[i64, i64], [], [], .tup [T48, i64], fun x _ _ => ratio_Make x.1 x.2.1⟩)] [(36, r36), (18, r18)]) hints 4 90 f90 c90 x F y := fun x F y => by kernel_rfl
theorem l90 : (ctxOf prog shs inls [(22, c22), (21, c21)] [(36, r36), (18, r18)]).ok := ctxOf_cons (ctxOf_cons (q36) (by kernel_rfl) ok21) (by kernel_rfl) ok22
theorem ok90 : c90.ok prog 90 := Ctr.of_den l90 hmix (hl := hints) (d := 4) func90 rfl (by decide) (e90 lpK jnK ratio_Make ratio_Mul)

/-- loftblock ratio.floor -/
noncomputable def ratio_floor_b (_ : Lp) (_ : Jn) (x0 : Int) (x1 : Int) : Option Int :=
  
  let v4 : Bool := nzB x1;
  let v5 : Int := IntKind.wrap IntKind.i64 (Int.tdiv x0 x1); bif v4 then bif v4 then bif decide (Int.tmod x0 x1 < (0 : Int)) then some (IntKind.wrap IntKind.i64 (v5 - (1 : Int))) else some
    v5 else none else none
noncomputable def ratio_floor (x0 : Int) (x1 : Int) : Option Int := ratio_floor_b lpK jnK x0 x1
noncomputable def c110 : Ctr := ⟨[i64, i64], [], [], .one i64, fun x _ _ => ratio_floor x.1 x.2.1⟩
theorem e110 (lp : Lp) (jn : Jn) : ∀ (x : TsS c110.as) (F : TsF c110.fs) (y : TsS c110.cs), ratio_floor_b lp jn x.1 x.2.1 = runC lp jn (ctxOf prog shs inls [] [(36, r36), (18, r18)]) hints 4 110 f110 c110 x F y := fun x F y => by kernel_rfl
theorem l110 : (ctxOf prog shs inls [] [(36, r36), (18, r18)]).ok := q36
theorem ok110 : c110.ok prog 110 := Ctr.of_den l110 hmix (hl := hints) (d := 4) func110 rfl (by decide) (e110 lpK jnK)

/-- loftblock ratio.Floor -/
noncomputable def ratio_Floor_b (_ : Lp) (_ : Jn) (ratio_Valid : (Int × Int) → Option (Bool)) (ratio_floor : (Int) → (Int) → Option (Int)) (x0 : Int × Int) : Option (Int × Int × Unit) :=
  obind (ratio_Valid x0) fun (t : Bool) => bif !t then some ((0 : Int), (1 : Int), PUnit.unit) else obind (ratio_floor x0.fst x0.snd) fun (t : Int) => some (t, (0 : Int), PUnit.unit)
noncomputable def ratio_Floor (x0 : Int × Int) : Option (Int × Int × Unit) := ratio_Floor_b lpK jnK ratio_Valid ratio_floor x0
noncomputable def c91 : Ctr := ⟨[T48], [], [], .tup [i64, i64], fun x _ _ => ratio_Floor x.1⟩
theorem e91 (lp : Lp) (jn : Jn) (ratio_Valid : (Int × Int) → Option (Bool)) (ratio_floor : (Int) → (Int) → Option (Int)) : ∀ (x : TsS c91.as) (F : TsF c91.fs) (y : TsS c91.cs), ratio_Floor_b lp jn ratio_Valid ratio_floor x.1 = runC lp jn (ctxOf prog shs inls [(110, ⟨[i64, i64], [], [], .one i64, fun x _ _ => ratio_floor x.1 x.2.1⟩), (57, ⟨[T48], [], [], .one .bool, fun x _ _ => ratio_Valid x.1⟩)] [(36, r36), (18, r18)]) hints 4 91 f91 c91 x F y := fun x F y => by kernel_rfl
theorem l91 : (ctxOf prog shs inls [(110, c110), (57, c57)] [(36, r36), (18, r18)]).ok := ctxOf_cons (ctxOf_cons (q36) (by kernel_rfl) ok57) (by kernel_rfl) ok110
theorem ok91 : c91.ok prog 91 := Ctr.of_den l91 hmix (hl := hints) (d := 4) func91 rfl (by decide) (e91 lpK jnK ratio_Valid ratio_floor)

/-- loftblock ratio.Ceil -/
noncomputable def ratio_Ceil_b (_ : Lp) (_ : Jn) (ratio_Valid : (Int × Int) → Option (Bool)) (ratio_floor : (Int) → (Int) → Option (Int)) (x0 : Int × Int) : Option (Int × Int × Unit) :=
  obind (ratio_Valid x0) fun (t : Bool) => bif !t then some ((0 : Int), (1 : Int), PUnit.unit) else obind (ratio_floor (IntKind.wrap IntKind.i64 ((0 : Int) - x0.fst)) x0.snd) fun (t : Int) =>
    some (IntKind.wrap IntKind.i64 ((0 : Int) - t), (0 : Int), PUnit.unit)
noncomputable def ratio_Ceil (x0 : Int × Int) : Option (Int × Int × Unit) := ratio_Ceil_b lpK jnK ratio_Valid ratio_floor x0
noncomputable def c92 : Ctr := ⟨[T48], [], [], .tup [i64, i64], fun x _ _ => ratio_Ceil x.1⟩
theorem e92 (lp : Lp) (jn : Jn) (ratio_Valid : (Int × Int) → Option (Bool)) (ratio_floor : (Int) → (Int) → Option (Int)) : ∀ (x : TsS c92.as) (F : TsF c92.fs) (y : TsS c92.cs), ratio_Ceil_b lp jn ratio_Valid ratio_floor x.1 = runC lp jn (ctxOf prog shs inls [(110, ⟨[i64, i64], [], [], .one i64, fun x _ _ => ratio_floor x.1 x.2.1⟩), (57, ⟨[T48], [], [], .one .bool, fun x _ _ => ratio_Valid x.1⟩)] [(36, r36), (18, r18)]) hints 4 92 f92 c92 x F y := fun x F y => by kernel_rfl
theorem l92 : (ctxOf prog shs inls [(110, c110), (57, c57)] [(36, r36), (18, r18)]).ok := ctxOf_cons (ctxOf_cons (q36) (by kernel_rfl) ok57) (by kernel_rfl) ok110
theorem ok92 : c92.ok prog 92 := Ctr.of_den l92 hmix (hl := hints) (d := 4) func92 rfl (by decide) (e92 lpK jnK ratio_Valid ratio_floor)

/-- loftblock bridle.tension -/
noncomputable def bridle_tension_b (_ : Lp) (_ : Jn) (bridle_length : ((Int × Int × Int) × Int × List (ByteArray × (Int × Int × Int) × Int)) → (Int) → Option ((Int × Int) × Int × Unit)) (bridle_times : (Int × Int) → (Int) → Option ((Int × Int) × Int × Unit)) (ratio_Floor : (Int × Int) → Option (Int × Int × Unit)) (ratio_Ceil : (Int × Int) → Option (Int × Int × Unit)) (x0 : (Int × Int × Int) × Int × List (ByteArray × (Int × Int × Int) × Int)) (x1 : Int) (x2 : Int × Int) : Option ((Int × Int) × Int × Unit) :=
  obind (bridle_length x0 x1) fun (t : (Int × Int) × Int × PUnit) => bif !decide (t.snd.fst = (0 : Int)) then some (((0 : Int), (0 : Int)), t.snd.fst, PUnit.unit) else obind (bridle_times x2
    t.fst.fst) fun (t_1 : (Int × Int) × Int × PUnit) => bif !decide (t_1.snd.fst = (0 : Int)) then some (((0 : Int), (0 : Int)), t_1.snd.fst, PUnit.unit) else obind (bridle_times x2
    t.fst.snd) fun (t : (Int × Int) × Int × PUnit) => bif !decide (t.snd.fst = (0 : Int)) then some (((0 : Int), (0 : Int)), t.snd.fst, PUnit.unit) else obind (ratio_Floor t_1.fst) fun (t_2
    : Int × Int × PUnit) => bif !decide (t_2.snd.fst = (0 : Int)) then some (((0 : Int), (0 : Int)), t_2.snd.fst, PUnit.unit) else obind (ratio_Ceil t.fst) fun (t : Int × Int × PUnit) =>
    bif !decide (t.snd.fst = (0 : Int)) then some (((0 : Int), (0 : Int)), t.snd.fst, PUnit.unit) else some ((t_2.fst, t.fst), (0 : Int), PUnit.unit)
noncomputable def bridle_tension (x0 : (Int × Int × Int) × Int × List (ByteArray × (Int × Int × Int) × Int)) (x1 : Int) (x2 : Int × Int) : Option ((Int × Int) × Int × Unit) := bridle_tension_b lpK jnK bridle_length bridle_times ratio_Floor ratio_Ceil x0 x1 x2
noncomputable def c60 : Ctr := ⟨[T26, i64, T48], [], [], .tup [T30, i64], fun x _ _ => bridle_tension x.1 x.2.1 x.2.2.1⟩
theorem e60 (lp : Lp) (jn : Jn) (bridle_length : ((Int × Int × Int) × Int × List (ByteArray × (Int × Int × Int) × Int)) → (Int) → Option ((Int × Int) × Int × Unit)) (bridle_times : (Int × Int) → (Int) → Option ((Int × Int) × Int × Unit)) (ratio_Floor : (Int × Int) → Option (Int × Int × Unit)) (ratio_Ceil : (Int × Int) → Option (Int × Int × Unit)) : ∀ (x : TsS c60.as) (F : TsF c60.fs) (y : TsS c60.cs), bridle_tension_b lp jn bridle_length bridle_times ratio_Floor ratio_Ceil x.1 x.2.1 x.2.2.1 = runC lp jn (ctxOf prog shs inls [(92, ⟨[T48], [], [], .tup [i64, i64], fun x _ _ => ratio_Ceil x.1⟩), (91, ⟨[T48], [], [], .tup [i64, i64], fun x _ _ => ratio_Floor x.1⟩), (90, ⟨[T48, i64], [], [], .tup [T48, i64], fun x _ _ => bridle_times x.1 x.2.1⟩), (42, ⟨[T26, i64], [], [], .tup [T30, i64], fun x _ _ => bridle_length x.1 x.2.1⟩)] [(36, r36), (18, r18)]) hints 4 60 f60 c60 x F y := fun x F y => by kernel_rfl
theorem l60 : (ctxOf prog shs inls [(92, c92), (91, c91), (90, c90), (42, c42)] [(36, r36), (18, r18)]).ok := ctxOf_cons (ctxOf_cons (ctxOf_cons (ctxOf_cons (q36) (by kernel_rfl) ok42) (by kernel_rfl) ok90) (by kernel_rfl) ok91) (by kernel_rfl) ok92
theorem ok60 : c60.ok prog 60 := Ctr.of_den l60 hmix (hl := hints) (d := 4) func60 rfl (by decide) (e60 lpK jnK bridle_length bridle_times ratio_Floor ratio_Ceil)

/-- loftblock bridle.Tension -/
noncomputable def bridle_Tension_b (_ : Lp) (_ : Jn) (bridle_pull : ((Int × Int × Int) × Int × List (ByteArray × (Int × Int × Int) × Int)) → (ByteArray) → Option (Int × (Int × Int) × Int × Unit)) (bridle_tension : ((Int × Int × Int) × Int × List (ByteArray × (Int × Int × Int) × Int)) → (Int) → (Int × Int) → Option ((Int × Int) × Int × Unit)) (x0 : (Int × Int × Int) × Int × List (ByteArray × (Int × Int × Int) × Int)) (x1 : ByteArray) : Option ((Int × Int) × Int × Unit) :=
  obind (bridle_pull x0 x1) fun (t : Int × (Int × Int) × Int × PUnit) => bif !decide (t.snd.snd.fst = (0 : Int)) then some (((0 : Int), (0 : Int)), t.snd.snd.fst, PUnit.unit) else bif decide
    (t.snd.fst.fst < (0 : Int)) then some (((0 : Int), (0 : Int)), (13 : Int), PUnit.unit) else obind (bridle_tension x0 t.fst t.snd.fst) fun (t : (Int × Int) × Int × PUnit) => some (t.fst,
    t.snd.fst, PUnit.unit)
noncomputable def bridle_Tension (x0 : (Int × Int × Int) × Int × List (ByteArray × (Int × Int × Int) × Int)) (x1 : ByteArray) : Option ((Int × Int) × Int × Unit) := bridle_Tension_b lpK jnK bridle_pull bridle_tension x0 x1
noncomputable def c23 : Ctr := ⟨[T26, .str], [], [], .tup [T30, i64], fun x _ _ => bridle_Tension x.1 x.2.1⟩
theorem e23 (lp : Lp) (jn : Jn) (bridle_pull : ((Int × Int × Int) × Int × List (ByteArray × (Int × Int × Int) × Int)) → (ByteArray) → Option (Int × (Int × Int) × Int × Unit)) (bridle_tension : ((Int × Int × Int) × Int × List (ByteArray × (Int × Int × Int) × Int)) → (Int) → (Int × Int) → Option ((Int × Int) × Int × Unit)) : ∀ (x : TsS c23.as) (F : TsF c23.fs) (y : TsS c23.cs), bridle_Tension_b lp jn bridle_pull bridle_tension x.1 x.2.1 = runC lp jn (ctxOf prog shs inls [(60, ⟨[T26, i64, T48], [], [], .tup [T30, i64], fun x _ _ => bridle_tension x.1 x.2.1 x.2.2.1⟩), (59, ⟨[T26, .str], [], [], .tup [i64, T48, i64], fun x _ _ => bridle_pull x.1 x.2.1⟩)] [(36, r36), (18, r18)]) hints 4 23 f23 c23 x F y := fun x F y => by kernel_rfl
theorem l23 : (ctxOf prog shs inls [(60, c60), (59, c59)] [(36, r36), (18, r18)]).ok := ctxOf_cons (ctxOf_cons (q36) (by kernel_rfl) ok59) (by kernel_rfl) ok60
theorem ok23 : c23.ok prog 23 := Ctr.of_den l23 hmix (hl := hints) (d := 4) func23 rfl (by decide) (e23 lpK jnK bridle_pull bridle_tension)

/-- slices.IndexFunc[[]loftblock api.Frac,loftblock api.Frac] -/
noncomputable def slices_IndexFunc_93_b (lp : Lp) (_ : Jn) (x0 : List (Int × Int)) (f0 : (((Int × Int) × Unit) → Option Bool)) : Option Int :=
  lp (Int × PUnit) Int (fun (again : Int × PUnit → Option Int) (x : Int × PUnit) => bif decide (x.fst < (↑(List.length x0) : Int)) then bif inB x.fst (List.length x0) then obind (f0
    (List.getD x0 (Int.toNat x.fst) ((0 : Int), (0 : Int)), PUnit.unit)) fun (t : Bool) => bif t then some x.fst else again (IntKind.wrap IntKind.i64 (x.fst + (1 : Int)), PUnit.unit) else
    none else some (-1 : Int)) ((0 : Int), PUnit.unit)
noncomputable def slices_IndexFunc_93 (x0 : List (Int × Int)) (f0 : (((Int × Int) × Unit) → Option Bool)) : Option Int := slices_IndexFunc_93_b lpK jnK x0 f0
noncomputable def c93 : Ctr := ⟨[(.sl T48)], [([T48], .bool)], [], .one i64, fun x F _ => slices_IndexFunc_93 x.1 F.1⟩
theorem e93 (lp : Lp) (jn : Jn) : ∀ (x : TsS c93.as) (F : TsF c93.fs) (y : TsS c93.cs), slices_IndexFunc_93_b lp jn x.1 F.1 = runC lp jn (ctxOf prog shs inls [] [(36, r36), (18, r18)]) hints 4 93 f93 c93 x F y := fun x F y => by kernel_rfl
theorem l93 : (ctxOf prog shs inls [] [(36, r36), (18, r18)]).ok := q36
theorem ok93 : c93.ok prog 93 := Ctr.of_den l93 hmix (hl := hints) (d := 4) func93 rfl (by decide) (e93 lpK jnK)

/-- slices.ContainsFunc[[]loftblock api.Frac,loftblock api.Frac] -/
noncomputable def slices_ContainsFunc_61_b (_ : Lp) (_ : Jn) (slices_IndexFunc_93 : (List (Int × Int)) → ((((Int × Int) × Unit) → Option Bool)) → Option (Int)) (x0 : List (Int × Int)) (f0 : (((Int × Int) × Unit) → Option Bool)) : Option Bool :=
  obind (slices_IndexFunc_93 x0 f0) fun (t : Int) => some (decide (t ≥ (0 : Int)))
noncomputable def slices_ContainsFunc_61 (x0 : List (Int × Int)) (f0 : (((Int × Int) × Unit) → Option Bool)) : Option Bool := slices_ContainsFunc_61_b lpK jnK slices_IndexFunc_93 x0 f0
noncomputable def c61 : Ctr := ⟨[(.sl T48)], [([T48], .bool)], [], .one .bool, fun x F _ => slices_ContainsFunc_61 x.1 F.1⟩
theorem e61 (lp : Lp) (jn : Jn) (slices_IndexFunc_93 : (List (Int × Int)) → ((((Int × Int) × Unit) → Option Bool)) → Option (Int)) : ∀ (x : TsS c61.as) (F : TsF c61.fs) (y : TsS c61.cs), slices_ContainsFunc_61_b lp jn slices_IndexFunc_93 x.1 F.1 = runC lp jn (ctxOf prog shs inls [(93, ⟨[(.sl T48)], [([T48], .bool)], [], .one i64, fun x F _ => slices_IndexFunc_93 x.1 F.1⟩)] [(36, r36), (18, r18)]) hints 4 61 f61 c61 x F y := fun x F y => by kernel_rfl
theorem l61 : (ctxOf prog shs inls [(93, c93)] [(36, r36), (18, r18)]).ok := ctxOf_cons (q36) (by kernel_rfl) ok93
theorem ok61 : c61.ok prog 61 := Ctr.of_den l61 hmix (hl := hints) (d := 4) func61 rfl (by decide) (e61 lpK jnK slices_IndexFunc_93)

/-- loftblock bridle.Within$1 -/
noncomputable def bridle_Within_1_b (_ : Lp) (_ : Jn) (x0 : Int × Int) : Option Bool :=
  some (decide (x0.fst < (0 : Int)))
noncomputable def bridle_Within_1 (x0 : Int × Int) : Option Bool := bridle_Within_1_b lpK jnK x0
noncomputable def c62 : Ctr := ⟨[T48], [], [], .one .bool, fun x _ _ => bridle_Within_1 x.1⟩
theorem e62 (lp : Lp) (jn : Jn) : ∀ (x : TsS c62.as) (F : TsF c62.fs) (y : TsS c62.cs), bridle_Within_1_b lp jn x.1 = runC lp jn (ctxOf prog shs inls [] [(36, r36), (18, r18)]) hints 4 62 f62 c62 x F y := fun x F y => by kernel_rfl
theorem l62 : (ctxOf prog shs inls [] [(36, r36), (18, r18)]).ok := q36
theorem ok62 : c62.ok prog 62 := Ctr.of_den l62 hmix (hl := hints) (d := 4) func62 rfl (by decide) (e62 lpK jnK)

/-- loftblock bridle.Within -/
noncomputable def bridle_Within_b (lp : Lp) (_ : Jn) (bridle_Pulls : ((Int × Int × Int) × Int × List (ByteArray × (Int × Int × Int) × Int)) → Option ((List (Int × Int)) × Int × Unit)) (bridle_tension : ((Int × Int × Int) × Int × List (ByteArray × (Int × Int × Int) × Int)) → (Int) → (Int × Int) → Option ((Int × Int) × Int × Unit)) (slices_ContainsFunc_61 : (List (Int × Int)) → ((((Int × Int) × Unit) → Option Bool)) → Option (Bool)) (bridle_Within_1 : (Int × Int) → Option (Bool)) (x0 : (Int × Int × Int) × Int × List (ByteArray × (Int × Int × Int) × Int)) : Option (Bool × Int × Unit) :=
  obind (bridle_Pulls x0) fun (t : List (Int × Int) × Int × PUnit) => bif !decide (t.snd.fst = (0 : Int)) then some (false, t.snd.fst, PUnit.unit) else obind (slices_ContainsFunc_61 t.fst fun
    (x : (Int × Int) × PUnit) => bridle_Within_1 x.fst) fun (t_1 : Bool) => bif t_1 then some (false, (0 : Int), PUnit.unit) else lp (Bool × Int × PUnit) (Bool × Int × PUnit) (fun (again :
    Bool × Int × PUnit → Option (Bool × Int × PUnit)) (x : Bool × Int × PUnit) =>
  let v7 : Bool := !x.fst;
  let v8 : Bool := v7 || x.fst; bif decide (x.snd.fst < (↑(List.length t.fst) : Int)) then bif inB x.snd.fst (List.length t.fst) then obind (bridle_tension x0 x.snd.fst (List.getD t.fst
    (Int.toNat x.snd.fst) ((0 : Int), (0 : Int)))) fun (t : (Int × Int) × Int × PUnit) => bif !decide (t.snd.fst = (0 : Int)) then some (false, t.snd.fst, PUnit.unit) else bif v8 then bif
    v8 then bif v8 && (v8 && (v7 || inB x.snd.fst (List.length x0.snd.snd))) then bif v8 then bif v8 then bif v8 && v8 then bif v8 then again (bif x.fst then decide (t.fst.snd ≤ (List.getD
    x0.snd.snd (Int.toNat x.snd.fst) ({ data := { toList := [] } }, ((0 : Int), (0 : Int), (0 : Int)), (0 : Int))).snd.snd) else false, IntKind.wrap IntKind.i64 (x.snd.fst + (1 : Int)),
    PUnit.unit) else none else none else none else none else none else none else none else none else some (x.fst, (0 : Int), PUnit.unit)) (true, (0 : Int), PUnit.unit)
noncomputable def bridle_Within (x0 : (Int × Int × Int) × Int × List (ByteArray × (Int × Int × Int) × Int)) : Option (Bool × Int × Unit) := bridle_Within_b lpK jnK bridle_Pulls bridle_tension slices_ContainsFunc_61 bridle_Within_1 x0
noncomputable def c24 : Ctr := ⟨[T26], [], [], .tup [.bool, i64], fun x _ _ => bridle_Within x.1⟩
theorem e24 (lp : Lp) (jn : Jn) (bridle_Pulls : ((Int × Int × Int) × Int × List (ByteArray × (Int × Int × Int) × Int)) → Option ((List (Int × Int)) × Int × Unit)) (bridle_tension : ((Int × Int × Int) × Int × List (ByteArray × (Int × Int × Int) × Int)) → (Int) → (Int × Int) → Option ((Int × Int) × Int × Unit)) (slices_ContainsFunc_61 : (List (Int × Int)) → ((((Int × Int) × Unit) → Option Bool)) → Option (Bool)) (bridle_Within_1 : (Int × Int) → Option (Bool)) : ∀ (x : TsS c24.as) (F : TsF c24.fs) (y : TsS c24.cs), bridle_Within_b lp jn bridle_Pulls bridle_tension slices_ContainsFunc_61 bridle_Within_1 x.1 = runC lp jn (ctxOf prog shs inls [(62, ⟨[T48], [], [], .one .bool, fun x _ _ => bridle_Within_1 x.1⟩), (61, ⟨[(.sl T48)], [([T48], .bool)], [], .one .bool, fun x F _ => slices_ContainsFunc_61 x.1 F.1⟩), (60, ⟨[T26, i64, T48], [], [], .tup [T30, i64], fun x _ _ => bridle_tension x.1 x.2.1 x.2.2.1⟩), (20, ⟨[T26], [], [], .tup [(.sl T48), i64], fun x _ _ => bridle_Pulls x.1⟩)] [(36, r36), (18, r18)]) hints 4 24 f24 c24 x F y := fun x F y => by kernel_rfl
theorem l24 : (ctxOf prog shs inls [(62, c62), (61, c61), (60, c60), (20, c20)] [(36, r36), (18, r18)]).ok := ctxOf_cons (ctxOf_cons (ctxOf_cons (ctxOf_cons (q36) (by kernel_rfl) ok20) (by kernel_rfl) ok60) (by kernel_rfl) ok61) (by kernel_rfl) ok62
theorem ok24 : c24.ok prog 24 := Ctr.of_den l24 hmix (hl := hints) (d := 4) func24 rfl (by decide) (e24 lpK jnK bridle_Pulls bridle_tension slices_ContainsFunc_61 bridle_Within_1)

/-- loftblock loftblocklaw18.example -/
noncomputable def law18_example_b (_ : Lp) (_ : Jn) : Option ((Int × Int × Int) × Int × List (ByteArray × (Int × Int × Int) × Int)) :=
  some (((0 : Int), (0 : Int), (0 : Int)), (1000 : Int), [({ data := #[(97 : UInt8)] }, ((-4000 : Int), (0 : Int), (3000 : Int)), (900 : Int)), ({ data := #[(98 : UInt8)] }, ((4000 : Int), (0
    : Int), (3000 : Int)), (834 : Int))])
noncomputable def law18_example : Option ((Int × Int × Int) × Int × List (ByteArray × (Int × Int × Int) × Int)) := law18_example_b lpK jnK
noncomputable def c37 : Ctr := ⟨[], [], [], .one T26, fun _ _ _ => law18_example⟩
theorem e37 (lp : Lp) (jn : Jn) : ∀ (x : TsS c37.as) (F : TsF c37.fs) (y : TsS c37.cs), law18_example_b lp jn = runC lp jn (ctxOf prog shs inls [] [(36, r36), (18, r18)]) hints 4 37 f37 c37 x F y := fun x F y => by kernel_rfl
theorem l37 : (ctxOf prog shs inls [] [(36, r36), (18, r18)]).ok := q36
theorem ok37 : c37.ok prog 37 := Ctr.of_den l37 hmix (hl := hints) (d := 4) func37 rfl (by decide) (e37 lpK jnK)

/-- slices.Equal[[]loftblock api.Frac,loftblock api.Frac] -/
noncomputable def slices_Equal_38_b (lp : Lp) (_ : Jn) (x0 : List (Int × Int)) (x1 : List (Int × Int)) : Option Bool :=
  bif !decide ((↑(List.length x0) : Int) = (↑(List.length x1) : Int)) then some false else lp (Int × PUnit) Bool (fun (again : Int × PUnit → Option Bool) (x : Int × PUnit) => bif decide
    (x.fst < (↑(List.length x0) : Int)) then bif inB x.fst (List.length x0) then bif inB x.fst (List.length x1) then bif !(decide ((List.getD x0 (Int.toNat x.fst) ((0 : Int), (0 :
    Int))).fst = (List.getD x1 (Int.toNat x.fst) ((0 : Int), (0 : Int))).fst) && (decide ((List.getD x0 (Int.toNat x.fst) ((0 : Int), (0 : Int))).snd = (List.getD x1 (Int.toNat x.fst) ((0 :
    Int), (0 : Int))).snd) && true)) then some false else again (IntKind.wrap IntKind.i64 (x.fst + (1 : Int)), PUnit.unit) else none else none else some true) ((0 : Int), PUnit.unit)
noncomputable def slices_Equal_38 (x0 : List (Int × Int)) (x1 : List (Int × Int)) : Option Bool := slices_Equal_38_b lpK jnK x0 x1
noncomputable def c38 : Ctr := ⟨[(.sl T48), (.sl T48)], [], [], .one .bool, fun x _ _ => slices_Equal_38 x.1 x.2.1⟩
theorem e38 (lp : Lp) (jn : Jn) : ∀ (x : TsS c38.as) (F : TsF c38.fs) (y : TsS c38.cs), slices_Equal_38_b lp jn x.1 x.2.1 = runC lp jn (ctxOf prog shs inls [] [(36, r36), (18, r18)]) hints 4 38 f38 c38 x F y := fun x F y => by kernel_rfl
theorem l38 : (ctxOf prog shs inls [] [(36, r36), (18, r18)]).ok := q36
theorem ok38 : c38.ok prog 38 := Ctr.of_den l38 hmix (hl := hints) (d := 4) func38 rfl (by decide) (e38 lpK jnK)

/-- loftblock loftblocklaw18.awake -/
noncomputable def law18_awake_b (_ : Lp) (_ : Jn) (bridle_Length : ((Int × Int × Int) × Int × List (ByteArray × (Int × Int × Int) × Int)) → (ByteArray) → Option ((Int × Int) × Int × Unit)) (bridle_Pulls : ((Int × Int × Int) × Int × List (ByteArray × (Int × Int × Int) × Int)) → Option ((List (Int × Int)) × Int × Unit)) (bridle_Tension : ((Int × Int × Int) × Int × List (ByteArray × (Int × Int × Int) × Int)) → (ByteArray) → Option ((Int × Int) × Int × Unit)) (bridle_Within : ((Int × Int × Int) × Int × List (ByteArray × (Int × Int × Int) × Int)) → Option (Bool × Int × Unit)) (law18_example : Option ((Int × Int × Int) × Int × List (ByteArray × (Int × Int × Int) × Int))) (slices_Equal_38 : (List (Int × Int)) → (List (Int × Int)) → Option (Bool)) : Option Bool :=
  obind law18_example fun (t : (Int × Int × Int) × Int × List (ByteArray × (Int × Int × Int) × Int)) => obind (bridle_Pulls t) fun (t : List (Int × Int) × Int × PUnit) =>
  let v4 : Bool := decide (t.snd.fst = (0 : Int));
  let v5 : Bool := !v4 || v4;
  let v6 : Bool := v5 && v5; obind law18_example fun (t_1 : (Int × Int × Int) × Int × List (ByteArray × (Int × Int × Int) × Int)) => obind (bridle_Tension t_1 { data := { toList := [{
    toBitVec := { toFin := ⟨(98 : Nat), Nat.mod_lt (98 : Nat) (BitVec.ofNat._proof_1 (8 : Nat))⟩ } }] } }) fun (t_2 : (Int × Int) × Int × PUnit) => obind law18_example fun (t_3 : (Int × Int
    × Int) × Int × List (ByteArray × (Int × Int × Int) × Int)) => obind (bridle_Length t_3 { data := { toList := [{ toBitVec := { toFin := ⟨(97 : Nat), Nat.mod_lt (97 : Nat)
    (BitVec.ofNat._proof_1 (8 : Nat))⟩ } }] } }) fun (t_4 : (Int × Int) × Int × PUnit) => obind law18_example fun (t_5 : (Int × Int × Int) × Int × List (ByteArray × (Int × Int × Int) ×
    Int)) => obind (bridle_Within t_5) fun (t_6 : Bool × Int × PUnit) => bif v6 then bif v6 then obind (bif v4 then slices_Equal_38 t.fst [((1 : Int), (6 : Int)), ((1 : Int), (6 : Int))]
    else some false) fun (t : Bool) =>
  let v14 : Bool := bif v4 then t else false;
  let v15 : Bool := !v14 || v14;
  let v16 : Bool := bif v14 then decide (t_2.snd.fst = (0 : Int)) else false;
  let v17 : Bool := !v16 || v16;
  let v18 : Bool := bif v16 then decide (t_2.fst.fst = (833 : Int)) && (decide (t_2.fst.snd = (834 : Int)) && true) else false;
  let v19 : Bool := bif v18 then decide (t_4.snd.fst = (0 : Int)) else false;
  let v20 : Bool := bif v19 then decide (t_4.fst.fst = (5000000 : Int)) && (decide (t_4.fst.snd = (5000000 : Int)) && true) else false;
  let v21 : Bool := !v18 || v18;
  let v22 : Bool := bif v20 then decide (t_6.snd.fst = (0 : Int)) else false;
  let v23 : Bool := !v19 || v19;
  let v24 : Bool := !v20 || v20; bif v5 then bif v15 then bif v15 then bif v17 && v17 then bif v17 then bif v21 then bif v21 then bif v23 && v23 then bif v23 then bif v24 then bif v24 then
    bif !v22 || v22 then some (bif v22 then t_6.fst else false) else none else none else none else none else none else none else none else none else none else none else none else none else
    none else none
noncomputable def law18_awake : Option Bool := law18_awake_b lpK jnK bridle_Length bridle_Pulls bridle_Tension bridle_Within law18_example slices_Equal_38
noncomputable def c9 : Ctr := ⟨[], [], [], .one .bool, fun _ _ _ => law18_awake⟩
theorem e9 (lp : Lp) (jn : Jn) (bridle_Length : ((Int × Int × Int) × Int × List (ByteArray × (Int × Int × Int) × Int)) → (ByteArray) → Option ((Int × Int) × Int × Unit)) (bridle_Pulls : ((Int × Int × Int) × Int × List (ByteArray × (Int × Int × Int) × Int)) → Option ((List (Int × Int)) × Int × Unit)) (bridle_Tension : ((Int × Int × Int) × Int × List (ByteArray × (Int × Int × Int) × Int)) → (ByteArray) → Option ((Int × Int) × Int × Unit)) (bridle_Within : ((Int × Int × Int) × Int × List (ByteArray × (Int × Int × Int) × Int)) → Option (Bool × Int × Unit)) (law18_example : Option ((Int × Int × Int) × Int × List (ByteArray × (Int × Int × Int) × Int))) (slices_Equal_38 : (List (Int × Int)) → (List (Int × Int)) → Option (Bool)) : ∀ (x : TsS c9.as) (F : TsF c9.fs) (y : TsS c9.cs), law18_awake_b lp jn bridle_Length bridle_Pulls bridle_Tension bridle_Within law18_example slices_Equal_38 = runC lp jn (ctxOf prog shs inls [(38, ⟨[(.sl T48), (.sl T48)], [], [], .one .bool, fun x _ _ => slices_Equal_38 x.1 x.2.1⟩), (37, ⟨[], [], [], .one T26, fun _ _ _ => law18_example⟩), (24, ⟨[T26], [], [], .tup [.bool, i64], fun x _ _ => bridle_Within x.1⟩), (23, ⟨[T26, .str], [], [], .tup [T30, i64], fun x _ _ => bridle_Tension x.1 x.2.1⟩), (20, ⟨[T26], [], [], .tup [(.sl T48), i64], fun x _ _ => bridle_Pulls x.1⟩), (11, ⟨[T26, .str], [], [], .tup [T30, i64], fun x _ _ => bridle_Length x.1 x.2.1⟩)] [(36, r36), (18, r18)]) hints 4 9 f9 c9 x F y := fun x F y => by kernel_rfl
theorem l9 : (ctxOf prog shs inls [(38, c38), (37, c37), (24, c24), (23, c23), (20, c20), (11, c11)] [(36, r36), (18, r18)]).ok := ctxOf_cons (ctxOf_cons (ctxOf_cons (ctxOf_cons (ctxOf_cons (ctxOf_cons (q36) (by kernel_rfl) ok11) (by kernel_rfl) ok20) (by kernel_rfl) ok23) (by kernel_rfl) ok24) (by kernel_rfl) ok37) (by kernel_rfl) ok38
theorem ok9 : c9.ok prog 9 := Ctr.of_den l9 hmix (hl := hints) (d := 4) func9 rfl (by decide) (e9 lpK jnK bridle_Length bridle_Pulls bridle_Tension bridle_Within law18_example slices_Equal_38)

/-- slices.ContainsFunc[[]loftblock api.Leg,loftblock api.Leg] -/
noncomputable def slices_ContainsFunc_39_b (_ : Lp) (_ : Jn) (slices_IndexFunc_76 : (List (ByteArray × (Int × Int × Int) × Int)) → ((((ByteArray × (Int × Int × Int) × Int) × Unit) → Option Bool)) → Option (Int)) (x0 : List (ByteArray × (Int × Int × Int) × Int)) (f0 : (((ByteArray × (Int × Int × Int) × Int) × Unit) → Option Bool)) : Option Bool :=
  obind (slices_IndexFunc_76 x0 f0) fun (t : Int) => some (decide (t ≥ (0 : Int)))
noncomputable def slices_ContainsFunc_39 (x0 : List (ByteArray × (Int × Int × Int) × Int)) (f0 : (((ByteArray × (Int × Int × Int) × Int) × Unit) → Option Bool)) : Option Bool := slices_ContainsFunc_39_b lpK jnK slices_IndexFunc_76 x0 f0
noncomputable def c39 : Ctr := ⟨[(.sl T39)], [([T39], .bool)], [], .one .bool, fun x F _ => slices_ContainsFunc_39 x.1 F.1⟩
theorem e39 (lp : Lp) (jn : Jn) (slices_IndexFunc_76 : (List (ByteArray × (Int × Int × Int) × Int)) → ((((ByteArray × (Int × Int × Int) × Int) × Unit) → Option Bool)) → Option (Int)) : ∀ (x : TsS c39.as) (F : TsF c39.fs) (y : TsS c39.cs), slices_ContainsFunc_39_b lp jn slices_IndexFunc_76 x.1 F.1 = runC lp jn (ctxOf prog shs inls [(76, ⟨[(.sl T39)], [([T39], .bool)], [], .one i64, fun x F _ => slices_IndexFunc_76 x.1 F.1⟩)] [(36, r36), (18, r18)]) hints 4 39 f39 c39 x F y := fun x F y => by kernel_rfl
theorem l39 : (ctxOf prog shs inls [(76, c76)] [(36, r36), (18, r18)]).ok := ctxOf_cons (q36) (by kernel_rfl) ok76
theorem ok39 : c39.ok prog 39 := Ctr.of_den l39 hmix (hl := hints) (d := 4) func39 rfl (by decide) (e39 lpK jnK slices_IndexFunc_76)

/-- loftblock loftblocklaw18.long$1 -/
noncomputable def law18_long_1_b (_ : Lp) (_ : Jn) (x0 : ByteArray × (Int × Int × Int) × Int) : Option Bool :=
  some (decide ((↑(ByteArray.size x0.fst) : Int) > (100 : Int)))
noncomputable def law18_long_1 (x0 : ByteArray × (Int × Int × Int) × Int) : Option Bool := law18_long_1_b lpK jnK x0
noncomputable def c40 : Ctr := ⟨[T39], [], [], .one .bool, fun x _ _ => law18_long_1 x.1⟩
theorem e40 (lp : Lp) (jn : Jn) : ∀ (x : TsS c40.as) (F : TsF c40.fs) (y : TsS c40.cs), law18_long_1_b lp jn x.1 = runC lp jn (ctxOf prog shs inls [] [(36, r36), (18, r18)]) hints 4 40 f40 c40 x F y := fun x F y => by kernel_rfl
theorem l40 : (ctxOf prog shs inls [] [(36, r36), (18, r18)]).ok := q36
theorem ok40 : c40.ok prog 40 := Ctr.of_den l40 hmix (hl := hints) (d := 4) func40 rfl (by decide) (e40 lpK jnK)

/-- loftblock loftblocklaw18.long -/
noncomputable def law18_long_b (_ : Lp) (_ : Jn) (slices_ContainsFunc_39 : (List (ByteArray × (Int × Int × Int) × Int)) → ((((ByteArray × (Int × Int × Int) × Int) × Unit) → Option Bool)) → Option (Bool)) (law18_long_1 : (ByteArray × (Int × Int × Int) × Int) → Option (Bool)) (x0 : (Int × Int × Int) × Int × List (ByteArray × (Int × Int × Int) × Int)) : Option Bool :=
  
  let v3 : Bool := decide ((↑(List.length x0.snd.snd) : Int) > (10 : Int));
  let v4 : Bool := !v3;
  let v5 : Bool := !v4 || v4; bif v5 then bif v5 then obind (bif v4 then slices_ContainsFunc_39 x0.snd.snd fun (x : (ByteArray × (Int × Int × Int) × Int) × PUnit) => law18_long_1 x.fst else
    some false) fun (t : Bool) => bif v3 || v4 then some (bif v3 then true else t) else none else none else none
noncomputable def law18_long (x0 : (Int × Int × Int) × Int × List (ByteArray × (Int × Int × Int) × Int)) : Option Bool := law18_long_b lpK jnK slices_ContainsFunc_39 law18_long_1 x0
noncomputable def c10 : Ctr := ⟨[T26], [], [], .one .bool, fun x _ _ => law18_long x.1⟩
theorem e10 (lp : Lp) (jn : Jn) (slices_ContainsFunc_39 : (List (ByteArray × (Int × Int × Int) × Int)) → ((((ByteArray × (Int × Int × Int) × Int) × Unit) → Option Bool)) → Option (Bool)) (law18_long_1 : (ByteArray × (Int × Int × Int) × Int) → Option (Bool)) : ∀ (x : TsS c10.as) (F : TsF c10.fs) (y : TsS c10.cs), law18_long_b lp jn slices_ContainsFunc_39 law18_long_1 x.1 = runC lp jn (ctxOf prog shs inls [(40, ⟨[T39], [], [], .one .bool, fun x _ _ => law18_long_1 x.1⟩), (39, ⟨[(.sl T39)], [([T39], .bool)], [], .one .bool, fun x F _ => slices_ContainsFunc_39 x.1 F.1⟩)] [(36, r36), (18, r18)]) hints 4 10 f10 c10 x F y := fun x F y => by kernel_rfl
theorem l10 : (ctxOf prog shs inls [(40, c40), (39, c39)] [(36, r36), (18, r18)]).ok := ctxOf_cons (ctxOf_cons (q36) (by kernel_rfl) ok39) (by kernel_rfl) ok40
theorem ok10 : c10.ok prog 10 := Ctr.of_den l10 hmix (hl := hints) (d := 4) func10 rfl (by decide) (e10 lpK jnK slices_ContainsFunc_39 law18_long_1)

/-- loftblock loftblockref18.Find -/
noncomputable def ref18_Find_b (lp : Lp) (_ : Jn) (x0 : (Int × Int × Int) × Int × List (ByteArray × (Int × Int × Int) × Int)) (x1 : ByteArray) : Option Int :=
  lp (Int × PUnit) Int (fun (again : Int × PUnit → Option Int) (x : Int × PUnit) => bif decide (x.fst < (↑(List.length x0.snd.snd) : Int)) then bif inB x.fst (List.length x0.snd.snd) then bif
    List.beq (ByteArray.toList (List.getD x0.snd.snd (Int.toNat x.fst) ({ data := { toList := [] } }, ((0 : Int), (0 : Int), (0 : Int)), (0 : Int))).fst) (ByteArray.toList x1) then some
    x.fst else again (IntKind.wrap IntKind.i64 (x.fst + (1 : Int)), PUnit.unit) else none else some (-1 : Int)) ((0 : Int), PUnit.unit)
noncomputable def ref18_Find (x0 : (Int × Int × Int) × Int × List (ByteArray × (Int × Int × Int) × Int)) (x1 : ByteArray) : Option Int := ref18_Find_b lpK jnK x0 x1
noncomputable def c16 : Ctr := ⟨[T26, .str], [], [], .one i64, fun x _ _ => ref18_Find x.1 x.2.1⟩
theorem e16 (lp : Lp) (jn : Jn) : ∀ (x : TsS c16.as) (F : TsF c16.fs) (y : TsS c16.cs), ref18_Find_b lp jn x.1 x.2.1 = runC lp jn (ctxOf prog shs inls [] [(36, r36), (18, r18)]) hints 4 16 f16 c16 x F y := fun x F y => by kernel_rfl
theorem l16 : (ctxOf prog shs inls [] [(36, r36), (18, r18)]).ok := q36
theorem ok16 : c16.ok prog 16 := Ctr.of_den l16 hmix (hl := hints) (d := 4) func16 rfl (by decide) (e16 lpK jnK)

/-- loftblock loftblockref18.Arm -/
noncomputable def ref18_Arm_b (_ : Lp) (_ : Jn) (x0 : (Int × Int × Int) × Int × List (ByteArray × (Int × Int × Int) × Int)) (x1 : Int) : Option (Int × Int × Int) :=
  bif inB x1 (List.length x0.snd.snd) then some (IntKind.wrap IntKind.i64 ((List.getD x0.snd.snd (Int.toNat x1) ({ data := { toList := [] } }, ((0 : Int), (0 : Int), (0 : Int)), (0 :
    Int))).snd.fst.fst - x0.fst.fst), IntKind.wrap IntKind.i64 ((List.getD x0.snd.snd (Int.toNat x1) ({ data := { toList := [] } }, ((0 : Int), (0 : Int), (0 : Int)), (0 :
    Int))).snd.fst.snd.fst - x0.fst.snd.fst), IntKind.wrap IntKind.i64 ((List.getD x0.snd.snd (Int.toNat x1) ({ data := { toList := [] } }, ((0 : Int), (0 : Int), (0 : Int)), (0 :
    Int))).snd.fst.snd.snd - x0.fst.snd.snd)) else none
noncomputable def ref18_Arm (x0 : (Int × Int × Int) × Int × List (ByteArray × (Int × Int × Int) × Int)) (x1 : Int) : Option (Int × Int × Int) := ref18_Arm_b lpK jnK x0 x1
noncomputable def c19 : Ctr := ⟨[T26, i64], [], [], .one T40, fun x _ _ => ref18_Arm x.1 x.2.1⟩
theorem e19 (lp : Lp) (jn : Jn) : ∀ (x : TsS c19.as) (F : TsF c19.fs) (y : TsS c19.cs), ref18_Arm_b lp jn x.1 x.2.1 = runC lp jn (ctxOf prog shs inls [] [(36, r36), (18, r18)]) hints 4 19 f19 c19 x F y := fun x F y => by kernel_rfl
theorem l19 : (ctxOf prog shs inls [] [(36, r36), (18, r18)]).ok := q36
theorem ok19 : c19.ok prog 19 := Ctr.of_den l19 hmix (hl := hints) (d := 4) func19 rfl (by decide) (e19 lpK jnK)

/-- loftblock loftblockref09.within -/
noncomputable def ref09_within_b (_ : Lp) (_ : Jn) (x0 : Int) : Option Bool :=
  
  let v3 : Bool := decide (x0 ≥ (-1048576 : Int));
  let v4 : Bool := !v3 || v3; bif v4 then bif v4 then some (bif v3 then decide (x0 ≤ (1048576 : Int)) else false) else none else none
noncomputable def ref09_within (x0 : Int) : Option Bool := ref09_within_b lpK jnK x0
noncomputable def c80 : Ctr := ⟨[i64], [], [], .one .bool, fun x _ _ => ref09_within x.1⟩
theorem e80 (lp : Lp) (jn : Jn) : ∀ (x : TsS c80.as) (F : TsF c80.fs) (y : TsS c80.cs), ref09_within_b lp jn x.1 = runC lp jn (ctxOf prog shs inls [] [(36, r36), (18, r18)]) hints 4 80 f80 c80 x F y := fun x F y => by kernel_rfl
theorem l80 : (ctxOf prog shs inls [] [(36, r36), (18, r18)]).ok := q36
theorem ok80 : c80.ok prog 80 := Ctr.of_den l80 hmix (hl := hints) (d := 4) func80 rfl (by decide) (e80 lpK jnK)

/-- loftblock loftblockref09.Valid -/
noncomputable def ref09_Valid_b (_ : Lp) (_ : Jn) (ref09_within : (Int) → Option (Bool)) (x0 : Int × Int × Int) : Option Bool :=
  obind (ref09_within x0.fst) fun (t : Bool) =>
  let v4 : Bool := !t || t; bif v4 then bif v4 then obind (bif t then ref09_within x0.snd.fst else some false) fun (t_1 : Bool) =>
  let v6 : Bool := bif t then t_1 else false;
  let v7 : Bool := !v6 || v6; bif v4 then bif v7 then bif v7 then obind (bif v6 then ref09_within x0.snd.snd else some false) fun (t : Bool) => bif v7 then some (bif v6 then t else false)
    else none else none else none else none else none else none
noncomputable def ref09_Valid (x0 : Int × Int × Int) : Option Bool := ref09_Valid_b lpK jnK ref09_within x0
noncomputable def c48 : Ctr := ⟨[T23], [], [], .one .bool, fun x _ _ => ref09_Valid x.1⟩
theorem e48 (lp : Lp) (jn : Jn) (ref09_within : (Int) → Option (Bool)) : ∀ (x : TsS c48.as) (F : TsF c48.fs) (y : TsS c48.cs), ref09_Valid_b lp jn ref09_within x.1 = runC lp jn (ctxOf prog shs inls [(80, ⟨[i64], [], [], .one .bool, fun x _ _ => ref09_within x.1⟩)] [(36, r36), (18, r18)]) hints 4 48 f48 c48 x F y := fun x F y => by kernel_rfl
theorem l48 : (ctxOf prog shs inls [(80, c80)] [(36, r36), (18, r18)]).ok := ctxOf_cons (q36) (by kernel_rfl) ok80
theorem ok48 : c48.ok prog 48 := Ctr.of_den l48 hmix (hl := hints) (d := 4) func48 rfl (by decide) (e48 lpK jnK ref09_within)

/-- loftblock loftblockref01.Letter -/
noncomputable def ref01_Letter_b (_ : Lp) (_ : Jn) (x0 : Int) : Option Bool :=
  
  let v3 : Bool := decide (x0 ≥ (97 : Int));
  let v4 : Bool := decide (x0 ≥ (65 : Int));
  let v5 : Bool := !v3 || v3;
  let v6 : Bool := bif v3 then decide (x0 ≤ (122 : Int)) else false;
  let v7 : Bool := !v6;
  let v8 : Bool := !v7;
  let v9 : Bool := v7 && v4;
  let v10 : Bool := v8 || v7; bif v5 then bif v5 then bif v10 then bif v10 then bif !v9 || v9 then bif (v8 || v10) && (v8 || (!v4 || (v8 || v9))) then bif v6 || v7 then some (bif v6 then
    true else bif v4 then decide (x0 ≤ (90 : Int)) else false) else none else none else none else none else none else none else none
noncomputable def ref01_Letter (x0 : Int) : Option Bool := ref01_Letter_b lpK jnK x0
noncomputable def c81 : Ctr := ⟨[(.int .u8)], [], [], .one .bool, fun x _ _ => ref01_Letter x.1⟩
theorem e81 (lp : Lp) (jn : Jn) : ∀ (x : TsS c81.as) (F : TsF c81.fs) (y : TsS c81.cs), ref01_Letter_b lp jn x.1 = runC lp jn (ctxOf prog shs inls [] [(36, r36), (18, r18)]) hints 4 81 f81 c81 x F y := fun x F y => by kernel_rfl
theorem l81 : (ctxOf prog shs inls [] [(36, r36), (18, r18)]).ok := q36
theorem ok81 : c81.ok prog 81 := Ctr.of_den l81 hmix (hl := hints) (d := 4) func81 rfl (by decide) (e81 lpK jnK)

/-- loftblock loftblockref01.Digit -/
noncomputable def ref01_Digit_b (_ : Lp) (_ : Jn) (x0 : Int) : Option Bool :=
  
  let v3 : Bool := decide (x0 ≥ (48 : Int));
  let v4 : Bool := !v3 || v3; bif v4 then bif v4 then some (bif v3 then decide (x0 ≤ (57 : Int)) else false) else none else none
noncomputable def ref01_Digit (x0 : Int) : Option Bool := ref01_Digit_b lpK jnK x0
noncomputable def c108 : Ctr := ⟨[(.int .u8)], [], [], .one .bool, fun x _ _ => ref01_Digit x.1⟩
theorem e108 (lp : Lp) (jn : Jn) : ∀ (x : TsS c108.as) (F : TsF c108.fs) (y : TsS c108.cs), ref01_Digit_b lp jn x.1 = runC lp jn (ctxOf prog shs inls [] [(36, r36), (18, r18)]) hints 4 108 f108 c108 x F y := fun x F y => by kernel_rfl
theorem l108 : (ctxOf prog shs inls [] [(36, r36), (18, r18)]).ok := q36
theorem ok108 : c108.ok prog 108 := Ctr.of_den l108 hmix (hl := hints) (d := 4) func108 rfl (by decide) (e108 lpK jnK)

/-- loftblock loftblockref01.word -/
noncomputable def ref01_word_b (lp : Lp) (_ : Jn) (ref01_Letter : (Int) → Option (Bool)) (ref01_Digit : (Int) → Option (Bool)) (x0 : ByteArray) (x1 : Int) : Option Int :=
  lp (Int × PUnit) Int (fun (again : Int × PUnit → Option Int) (x : Int × PUnit) =>
  let v6 : Bool := inB x.fst (ByteArray.size x0);
  let v7 : Int := byteAt x0 (Int.toNat x.fst);
  let v8 : Bool := decide (x.fst < (↑(ByteArray.size x0) : Int));
  let v9 : Bool := !v8;
  let v10 : Bool := v9 || v8;
  let v11 : Bool := v9 || v10; bif v10 && (v10 && (v9 || v6)) then bif v10 then obind (bif v8 then ref01_Letter v7 else some false) fun (t : Bool) =>
  let v13 : Bool := v8 && !t;
  let v14 : Bool := !v13;
  let v15 : Bool := v14 || v13; bif v10 then bif v15 && (v15 && (v14 || v6)) then bif v15 then obind (bif v13 then ref01_Digit v7 else some false) fun (t_1 : Bool) =>
  let v17 : Bool := bif t then true else t_1;
  let v18 : Bool := v8 && !v17;
  let v19 : Bool := !v18;
  let v20 : Bool := v19 || v18; bif v11 && (v9 || (t || (v9 || v13))) then bif v10 then bif v20 && (v20 && (v19 || v6)) then bif v20 then bif v11 && (v9 || (v17 || (v9 || v18))) then bif
    v10 then bif bif v8 then bif v17 then true else decide (v7 = (95 : Int)) else false then again (IntKind.wrap IntKind.i64 (x.fst + (1 : Int)), PUnit.unit) else some x.fst else none else
    none else none else none else none else none else none else none else none else none else none) (x1, PUnit.unit)
noncomputable def ref01_word (x0 : ByteArray) (x1 : Int) : Option Int := ref01_word_b lpK jnK ref01_Letter ref01_Digit x0 x1
noncomputable def c82 : Ctr := ⟨[.str, i64], [], [], .one i64, fun x _ _ => ref01_word x.1 x.2.1⟩
theorem e82 (lp : Lp) (jn : Jn) (ref01_Letter : (Int) → Option (Bool)) (ref01_Digit : (Int) → Option (Bool)) : ∀ (x : TsS c82.as) (F : TsF c82.fs) (y : TsS c82.cs), ref01_word_b lp jn ref01_Letter ref01_Digit x.1 x.2.1 = runC lp jn (ctxOf prog shs inls [(108, ⟨[(.int .u8)], [], [], .one .bool, fun x _ _ => ref01_Digit x.1⟩), (81, ⟨[(.int .u8)], [], [], .one .bool, fun x _ _ => ref01_Letter x.1⟩)] [(36, r36), (18, r18)]) hints 4 82 f82 c82 x F y := fun x F y => by kernel_rfl
theorem l82 : (ctxOf prog shs inls [(108, c108), (81, c81)] [(36, r36), (18, r18)]).ok := ctxOf_cons (ctxOf_cons (q36) (by kernel_rfl) ok81) (by kernel_rfl) ok108
theorem ok82 : c82.ok prog 82 := Ctr.of_den l82 hmix (hl := hints) (d := 4) func82 rfl (by decide) (e82 lpK jnK ref01_Letter ref01_Digit)

/-- loftblock loftblockref01.IsName -/
noncomputable def ref01_IsName_b (_ : Lp) (_ : Jn) (ref01_Letter : (Int) → Option (Bool)) (ref01_word : (ByteArray) → (Int) → Option (Int)) (x0 : ByteArray) : Option Bool :=
  
  let v3 : Bool := decide ((↑(ByteArray.size x0) : Int) = (0 : Int));
  let v4 : Bool := !v3;
  let v5 : Bool := !v4 || v4;
  let v6 : Bool := bif v3 then true else decide ((↑(ByteArray.size x0) : Int) > (20 : Int));
  let v7 : Bool := !v6;
  let v8 : Bool := !v7;
  let v9 : Bool := v8 || v7; bif v5 then bif v5 then bif v3 || v4 then bif v9 && (v8 || inB (0 : Int) (ByteArray.size x0)) then bif v9 then obind (bif v7 then ref01_Letter (byteAt x0 (0 :
    Nat)) else some false) fun (t : Bool) => bif v9 then bif v6 || v7 then bif bif v6 then true else !t then some false else obind (ref01_word x0 (0 : Int)) fun (t : Int) => some (decide (t
    = (↑(ByteArray.size x0) : Int))) else none else none else none else none else none else none else none
noncomputable def ref01_IsName (x0 : ByteArray) : Option Bool := ref01_IsName_b lpK jnK ref01_Letter ref01_word x0
noncomputable def c49 : Ctr := ⟨[.str], [], [], .one .bool, fun x _ _ => ref01_IsName x.1⟩
theorem e49 (lp : Lp) (jn : Jn) (ref01_Letter : (Int) → Option (Bool)) (ref01_word : (ByteArray) → (Int) → Option (Int)) : ∀ (x : TsS c49.as) (F : TsF c49.fs) (y : TsS c49.cs), ref01_IsName_b lp jn ref01_Letter ref01_word x.1 = runC lp jn (ctxOf prog shs inls [(82, ⟨[.str, i64], [], [], .one i64, fun x _ _ => ref01_word x.1 x.2.1⟩), (81, ⟨[(.int .u8)], [], [], .one .bool, fun x _ _ => ref01_Letter x.1⟩)] [(36, r36), (18, r18)]) hints 4 49 f49 c49 x F y := fun x F y => by kernel_rfl
theorem l49 : (ctxOf prog shs inls [(82, c82), (81, c81)] [(36, r36), (18, r18)]).ok := ctxOf_cons (ctxOf_cons (q36) (by kernel_rfl) ok81) (by kernel_rfl) ok82
theorem ok49 : c49.ok prog 49 := Ctr.of_den l49 hmix (hl := hints) (d := 4) func49 rfl (by decide) (e49 lpK jnK ref01_Letter ref01_word)

/-- loftblock loftblockref18.short -/
noncomputable def ref18_short_b (_ : Lp) (_ : Jn) (x0 : Int) : Option Bool :=
  
  let v3 : Bool := decide (x0 ≥ (-32768 : Int));
  let v4 : Bool := !v3 || v3; bif v4 then bif v4 then some (bif v3 then decide (x0 ≤ (32768 : Int)) else false) else none else none
noncomputable def ref18_short (x0 : Int) : Option Bool := ref18_short_b lpK jnK x0
noncomputable def c50 : Ctr := ⟨[i64], [], [], .one .bool, fun x _ _ => ref18_short x.1⟩
theorem e50 (lp : Lp) (jn : Jn) : ∀ (x : TsS c50.as) (F : TsF c50.fs) (y : TsS c50.cs), ref18_short_b lp jn x.1 = runC lp jn (ctxOf prog shs inls [] [(36, r36), (18, r18)]) hints 4 50 f50 c50 x F y := fun x F y => by kernel_rfl
theorem l50 : (ctxOf prog shs inls [] [(36, r36), (18, r18)]).ok := q36
theorem ok50 : c50.ok prog 50 := Ctr.of_den l50 hmix (hl := hints) (d := 4) func50 rfl (by decide) (e50 lpK jnK)

/-- loftblock loftblockref18.Valid -/
noncomputable def ref18_Valid_b (lp : Lp) (_ : Jn) (ref18_Find : ((Int × Int × Int) × Int × List (ByteArray × (Int × Int × Int) × Int)) → (ByteArray) → Option (Int)) (ref18_Arm : ((Int × Int × Int) × Int × List (ByteArray × (Int × Int × Int) × Int)) → (Int) → Option (Int × Int × Int)) (ref09_Valid : (Int × Int × Int) → Option (Bool)) (ref01_IsName : (ByteArray) → Option (Bool)) (ref18_short : (Int) → Option (Bool)) (x0 : (Int × Int × Int) × Int × List (ByteArray × (Int × Int × Int) × Int)) : Option Bool :=
  obind (ref09_Valid x0.fst) fun (t : Bool) =>
  let v4 : Bool := !t;
  let v5 : Bool := !v4;
  let v6 : Bool := !v5 || v5;
  let v7 : Bool := bif v4 then true else decide (x0.snd.fst < (0 : Int));
  let v8 : Bool := !v7;
  let v9 : Bool := bif v7 then true else decide (x0.snd.fst > (67108864 : Int));
  let v10 : Bool := !v9;
  let v11 : Bool := !v8 || v8;
  let v12 : Bool := bif v9 then true else decide ((↑(List.length x0.snd.snd) : Int) < (1 : Int));
  let v13 : Bool := !v12;
  let v14 : Bool := !v10 || v10;
  let v15 : Bool := !v13 || v13; bif v6 then bif v6 then bif v4 || v5 then bif v11 then bif v11 then bif v7 || v8 then bif v14 then bif v14 then bif v14 then bif v9 || v10 then bif v15 then
    bif v15 then bif v15 then bif v12 || v13 then bif bif v12 then true else decide ((↑(List.length x0.snd.snd) : Int) > (3 : Int)) then some false else lp (Int × PUnit) Bool (fun (again :
    Int × PUnit → Option Bool) (x : Int × PUnit) =>
  let v18 : ByteArray × (Int × Int × Int) × Int := List.getD x0.snd.snd (Int.toNat x.fst) ({ data := { toList := [] } }, ((0 : Int), (0 : Int), (0 : Int)), (0 : Int)); bif decide (x.fst <
    (↑(List.length x0.snd.snd) : Int)) then bif inB x.fst (List.length x0.snd.snd) then obind (ref01_IsName v18.fst) fun (t : Bool) =>
  let v20 : Bool := !t;
  let v21 : Bool := !v20;
  let v22 : Bool := !v21 || v21;
  let v23 : Bool := v22 && v22; bif v22 then bif v23 then obind (bif v21 then ref18_Find x0 v18.fst else some (0 : Int)) fun (t : Int) =>
  let v25 : Bool := bif v20 then true else !decide (t = x.fst);
  let v26 : Bool := !v25;
  let v27 : Bool := !v26 || v26; bif v23 then bif v20 || v21 then bif v27 then bif v27 then obind (bif v26 then ref09_Valid v18.snd.fst else some false) fun (t : Bool) =>
  let v29 : Bool := bif v25 then true else !t;
  let v30 : Bool := !v29;
  let v31 : Bool := !v30 || v30;
  let v32 : Bool := bif v29 then true else decide (v18.snd.snd < (0 : Int));
  let v33 : Bool := !v32;
  let v34 : Bool := !v33 || v33; bif v27 then bif v25 || v26 then bif v31 then bif v31 then bif v29 || v30 then bif v34 then bif v34 then bif v32 || v33 then bif bif v32 then true else
    decide (v18.snd.snd > (67108864 : Int)) then some false else obind (ref18_Arm x0 x.fst) fun (t : Int × Int × Int) => obind (ref18_short t.fst) fun (t_1 : Bool) =>
  let v37 : Bool := !t_1;
  let v38 : Bool := !v37;
  let v39 : Bool := !v38 || v38; bif v39 then bif v39 then obind (bif v38 then ref18_short t.snd.fst else some false) fun (t_2 : Bool) =>
  let v41 : Bool := bif v37 then true else !t_2;
  let v42 : Bool := !v41;
  let v43 : Bool := !v42 || v42; bif v39 then bif v37 || v38 then bif v43 then bif v43 then obind (bif v42 then ref18_short t.snd.snd else some false) fun (t_3 : Bool) =>
  let v45 : Bool := bif v41 then true else !t_3;
  let v46 : Bool := !v45;
  let v47 : Bool := !v46 || v46; bif v43 then bif v41 || v42 then bif v47 && v47 then bif v45 || v46 then bif bif v45 then true else decide (t.fst = (0 : Int)) && (decide (t.snd.fst = (0 :
    Int)) && (decide (t.snd.snd = (0 : Int)) && true)) then some false else again (IntKind.wrap IntKind.i64 (x.fst + (1 : Int)), PUnit.unit) else none else none else none else none else
    none else none else none else none else none else none else none else none else none else none else none else none else none else none else none else none else none else none else none
    else none else none else some true) ((0 : Int), PUnit.unit) else none else none else none else none else none else none else none else none else none else none else none else none else
    none else none
noncomputable def ref18_Valid (x0 : (Int × Int × Int) × Int × List (ByteArray × (Int × Int × Int) × Int)) : Option Bool := ref18_Valid_b lpK jnK ref18_Find ref18_Arm ref09_Valid ref01_IsName ref18_short x0
noncomputable def c13 : Ctr := ⟨[T26], [], [], .one .bool, fun x _ _ => ref18_Valid x.1⟩
theorem e13 (lp : Lp) (jn : Jn) (ref18_Find : ((Int × Int × Int) × Int × List (ByteArray × (Int × Int × Int) × Int)) → (ByteArray) → Option (Int)) (ref18_Arm : ((Int × Int × Int) × Int × List (ByteArray × (Int × Int × Int) × Int)) → (Int) → Option (Int × Int × Int)) (ref09_Valid : (Int × Int × Int) → Option (Bool)) (ref01_IsName : (ByteArray) → Option (Bool)) (ref18_short : (Int) → Option (Bool)) : ∀ (x : TsS c13.as) (F : TsF c13.fs) (y : TsS c13.cs), ref18_Valid_b lp jn ref18_Find ref18_Arm ref09_Valid ref01_IsName ref18_short x.1 = runC lp jn (ctxOf prog shs inls [(50, ⟨[i64], [], [], .one .bool, fun x _ _ => ref18_short x.1⟩), (49, ⟨[.str], [], [], .one .bool, fun x _ _ => ref01_IsName x.1⟩), (48, ⟨[T23], [], [], .one .bool, fun x _ _ => ref09_Valid x.1⟩), (19, ⟨[T26, i64], [], [], .one T40, fun x _ _ => ref18_Arm x.1 x.2.1⟩), (16, ⟨[T26, .str], [], [], .one i64, fun x _ _ => ref18_Find x.1 x.2.1⟩)] [(36, r36), (18, r18)]) hints 4 13 f13 c13 x F y := fun x F y => by kernel_rfl
theorem l13 : (ctxOf prog shs inls [(50, c50), (49, c49), (48, c48), (19, c19), (16, c16)] [(36, r36), (18, r18)]).ok := ctxOf_cons (ctxOf_cons (ctxOf_cons (ctxOf_cons (ctxOf_cons (q36) (by kernel_rfl) ok16) (by kernel_rfl) ok19) (by kernel_rfl) ok48) (by kernel_rfl) ok49) (by kernel_rfl) ok50
theorem ok13 : c13.ok prog 13 := Ctr.of_den l13 hmix (hl := hints) (d := 4) func13 rfl (by decide) (e13 lpK jnK ref18_Find ref18_Arm ref09_Valid ref01_IsName ref18_short)

/-- loftblock loftblockref18.Given -/
noncomputable def ref18_Given_b (_ : Lp) (_ : Jn) (ref18_Find : ((Int × Int × Int) × Int × List (ByteArray × (Int × Int × Int) × Int)) → (ByteArray) → Option (Int)) (ref18_Valid : ((Int × Int × Int) × Int × List (ByteArray × (Int × Int × Int) × Int)) → Option (Bool)) (x0 : (Int × Int × Int) × Int × List (ByteArray × (Int × Int × Int) × Int)) (x1 : ByteArray) : Option Int :=
  obind (ref18_Valid x0) fun (t : Bool) => bif !t then some (1 : Int) else obind (ref18_Find x0 x1) fun (t : Int) => bif decide (t < (0 : Int)) then some (9 : Int) else some (0 : Int)
noncomputable def ref18_Given (x0 : (Int × Int × Int) × Int × List (ByteArray × (Int × Int × Int) × Int)) (x1 : ByteArray) : Option Int := ref18_Given_b lpK jnK ref18_Find ref18_Valid x0 x1
noncomputable def c14 : Ctr := ⟨[T26, .str], [], [], .one i64, fun x _ _ => ref18_Given x.1 x.2.1⟩
theorem e14 (lp : Lp) (jn : Jn) (ref18_Find : ((Int × Int × Int) × Int × List (ByteArray × (Int × Int × Int) × Int)) → (ByteArray) → Option (Int)) (ref18_Valid : ((Int × Int × Int) × Int × List (ByteArray × (Int × Int × Int) × Int)) → Option (Bool)) : ∀ (x : TsS c14.as) (F : TsF c14.fs) (y : TsS c14.cs), ref18_Given_b lp jn ref18_Find ref18_Valid x.1 x.2.1 = runC lp jn (ctxOf prog shs inls [(13, ⟨[T26], [], [], .one .bool, fun x _ _ => ref18_Valid x.1⟩), (16, ⟨[T26, .str], [], [], .one i64, fun x _ _ => ref18_Find x.1 x.2.1⟩)] [(36, r36), (18, r18)]) hints 4 14 f14 c14 x F y := fun x F y => by kernel_rfl
theorem l14 : (ctxOf prog shs inls [(13, c13), (16, c16)] [(36, r36), (18, r18)]).ok := ctxOf_cons (ctxOf_cons (q36) (by kernel_rfl) ok16) (by kernel_rfl) ok13
theorem ok14 : c14.ok prog 14 := Ctr.of_den l14 hmix (hl := hints) (d := 4) func14 rfl (by decide) (e14 lpK jnK ref18_Find ref18_Valid)

/-- loftblock loftblockref09.Root -/
noncomputable def ref09_Root_b (lp : Lp) (_ : Jn) (x0 : Int) : Option (Int × Int) :=
  lp (Int × Int × PUnit) (Int × Int) (fun (again : Int × Int × PUnit → Option (Int × Int)) (x : Int × Int × PUnit) =>
  let v5 : Int := IntKind.wrap IntKind.i64 (Int.tdiv (IntKind.wrap IntKind.i64 (x.fst + x.snd.fst)) (2 : Int)); bif decide (IntKind.wrap IntKind.i64 (x.snd.fst - x.fst) > (1 : Int)) then
    bif decide (IntKind.wrap IntKind.i64 (v5 * v5) ≤ x0) then again (v5, x.snd.fst, PUnit.unit) else again (x.fst, v5, PUnit.unit) else bif decide (IntKind.wrap IntKind.i64 (x.fst * x.fst)
    = x0) then some (x.fst, x.fst) else some (x.fst, IntKind.wrap IntKind.i64 (x.fst + (1 : Int)))) ((0 : Int), (1073741825 : Int), PUnit.unit)
noncomputable def ref09_Root (x0 : Int) : Option (Int × Int) := ref09_Root_b lpK jnK x0
noncomputable def c51 : Ctr := ⟨[i64], [], [], .one T30, fun x _ _ => ref09_Root x.1⟩
theorem e51 (lp : Lp) (jn : Jn) : ∀ (x : TsS c51.as) (F : TsF c51.fs) (y : TsS c51.cs), ref09_Root_b lp jn x.1 = runC lp jn (ctxOf prog shs inls [] [(36, r36), (18, r18)]) hints 4 51 f51 c51 x F y := fun x F y => by kernel_rfl
theorem l51 : (ctxOf prog shs inls [] [(36, r36), (18, r18)]).ok := q36
theorem ok51 : c51.ok prog 51 := Ctr.of_den l51 hmix (hl := hints) (d := 4) func51 rfl (by decide) (e51 lpK jnK)

/-- loftblock loftblockref18.dot -/
noncomputable def ref18_dot_b (_ : Lp) (_ : Jn) (x0 : Int × Int × Int) (x1 : Int × Int × Int) : Option Int :=
  some (IntKind.wrap IntKind.i64 (IntKind.wrap IntKind.i64 (IntKind.wrap IntKind.i64 (x0.fst * x1.fst) + IntKind.wrap IntKind.i64 (x0.snd.fst * x1.snd.fst)) + IntKind.wrap IntKind.i64
    (x0.snd.snd * x1.snd.snd)))
noncomputable def ref18_dot (x0 : Int × Int × Int) (x1 : Int × Int × Int) : Option Int := ref18_dot_b lpK jnK x0 x1
noncomputable def c52 : Ctr := ⟨[T40, T40], [], [], .one i64, fun x _ _ => ref18_dot x.1 x.2.1⟩
theorem e52 (lp : Lp) (jn : Jn) : ∀ (x : TsS c52.as) (F : TsF c52.fs) (y : TsS c52.cs), ref18_dot_b lp jn x.1 x.2.1 = runC lp jn (ctxOf prog shs inls [] [(36, r36), (18, r18)]) hints 4 52 f52 c52 x F y := fun x F y => by kernel_rfl
theorem l52 : (ctxOf prog shs inls [] [(36, r36), (18, r18)]).ok := q36
theorem ok52 : c52.ok prog 52 := Ctr.of_den l52 hmix (hl := hints) (d := 4) func52 rfl (by decide) (e52 lpK jnK)

/-- loftblock loftblockref18.Length -/
noncomputable def ref18_Length_b (_ : Lp) (_ : Jn) (ref18_Arm : ((Int × Int × Int) × Int × List (ByteArray × (Int × Int × Int) × Int)) → (Int) → Option (Int × Int × Int)) (ref09_Root : (Int) → Option (Int × Int)) (ref18_dot : (Int × Int × Int) → (Int × Int × Int) → Option (Int)) (x0 : (Int × Int × Int) × Int × List (ByteArray × (Int × Int × Int) × Int)) (x1 : Int) : Option (Int × Int) :=
  obind (ref18_Arm x0 x1) fun (t : Int × Int × Int) => obind (ref18_dot t t) fun (t : Int) => obind (ref09_Root (IntKind.wrap IntKind.i64 ((1000000 : Int) * t))) fun (t : Int × Int) => some t
noncomputable def ref18_Length (x0 : (Int × Int × Int) × Int × List (ByteArray × (Int × Int × Int) × Int)) (x1 : Int) : Option (Int × Int) := ref18_Length_b lpK jnK ref18_Arm ref09_Root ref18_dot x0 x1
noncomputable def c15 : Ctr := ⟨[T26, i64], [], [], .one T30, fun x _ _ => ref18_Length x.1 x.2.1⟩
theorem e15 (lp : Lp) (jn : Jn) (ref18_Arm : ((Int × Int × Int) × Int × List (ByteArray × (Int × Int × Int) × Int)) → (Int) → Option (Int × Int × Int)) (ref09_Root : (Int) → Option (Int × Int)) (ref18_dot : (Int × Int × Int) → (Int × Int × Int) → Option (Int)) : ∀ (x : TsS c15.as) (F : TsF c15.fs) (y : TsS c15.cs), ref18_Length_b lp jn ref18_Arm ref09_Root ref18_dot x.1 x.2.1 = runC lp jn (ctxOf prog shs inls [(52, ⟨[T40, T40], [], [], .one i64, fun x _ _ => ref18_dot x.1 x.2.1⟩), (51, ⟨[i64], [], [], .one T30, fun x _ _ => ref09_Root x.1⟩), (19, ⟨[T26, i64], [], [], .one T40, fun x _ _ => ref18_Arm x.1 x.2.1⟩)] [(36, r36), (18, r18)]) hints 4 15 f15 c15 x F y := fun x F y => by kernel_rfl
theorem l15 : (ctxOf prog shs inls [(52, c52), (51, c51), (19, c19)] [(36, r36), (18, r18)]).ok := ctxOf_cons (ctxOf_cons (ctxOf_cons (q36) (by kernel_rfl) ok19) (by kernel_rfl) ok51) (by kernel_rfl) ok52
theorem ok15 : c15.ok prog 15 := Ctr.of_den l15 hmix (hl := hints) (d := 4) func15 rfl (by decide) (e15 lpK jnK ref18_Arm ref09_Root ref18_dot)

/-- loftblock loftblocklaw18.BridleForms -/
noncomputable def law18_BridleForms_b (_ : Lp) (_ : Jn) (bridle_Valid : ((Int × Int × Int) × Int × List (ByteArray × (Int × Int × Int) × Int)) → Option (Bool)) (bridle_Length : ((Int × Int × Int) × Int × List (ByteArray × (Int × Int × Int) × Int)) → (ByteArray) → Option ((Int × Int) × Int × Unit)) (law18_awake : Option (Bool)) (law18_long : ((Int × Int × Int) × Int × List (ByteArray × (Int × Int × Int) × Int)) → Option (Bool)) (ref18_Find : ((Int × Int × Int) × Int × List (ByteArray × (Int × Int × Int) × Int)) → (ByteArray) → Option (Int)) (ref18_Valid : ((Int × Int × Int) × Int × List (ByteArray × (Int × Int × Int) × Int)) → Option (Bool)) (ref18_Given : ((Int × Int × Int) × Int × List (ByteArray × (Int × Int × Int) × Int)) → (ByteArray) → Option (Int)) (ref18_Length : ((Int × Int × Int) × Int × List (ByteArray × (Int × Int × Int) × Int)) → (Int) → Option (Int × Int)) (x0 : (Int × Int × Int) × Int × List (ByteArray × (Int × Int × Int) × Int)) (x1 : ByteArray) : Option Bool :=
  obind law18_awake fun (t : Bool) => bif !t then some false else obind (law18_long x0) fun (t : Bool) =>
  let v6 : Bool := !t;
  let v7 : Bool := !v6 || v6; bif v7 then bif v7 then bif t || v6 then bif bif t then true else decide ((↑(ByteArray.size x1) : Int) > (100 : Int)) then some true else obind (bridle_Length
    x0 x1) fun (t : (Int × Int) × Int × PUnit) =>
  let v9 : Bool := decide (t.snd.fst = (0 : Int));
  let v10 : Bool := !v9 || v9;
  let v11 : Bool := decide (t.fst.fst = (0 : Int)) && (decide (t.fst.snd = (0 : Int)) && true);
  let v12 : Bool := v10 && v10;
  let v13 : Bool := !v11 || v11; obind (bridle_Valid x0) fun (t_1 : Bool) => obind (ref18_Valid x0) fun (t_2 : Bool) => bif !decide (t_1 = t_2) then some false else obind (ref18_Given x0
    x1) fun (t_3 : Int) => bif !decide (t_3 = (0 : Int)) then bif v13 && v13 then bif v13 then some (bif v11 then decide (t.snd.fst = t_3) else false) else none else none else bif v12 then
    obind (bif v9 then ref18_Find x0 x1 else some (0 : Int)) fun (t_4 : Int) => bif v12 then obind (bif v9 then ref18_Length x0 t_4 else some ((0 : Int), (0 : Int))) fun (t_5 : Int × Int)
    => bif v12 then bif v10 then some (bif v9 then decide (t.fst.fst = t_5.fst) && (decide (t.fst.snd = t_5.snd) && true) else false) else none else none else none else none else none else
    none else none
noncomputable def law18_BridleForms (x0 : (Int × Int × Int) × Int × List (ByteArray × (Int × Int × Int) × Int)) (x1 : ByteArray) : Option Bool := law18_BridleForms_b lpK jnK bridle_Valid bridle_Length law18_awake law18_long ref18_Find ref18_Valid ref18_Given ref18_Length x0 x1
noncomputable def c3 : Ctr := ⟨[T26, .str], [], [], .one .bool, fun x _ _ => law18_BridleForms x.1 x.2.1⟩
theorem e3 (lp : Lp) (jn : Jn) (bridle_Valid : ((Int × Int × Int) × Int × List (ByteArray × (Int × Int × Int) × Int)) → Option (Bool)) (bridle_Length : ((Int × Int × Int) × Int × List (ByteArray × (Int × Int × Int) × Int)) → (ByteArray) → Option ((Int × Int) × Int × Unit)) (law18_awake : Option (Bool)) (law18_long : ((Int × Int × Int) × Int × List (ByteArray × (Int × Int × Int) × Int)) → Option (Bool)) (ref18_Find : ((Int × Int × Int) × Int × List (ByteArray × (Int × Int × Int) × Int)) → (ByteArray) → Option (Int)) (ref18_Valid : ((Int × Int × Int) × Int × List (ByteArray × (Int × Int × Int) × Int)) → Option (Bool)) (ref18_Given : ((Int × Int × Int) × Int × List (ByteArray × (Int × Int × Int) × Int)) → (ByteArray) → Option (Int)) (ref18_Length : ((Int × Int × Int) × Int × List (ByteArray × (Int × Int × Int) × Int)) → (Int) → Option (Int × Int)) : ∀ (x : TsS c3.as) (F : TsF c3.fs) (y : TsS c3.cs), law18_BridleForms_b lp jn bridle_Valid bridle_Length law18_awake law18_long ref18_Find ref18_Valid ref18_Given ref18_Length x.1 x.2.1 = runC lp jn (ctxOf prog shs inls [(15, ⟨[T26, i64], [], [], .one T30, fun x _ _ => ref18_Length x.1 x.2.1⟩), (14, ⟨[T26, .str], [], [], .one i64, fun x _ _ => ref18_Given x.1 x.2.1⟩), (13, ⟨[T26], [], [], .one .bool, fun x _ _ => ref18_Valid x.1⟩), (16, ⟨[T26, .str], [], [], .one i64, fun x _ _ => ref18_Find x.1 x.2.1⟩), (10, ⟨[T26], [], [], .one .bool, fun x _ _ => law18_long x.1⟩), (9, ⟨[], [], [], .one .bool, fun _ _ _ => law18_awake⟩), (11, ⟨[T26, .str], [], [], .tup [T30, i64], fun x _ _ => bridle_Length x.1 x.2.1⟩), (12, ⟨[T26], [], [], .one .bool, fun x _ _ => bridle_Valid x.1⟩)] [(36, r36), (18, r18)]) hints 4 3 f3 c3 x F y := fun x F y => by kernel_rfl
theorem l3 : (ctxOf prog shs inls [(15, c15), (14, c14), (13, c13), (16, c16), (10, c10), (9, c9), (11, c11), (12, c12)] [(36, r36), (18, r18)]).ok := ctxOf_cons (ctxOf_cons (ctxOf_cons (ctxOf_cons (ctxOf_cons (ctxOf_cons (ctxOf_cons (ctxOf_cons (q36) (by kernel_rfl) ok12) (by kernel_rfl) ok11) (by kernel_rfl) ok9) (by kernel_rfl) ok10) (by kernel_rfl) ok16) (by kernel_rfl) ok13) (by kernel_rfl) ok14) (by kernel_rfl) ok15
theorem ok3 : c3.ok prog 3 := Ctr.of_den l3 hmix (hl := hints) (d := 4) func3 rfl (by decide) (e3 lpK jnK bridle_Valid bridle_Length law18_awake law18_long ref18_Find ref18_Valid ref18_Given ref18_Length)

/-- loftblock loftblocklaw18.ready -/
noncomputable def law18_ready_b (_ : Lp) (_ : Jn) (law18_long : ((Int × Int × Int) × Int × List (ByteArray × (Int × Int × Int) × Int)) → Option (Bool)) (ref18_Valid : ((Int × Int × Int) × Int × List (ByteArray × (Int × Int × Int) × Int)) → Option (Bool)) (x0 : (Int × Int × Int) × Int × List (ByteArray × (Int × Int × Int) × Int)) : Option Bool :=
  obind (law18_long x0) fun (t : Bool) =>
  let v4 : Bool := !t;
  let v5 : Bool := !v4 || v4; bif v5 then obind (bif v4 then ref18_Valid x0 else some false) fun (t : Bool) => bif v5 then some (bif v4 then t else false) else none else none
noncomputable def law18_ready (x0 : (Int × Int × Int) × Int × List (ByteArray × (Int × Int × Int) × Int)) : Option Bool := law18_ready_b lpK jnK law18_long ref18_Valid x0
noncomputable def c17 : Ctr := ⟨[T26], [], [], .one .bool, fun x _ _ => law18_ready x.1⟩
theorem e17 (lp : Lp) (jn : Jn) (law18_long : ((Int × Int × Int) × Int × List (ByteArray × (Int × Int × Int) × Int)) → Option (Bool)) (ref18_Valid : ((Int × Int × Int) × Int × List (ByteArray × (Int × Int × Int) × Int)) → Option (Bool)) : ∀ (x : TsS c17.as) (F : TsF c17.fs) (y : TsS c17.cs), law18_ready_b lp jn law18_long ref18_Valid x.1 = runC lp jn (ctxOf prog shs inls [(13, ⟨[T26], [], [], .one .bool, fun x _ _ => ref18_Valid x.1⟩), (10, ⟨[T26], [], [], .one .bool, fun x _ _ => law18_long x.1⟩)] [(36, r36), (18, r18)]) hints 4 17 f17 c17 x F y := fun x F y => by kernel_rfl
theorem l17 : (ctxOf prog shs inls [(13, c13), (10, c10)] [(36, r36), (18, r18)]).ok := ctxOf_cons (ctxOf_cons (q36) (by kernel_rfl) ok10) (by kernel_rfl) ok13
theorem ok17 : c17.ok prog 17 := Ctr.of_den l17 hmix (hl := hints) (d := 4) func17 rfl (by decide) (e17 lpK jnK law18_long ref18_Valid)

/-- loftblock loftblocklaw18.BridleTwice -/
noncomputable def law18_BridleTwice_b (lp : Lp) (_ : Jn) (ratio_Make : (Int) → (Int) → Option ((Int × Int) × Int × Unit)) (bridle_Pulls : ((Int × Int × Int) × Int × List (ByteArray × (Int × Int × Int) × Int)) → Option ((List (Int × Int)) × Int × Unit)) (ratio_Mul : (Int × Int) → (Int × Int) → Option ((Int × Int) × Int × Unit)) (law18_awake : Option (Bool)) (ref18_Arm : ((Int × Int × Int) × Int × List (ByteArray × (Int × Int × Int) × Int)) → (Int) → Option (Int × Int × Int)) (ref18_Valid : ((Int × Int × Int) × Int × List (ByteArray × (Int × Int × Int) × Int)) → Option (Bool)) (law18_ready : ((Int × Int × Int) × Int × List (ByteArray × (Int × Int × Int) × Int)) → Option (Bool)) (slices_Clone_18 : (List (ByteArray × (Int × Int × Int) × Int)) → Option (List (ByteArray × (Int × Int × Int) × Int))) (x0 : (Int × Int × Int) × Int × List (ByteArray × (Int × Int × Int) × Int)) (x1 : Int) : Option Bool :=
  
  let v4 : Int := IntKind.wrap IntKind.i64 ((2 : Int) + Int.tmod (IntKind.wrap IntKind.i64 x1) (4 : Int));
  let v5 : List (((Int × Int × Int) × Int × List (ByteArray × (Int × Int × Int) × Int)) × Int × Int) := [];
  let v6 : Int × Int := ((1 : Int), v4);
  let v7 : ((Int × Int × Int) × Int × List (ByteArray × (Int × Int × Int) × Int)) × Int × Int := ((x0.fst, IntKind.wrap IntKind.i64 (x0.snd.fst * (2 : Int)), x0.snd.snd), (2 : Int), (1 :
    Int)); obind law18_awake fun (t : Bool) => bif !t then some false else obind (law18_ready x0) fun (t : Bool) => bif !t then some true else obind (slices_Clone_18 x0.snd.snd) fun (t :
    List (ByteArray × (Int × Int × Int) × Int)) => lp (Int × List (ByteArray × (Int × Int × Int) × Int) × PUnit) Bool (fun (again : Int × List (ByteArray × (Int × Int × Int) × Int) × PUnit
    → Option Bool) (x : Int × List (ByteArray × (Int × Int × Int) × Int) × PUnit) =>
  let v13 : Bool := inB x.fst (List.length x.snd.fst);
  let v14 : Bool := Nat.ble (Nat.succ (Int.toNat x.fst)) (List.length x.snd.fst);
  let v15 : ByteArray × (Int × Int × Int) × Int := List.getD x.snd.fst (Int.toNat x.fst) ({ data := { toList := [] } }, ((0 : Int), (0 : Int), (0 : Int)), (0 : Int));
  let v16 : List (((Int × Int × Int) × Int × List (ByteArray × (Int × Int × Int) × Int)) × Int × Int) := v7 :: ((x0.fst, x0.snd.fst, x.snd.fst), v6) :: v5; bif decide (x.fst <
    (↑(List.length x0.snd.snd) : Int)) then bif inB x.fst (List.length x0.snd.snd) then obind (ref18_Arm x0 x.fst) fun (t : Int × Int × Int) =>
  let v18 : List (ByteArray × (Int × Int × Int) × Int) := List.set x.snd.fst (Int.toNat x.fst) (v15.fst, (IntKind.wrap IntKind.i64 (x0.fst.fst + IntKind.wrap IntKind.i64 (v4 * t.fst)),
    IntKind.wrap IntKind.i64 (x0.fst.snd.fst + IntKind.wrap IntKind.i64 (v4 * t.snd.fst)), IntKind.wrap IntKind.i64 (x0.fst.snd.snd + IntKind.wrap IntKind.i64 (v4 * t.snd.snd))),
    v15.snd.snd); bif v13 then bif v14 then bif v13 then bif v14 then again (IntKind.wrap IntKind.i64 (x.fst + (1 : Int)), List.set v18 (Int.toNat x.fst) ((List.getD x0.snd.snd (Int.toNat
    x.fst) ({ data := { toList := [] } }, ((0 : Int), (0 : Int), (0 : Int)), (0 : Int))).fst, (List.getD v18 (Int.toNat x.fst) ({ data := { toList := [] } }, ((0 : Int), (0 : Int), (0 :
    Int)), (0 : Int))).snd), PUnit.unit) else none else none else none else none else none else obind (bridle_Pulls x0) fun (t : List (Int × Int) × Int × PUnit) => lp (Int × PUnit) Bool
    (fun (again : Int × PUnit → Option Bool) (x : Int × PUnit) =>
  let v20 : ((Int × Int × Int) × Int × List (ByteArray × (Int × Int × Int) × Int)) × Int × Int := List.getD v16 (Int.toNat x.fst) ((((0 : Int), (0 : Int), (0 : Int)), (0 : Int), []), (0 :
    Int), (0 : Int)); bif decide (x.fst < (↑(2 : Nat) : Int)) then bif inB x.fst (2 : Nat) then obind (ref18_Valid v20.fst) fun (t_1 : Bool) => bif !t_1 then again (IntKind.wrap IntKind.i64
    (x.fst + (1 : Int)), PUnit.unit) else obind (bridle_Pulls v20.fst) fun (t_2 : List (Int × Int) × Int × PUnit) =>
  let v23 : Bool := !decide (t_2.snd.fst = t.snd.fst);
  let v24 : Bool := !v23;
  let v25 : Bool := !v24 || v24; bif v25 then bif v25 then bif v25 && v25 then bif v23 || v24 then bif bif v23 then true else !decide ((↑(List.length t_2.fst) : Int) = (↑(List.length t.fst)
    : Int)) then some false else lp (Int × PUnit) Bool (fun (again_1 : Int × PUnit → Option Bool) (x_1 : Int × PUnit) =>
  let v28 : Int × Int := List.getD t_2.fst (Int.toNat x_1.fst) ((0 : Int), (0 : Int)); bif decide (x_1.fst < (↑(List.length t.fst) : Int)) then obind (ratio_Make v20.snd.fst v20.snd.snd)
    fun (t_3 : (Int × Int) × Int × PUnit) =>
  let v30 : Bool := !decide (t_3.snd.fst = (0 : Int));
  let v31 : Bool := !v30;
  let v32 : Bool := !v31;
  let v33 : Bool := v32 || v31; bif inB x_1.fst (List.length t.fst) then obind (ratio_Mul (List.getD t.fst (Int.toNat x_1.fst) ((0 : Int), (0 : Int))) t_3.fst) fun (t : (Int × Int) × Int ×
    PUnit) =>
  let v35 : Bool := decide (t.snd.fst = (0 : Int));
  let v36 : Bool := v31 && v35;
  let v37 : Bool := !v36;
  let v38 : Bool := v37 || v36; bif v33 then bif v33 then bif v38 && (v38 && (v37 || inB x_1.fst (List.length t_2.fst))) then bif v38 then bif v38 && v38 then bif (v32 || v33) && (v32 ||
    (!v35 || (v32 || v36))) then bif v30 || v31 then bif bif v30 then true else bif v35 then !(decide (t.fst.fst = v28.fst) && (decide (t.fst.snd = v28.snd) && true)) else false then some
    false else again_1 (IntKind.wrap IntKind.i64 (x_1.fst + (1 : Int)), PUnit.unit) else none else none else none else none else none else none else none else none else again (IntKind.wrap
    IntKind.i64 (x.fst + (1 : Int)), PUnit.unit)) ((0 : Int), PUnit.unit) else none else none else none else none else none else some true) ((0 : Int), PUnit.unit)) ((0 : Int), t,
    PUnit.unit)
noncomputable def law18_BridleTwice (x0 : (Int × Int × Int) × Int × List (ByteArray × (Int × Int × Int) × Int)) (x1 : Int) : Option Bool := law18_BridleTwice_b lpK jnK ratio_Make bridle_Pulls ratio_Mul law18_awake ref18_Arm ref18_Valid law18_ready slices_Clone_18 x0 x1
noncomputable def c4 : Ctr := ⟨[T26, (.int .u8)], [], [], .one .bool, fun x _ _ => law18_BridleTwice x.1 x.2.1⟩
theorem e4 (lp : Lp) (jn : Jn) (ratio_Make : (Int) → (Int) → Option ((Int × Int) × Int × Unit)) (bridle_Pulls : ((Int × Int × Int) × Int × List (ByteArray × (Int × Int × Int) × Int)) → Option ((List (Int × Int)) × Int × Unit)) (ratio_Mul : (Int × Int) → (Int × Int) → Option ((Int × Int) × Int × Unit)) (law18_awake : Option (Bool)) (ref18_Arm : ((Int × Int × Int) × Int × List (ByteArray × (Int × Int × Int) × Int)) → (Int) → Option (Int × Int × Int)) (ref18_Valid : ((Int × Int × Int) × Int × List (ByteArray × (Int × Int × Int) × Int)) → Option (Bool)) (law18_ready : ((Int × Int × Int) × Int × List (ByteArray × (Int × Int × Int) × Int)) → Option (Bool)) (slices_Clone_18 : (List (ByteArray × (Int × Int × Int) × Int)) → Option (List (ByteArray × (Int × Int × Int) × Int))) : ∀ (x : TsS c4.as) (F : TsF c4.fs) (y : TsS c4.cs), law18_BridleTwice_b lp jn ratio_Make bridle_Pulls ratio_Mul law18_awake ref18_Arm ref18_Valid law18_ready slices_Clone_18 x.1 x.2.1 = runC lp jn (ctxOf prog shs inls [(17, ⟨[T26], [], [], .one .bool, fun x _ _ => law18_ready x.1⟩), (13, ⟨[T26], [], [], .one .bool, fun x _ _ => ref18_Valid x.1⟩), (19, ⟨[T26, i64], [], [], .one T40, fun x _ _ => ref18_Arm x.1 x.2.1⟩), (9, ⟨[], [], [], .one .bool, fun _ _ _ => law18_awake⟩), (22, ⟨[T48, T48], [], [], .tup [T48, i64], fun x _ _ => ratio_Mul x.1 x.2.1⟩), (20, ⟨[T26], [], [], .tup [(.sl T48), i64], fun x _ _ => bridle_Pulls x.1⟩), (21, ⟨[i64, i64], [], [], .tup [T48, i64], fun x _ _ => ratio_Make x.1 x.2.1⟩)] [(36, r36), (18, ⟨[(.sl T39)], 39, T39, fun x => slices_Clone_18 x.1⟩)]) hints 4 4 f4 c4 x F y := fun x F y => by kernel_rfl
theorem l4 : (ctxOf prog shs inls [(17, c17), (13, c13), (19, c19), (9, c9), (22, c22), (20, c20), (21, c21)] [(36, r36), (18, r18)]).ok := ctxOf_cons (ctxOf_cons (ctxOf_cons (ctxOf_cons (ctxOf_cons (ctxOf_cons (ctxOf_cons (q36) (by kernel_rfl) ok21) (by kernel_rfl) ok20) (by kernel_rfl) ok22) (by kernel_rfl) ok9) (by kernel_rfl) ok19) (by kernel_rfl) ok13) (by kernel_rfl) ok17
theorem ok4 : c4.ok prog 4 := Ctr.of_den l4 hmix (hl := hints) (d := 4) func4 rfl (by decide) (e4 lpK jnK ratio_Make bridle_Pulls ratio_Mul law18_awake ref18_Arm ref18_Valid law18_ready slices_Clone_18)

end Go.Proofs.Ytghjblbkbelcfaa
