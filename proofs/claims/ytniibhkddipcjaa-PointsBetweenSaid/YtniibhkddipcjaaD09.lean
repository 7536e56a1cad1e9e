/- Chapter 9: the shapes and the contracts of the functions that its laws reach: for each what it answers, as plain functions of its data. -/
import Derived.Test.YtniibhkddipcjaaSxL
import Derived.Test.YtniibhkddipcjaaProg
import Derived.KernelRfl
namespace Go.Proofs.Ytniibhkddipcjaa
open Try Sx Sx.Sh


abbrev i64 : Sh := .int .i64
abbrev Pt : Sh := .agg (.pair i64 (.pair i64 i64))
abbrev Sp : Sh := .agg (.pair i64 i64)
def shs : TypeId → Option Sh
  | 3 => some i64
  | 4 => some .bool
  | 23 => some Pt
  | 25 => some i64
  | 29 => some Sp
  | 44 => some (.sl Pt)
  | 56 => some Pt
  | _ => none
abbrev w (x : Int) : Int := IntKind.i64.wrap x
abbrev P := Int × Int × Int

def validM (p : P) : Bool := p.1 ≤ 1048576 && p.2.1 ≤ 1048576 && p.2.2 ≤ 1048576 && -1048576 ≤ p.1 && -1048576 ≤ p.2.1 && -1048576 ≤ p.2.2
noncomputable def c14 : Ctr := ⟨[Pt], [], [], .one .bool, fun _ _ _ => True, fun x _ _ => validM x.1⟩
noncomputable def L14 : List (Nat × Ctr) := []
noncomputable def c44 : Ctr := ⟨[Pt], [], [], .one .bool, fun _ _ _ => True, fun x _ _ => !validM x.1⟩
noncomputable def L44 : List (Nat × Ctr) := (14, c14) :: L14
def indexM (f : P → Bool) (l : List P) : Int := match l.findIdx? f with
  | some i => i
  | none => -1
noncomputable def c46 : Ctr := ⟨[.sl Pt], [([Pt], .bool)], [], .one i64, fun x F _ => x.1.length < 9223372036854775808 ∧ ∀ p ∈ x.1, F.1.1 (p, ()), fun x F _ => indexM (fun p => F.1.2 (p, ())) x.1⟩
noncomputable def l46 (x : TsS c46.as) (F : TsF c46.fs) (_ : TsS c46.cs) : Nat → Option Sx.Loop
  | 2 => some ⟨{ i : Nat // i ≤ x.1.length ∧ ∀ j : Nat, j < i → ∀ p, x.1[j]? = some p → F.1.2 (p, ()) = false }, fun i => [(8, ⟨none, .c false [.v (.int .i64 i.1)]⟩)], fun _ => [], [], fun i => x.1.length - i.1⟩
  | _ => none
noncomputable def L46 : List (Nat × Ctr) := (44, c44) :: L44
noncomputable def c37 : Ctr := ⟨[.sl Pt], [([Pt], .bool)], [], .one .bool, fun x F _ => x.1.length < 9223372036854775808 ∧ ∀ p ∈ x.1, F.1.1 (p, ()), fun x F _ => x.1.any (fun p => F.1.2 (p, ()))⟩
noncomputable def L37 : List (Nat × Ctr) := (46, c46) :: L46
noncomputable def c28 : Ctr := ⟨[.sl Pt], [], [], .one .bool, fun x _ _ => x.1.length < 9223372036854775808, fun x _ _ => x.1.all validM⟩
noncomputable def L28 : List (Nat × Ctr) := (37, c37) :: L37
def toM (a b : P) : P := (w (b.1 - a.1), w (b.2.1 - a.2.1), w (b.2.2 - a.2.2))
noncomputable def c29 : Ctr := ⟨[Pt, Pt], [], [], .one Pt, fun _ _ _ => True, fun x _ _ => toM x.1 x.2.1⟩
noncomputable def L29 : List (Nat × Ctr) := (28, c28) :: L28
def sqM (v : P) : Int := v.1 * v.1 + v.2.1 * v.2.1 + v.2.2 * v.2.2
def subM (a b : P) : P := (a.1 - b.1, a.2.1 - b.2.1, a.2.2 - b.2.2)
def squareM (a b : P) : Int × Int := if validM a && validM b then (sqM (subM b a), 0) else (0, 1)
noncomputable def c10 : Ctr := ⟨[Pt, Pt], [], [], .tup [i64, i64], fun _ _ _ => True, fun x _ _ => ((squareM x.1 x.2.1).1, (squareM x.1 x.2.1).2, ())⟩
noncomputable def L10 : List (Nat × Ctr) := (29, c29) :: L29
noncomputable def L12 : List (Nat × Ctr) := (10, c10) :: L10
/-- the root of n, k bits of it, above r -/
def sq (n : Int) : Nat → Int → Int
  | 0, r => r
  | k + 1, r => if (r + 2 ^ k) * (r + 2 ^ k) ≤ n then sq n k (r + 2 ^ k) else sq n k r
def isq (n : Int) : Int := sq n 31 0
def spanM (n : Int) : Int × Int := (isq n, if isq n * isq n < n then isq n + 1 else isq n)
def rootM (n : Int) : (Int × Int) × Int := if n < 0 ∨ 1152921504606846976 < n then ((0, 0), 2) else (spanM n, 0)
noncomputable def c12 : Ctr := ⟨[i64], [], [], .tup [Sp, i64], fun _ _ _ => True, fun x _ _ => ((rootM x.1).1, (rootM x.1).2, ())⟩
def halfPow (k : Nat) : Int := match k with
  | 0 => 0
  | k + 1 => 2 ^ k
noncomputable def l12 (x : TsS c12.as) (_ : TsF c12.fs) (_ : TsS c12.cs) : Nat → Option Sx.Loop
  | 5 => some ⟨{ p : Nat × Int // p.1 ≤ 31 ∧ 0 ≤ p.2 ∧ p.2 * p.2 ≤ x.1 ∧ x.1 < (p.2 + 2 ^ p.1) * (p.2 + 2 ^ p.1) }, fun p => [(4, ⟨none, .c false [.v (.int .i64 p.1.2)]⟩), (5, ⟨none, .c false [.v (.int .i64 (halfPow p.1.1))]⟩)], fun _ => [], [], fun p => p.1.1⟩
  | _ => none
noncomputable def L13 : List (Nat × Ctr) := (12, c12) :: L12
noncomputable def c13 : Ctr := ⟨[i64], [], [], .one Sp, fun (x : Int × PUnit) _ _ => 0 ≤ x.1 ∧ x.1 ≤ 1152921504606846976, fun x _ _ => spanM x.1⟩
noncomputable def l13 (x : TsS c13.as) (_ : TsF c13.fs) (_ : TsS c13.cs) : Nat → Option Sx.Loop
  | 2 => some ⟨{ p : Int × Int // 0 ≤ p.1 ∧ p.1 < p.2 ∧ p.2 ≤ 1073741825 ∧ p.1 * p.1 ≤ x.1 ∧ x.1 < p.2 * p.2 }, fun p => [(3, ⟨none, .c false [.v (.int .i64 p.1.1)]⟩), (4, ⟨none, .c false [.v (.int .i64 p.1.2)]⟩)], fun _ => [], [], fun p => (p.1.2 - p.1.1).toNat⟩
  | _ => none
noncomputable def L11 : List (Nat × Ctr) := (13, c13) :: L13
def lengthM (a b : P) : (Int × Int) × Int := if validM a && validM b then (spanM (sqM (subM b a)), 0) else ((0, 0), 1)
noncomputable def c11 : Ctr := ⟨[Pt, Pt], [], [], .tup [Sp, i64], fun _ _ _ => True, fun x _ _ => ((lengthM x.1 x.2.1).1, (lengthM x.1 x.2.1).2, ())⟩
noncomputable def L30 : List (Nat × Ctr) := (11, c11) :: L11
def inM (n : Int) : Bool := -1048576 ≤ n && n ≤ 1048576
noncomputable def c30 : Ctr := ⟨[i64], [], [], .one .bool, fun _ _ _ => True, fun x _ _ => inM x.1⟩
noncomputable def L15 : List (Nat × Ctr) := (30, c30) :: L30
noncomputable def c15 : Ctr := ⟨[Pt], [], [], .one .bool, fun _ _ _ => True, fun x _ _ => validM x.1⟩
noncomputable def L31 : List (Nat × Ctr) := (15, c15) :: L15
def minusM (a b : P) : P := (w (a.1 - b.1), w (a.2.1 - b.2.1), w (a.2.2 - b.2.2))
noncomputable def c31 : Ctr := ⟨[Pt, Pt], [], [], .one Pt, fun _ _ _ => True, fun x _ _ => minusM x.1 x.2.1⟩
noncomputable def L16 : List (Nat × Ctr) := (31, c31) :: L31
noncomputable def c16 : Ctr := ⟨[Pt, Pt], [], [], .one i64, fun x _ _ => validM x.1 = true ∧ validM x.2.1 = true, fun x _ _ => sqM (subM x.2.1 x.1)⟩
noncomputable def L9 : List (Nat × Ctr) := (16, c16) :: L16
noncomputable def c9 : Ctr := ⟨[], [], [], .one .bool, fun _ _ _ => True, fun _ _ _ => true⟩
noncomputable def L3 : List (Nat × Ctr) := (9, c9) :: L9
noncomputable def c3 : Ctr := ⟨[Pt, Pt, i64], [], [], .one .bool, fun _ _ _ => True, fun _ _ _ => true⟩
noncomputable def L4 : List (Nat × Ctr) := (3, c3) :: L3
noncomputable def c4 : Ctr := ⟨[Pt, Pt, Pt], [], [], .one .bool, fun _ _ _ => True, fun _ _ _ => true⟩
noncomputable def L50 : List (Nat × Ctr) := (4, c4) :: L4
noncomputable def c50 : Ctr := ⟨[i64], [], [], .one .bool, fun _ _ _ => True, fun _ _ _ => false⟩
noncomputable def L45 : List (Nat × Ctr) := (50, c50) :: L50
def cmpM (x y : Int) : Int := if x < y then -1 else if y < x then 1 else 0
noncomputable def c45 : Ctr := ⟨[i64, i64], [], [], .one i64, fun _ _ _ => True, fun (x : Int × Int × PUnit) _ _ => cmpM x.1 x.2.1⟩
noncomputable def L33 : List (Nat × Ctr) := (45, c45) :: L45
def turnM (a b c : P) : Int := cmpM ((b.1 - a.1) * (c.2.1 - a.2.1)) ((b.2.1 - a.2.1) * (c.1 - a.1))
noncomputable def c33 : Ctr := ⟨[Pt, Pt, Pt], [], [], .one i64, fun (x : P × P × P × PUnit) _ _ => validM x.1 = true ∧ validM x.2.1 = true ∧ validM x.2.2.1 = true, fun (x : P × P × P × PUnit) _ _ => turnM x.1 x.2.1 x.2.2.1⟩
noncomputable def L18 : List (Nat × Ctr) := (33, c33) :: L33
def turnsM (a b c : P) : Int × Int := if validM a && validM b && validM c then (turnM a b c, 0) else (0, 1)
noncomputable def c18 : Ctr := ⟨[Pt, Pt, Pt], [], [], .tup [i64, i64], fun _ _ _ => True, fun (x : P × P × P × PUnit) _ _ => ((turnsM x.1 x.2.1 x.2.2.1).1, (turnsM x.1 x.2.1 x.2.2.1).2, ())⟩
noncomputable def L19 : List (Nat × Ctr) := (18, c18) :: L18
noncomputable def c19 : Ctr := ⟨[Pt, Pt, Pt], [], [], .one i64, fun (x : P × P × P × PUnit) _ _ => validM x.1 = true ∧ validM x.2.1 = true ∧ validM x.2.2.1 = true, fun (x : P × P × P × PUnit) _ _ => turnM x.1 x.2.1 x.2.2.1⟩
noncomputable def L32 : List (Nat × Ctr) := (19, c19) :: L19
/-- a part of the way from a to b -/
def partM (a b num den : Int) : Int := a + (b - a) * num / den
noncomputable def c32 : Ctr := ⟨[i64, i64], [], [i64, i64], .one i64, fun (x : Int × Int × PUnit) _ (y : Int × Int × PUnit) => -1048576 ≤ x.1 ∧ x.1 ≤ 1048576 ∧ -1048576 ≤ x.2.1 ∧ x.2.1 ≤ 1048576 ∧ 0 ≤ y.1 ∧ y.1 ≤ 1000 ∧ 1 ≤ y.2.1 ∧ y.2.1 ≤ 1000,
  fun (x : Int × Int × PUnit) _ (y : Int × Int × PUnit) => partM x.1 x.2.1 y.1 y.2.1⟩
noncomputable def L34 : List (Nat × Ctr) := (32, c32) :: L32
noncomputable def c34 : Ctr := ⟨[i64, i64], [], [], .one i64, fun (x : Int × Int × PUnit) _ _ => -4000000000 ≤ x.1 ∧ x.1 ≤ 4000000000 ∧ 1 ≤ x.2.1 ∧ x.2.1 ≤ 1000, fun (x : Int × Int × PUnit) _ _ => x.1 / x.2.1⟩
noncomputable def L17 : List (Nat × Ctr) := (34, c34) :: L34
def midM (a b : P) (num den : Int) : P := (partM a.1 b.1 num den, partM a.2.1 b.2.1 num den, partM a.2.2 b.2.2 num den)
def betweenM (a b : P) (num den : Int) : P × Int := if !(validM a && validM b) then ((0, 0, 0), 1) else if den < 1 ∨ 1000 < den ∨ num < 0 ∨ den < num then ((0, 0, 0), 2) else (midM a b num den, 0)
noncomputable def c17 : Ctr := ⟨[Pt, Pt, i64, i64], [], [], .tup [Pt, i64], fun _ _ _ => True, fun (x : P × P × Int × Int × PUnit) _ _ => ((betweenM x.1 x.2.1 x.2.2.1 x.2.2.2.1).1, (betweenM x.1 x.2.1 x.2.2.1 x.2.2.2.1).2, ())⟩
noncomputable def L20 : List (Nat × Ctr) := (17, c17) :: L17
noncomputable def c20 : Ctr := ⟨[Pt, Pt, i64, i64], [], [], .one Pt, fun (x : P × P × Int × Int × PUnit) _ _ => validM x.1 = true ∧ validM x.2.1 = true ∧ 1 ≤ x.2.2.2.1 ∧ x.2.2.2.1 ≤ 1000 ∧ 0 ≤ x.2.2.1 ∧ x.2.2.1 ≤ x.2.2.2.1, fun (x : P × P × Int × Int × PUnit) _ _ => midM x.1 x.2.1 x.2.2.1 x.2.2.2.1⟩
noncomputable def L5 : List (Nat × Ctr) := (20, c20) :: L20
noncomputable def c5 : Ctr := ⟨[Pt, Pt, Pt, i64, i64], [], [], .one .bool, fun _ _ _ => True, fun _ _ _ => true⟩
end Go.Proofs.Ytniibhkddipcjaa
