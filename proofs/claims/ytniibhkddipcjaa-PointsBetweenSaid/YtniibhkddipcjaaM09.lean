/- Chapter 9: what PointsBetween does: the conditions (printed by a program), and their proofs. -/
import Derived.Test.YtniibhkddipcjaaB09
namespace Go.Proofs.Ytniibhkddipcjaa
open Try Sx

set_option maxRecDepth 100000
theorem e20 (x : (Int × Int × Int) × (Int × Int × Int) × Int × Int × PUnit) (F : PUnit) (y : PUnit) :
  exec (ctxOf prog shs L20) f20.ntmps (fun _ => none) (f20.body.getD .skip) (c20.init x F y) (post prog c20 f20.results (c20.m x F y)) =
  (let v3 : P := minusM x.snd.fst x.fst;
  let v4 : Int := IntKind.wrap IntKind.i64 (v3.fst * x.snd.snd.fst);
  let v5 : Int := IntKind.wrap IntKind.i64 (v3.snd.fst * x.snd.snd.fst);
  let v6 : Int := IntKind.wrap IntKind.i64 (v3.snd.snd * x.snd.snd.fst); True ∧ (((-4000000000 : Int) ≤ v4 ∧ v4 ≤ (4000000000 : Int) ∧ (1 : Int) ≤ x.snd.snd.snd.fst ∧
    x.snd.snd.snd.fst ≤ (1000 : Int)) ∧ ((-4000000000 : Int) ≤ v5 ∧ v5 ≤ (4000000000 : Int) ∧ (1 : Int) ≤ x.snd.snd.snd.fst ∧ x.snd.snd.snd.fst ≤ (1000 : Int)) ∧ (-4000000000 : Int) ≤ v6 ∧
    v6 ≤ (4000000000 : Int) ∧ (1 : Int) ≤ x.snd.snd.snd.fst ∧ x.snd.snd.snd.fst ≤ (1000 : Int)) ∧
    (IntKind.wrap IntKind.i64 (x.fst.fst + v4 / x.snd.snd.snd.fst), IntKind.wrap IntKind.i64 (x.fst.snd.fst + v5 / x.snd.snd.snd.fst), IntKind.wrap IntKind.i64 (x.fst.snd.snd + v6 /
    x.snd.snd.snd.fst)) = midM x.fst x.snd.fst x.snd.snd.fst x.snd.snd.snd.fst) := by kernel_rfl

theorem e5 (x : (Int × Int × Int) × (Int × Int × Int) × (Int × Int × Int) × Int × Int × PUnit) (F : PUnit) (y : PUnit) :
  exec (ctxOf prog shs L5) f5.ntmps (fun _ => none) (f5.body.getD .skip) (c5.init x F y) (post prog c5 f5.results (c5.m x F y)) =
  (let v3 : Bool := validM x.fst;
  let v4 : Bool := !v3;
  let v5 : Bool := validM x.snd.fst;
  let v6 : Bool := validM x.snd.snd.fst;
  let v7 : Bool := bif v4 then true else !v5;
  let v8 : Int × Int := turnsM x.fst x.snd.fst x.snd.snd.fst;
  let v9 : Bool := bif v7 then true else !v6;
  let v10 : Bool := decide (x.snd.snd.snd.snd.fst < (1 : Int));
  let v11 : P × Int := betweenM x.fst x.snd.fst x.snd.snd.snd.fst x.snd.snd.snd.snd.fst;
  let v12 : P := midM x.fst x.snd.fst x.snd.snd.snd.fst x.snd.snd.snd.snd.fst;
  let v13 : Bool := bif v10 then true else decide (x.snd.snd.snd.snd.fst > (1000 : Int));
  let v14 : Bool := bif v13 then true else decide (x.snd.snd.snd.fst < (0 : Int));
  let v15 : Bool := !decide (v8.fst = (0 : Int));
  let v16 : Bool := bif v14 then true else decide (x.snd.snd.snd.fst > x.snd.snd.snd.snd.fst);
  let v17 : Bool := !decide (v8.fst = turnM x.fst x.snd.fst x.snd.snd.fst);
  let v18 : Bool := bif v15 then true else !decide (v8.snd = (1 : Int));
  let v19 : Bool := bif v17 then true else !decide (v8.snd = (0 : Int));
  let v20 : Bool := decide (v11.fst.fst = (0 : Int)) && (decide (v11.fst.snd.fst = (0 : Int)) && (decide (v11.fst.snd.snd = (0 : Int)) && true));
  let v21 : Bool := decide (v11.fst.fst = v12.fst) && (decide (v11.fst.snd.fst = v12.snd.fst) && (decide (v11.fst.snd.snd = v12.snd.snd) && true)); True ∧ (false = true → false = true) ∧
    (false = false → True ∧ True ∧ (True ∧ ((!v4) = true → (!v4) = true → (!v4) = true) ∧ ((!v4) = true → True) ∧ ((!v4) = true → (!v4) = true → (!v4) = true) ∧ (v4 = false →
    (!v4) = true) ∧ ((!v7) = true → (!v7) = true → (!v7) = true) ∧ ((!v7) = true → True) ∧ ((!v7) = true → (!v7) = true → (!v7) = true) ∧ (v7 = false → (!v7) = true)) ∧ (v9 = true →
    (((!v15) = true → (!v15) = true → (!v15) = true) ∧ (v15 = false → (!v15) = true)) ∧ (v18 = true → false = true) ∧ (v18 = false → (True ∧ ((!v4) = true → (!v4) = true → (!v4) = true) ∧
    ((!v4) = true → True) ∧ ((!v4) = true → (!v4) = true → (!v4) = true) ∧ (v4 = false → (!v4) = true)) ∧ (v7 = true → ((v20 = true → v20 = true → v20 = true) ∧ (v20 = true → v20 = true)) ∧
    (bif v20 then decide (v11.snd = (1 : Int)) else false) = true) ∧ (v7 = false → (((!v10) = true → (!v10) = true → (!v10) = true) ∧ (v10 = false → (!v10) = true) ∧ ((!v13) = true →
    (!v13) = true → (!v13) = true) ∧ (v13 = false → (!v13) = true) ∧ ((!v14) = true → (!v14) = true → (!v14) = true) ∧ ((!v14) = true → (!v14) = true → (!v14) = true) ∧ (v14 = false →
    (!v14) = true)) ∧ (v16 = true → ((v20 = true → v20 = true → v20 = true) ∧ (v20 = true → v20 = true)) ∧ (bif v20 then decide (v11.snd = (2 : Int)) else false) = true) ∧ (v16 = false →
    ((v3 = true ∧ v5 = true ∧ (1 : Int) ≤ x.snd.snd.snd.snd.fst ∧ x.snd.snd.snd.snd.fst ≤ (1000 : Int) ∧ (0 : Int) ≤ x.snd.snd.snd.fst ∧ x.snd.snd.snd.fst ≤ x.snd.snd.snd.snd.fst) ∧
    (v21 = true → v21 = true → v21 = true) ∧ (v21 = true → v21 = true)) ∧ (bif v21 then decide (v11.snd = (0 : Int)) else false) = true)))) ∧ (v9 = false → ((v3 = true ∧ v5 = true ∧
    v6 = true) ∧ ((!v17) = true → (!v17) = true → (!v17) = true) ∧ (v17 = false → (!v17) = true)) ∧ (v19 = true → false = true) ∧ (v19 = false → (True ∧ ((!v4) = true → (!v4) = true →
    (!v4) = true) ∧ ((!v4) = true → True) ∧ ((!v4) = true → (!v4) = true → (!v4) = true) ∧ (v4 = false → (!v4) = true)) ∧ (v7 = true → ((v20 = true → v20 = true → v20 = true) ∧
    (v20 = true → v20 = true)) ∧ (bif v20 then decide (v11.snd = (1 : Int)) else false) = true) ∧ (v7 = false → (((!v10) = true → (!v10) = true → (!v10) = true) ∧ (v10 = false →
    (!v10) = true) ∧ ((!v13) = true → (!v13) = true → (!v13) = true) ∧ (v13 = false → (!v13) = true) ∧ ((!v14) = true → (!v14) = true → (!v14) = true) ∧ ((!v14) = true → (!v14) = true →
    (!v14) = true) ∧ (v14 = false → (!v14) = true)) ∧ (v16 = true → ((v20 = true → v20 = true → v20 = true) ∧ (v20 = true → v20 = true)) ∧
    (bif v20 then decide (v11.snd = (2 : Int)) else false) = true) ∧ (v16 = false → ((v3 = true ∧ v5 = true ∧ (1 : Int) ≤ x.snd.snd.snd.snd.fst ∧ x.snd.snd.snd.snd.fst ≤ (1000 : Int) ∧
    (0 : Int) ≤ x.snd.snd.snd.fst ∧ x.snd.snd.snd.fst ≤ x.snd.snd.snd.snd.fst) ∧ (v21 = true → v21 = true → v21 = true) ∧ (v21 = true → v21 = true)) ∧
    (bif v21 then decide (v11.snd = (0 : Int)) else false) = true)))))) := by kernel_rfl

theorem ok20 : c20.ok prog 20 := Ctr.of_exec okL20 hmix func20 rfl (by decide) (fun _ _ _ _ => none) fun (x : P × P × Int × Int × PUnit) F y hp => by
  refine (e20 x F y).mpr ?_
  obtain ⟨ha, hb, h1, h2, h3, h4⟩ : validM x.1 = true ∧ validM x.2.1 = true ∧ 1 ≤ x.2.2.2.1 ∧ x.2.2.2.1 ≤ 1000 ∧ 0 ≤ x.2.2.1 ∧ x.2.2.1 ≤ x.2.2.2.1 := hp
  rw [validM_iff] at ha hb
  have e : minusM x.2.1 x.1 = subM x.2.1 x.1 := minusM_id hb ha
  unfold inP at ha hb
  have m1 := abs_mul_le (a := x.2.1.1 - x.1.1) (b := x.2.2.1) (m := 2097152) (n := 1000) (by omega) (by omega) (by omega) (by omega)
  have m2 := abs_mul_le (a := x.2.1.2.1 - x.1.2.1) (b := x.2.2.1) (m := 2097152) (n := 1000) (by omega) (by omega) (by omega) (by omega)
  have m3 := abs_mul_le (a := x.2.1.2.2 - x.1.2.2) (b := x.2.2.1) (m := 2097152) (n := 1000) (by omega) (by omega) (by omega) (by omega)
  have dv : ∀ n : Int, -(2097152 * 1000) ≤ n → n ≤ 2097152 * 1000 → -2097152000 ≤ n / x.2.2.2.1 ∧ n / x.2.2.2.1 ≤ 2097152000 := fun n g1 g2 => by
    have hf := floor_of (n := n) (d := x.2.2.2.1) (by omega)
    have hb := tdiv_bound (n := n) (d := x.2.2.2.1) (m := 2097152000) (by omega) (by omega)
    have hm := Int.mul_tdiv_add_tmod n x.2.2.2.1
    have hle : n / x.2.2.2.1 * x.2.2.2.1 ≤ n := Int.ediv_mul_le _ (by omega)
    refine ⟨?_, by split at hf <;> omega⟩
    rw [Int.le_ediv_iff_mul_le (by omega)]
    have : -2097152000 * x.2.2.2.1 ≤ -2097152000 * 1 := by omega
    omega
  have d1 := dv _ m1.1 m1.2
  have d2 := dv _ m2.1 m2.2
  have d3 := dv _ m3.1 m3.2
  rw [e]
  simp only [subM]
  rw [w_id (x := (x.2.1.1 - x.1.1) * x.2.2.1) (by omega) (by omega), w_id (x := (x.2.1.2.1 - x.1.2.1) * x.2.2.1) (by omega) (by omega), w_id (x := (x.2.1.2.2 - x.1.2.2) * x.2.2.1) (by omega) (by omega)]
  refine ⟨trivial, ⟨by omega, by omega, by omega⟩, ?_⟩
  rw [w_id (x := x.1.1 + _) (by omega) (by omega), w_id (x := x.1.2.1 + _) (by omega) (by omega), w_id (x := x.1.2.2 + _) (by omega) (by omega)]
  rfl
theorem okL5 : (ctxOf prog shs L5).ok := ctxOf_cons okL20 (by kernel_rfl) ok20
theorem ok5 : c5.ok prog 5 := Ctr.of_exec okL5 hmix func5 rfl (by decide) (fun _ _ _ _ => none) fun (x : P × P × P × Int × Int × PUnit) F y _ => by
  refine (e5 x F y).mpr ?_
  have hs : betweenM x.1 x.2.1 x.2.2.2.1 x.2.2.2.2.1 = if (!(validM x.1 && validM x.2.1)) = true then ((0, 0, 0), 1) else if x.2.2.2.2.1 < 1 ∨ 1000 < x.2.2.2.2.1 ∨ x.2.2.2.1 < 0 ∨ x.2.2.2.2.1 < x.2.2.2.1 then ((0, 0, 0), 2) else (midM x.1 x.2.1 x.2.2.2.1 x.2.2.2.2.1, 0) := rfl
  have ht : turnsM x.1 x.2.1 x.2.2.1 = if (validM x.1 && validM x.2.1 && validM x.2.2.1) = true then (turnM x.1 x.2.1 x.2.2.1, 0) else (0, 1) := rfl
  rw [hs, ht]
  clear hs ht
  generalize midM x.1 x.2.1 x.2.2.2.1 x.2.2.2.2.1 = mid
  generalize turnM x.1 x.2.1 x.2.2.1 = tu
  have e8 : ∀ n d : Int, (bif (bif (bif decide (d < 1) then true else decide (d > 1000)) then true else decide (n < 0)) then true else decide (n > d)) = decide (d < 1 ∨ 1000 < d ∨ n < 0 ∨ d < n) := fun n d => by
    simp only [Bool.cond_true_left, Bool.decide_or, Bool.or_assoc]
  by_cases hr : x.2.2.2.2.1 < 1 ∨ 1000 < x.2.2.2.2.1 ∨ x.2.2.2.1 < 0 ∨ x.2.2.2.2.1 < x.2.2.2.1
  · have h8 := e8 x.2.2.2.1 x.2.2.2.2.1
    rw [decide_eq_true hr] at h8
    simp only [hr, h8]
    generalize validM x.1 = va
    generalize validM x.2.1 = vb
    generalize validM x.2.2.1 = vc
    cases va <;> cases vb <;> cases vc <;> simp
  · have h8 := e8 x.2.2.2.1 x.2.2.2.2.1
    rw [decide_eq_false hr] at h8
    simp only [hr, h8]
    generalize validM x.1 = va
    generalize validM x.2.1 = vb
    generalize validM x.2.2.1 = vc
    cases va <;> cases vb <;> cases vc <;> simp <;> omega
theorem pre5 (x : TsS c5.as) (_ : wfs c5.as x) : c5.pre x () () := trivial
end Go.Proofs.Ytniibhkddipcjaa
