/- Chapter 9: what PointsBetween and PointsTurns reach: the conditions (printed by a program), and their proofs. -/
import Derived.Test.YtniibhkddipcjaaW09
namespace Go.Proofs.Ytniibhkddipcjaa
open Try Sx

set_option maxRecDepth 100000
theorem e50 (x : Int × PUnit) (F : PUnit) (y : PUnit) :
  exec (ctxOf prog shs L50) f50.ntmps (fun _ => none) (f50.body.getD .skip) (c50.init x F y) (post prog c50 f50.results (c50.m x F y)) =
  ((!decide (x.fst = x.fst)) = false) := by kernel_rfl

theorem e45 (x : Int × Int × PUnit) (F : PUnit) (y : PUnit) :
  exec (ctxOf prog shs L45) f45.ntmps (fun _ => none) (f45.body.getD .skip) (c45.init x F y) (post prog c45 f45.results (c45.m x F y)) =
  (let v3 : Int := cmpM x.fst x.snd.fst;
  let v4 : Bool := decide (x.fst < x.snd.fst);
  let v5 : Bool := decide (x.fst > x.snd.fst); True ∧ True ∧ (false = true → (false = true → (0 : Int) = v3) ∧ (false = false → (-1 : Int) = v3)) ∧ (false = false → (false = true →
    (1 : Int) = v3) ∧ (false = false → (v4 = true → (-1 : Int) = v3) ∧ (v4 = false → (v5 = true → (1 : Int) = v3) ∧ (v5 = false → (0 : Int) = v3))))) := by kernel_rfl

theorem e33 (x : (Int × Int × Int) × (Int × Int × Int) × (Int × Int × Int) × PUnit) (F : PUnit) (y : PUnit) :
  exec (ctxOf prog shs L33) f33.ntmps (fun _ => none) (f33.body.getD .skip) (c33.init x F y) (post prog c33 f33.results (c33.m x F y)) =
  (True ∧ cmpM (IntKind.wrap IntKind.i64 (IntKind.wrap IntKind.i64 (x.snd.fst.fst - x.fst.fst) * IntKind.wrap IntKind.i64 (x.snd.snd.fst.snd.fst - x.fst.snd.fst))) (IntKind.wrap IntKind.i64
    (IntKind.wrap IntKind.i64 (x.snd.fst.snd.fst - x.fst.snd.fst) * IntKind.wrap IntKind.i64 (x.snd.snd.fst.fst - x.fst.fst))) = turnM x.fst x.snd.fst x.snd.snd.fst) := by kernel_rfl

theorem e18 (x : (Int × Int × Int) × (Int × Int × Int) × (Int × Int × Int) × PUnit) (F : PUnit) (y : PUnit) :
  exec (ctxOf prog shs L18) f18.ntmps (fun _ => none) (f18.body.getD .skip) (c18.init x F y) (post prog c18 f18.results (c18.m x F y)) =
  (let v3 : Bool := validM x.fst;
  let v4 : Bool := validM x.snd.fst;
  let v5 : Bool := validM x.snd.snd.fst;
  let v6 : Int × Int := turnsM x.fst x.snd.fst x.snd.snd.fst;
  let v7 : Bool := !(v3 && (v4 && (v5 && true))); (3 : Nat) < (9223372036854775808 : Nat) ∧ (v7 = true → True ∧ (0 : Int) = v6.fst ∧ (1 : Int) = v6.snd) ∧ (v7 = false → (v3 = true ∧
    v4 = true ∧ v5 = true) ∧ True ∧ turnM x.fst x.snd.fst x.snd.snd.fst = v6.fst ∧ (0 : Int) = v6.snd)) := by kernel_rfl

theorem e19 (x : (Int × Int × Int) × (Int × Int × Int) × (Int × Int × Int) × PUnit) (F : PUnit) (y : PUnit) :
  exec (ctxOf prog shs L19) f19.ntmps (fun _ => none) (f19.body.getD .skip) (c19.init x F y) (post prog c19 f19.results (c19.m x F y)) =
  (let v3 : P := minusM x.snd.fst x.fst;
  let v4 : P := minusM x.snd.snd.fst x.fst;
  let v5 : Int := turnM x.fst x.snd.fst x.snd.snd.fst;
  let v6 : Int := IntKind.wrap IntKind.i64 (v3.fst * v4.snd.fst);
  let v7 : Int := IntKind.wrap IntKind.i64 (v3.snd.fst * v4.fst);
  let v8 : Bool := decide (v6 > v7);
  let v9 : Bool := decide (v6 < v7); (True ∧ True) ∧ (v8 = true → (1 : Int) = v5) ∧ (v8 = false → (v9 = true → (-1 : Int) = v5) ∧ (v9 = false → (0 : Int) = v5))) := by kernel_rfl

theorem e32 (x : Int × Int × PUnit) (F : PUnit) (y : Int × Int × PUnit) :
  exec (ctxOf prog shs L32) f32.ntmps (fun _ => none) (f32.body.getD .skip) (c32.init x F y) (post prog c32 f32.results (c32.m x F y)) =
  (let v3 : Int := partM x.fst x.snd.fst y.fst y.snd.fst;
  let v4 : Int := IntKind.wrap IntKind.i64 (y.fst * IntKind.wrap IntKind.i64 (x.snd.fst - x.fst));
  let v5 : Int := IntKind.wrap IntKind.i64 (Int.tdiv v4 y.snd.fst);
  let v6 : Bool := decide (Int.tmod v4 y.snd.fst < (0 : Int)); (y.snd.fst = (0 : Int) → False) ∧ (y.snd.fst = (0 : Int) → False) ∧ (v6 = true →
    IntKind.wrap IntKind.i64 (x.fst + IntKind.wrap IntKind.i64 (v5 - (1 : Int))) = v3) ∧ (v6 = false → IntKind.wrap IntKind.i64 (x.fst + v5) = v3)) := by kernel_rfl

theorem e34 (x : Int × Int × PUnit) (F : PUnit) (y : PUnit) :
  exec (ctxOf prog shs L34) f34.ntmps (fun _ => none) (f34.body.getD .skip) (c34.init x F y) (post prog c34 f34.results (c34.m x F y)) =
  (let v3 : Int := IntKind.wrap IntKind.i64 (Int.tdiv x.fst x.snd.fst);
  let v4 : Int := x.fst / x.snd.fst;
  let v5 : Bool := decide (IntKind.wrap IntKind.i64 (v3 * x.snd.fst) > x.fst); (x.snd.fst = (0 : Int) → False) ∧ (v5 = true → IntKind.wrap IntKind.i64 (v3 - (1 : Int)) = v4) ∧ (v5 = false →
    v3 = v4)) := by kernel_rfl

theorem e17 (x : (Int × Int × Int) × (Int × Int × Int) × Int × Int × PUnit) (F : PUnit) (y : PUnit) :
  exec (ctxOf prog shs L17) f17.ntmps (fun _ => none) (f17.body.getD .skip) (c17.init x F y) (post prog c17 f17.results (c17.m x F y)) =
  (let v3 : Bool := !(validM x.fst && (validM x.snd.fst && true));
  let v4 : Bool := decide (x.snd.snd.snd.fst < (1 : Int));
  let v5 : P × Int := betweenM x.fst x.snd.fst x.snd.snd.fst x.snd.snd.snd.fst;
  let v6 : Bool := bif v4 then true else decide (x.snd.snd.snd.fst > (1000 : Int));
  let v7 : Bool := bif v6 then true else decide (x.snd.snd.fst < (0 : Int));
  let v8 : Bool := bif v7 then true else decide (x.snd.snd.fst > x.snd.snd.snd.fst); (2 : Nat) < (9223372036854775808 : Nat) ∧ (v3 = true → True ∧
    ((0 : Int), (0 : Int), (0 : Int)) = v5.fst ∧ (1 : Int) = v5.snd) ∧ (v3 = false → (((!v4) = true → (!v4) = true → (!v4) = true) ∧ (v4 = false → (!v4) = true) ∧ ((!v6) = true →
    (!v6) = true → (!v6) = true) ∧ (v6 = false → (!v6) = true) ∧ ((!v7) = true → (!v7) = true → (!v7) = true) ∧ ((!v7) = true → (!v7) = true → (!v7) = true) ∧ (v7 = false → (!v7) = true)) ∧
    (v8 = true → True ∧ ((0 : Int), (0 : Int), (0 : Int)) = v5.fst ∧ (2 : Int) = v5.snd) ∧ (v8 = false → (((-1048576 : Int) ≤ x.fst.fst ∧ x.fst.fst ≤ (1048576 : Int) ∧
    (-1048576 : Int) ≤ x.snd.fst.fst ∧ x.snd.fst.fst ≤ (1048576 : Int) ∧ (0 : Int) ≤ x.snd.snd.fst ∧ x.snd.snd.fst ≤ (1000 : Int) ∧ (1 : Int) ≤ x.snd.snd.snd.fst ∧
    x.snd.snd.snd.fst ≤ (1000 : Int)) ∧ ((-1048576 : Int) ≤ x.fst.snd.fst ∧ x.fst.snd.fst ≤ (1048576 : Int) ∧ (-1048576 : Int) ≤ x.snd.fst.snd.fst ∧ x.snd.fst.snd.fst ≤ (1048576 : Int) ∧
    (0 : Int) ≤ x.snd.snd.fst ∧ x.snd.snd.fst ≤ (1000 : Int) ∧ (1 : Int) ≤ x.snd.snd.snd.fst ∧ x.snd.snd.snd.fst ≤ (1000 : Int)) ∧ (-1048576 : Int) ≤ x.fst.snd.snd ∧
    x.fst.snd.snd ≤ (1048576 : Int) ∧ (-1048576 : Int) ≤ x.snd.fst.snd.snd ∧ x.snd.fst.snd.snd ≤ (1048576 : Int) ∧ (0 : Int) ≤ x.snd.snd.fst ∧ x.snd.snd.fst ≤ (1000 : Int) ∧
    (1 : Int) ≤ x.snd.snd.snd.fst ∧ x.snd.snd.snd.fst ≤ (1000 : Int)) ∧ True ∧
    (partM x.fst.fst x.snd.fst.fst x.snd.snd.fst x.snd.snd.snd.fst, partM x.fst.snd.fst x.snd.fst.snd.fst x.snd.snd.fst x.snd.snd.snd.fst, partM x.fst.snd.snd x.snd.fst.snd.snd
    x.snd.snd.fst x.snd.snd.snd.fst) = v5.fst ∧ (0 : Int) = v5.snd))) := by kernel_rfl

theorem okL50 : (ctxOf prog shs L50).ok := ctxOf_cons okL4 (by kernel_rfl) ok4
theorem ok50 : c50.ok prog 50 := Ctr.of_exec okL50 hmix func50 rfl (by decide) (fun _ _ _ _ => none) fun (x : Int × PUnit) F y _ => by
  refine (e50 x F y).mpr ?_
  simp
theorem okL45 : (ctxOf prog shs L45).ok := ctxOf_cons okL50 (by kernel_rfl) ok50
theorem ok45 : c45.ok prog 45 := Ctr.of_exec okL45 hmix func45 rfl (by decide) (fun _ _ _ _ => none) fun (x : Int × Int × PUnit) F y _ => by
  refine (e45 x F y).mpr ?_
  intro v3 v4 v5
  refine ⟨trivial, trivial, by simp, fun _ => ⟨by simp, fun _ => ⟨fun h => ?_, fun h => ⟨fun h' => ?_, fun h' => ?_⟩⟩⟩⟩
  · have h : x.1 < x.2.1 := by simpa [v4] using h
    simp [v3, cmpM, h]
  · have h : ¬ x.1 < x.2.1 := by simpa [v4] using h
    have h' : x.2.1 < x.1 := by simpa [v5] using h'
    simp [v3, cmpM, h, h']
  · have h : ¬ x.1 < x.2.1 := by simpa [v4] using h
    have h' : ¬ x.2.1 < x.1 := by simpa [v5] using h'
    simp [v3, cmpM, h, h']
theorem abs_mul_le {a b m n : Int} (h1 : -m ≤ a) (h2 : a ≤ m) (h3 : -n ≤ b) (h4 : b ≤ n) : -(m * n) ≤ a * b ∧ a * b ≤ m * n := by
  have e : (a * b).natAbs ≤ m.natAbs * n.natAbs := by
    rw [Int.natAbs_mul]
    exact Nat.mul_le_mul (by omega) (by omega)
  have e2 : ((m.natAbs * n.natAbs : Nat) : Int) = m * n := by
    rw [Int.natCast_mul, Int.natAbs_of_nonneg (by omega), Int.natAbs_of_nonneg (by omega)]
  omega
theorem okL33 : (ctxOf prog shs L33).ok := ctxOf_cons okL45 (by kernel_rfl) ok45
theorem turn_bounds {a b c : P} (ha : inP a) (hb : inP b) (hc : inP c) : -4398046511104 ≤ (b.1 - a.1) * (c.2.1 - a.2.1) ∧ (b.1 - a.1) * (c.2.1 - a.2.1) ≤ 4398046511104 ∧ -4398046511104 ≤ (b.2.1 - a.2.1) * (c.1 - a.1) ∧ (b.2.1 - a.2.1) * (c.1 - a.1) ≤ 4398046511104 := by
  unfold inP at ha hb hc
  have h1 := abs_mul_le (a := b.1 - a.1) (b := c.2.1 - a.2.1) (m := 2097152) (n := 2097152) (by omega) (by omega) (by omega) (by omega)
  have h2 := abs_mul_le (a := b.2.1 - a.2.1) (b := c.1 - a.1) (m := 2097152) (n := 2097152) (by omega) (by omega) (by omega) (by omega)
  omega
theorem ok33 : c33.ok prog 33 := Ctr.of_exec okL33 hmix func33 rfl (by decide) (fun _ _ _ _ => none) fun (x : P × P × P × PUnit) F y hp => by
  refine (e33 x F y).mpr ⟨trivial, ?_⟩
  obtain ⟨ha, hb, hc⟩ : validM x.1 = true ∧ validM x.2.1 = true ∧ validM x.2.2.1 = true := hp
  rw [validM_iff] at ha hb hc
  obtain ⟨b1, b2, b3, b4⟩ := turn_bounds ha hb hc
  unfold inP at ha hb hc
  rw [w_id (x := x.2.1.1 - x.1.1) (by omega) (by omega), w_id (x := x.2.2.1.2.1 - x.1.2.1) (by omega) (by omega), w_id (x := x.2.1.2.1 - x.1.2.1) (by omega) (by omega), w_id (x := x.2.2.1.1 - x.1.1) (by omega) (by omega),
    w_id (x := (x.2.1.1 - x.1.1) * _) (by omega) (by omega), w_id (x := (x.2.1.2.1 - x.1.2.1) * _) (by omega) (by omega)]
  rfl
theorem okL18 : (ctxOf prog shs L18).ok := ctxOf_cons okL33 (by kernel_rfl) ok33
theorem ok18 : c18.ok prog 18 := Ctr.of_exec okL18 hmix func18 rfl (by decide) (fun _ _ _ _ => none) fun (x : P × P × P × PUnit) F y _ => by
  refine (e18 x F y).mpr ?_
  have hs : turnsM x.1 x.2.1 x.2.2.1 = if (validM x.1 && validM x.2.1 && validM x.2.2.1) = true then (turnM x.1 x.2.1 x.2.2.1, 0) else (0, 1) := rfl
  rw [hs]
  generalize validM x.1 = va
  generalize validM x.2.1 = vb
  generalize validM x.2.2.1 = vc
  cases va <;> cases vb <;> cases vc <;> simp
theorem okL19 : (ctxOf prog shs L19).ok := ctxOf_cons okL18 (by kernel_rfl) ok18
theorem minusM_id {a b : P} (ha : inP a) (hb : inP b) : minusM a b = subM a b := by
  unfold inP at ha hb
  simp only [minusM, subM, w]
  rw [w_id (by omega) (by omega), w_id (by omega) (by omega), w_id (by omega) (by omega)]
theorem ok19 : c19.ok prog 19 := Ctr.of_exec okL19 hmix func19 rfl (by decide) (fun _ _ _ _ => none) fun (x : P × P × P × PUnit) F y hp => by
  refine (e19 x F y).mpr ?_
  obtain ⟨ha, hb, hc⟩ : validM x.1 = true ∧ validM x.2.1 = true ∧ validM x.2.2.1 = true := hp
  rw [validM_iff] at ha hb hc
  obtain ⟨b1, b2, b3, b4⟩ := turn_bounds ha hb hc
  intro v3 v4 v5 v6 v7 v8 v9
  have e3 : v3 = subM x.2.1 x.1 := minusM_id hb ha
  have e4 : v4 = subM x.2.2.1 x.1 := minusM_id hc ha
  have e6 : v6 = (x.2.1.1 - x.1.1) * (x.2.2.1.2.1 - x.1.2.1) := by
    simp only [v6, e3, e4, subM]
    exact w_id (by omega) (by omega)
  have e7 : v7 = (x.2.1.2.1 - x.1.2.1) * (x.2.2.1.1 - x.1.1) := by
    simp only [v7, e3, e4, subM]
    exact w_id (by omega) (by omega)
  have e5 : v5 = cmpM v6 v7 := by rw [e6, e7]; rfl
  refine ⟨⟨trivial, trivial⟩, fun h => ?_, fun h => ⟨fun h' => ?_, fun h' => ?_⟩⟩
  · have h : v7 < v6 := by simpa [v8] using h
    have h2 : ¬ v6 < v7 := by omega
    simp [e5, cmpM, h, h2]
  · have h' : v6 < v7 := by simpa [v9] using h'
    simp [e5, cmpM, h']
  · have h : ¬ v7 < v6 := by simpa [v8] using h
    have h' : ¬ v6 < v7 := by simpa [v9] using h'
    simp [e5, cmpM, h, h']
theorem okL32 : (ctxOf prog shs L32).ok := ctxOf_cons okL19 (by kernel_rfl) ok19
/-- the quotient that Go gives, and the one rounded down -/
theorem floor_of {n d : Int} (hd : 0 < d) : n / d = if Int.tmod n d < 0 then Int.tdiv n d - 1 else Int.tdiv n d := by
  have h1 := Int.mul_tdiv_add_tmod n d
  have h2 := Int.tmod_lt_of_pos n hd
  have h3 := Int.lt_tmod_of_pos n hd
  split
  · exact ((Int.ediv_emod_unique hd (r := Int.tmod n d + d)).2 ⟨by rw [Int.mul_sub]; omega, by omega, by omega⟩).1
  · exact ((Int.ediv_emod_unique hd (r := Int.tmod n d)).2 ⟨by omega, by omega, by omega⟩).1
theorem tdiv_bound {n d m : Int} (h1 : -m ≤ n) (h2 : n ≤ m) : -m ≤ Int.tdiv n d ∧ Int.tdiv n d ≤ m := by
  have := Int.natAbs_tdiv_le_natAbs n d
  omega
theorem ok32 : c32.ok prog 32 := Ctr.of_exec okL32 hmix func32 rfl (by decide) (fun _ _ _ _ => none) fun (x : Int × Int × PUnit) F (y : Int × Int × PUnit) hp => by
  refine (e32 x F y).mpr ?_
  obtain ⟨h1, h2, h3, h4, h5, h6, h7, h8⟩ : -1048576 ≤ x.1 ∧ x.1 ≤ 1048576 ∧ -1048576 ≤ x.2.1 ∧ x.2.1 ≤ 1048576 ∧ 0 ≤ y.1 ∧ y.1 ≤ 1000 ∧ 1 ≤ y.2.1 ∧ y.2.1 ≤ 1000 := hp
  intro v3 v4 v5 v6
  have hb := abs_mul_le (a := y.1) (b := x.2.1 - x.1) (m := 1000) (n := 2097152) (by omega) (by omega) (by omega) (by omega)
  have e4 : v4 = (x.2.1 - x.1) * y.1 := by
    simp only [v4]
    rw [w_id (x := x.2.1 - x.1) (by omega) (by omega), w_id (by omega) (by omega), Int.mul_comm]
  rw [Int.mul_comm y.1] at hb
  rw [← e4] at hb
  have hq := tdiv_bound (n := v4) (d := y.2.1) (m := 2097152000) (by omega) (by omega)
  have e5 : v5 = Int.tdiv v4 y.2.1 := w_id (by omega) (by omega)
  have e3 : v3 = x.1 + v4 / y.2.1 := by rw [e4]; rfl
  have hf := floor_of (n := v4) (d := y.2.1) (by omega)
  refine ⟨fun h => by omega, fun h => by omega, fun h => ?_, fun h => ?_⟩
  · have h : Int.tmod v4 y.2.1 < 0 := by simpa [v6] using h
    rw [if_pos h] at hf
    rw [w_id (x := v5 - 1) (by omega) (by omega), w_id (by omega) (by omega)]
    omega
  · have h : ¬ Int.tmod v4 y.2.1 < 0 := by simpa [v6] using h
    rw [if_neg h] at hf
    rw [w_id (by omega) (by omega)]
    omega
theorem okL34 : (ctxOf prog shs L34).ok := ctxOf_cons okL32 (by kernel_rfl) ok32
theorem ok34 : c34.ok prog 34 := Ctr.of_exec okL34 hmix func34 rfl (by decide) (fun _ _ _ _ => none) fun (x : Int × Int × PUnit) F y hp => by
  refine (e34 x F y).mpr ?_
  obtain ⟨h1, h2, h3, h4⟩ : -4000000000 ≤ x.1 ∧ x.1 ≤ 4000000000 ∧ 1 ≤ x.2.1 ∧ x.2.1 ≤ 1000 := hp
  have hf := floor_of (n := x.1) (d := x.2.1) (by omega)
  have hm := Int.mul_tdiv_add_tmod x.1 x.2.1
  have hlt := Int.tmod_lt_of_pos x.1 (b := x.2.1) (by omega)
  have hgt := Int.lt_tmod_of_pos x.1 (b := x.2.1) (by omega)
  have hq := tdiv_bound (n := x.1) (d := x.2.1) (m := 4000000000) (by omega) (by omega)
  rw [Int.mul_comm] at hm
  have e0 : IntKind.wrap .i64 (Int.tdiv x.1 x.2.1) = Int.tdiv x.1 x.2.1 := w_id (by omega) (by omega)
  have e1 : IntKind.wrap .i64 (Int.tdiv x.1 x.2.1 * x.2.1) = Int.tdiv x.1 x.2.1 * x.2.1 := w_id (by omega) (by omega)
  have e2 : IntKind.wrap .i64 (Int.tdiv x.1 x.2.1 - 1) = Int.tdiv x.1 x.2.1 - 1 := w_id (by omega) (by omega)
  simp only [e0, e1, e2, hf]
  refine ⟨fun h => by omega, fun h => ?_, fun h => ?_⟩
  · have h : x.1 < Int.tdiv x.1 x.2.1 * x.2.1 := by simpa using h
    rw [if_pos (by omega)]
  · have h : ¬ x.1 < Int.tdiv x.1 x.2.1 * x.2.1 := by simpa using h
    rw [if_neg (by omega)]
theorem okL17 : (ctxOf prog shs L17).ok := ctxOf_cons okL34 (by kernel_rfl) ok34
theorem ok17 : c17.ok prog 17 := Ctr.of_exec okL17 hmix func17 rfl (by decide) (fun _ _ _ _ => none) fun (x : P × P × Int × Int × PUnit) F y _ => by
  refine (e17 x F y).mpr ?_
  have hs : betweenM x.1 x.2.1 x.2.2.1 x.2.2.2.1 = if (!(validM x.1 && validM x.2.1)) = true then ((0, 0, 0), 1) else if x.2.2.2.1 < 1 ∨ 1000 < x.2.2.2.1 ∨ x.2.2.1 < 0 ∨ x.2.2.2.1 < x.2.2.1 then ((0, 0, 0), 2) else (midM x.1 x.2.1 x.2.2.1 x.2.2.2.1, 0) := rfl
  rw [hs]
  intro v3 v4 v5 v6 v7 v8
  have e8 : v8 = decide (x.2.2.2.1 < 1 ∨ 1000 < x.2.2.2.1 ∨ x.2.2.1 < 0 ∨ x.2.2.2.1 < x.2.2.1) := by
    simp only [v8, v7, v6, v4, Bool.cond_true_left, Bool.decide_or, Bool.or_assoc]
  by_cases hv : (validM x.1 && validM x.2.1) = true
  · have e3 : v3 = false := by simp only [v3, Bool.and_true, hv, Bool.not_true]
    obtain ⟨ha, hb⟩ := valid2 hv
    unfold inP at ha hb
    by_cases hr : x.2.2.2.1 < 1 ∨ 1000 < x.2.2.2.1 ∨ x.2.2.1 < 0 ∨ x.2.2.2.1 < x.2.2.1
    · have e5 : v5 = ((0, 0, 0), 2) := by simp only [v5, hv, hr]; rfl
      simp [e3, e8, hr, e5]
    · have e5 : v5 = (midM x.1 x.2.1 x.2.2.1 x.2.2.2.1, 0) := by simp only [v5, hv, hr]; rfl
      simp only [e3, e8, hr, e5]
      refine ⟨by omega, by simp, fun _ => ⟨by simp, by simp, fun _ => ⟨⟨by omega, by omega, by omega⟩, trivial, rfl, trivial⟩⟩⟩
  · have e3 : v3 = true := by simp only [v3, Bool.and_true, Bool.not_eq_true']; simpa only [Bool.not_eq_true] using hv
    have e5 : v5 = ((0, 0, 0), 1) := by simp only [v5, hv]; rfl
    simp [e3, e5]
theorem okL20 : (ctxOf prog shs L20).ok := ctxOf_cons okL17 (by kernel_rfl) ok17
end Go.Proofs.Ytniibhkddipcjaa
