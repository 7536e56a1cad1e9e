/- Chapter 9: what PointsWays does: the condition of it (printed by a program), and its proof. -/
import Derived.Test.YtniibhkddipcjaaP09
namespace Go.Proofs.Ytniibhkddipcjaa
open Try Sx

set_option maxRecDepth 100000
theorem e4 (x : (Int × Int × Int) × (Int × Int × Int) × (Int × Int × Int) × PUnit) (F : PUnit) (y : PUnit) :
  exec (ctxOf prog shs L4) f4.ntmps (fun _ => none) (f4.body.getD .skip) (c4.init x F y) (post prog c4 f4.results (c4.m x F y)) =
  (let v3 : (Int × Int) × Int := lengthM x.fst x.snd.fst;
  let v4 : (Int × Int) × Int := lengthM x.snd.fst x.fst;
  let v5 : Int × Int := squareM x.fst x.snd.fst;
  let v6 : (Int × Int) × Int := lengthM x.fst x.snd.snd.fst;
  let v7 : (Int × Int) × Int := lengthM x.snd.snd.fst x.snd.fst;
  let v8 : Int := IntKind.wrap IntKind.i64 (v3.fst.fst * v3.fst.fst);
  let v9 : Int := IntKind.wrap IntKind.i64 (v3.fst.snd * v3.fst.snd);
  let v10 : Bool := !decide (v5.snd = (0 : Int));
  let v11 : Bool := !decide (v3.snd = (0 : Int));
  let v12 : Bool := !decide (v6.snd = (0 : Int));
  let v13 : Bool := !decide (v3.snd = v4.snd);
  let v14 : Bool := decide (v3.fst.fst < v3.fst.snd);
  let v15 : Bool := bif v10 then true else decide (v3.fst.fst < (0 : Int));
  let v16 : Bool := bif v12 then true else !decide (v7.snd = (0 : Int));
  let v17 : Bool := decide (v8 = v5.fst);
  let v18 : Bool := bif v15 then true else decide (IntKind.wrap IntKind.i64 (v3.fst.snd - v3.fst.fst) > (1 : Int));
  let v19 : Bool := bif v13 then true else !(decide (v3.fst.fst = v4.fst.fst) && (decide (v3.fst.snd = v4.fst.snd) && true));
  let v20 : Bool := bif v18 then true else decide (v3.fst.fst > v3.fst.snd);
  let v21 : Bool := bif v20 then true else decide (v3.fst.fst > (1073741824 : Int));
  let v22 : Bool := bif v21 then true else decide (v8 > v5.fst);
  let v23 : Bool := bif v22 then true else decide (v9 < v5.fst);
  let v24 : Bool := !v23;
  let v25 : Bool := v24 && v14;
  let v26 : Bool := bif v23 then true else bif v14 then bif v17 then true else decide (v9 = v5.fst) else false; True ∧ (false = true → false = true) ∧ (false = false → True ∧ True ∧
    (((!v13) = true → (!v13) = true → (!v13) = true) ∧ ((!v13) = true → (!v13) = true → (!v13) = true) ∧ (v13 = false → (!v13) = true)) ∧ (v19 = true → false = true) ∧ (v19 = false →
    (v11 = true → (decide (v3.fst.fst = (0 : Int)) && (decide (v3.fst.snd = (0 : Int)) && true)) = true) ∧ (v11 = false → True ∧ (((!v10) = true → (!v10) = true → (!v10) = true) ∧
    ((!v10) = true → (!v10) = true → (!v10) = true) ∧ (v10 = false → (!v10) = true) ∧ ((!v15) = true → (!v15) = true → (!v15) = true) ∧ ((!v15) = true → (!v15) = true → (!v15) = true) ∧
    ((!v15) = true → (!v15) = true → (!v15) = true) ∧ ((!v15) = true → (!v15) = true → (!v15) = true) ∧ ((!v15) = true → (!v15) = true → (!v15) = true) ∧ (v15 = false → (!v15) = true) ∧
    ((!v18) = true → (!v18) = true → (!v18) = true) ∧ ((!v18) = true → (!v18) = true → (!v18) = true) ∧ ((!v18) = true → (!v18) = true → (!v18) = true) ∧ ((!v18) = true → (!v18) = true →
    (!v18) = true) ∧ (v18 = false → (!v18) = true) ∧ ((!v20) = true → (!v20) = true → (!v20) = true) ∧ ((!v20) = true → (!v20) = true → (!v20) = true) ∧ (v20 = false → (!v20) = true) ∧
    ((!v21) = true → (!v21) = true → (!v21) = true) ∧ ((!v21) = true → (!v21) = true → (!v21) = true) ∧ ((!v21) = true → (!v21) = true → (!v21) = true) ∧ ((!v21) = true → (!v21) = true →
    (!v21) = true) ∧ ((!v21) = true → (!v21) = true → (!v21) = true) ∧ ((!v21) = true → (!v21) = true → (!v21) = true) ∧ (v21 = false → (!v21) = true) ∧ ((!v22) = true → (!v22) = true →
    (!v22) = true) ∧ ((!v22) = true → (!v22) = true → (!v22) = true) ∧ ((!v22) = true → (!v22) = true → (!v22) = true) ∧ ((!v22) = true → (!v22) = true → (!v22) = true) ∧ ((!v22) = true →
    (!v22) = true → (!v22) = true) ∧ ((!v22) = true → (!v22) = true → (!v22) = true) ∧ (v22 = false → (!v22) = true) ∧ (v24 = true → v24 = true → v24 = true) ∧ (v24 = true → v24 = true →
    v24 = true) ∧ (v24 = true → v24 = true → v24 = true) ∧ (v24 = true → v24 = true → v24 = true) ∧ (v24 = true → v24 = true → v24 = true) ∧ (v25 = true → v25 = true → v25 = true) ∧
    (v25 = true → v25 = true → v25 = true) ∧ (v25 = true → v25 = true → v25 = true) ∧ (v25 = true → v25 = true → v25 = true) ∧ (v25 = true → v25 = true → v25 = true) ∧ (v25 = true →
    v25 = true → v25 = true) ∧ (v25 = true → v25 = true → v25 = true) ∧ ((v25 && !v17) = true → (v25 && !v17) = true → (v25 && !v17) = true) ∧ ((v25 && !v17) = true → (v25 && !v17) = true →
    (v25 && !v17) = true) ∧ ((v25 && !v17) = true → (v25 && !v17) = true → (v25 && !v17) = true) ∧ ((v25 && !v17) = true → (v25 && !v17) = true → (v25 && !v17) = true) ∧
    ((v25 && !v17) = true → (v25 && !v17) = true → (v25 && !v17) = true) ∧ ((v25 && !v17) = true → (v25 && !v17) = true → (v25 && !v17) = true) ∧ (v25 = true → v25 = true → v25 = true) ∧
    (v25 = true → v17 = false → v25 = true → (v25 && !v17) = true) ∧ (v24 = true → v24 = true → v24 = true) ∧ (v24 = true → v14 = true → v24 = true → v25 = true) ∧ (v23 = false →
    v24 = true)) ∧ (v26 = true → false = true) ∧ (v26 = false → True ∧ True ∧ (((!v12) = true → (!v12) = true → (!v12) = true) ∧ (v12 = false → (!v12) = true)) ∧ (v16 = true →
    true = true) ∧ (v16 = false → decide (v3.fst.fst ≤ IntKind.wrap IntKind.i64 (v6.fst.snd + v7.fst.snd)) = true)))))) := by kernel_rfl

theorem span_facts {q : Int} (h0 : 0 ≤ q) (h1 : q ≤ 13194139533312) : 0 ≤ (spanM q).1 ∧ (spanM q).1 ≤ (spanM q).2 ∧ (spanM q).2 ≤ (spanM q).1 + 1 ∧ (spanM q).2 ≤ 4000000 ∧ (spanM q).1 * (spanM q).1 ≤ q ∧ q ≤ (spanM q).2 * (spanM q).2 ∧
    ((spanM q).1 < (spanM q).2 → (spanM q).1 * (spanM q).1 < q ∧ q < (spanM q).2 * (spanM q).2) := by
  obtain ⟨g0, g1, g2⟩ := isq_spec h0 (by omega)
  have hb : isq q < 3999999 := lt_of_mul (by omega) (by omega)
  unfold spanM
  split
  · refine ⟨g0, by simp only; omega, by simp only; omega, by simp only; omega, g1, by simp only; omega, fun _ => ⟨by assumption, g2⟩⟩
  · refine ⟨g0, by simp only; omega, by simp only; omega, by simp only; omega, g1, by simp only; omega, fun h => by simp only at h; omega⟩
theorem sqM_symm (a b : P) : sqM (subM b a) = sqM (subM a b) := by
  simp only [sqM, subM]
  have n1 : ∀ a b : Int, (a - b) * (a - b) = (b - a) * (b - a) := fun a b => by rw [← Int.neg_sub b a, Int.neg_mul_neg]
  rw [n1 b.1, n1 b.2.1, n1 b.2.2]
theorem dot_le {x1 x2 x3 y1 y2 y3 h1 h2 : Int} (p1 : 0 ≤ h1) (p2 : 0 ≤ h2) (q1 : x1 * x1 + x2 * x2 + x3 * x3 ≤ h1 * h1) (q2 : y1 * y1 + y2 * y2 + y3 * y3 ≤ h2 * h2) : x1 * y1 + x2 * y2 + x3 * y3 ≤ h1 * h2 := by
  have pos : ∀ z : Int, 0 ≤ z * z := fun z => by rw [← Int.natAbs_mul_self]; omega
  have id1 : (x1 * x1 + x2 * x2 + x3 * x3) * (y1 * y1 + y2 * y2 + y3 * y3) = (x1 * y1 + x2 * y2 + x3 * y3) * (x1 * y1 + x2 * y2 + x3 * y3) + (x1 * y2 - x2 * y1) * (x1 * y2 - x2 * y1) +
      (x1 * y3 - x3 * y1) * (x1 * y3 - x3 * y1) + (x2 * y3 - x3 * y2) * (x2 * y3 - x3 * y2) := by grind
  have s1 := pos (x1 * y2 - x2 * y1)
  have s2 := pos (x1 * y3 - x3 * y1)
  have s3 := pos (x2 * y3 - x3 * y2)
  have t1 : (x1 * x1 + x2 * x2 + x3 * x3) * (y1 * y1 + y2 * y2 + y3 * y3) ≤ (h1 * h1) * (h2 * h2) := Int.mul_le_mul q1 q2 (by have := pos y1; have := pos y2; have := pos y3; omega) (by have := pos h1; omega)
  have e1 : (h1 * h1) * (h2 * h2) = (h1 * h2) * (h1 * h2) := by grind
  have hp : 0 ≤ h1 * h2 := Int.mul_nonneg p1 p2
  refine Int.not_lt.1 fun hlt => ?_
  have := Int.mul_lt_mul hlt (Int.le_of_lt hlt) (by
    rcases Int.lt_or_le 0 (h1 * h2) with h | h
    · exact h
    · exact absurd (show (x1 * y1 + x2 * y2 + x3 * y3) * (x1 * y1 + x2 * y2 + x3 * y3) ≤ 0 by
        have : h1 * h2 = 0 := by omega
        rw [e1, this] at t1; omega) (by
        have := Int.mul_pos (show 0 < x1 * y1 + x2 * y2 + x3 * y3 by omega) (show 0 < x1 * y1 + x2 * y2 + x3 * y3 by omega)
        omega)) (by omega)
  omega
theorem triangle {a b c : P} (ha : inP a) (hb : inP b) (hc : inP c) : (spanM (sqM (subM b a))).1 ≤ (spanM (sqM (subM c a))).2 + (spanM (sqM (subM b c))).2 := by
  obtain ⟨a0, a1⟩ := sub_sq ha hb
  obtain ⟨b0, b1⟩ := sub_sq ha hc
  obtain ⟨c0, c1⟩ := sub_sq hc hb
  obtain ⟨f1, f2, f3, f4, f5, f6, _⟩ := span_facts a0 a1
  obtain ⟨g1, g2, g3, g4, g5, g6, _⟩ := span_facts b0 b1
  obtain ⟨k1, k2, k3, k4, k5, k6, _⟩ := span_facts c0 c1
  have hd := dot_le (h1 := (spanM (sqM (subM c a))).2) (h2 := (spanM (sqM (subM b c))).2) (by omega) (by omega) g6 k6
  have e : sqM (subM b a) = sqM (subM c a) + sqM (subM b c) + 2 * ((subM c a).1 * (subM b c).1 + (subM c a).2.1 * (subM b c).2.1 + (subM c a).2.2 * (subM b c).2.2) := by
    simp only [sqM, subM]
    grind
  have e2 : ((spanM (sqM (subM c a))).2 + (spanM (sqM (subM b c))).2) * ((spanM (sqM (subM c a))).2 + (spanM (sqM (subM b c))).2) =
    (spanM (sqM (subM c a))).2 * (spanM (sqM (subM c a))).2 + (spanM (sqM (subM b c))).2 * (spanM (sqM (subM b c))).2 + 2 * ((spanM (sqM (subM c a))).2 * (spanM (sqM (subM b c))).2) := by grind
  have : (spanM (sqM (subM b a))).1 < (spanM (sqM (subM c a))).2 + (spanM (sqM (subM b c))).2 + 1 := lt_of_mul (by omega) (by grind)
  omega
theorem okL4 : (ctxOf prog shs L4).ok := ctxOf_cons okL3 (by kernel_rfl) ok3
theorem ok4 : c4.ok prog 4 := Ctr.of_exec okL4 hmix func4 rfl (by decide) (fun _ _ _ _ => none) fun (x : P × P × P × PUnit) F y _ => by
  refine (e4 x F y).mpr ?_
  have hs : ∀ a b, squareM a b = if (validM a && validM b) = true then (sqM (subM b a), 0) else (0, 1) := fun _ _ => rfl
  have hl : ∀ a b, lengthM a b = if (validM a && validM b) = true then (spanM (sqM (subM b a)), 0) else ((0, 0), 1) := fun _ _ => rfl
  obtain ⟨a, b, c, u⟩ := x
  simp only [hs, hl]
  by_cases hab : (validM a && validM b) = true
  · have hba : (validM b && validM a) = true := by rw [Bool.and_comm]; exact hab
    obtain ⟨ia, ib⟩ := valid2 hab
    obtain ⟨a0, a1⟩ := sub_sq ia ib
    obtain ⟨f1, f2, f3, f4, f5, f6, f7⟩ := span_facts a0 a1
    simp only [hab, hba, if_true, sqM_symm a b]
    rw [sqM_symm a b] at a0 a1 f1 f2 f3 f4 f5 f6 f7
    have tri : ∀ c : P, inP c → (spanM (sqM (subM a b))).1 ≤ (spanM (sqM (subM c a))).2 + (spanM (sqM (subM b c))).2 := fun c ic => by rw [← sqM_symm a b]; exact triangle ia ib ic
    generalize sqM (subM a b) = q at *
    generalize spanM q = s at *
    obtain ⟨l, h⟩ := s
    simp only at f1 f2 f3 f4 f5 f6 f7 tri
    have hll : 0 ≤ l * l := Int.mul_nonneg f1 f1
    have hhh : h * h ≤ 4000000 * 4000000 := mul_le_of (by omega) f4
    rw [w_id (x := l * l) (by omega) (by omega), w_id (x := h * h) (by omega) (by omega), w_id (x := h - l) (by omega) (by omega)]
    have d1 : decide (l < 0) = false := by simp; omega
    have d2 : decide (h - l > 1) = false := by simp; omega
    have d3 : decide (l > h) = false := by simp; omega
    have d4 : decide (l > 1073741824) = false := by simp; omega
    have d5 : decide (l * l > q) = false := by simp; omega
    have d6 : decide (h * h < q) = false := by simp; omega
    have d7 : (l < h → ¬l * l = q → l < h → l < h ∧ ¬l * l = q) ∧ (l < h → ¬l * l = q ∧ ¬h * h = q) := ⟨fun a b _ => ⟨a, b⟩, fun a => by have := f7 a; omega⟩
    simp only [d1, d2, d3, d4, d5, d6]
    by_cases hc : validM c = true
    · rw [validM_iff] at hc
      have tc := tri c hc
      obtain ⟨b0, b1⟩ := sub_sq ia hc
      obtain ⟨c0, c1⟩ := sub_sq hc ib
      obtain ⟨g1, g2, g3, g4, _⟩ := span_facts b0 b1
      obtain ⟨k1, k2, k3, k4, _⟩ := span_facts c0 c1
      rw [← validM_iff] at hc ia ib
      simp only [hc, ia, ib]
      simp [w_id (x := (spanM (sqM (subM c a))).2 + (spanM (sqM (subM b c))).2) (by omega) (by omega), tc]
      exact d7
    · simp [hc]
      exact d7
  · have hba : ¬ (validM b && validM a) = true := by rw [Bool.and_comm]; exact hab
    simp only [hab, hba]
    simp
theorem pre4 (x : TsS c4.as) (_ : wfs c4.as x) : c4.pre x () () := trivial
end Go.Proofs.Ytniibhkddipcjaa
