/- Bridles: the reference's pulls of three legs, and of all. -/
import Derived.Test.YtghjblbkbelcfaaBp4r18
namespace Go.Proofs.Ytghjblbkbelcfaa
open Try Dn Dn.Sh

theorem par_z {n m : P3} (h1 : n.1 * m.2.2 = n.2.2 * m.1) (h2 : n.2.1 * m.2.2 = n.2.2 * m.2.1) (hn : n ≠ (0, 0, 0)) (hz : n.2.2 = 0) : m.2.2 = 0 := by
  rw [hz, Int.zero_mul] at h1 h2
  rcases Int.mul_eq_zero.1 h1 with h1 | h1
  · rcases Int.mul_eq_zero.1 h2 with h2 | h2
    · exact absurd (show n = (0, 0, 0) by obtain ⟨x, y, z⟩ := n; simp only at h1 h2 hz; rw [h1, h2, hz]) hn
    · exact h2
  · exact h1

theorem crs_neg {a b : P3} : crs b a = (-(crs a b).1, -(crs a b).2.1, -(crs a b).2.2) := by
  simp only [crs, Prod.mk.injEq]
  grind
theorem crs_zero_symm {a b : P3} : crs b a = (0, 0, 0) ↔ crs a b = (0, 0, 0) := by
  rw [crs_neg (a := a) (b := b)]
  generalize crs a b = c
  obtain ⟨x, y, z⟩ := c
  simp only [Prod.mk.injEq]
  omega

theorem upr3 {a b c : P3} (hd : dt a (crs b c) = 0) :
    uprN (nzP (nzP (nzP (0, 0, 0) (crs a b)) (crs a c)) (crs b c)) a = true ↔
      if crs b c = (0, 0, 0) ∧ crs c a = (0, 0, 0) ∧ crs a b = (0, 0, 0) then a.1 = 0 ∧ a.2.1 = 0 else (crs b c).2.2 = 0 ∧ (crs c a).2.2 = 0 ∧ (crs a b).2.2 = 0 := by
  have hca : (crs c a).2.2 = -(crs a c).2.2 := by rw [crs_neg (a := a) (b := c)]
  simp only [crs_zero_symm (a := a) (b := c), hca]
  have p1 : (crs b c).1 * (crs a c).2.2 = (crs b c).2.2 * (crs a c).1 := by simp only [dt, crs] at hd ⊢; grind
  have p2 : (crs b c).2.1 * (crs a c).2.2 = (crs b c).2.2 * (crs a c).2.1 := by simp only [dt, crs] at hd ⊢; grind
  have p3 : (crs b c).1 * (crs a b).2.2 = (crs b c).2.2 * (crs a b).1 := by simp only [dt, crs] at hd ⊢; grind
  have p4 : (crs b c).2.1 * (crs a b).2.2 = (crs b c).2.2 * (crs a b).2.1 := by simp only [dt, crs] at hd ⊢; grind
  have p5 : (crs a c).1 * (crs a b).2.2 = (crs a c).2.2 * (crs a b).1 := by simp only [dt, crs] at hd ⊢; grind
  have p6 : (crs a c).2.1 * (crs a b).2.2 = (crs a c).2.2 * (crs a b).2.1 := by simp only [dt, crs] at hd ⊢; grind
  clear hd hca
  generalize crs a b = x at *
  generalize crs a c = y at *
  generalize crs b c = z at *
  unfold nzP
  by_cases hz : z = (0, 0, 0)
  · rw [if_pos hz]
    by_cases hy : y = (0, 0, 0)
    · rw [if_pos hy]
      by_cases hx : x = (0, 0, 0)
      · rw [if_pos hx, if_pos ⟨hz, hy, hx⟩]
        simp [uprN]
      · rw [if_neg hx, if_neg (fun h => hx h.2.2)]
        simp [uprN, hx, hy, hz]
    · rw [if_neg hy, if_neg (fun h => hy h.2.1)]
      simp only [uprN, hy, if_false, decide_eq_true_eq, hz, true_and]
      exact ⟨fun h => ⟨by omega, par_z p5 p6 hy h⟩, fun h => by omega⟩
  · rw [if_neg hz, if_neg (fun h => hz h.1)]
    simp only [uprN, hz, if_false, decide_eq_true_eq]
    exact ⟨fun h => ⟨h, by rw [par_z p1 p2 hz h]; rfl, par_z p3 p4 hz h⟩, fun h => h.1⟩

theorem three_ok {w : Int} {a b c : P3} (hw : 0 ≤ w ∧ w ≤ 67108864) (ha : box 32768 a) (hb : box 32768 b) (hc : box 32768 c) : ref18_three w a b c = some (outP (solve3 w a b c)) := by
  have ha' := box_mono ha (show (32768 : Int) ≤ 67108864 by omega)
  have hb' := box_mono hb (show (32768 : Int) ≤ 67108864 by omega)
  have hc' := box_mono hc (show (32768 : Int) ≤ 67108864 by omega)
  obtain ⟨d1, d2⟩ := dt_ok ha (crs_box hb hc)
  have d1' : ref18_dot a (crs b c) = some (dt a (crs b c)) := d1
  simp only [ref18_three, ref18_three_b, not_or_self', or_self_not, cT, Bool.and_self, refCross_ok ha' hb', refCross_ok hb' hc', refCross_ok hc' ha', obind_some', zero_eq, refUpright_ok, d1', bif_false', bif_true']
  unfold solve3
  by_cases hd : dt a (crs b c) = 0
  · rw [decide_eq_true hd, if_pos hd, Bool.not_true, cond_false]
    by_cases hz : w = 0
    · rw [decide_eq_true hz, if_pos (.inl hz)]; rfl
    · rw [decide_eq_false hz, cond_false]
      have hu := upr3 hd
      by_cases h1 : crs b c = (0, 0, 0)
      · by_cases h2 : crs c a = (0, 0, 0)
        · by_cases h3 : crs a b = (0, 0, 0)
          · rw [if_pos ⟨h1, h2, h3⟩] at hu
            rw [decide_eq_true h1, decide_eq_true h2, decide_eq_true h3, Bool.and_self, Bool.and_self, cond_true]
            by_cases h4 : a.1 = 0 ∧ a.2.1 = 0
            · rw [if_pos (.inr (hu.2 h4)), decide_eq_true h4]; rfl
            · rw [if_neg (fun h => h.elim hz fun h => h4 (hu.1 h)), decide_eq_false h4]; rfl
          · rw [if_neg (fun h => h3 h.2.2)] at hu
            rw [decide_eq_false h3, Bool.and_false, cond_false]
            by_cases h4 : (crs b c).2.2 = 0 ∧ (crs c a).2.2 = 0 ∧ (crs a b).2.2 = 0
            · rw [if_pos (.inr (hu.2 h4)), decide_eq_true h4.1, decide_eq_true h4.2.1, decide_eq_true h4.2.2]; rfl
            · rw [if_neg (fun h => h.elim hz fun h => h4 (hu.1 h))]
              have : (!decide ((crs b c).2.2 = 0) || !decide ((crs c a).2.2 = 0) || !decide ((crs a b).2.2 = 0)) = true := by
                simp only [Bool.or_eq_true, Bool.not_eq_true', decide_eq_false_iff_not]; omega
              rw [this]; rfl
        · rw [if_neg (fun h => h2 h.2.1)] at hu
          rw [decide_eq_false h2, Bool.and_false, Bool.false_and, cond_false]
          by_cases h4 : (crs b c).2.2 = 0 ∧ (crs c a).2.2 = 0 ∧ (crs a b).2.2 = 0
          · rw [if_pos (.inr (hu.2 h4)), decide_eq_true h4.1, decide_eq_true h4.2.1, decide_eq_true h4.2.2]; rfl
          · rw [if_neg (fun h => h.elim hz fun h => h4 (hu.1 h))]
            have : (!decide ((crs b c).2.2 = 0) || !decide ((crs c a).2.2 = 0) || !decide ((crs a b).2.2 = 0)) = true := by
              simp only [Bool.or_eq_true, Bool.not_eq_true', decide_eq_false_iff_not]; omega
            rw [this]; rfl
      · rw [if_neg (fun h => h1 h.1)] at hu
        rw [decide_eq_false h1, Bool.false_and, Bool.false_and, cond_false]
        by_cases h4 : (crs b c).2.2 = 0 ∧ (crs c a).2.2 = 0 ∧ (crs a b).2.2 = 0
        · rw [if_pos (.inr (hu.2 h4)), decide_eq_true h4.1, decide_eq_true h4.2.1, decide_eq_true h4.2.2]; rfl
        · rw [if_neg (fun h => h.elim hz fun h => h4 (hu.1 h))]
          have : (!decide ((crs b c).2.2 = 0) || !decide ((crs c a).2.2 = 0) || !decide ((crs a b).2.2 = 0)) = true := by
            simp only [Bool.or_eq_true, Bool.not_eq_true', decide_eq_false_iff_not]; omega
          rw [this]; rfl
  · rw [decide_eq_false hd, if_neg hd, Bool.not_false, cond_true]
    have e1 := mul_bound (a := w) (m := 67108864) (by omega) (by omega) (crs_box hb hc).2.2.1 (crs_box hb hc).2.2.2
    have e2 := mul_bound (a := w) (m := 67108864) (by omega) (by omega) (crs_box hc ha).2.2.1 (crs_box hc ha).2.2.2
    have e3 := mul_bound (a := w) (m := 67108864) (by omega) (by omega) (crs_box ha hb).2.2.1 (crs_box ha hb).2.2.2
    rw [quotient_ok (by omega) hd (by omega), obind_some', quotient_ok (by omega) hd (by omega), obind_some', quotient_ok (by omega) hd (by omega), obind_some']
    rfl

theorem refPulls_ok {b : Brd} (h : validB b = true) : ref18_Pulls b = some (outP (pullsE b)) := by
  obtain ⟨v1, v2, v3, _⟩ := validB_iff.1 h
  have a0 := valid_arm h (i := 0) (by omega)
  have r0 : ref18_Arm b 0 = some (armB b 0) := refArm_ok (i := 0) (by omega) a0.2.2.1 a0.2.2.2
  simp only [ref18_Pulls, ref18_Pulls_b, r0, obind_some']
  unfold pullsE
  have hn : b.2.2.length = 1 ∨ b.2.2.length = 2 ∨ b.2.2.length = 3 := by omega
  rcases hn with hn | hn | hn
  · rw [decide_eq_true (show (b.2.2.length : Int) = 1 by omega), cond_true, if_pos hn, one_ok v2 a0.1 a0.2.1, obind_some']
  · have a1 := valid_arm h (i := 1) (by omega)
    have r1 : ref18_Arm b 1 = some (armB b 1) := refArm_ok (i := 1) (by omega) a1.2.2.1 a1.2.2.2
    rw [decide_eq_false (show ¬ (b.2.2.length : Int) = 1 by omega), cond_false, if_neg (by omega), decide_eq_true (show (b.2.2.length : Int) = 2 by omega), cond_true, if_pos hn, r1, obind_some', two_ok v2 a0.1 a1.1, obind_some']
  · have a1 := valid_arm h (i := 1) (by omega)
    have r1 : ref18_Arm b 1 = some (armB b 1) := refArm_ok (i := 1) (by omega) a1.2.2.1 a1.2.2.2
    have a2 := valid_arm h (i := 2) (by omega)
    have r2 : ref18_Arm b 2 = some (armB b 2) := refArm_ok (i := 2) (by omega) a2.2.2.1 a2.2.2.2
    rw [decide_eq_false (show ¬ (b.2.2.length : Int) = 1 by omega), cond_false, if_neg (by omega), decide_eq_false (show ¬ (b.2.2.length : Int) = 2 by omega), cond_false, if_neg (by omega), r1, obind_some', r2, obind_some', three_ok v2 a0.1 a1.1 a2.1, obind_some']

end Go.Proofs.Ytghjblbkbelcfaa
