/- Bridles: the reference's pulls. -/
import Derived.Test.YtghjblbkbelcfaaBp3r18
namespace Go.Proofs.Ytghjblbkbelcfaa
open Try Dn Dn.Sh

theorem div_eq {n d m e : Int} (hd : d ≠ 0) (he : e ≠ 0) (h : n * e = m * d) : (n : Rat) / d = (m : Rat) / e := by
  rw [← Rat.divInt_eq_div, ← Rat.divInt_eq_div, Rat.divInt_eq_divInt_iff hd he]
  exact h
theorem zero_div {n d : Int} (h : n = 0) : (n : Rat) / d = 0 := by rw [h, Rat.intCast_zero, Rat.div_def, Rat.zero_mul]

theorem one_ok {w : Int} {a : P3} (hw : 0 ≤ w ∧ w ≤ 67108864) (ha : box 32768 a) (h0 : a ≠ (0, 0, 0)) : ref18_one w a = some (outP (solve1 w a)) := by
  simp only [ref18_one, ref18_one_b, not_or_self', or_self_not, cond_true]
  unfold solve1
  by_cases h : w = 0
  · rw [decide_eq_true h, if_pos h]; rfl
  · rw [decide_eq_false h, if_neg h, cond_false]
    by_cases h1 : a.1 = 0
    · by_cases h2 : a.2.1 = 0
      · have h3 : a.2.2 ≠ 0 := fun h3 => h0 (by obtain ⟨x, y, z⟩ := a; simp only at h1 h2 h3; rw [h1, h2, h3])
        have hz := ha.2.2
        rw [if_neg (by omega), decide_eq_true h1, decide_eq_true h2]
        simp only [Bool.not_true, cond_false]
        rw [quotient_ok (by omega) h3 (by omega), obind_some', Int.mul_one]
        rfl
      · rw [if_pos (by omega), decide_eq_true h1, decide_eq_false h2]; rfl
    · rw [if_pos (by omega), decide_eq_false h1]; rfl

theorem refUpright_ok (a : P3) : ref18_upright a = some (decide (a.1 = 0 ∧ a.2.1 = 0)) := by
  simp only [ref18_upright, ref18_upright_b, not_or_self', cond_true, bif_false', Bool.decide_and]

theorem two_ok {w : Int} {a b : P3} (hw : 0 ≤ w ∧ w ≤ 67108864) (ha : box 32768 a) (hb : box 32768 b) : ref18_two w a b = some (outP (solve2 w a b)) := by
  have ha' := box_mono ha (show (32768 : Int) ≤ 67108864 by omega)
  have hb' := box_mono hb (show (32768 : Int) ≤ 67108864 by omega)
  have hc := crs_box ha hb
  simp only [ref18_two, ref18_two_b, not_or_self', or_self_not, cT, refCross_ok ha' hb', obind_some', zero_eq, refUpright_ok]
  unfold solve2
  by_cases h0 : crs a b = (0, 0, 0)
  · rw [decide_eq_true h0, if_pos h0, cond_true]
    by_cases hz : w = 0
    · rw [decide_eq_true hz, if_pos (.inl hz)]; rfl
    · rw [decide_eq_false hz]
      by_cases hu : a.1 = 0 ∧ a.2.1 = 0
      · rw [if_pos (.inr hu), decide_eq_true hu]; rfl
      · rw [if_neg (by omega), decide_eq_false hu]; rfl
  · rw [decide_eq_false h0, if_neg h0, cond_false]
    by_cases hz : w = 0
    · rw [decide_eq_true hz, if_neg (by omega), cond_true]
      subst hz
      have z1 : (crs (0, 0, 0) b) = (0, 0, 0) := by simp [crs]
      have z2 : (crs a (0, 0, 0)) = (0, 0, 0) := by simp [crs]
      rw [z1, z2]
      simp only [zero_div, ite_self]
      rfl
    · rw [decide_eq_false hz, cond_false]
      by_cases h1 : (crs a b).2.2 = 0
      · rw [decide_eq_true h1, if_neg (by omega), Bool.not_true, cond_false]
        by_cases h2 : (crs a b).2.1 = 0
        · by_cases h3 : (crs a b).1 = 0
          · exact absurd (show crs a b = (0, 0, 0) by
              generalize crs a b = c at h1 h2 h3
              obtain ⟨x, y, z⟩ := c
              simp only at h1 h2 h3
              rw [h1, h2, h3]) h0
          · rw [decide_eq_true h2, if_pos h3, Bool.not_true, cond_false]
            obtain ⟨a1, a2, a3⟩ := a
            obtain ⟨b1, b2, b3⟩ := b
            obtain ⟨⟨x1, x2⟩, ⟨x3, x4⟩, ⟨x5, x6⟩⟩ := ha
            obtain ⟨⟨y1, y2⟩, ⟨y3, y4⟩, ⟨y5, y6⟩⟩ := hb
            obtain ⟨c1, c2, c3⟩ := hc
            simp only [crs] at *
            have e1 := mul_bound x1 x2 y5 y6
            have e2 := mul_bound x5 x6 y1 y2
            have e3 := mul_bound x3 x4 y5 y6
            have e4 := mul_bound x5 x6 y3 y4
            have f1 := mul_bound (a := w) (m := 67108864) (by omega) (by omega) (show -32768 ≤ 0 - b1 by omega) (show 0 - b1 ≤ 32768 by omega)
            have f2 := mul_bound (a := w) (m := 67108864) (by omega) (by omega) (show -32768 ≤ 0 - b2 by omega) (show 0 - b2 ≤ 32768 by omega)
            have f3 := mul_bound (a := w) (m := 67108864) (by omega) (by omega) x1 x2
            have f4 := mul_bound (a := w) (m := 67108864) (by omega) (by omega) x3 x4
            rw [wrap_id (x := 0 - b2) (by omega) (by omega), wrap_id (x := a2 * b3) (by omega) (by omega), wrap_id (x := a3 * b2) (by omega) (by omega), wrap_id (x := a2 * b3 - a3 * b2) (by omega) (by omega)]
            rw [quotient_ok (by omega) h3 (by omega), obind_some', quotient_ok (by omega) h3 (by omega), obind_some']
            rw [div_eq (n := w * (0 - b2)) (m := 0 * b3 - w * b2) h3 h3 (by grind), div_eq (n := w * a2) (m := a2 * w - a3 * 0) h3 h3 (by grind)]
            rfl
        · rw [decide_eq_false h2, Bool.not_false, cond_true]
          by_cases h3 : (crs a b).1 = 0
          · rw [if_neg (by omega), if_pos h2]
            obtain ⟨a1, a2, a3⟩ := a
            obtain ⟨b1, b2, b3⟩ := b
            obtain ⟨⟨x1, x2⟩, ⟨x3, x4⟩, ⟨x5, x6⟩⟩ := ha
            obtain ⟨⟨y1, y2⟩, ⟨y3, y4⟩, ⟨y5, y6⟩⟩ := hb
            obtain ⟨c1, c2, c3⟩ := hc
            simp only [crs] at *
            have e1 := mul_bound x1 x2 y5 y6
            have e2 := mul_bound x5 x6 y1 y2
            have e3 := mul_bound x3 x4 y5 y6
            have e4 := mul_bound x5 x6 y3 y4
            have f1 := mul_bound (a := w) (m := 67108864) (by omega) (by omega) (show -32768 ≤ 0 - b1 by omega) (show 0 - b1 ≤ 32768 by omega)
            have f2 := mul_bound (a := w) (m := 67108864) (by omega) (by omega) (show -32768 ≤ 0 - b2 by omega) (show 0 - b2 ≤ 32768 by omega)
            have f3 := mul_bound (a := w) (m := 67108864) (by omega) (by omega) x1 x2
            have f4 := mul_bound (a := w) (m := 67108864) (by omega) (by omega) x3 x4
            rw [wrap_id (x := 0 - b1) (by omega) (by omega), wrap_id (x := a1 * b3) (by omega) (by omega), wrap_id (x := a3 * b1) (by omega) (by omega), wrap_id (x := a1 * b3 - a3 * b1) (by omega) (by omega)]
            rw [quotient_ok (by omega) (show a1 * b3 - a3 * b1 ≠ 0 by omega) (by omega), obind_some', quotient_ok (by omega) (show a1 * b3 - a3 * b1 ≠ 0 by omega) (by omega), obind_some']
            rw [div_eq (n := w * (0 - b1)) (m := w * b1 - 0 * b3) (show a1 * b3 - a3 * b1 ≠ 0 by omega) h2 (by grind), div_eq (n := w * a1) (m := a3 * 0 - a1 * w) (show a1 * b3 - a3 * b1 ≠ 0 by omega) h2 (by grind)]
            rfl
          · rw [if_pos h3]
            obtain ⟨a1, a2, a3⟩ := a
            obtain ⟨b1, b2, b3⟩ := b
            obtain ⟨⟨x1, x2⟩, ⟨x3, x4⟩, ⟨x5, x6⟩⟩ := ha
            obtain ⟨⟨y1, y2⟩, ⟨y3, y4⟩, ⟨y5, y6⟩⟩ := hb
            obtain ⟨c1, c2, c3⟩ := hc
            simp only [crs] at *
            have e1 := mul_bound x1 x2 y5 y6
            have e2 := mul_bound x5 x6 y1 y2
            have e3 := mul_bound x3 x4 y5 y6
            have e4 := mul_bound x5 x6 y3 y4
            have f1 := mul_bound (a := w) (m := 67108864) (by omega) (by omega) (show -32768 ≤ 0 - b1 by omega) (show 0 - b1 ≤ 32768 by omega)
            have f2 := mul_bound (a := w) (m := 67108864) (by omega) (by omega) (show -32768 ≤ 0 - b2 by omega) (show 0 - b2 ≤ 32768 by omega)
            have f3 := mul_bound (a := w) (m := 67108864) (by omega) (by omega) x1 x2
            have f4 := mul_bound (a := w) (m := 67108864) (by omega) (by omega) x3 x4
            rw [wrap_id (x := 0 - b1) (by omega) (by omega), wrap_id (x := a1 * b3) (by omega) (by omega), wrap_id (x := a3 * b1) (by omega) (by omega), wrap_id (x := a1 * b3 - a3 * b1) (by omega) (by omega)]
            rw [quotient_ok (by omega) (show a1 * b3 - a3 * b1 ≠ 0 by omega) (by omega), obind_some', quotient_ok (by omega) (show a1 * b3 - a3 * b1 ≠ 0 by omega) (by omega), obind_some']
            rw [div_eq (n := w * (0 - b1)) (m := 0 * b3 - w * b2) (show a1 * b3 - a3 * b1 ≠ 0 by omega) h3 (by grind), div_eq (n := w * a1) (m := a2 * w - a3 * 0) (show a1 * b3 - a3 * b1 ≠ 0 by omega) h3 (by grind)]
            rfl
      · rw [decide_eq_false h1, if_pos ⟨hz, h1⟩]; rfl

end Go.Proofs.Ytghjblbkbelcfaa
