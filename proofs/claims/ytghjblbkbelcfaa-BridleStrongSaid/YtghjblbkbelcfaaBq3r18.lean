/- Bridles: pulls of turned, and of reversed, arms. -/
import Derived.Test.YtghjblbkbelcfaaBq2r18
namespace Go.Proofs.Ytghjblbkbelcfaa
open Try Dn Dn.Sh

def rot (a : P3) : P3 := (-a.2.1, a.1, a.2.2)
theorem crs_rot {a b : P3} : crs (rot a) (rot b) = rot (crs a b) := by
  simp only [crs, rot, Prod.mk.injEq]
  grind
theorem rot_zero {a : P3} : rot a = (0, 0, 0) ↔ a = (0, 0, 0) := by
  obtain ⟨x, y, z⟩ := a
  simp only [rot, Prod.mk.injEq]
  omega
theorem crs_rotL {w : Int} {b : P3} : crs (0, 0, w) (rot b) = rot (crs (0, 0, w) b) := by
  rw [← crs_rot]; rfl
theorem crs_rotR {w : Int} {b : P3} : crs (rot b) (0, 0, w) = rot (crs b (0, 0, w)) := by
  rw [← crs_rot]; rfl
theorem dt_rot {a b : P3} : dt (rot a) (rot b) = dt a b := by
  simp only [dt, rot]
  grind
theorem nzP_rot {a b : P3} : nzP (rot a) (rot b) = rot (nzP a b) := by
  unfold nzP
  by_cases h : b = (0, 0, 0)
  · rw [if_pos h, if_pos (rot_zero.2 h)]
  · rw [if_neg h, if_neg (fun e => h (rot_zero.1 e))]
theorem uprN_rot {n a : P3} : uprN (rot n) (rot a) = uprN n a := by
  unfold uprN
  by_cases h : n = (0, 0, 0)
  · rw [if_pos h, if_pos (rot_zero.2 h)]
    simp only [rot]
    congr 1
    exact propext (by omega)
  · rw [if_neg h, if_neg (fun e => h (rot_zero.1 e))]
    rfl
theorem solve1_rot {w : Int} {a : P3} : solve1 w (rot a) = solve1 w a := by
  unfold solve1
  simp only [rot, show (-a.2.1 ≠ 0 ∨ a.1 ≠ 0) = (a.1 ≠ 0 ∨ a.2.1 ≠ 0) from propext (by omega)]
theorem solve2_rot {w : Int} {a b : P3} : solve2 w (rot a) (rot b) = solve2 w a b := by
  unfold solve2
  rw [crs_rot, crs_rotL, crs_rotR]
  by_cases h0 : crs a b = (0, 0, 0)
  · rw [if_pos h0, if_pos (rot_zero.2 h0)]
    simp only [rot, show (-a.2.1 = 0 ∧ a.1 = 0) = (a.1 = 0 ∧ a.2.1 = 0) from propext (by omega)]
  · rw [if_neg h0, if_neg (fun e => h0 (rot_zero.1 e))]
    by_cases h1 : w ≠ 0 ∧ (crs a b).2.2 ≠ 0
    · rw [if_pos h1, if_pos (show w ≠ 0 ∧ (rot (crs a b)).2.2 ≠ 0 from h1)]
    · rw [if_neg h1, if_neg (show ¬ (w ≠ 0 ∧ (rot (crs a b)).2.2 ≠ 0) from h1)]
      have hw : w * (crs a b).2.2 = 0 := by
        by_cases hw : w = 0
        · rw [hw, Int.zero_mul]
        · rw [show (crs a b).2.2 = 0 by omega, Int.mul_zero]
      have e1 : (crs (0, 0, w) b).1 * (crs a b).2.1 = (crs (0, 0, w) b).2.1 * (crs a b).1 := by simp only [crs] at hw ⊢; grind
      have e2 : (crs a (0, 0, w)).1 * (crs a b).2.1 = (crs a (0, 0, w)).2.1 * (crs a b).1 := by simp only [crs] at hw ⊢; grind
      generalize crs a b = c at *
      generalize crs (0, 0, w) b = p at *
      generalize crs a (0, 0, w) = q at *
      by_cases hx : c.1 = 0
      · by_cases hy : c.2.1 = 0
        · rw [if_neg (by simp only [rot]; omega), if_neg (by simp only [rot]; omega), if_neg (by omega), if_neg (by omega)]
          rfl
        · rw [if_pos (by simp only [rot]; omega), if_neg (by omega), if_pos (by omega)]
          simp only [rot]
          rw [div_eq (n := -p.2.1) (m := p.2.1) (e := c.2.1) (by omega) hy (by grind), div_eq (n := -q.2.1) (m := q.2.1) (e := c.2.1) (by omega) hy (by grind)]
      · by_cases hy : c.2.1 = 0
        · rw [if_neg (by simp only [rot]; omega), if_pos (show (rot c).2.1 ≠ 0 from hx), if_pos hx]
          rfl
        · rw [if_pos (by simp only [rot]; omega), if_pos hx]
          simp only [rot]
          rw [div_eq (n := -p.2.1) (m := p.1) (e := c.1) (by omega) hx (by grind), div_eq (n := -q.2.1) (m := q.1) (e := c.1) (by omega) hx (by grind)]
theorem solve3_rot {w : Int} {a b c : P3} : solve3 w (rot a) (rot b) (rot c) = solve3 w a b c := by
  unfold solve3
  rw [crs_rot, crs_rot, crs_rot, crs_rot, dt_rot, show ((0, 0, 0) : P3) = rot (0, 0, 0) from rfl, nzP_rot, nzP_rot, nzP_rot, uprN_rot]
  rfl

/-! ### The other order -/
def revE : Except Int (List Rat) → Except Int (List Rat)
  | .ok l => .ok l.reverse
  | .error e => .error e
theorem upright_par {a b : P3} (ha : a ≠ (0, 0, 0)) (hb : b ≠ (0, 0, 0)) (h : crs a b = (0, 0, 0)) : (a.1 = 0 ∧ a.2.1 = 0) = (b.1 = 0 ∧ b.2.1 = 0) := by
  obtain ⟨x, y, z⟩ := a
  obtain ⟨u, v, t⟩ := b
  simp only [crs, Prod.mk.injEq] at h ⊢
  obtain ⟨h1, h2, h3⟩ := h
  refine propext ⟨fun ⟨e1, e2⟩ => ?_, fun ⟨e1, e2⟩ => ?_⟩
  · subst e1 e2
    have hz : z ≠ 0 := fun hz => ha (by rw [hz])
    have h1' : z * v = 0 := by omega
    have h2' : z * u = 0 := by omega
    exact ⟨(Int.mul_eq_zero.1 h2').resolve_left hz, (Int.mul_eq_zero.1 h1').resolve_left hz⟩
  · subst e1 e2
    have hz : t ≠ 0 := fun hz => hb (by rw [hz])
    have h1' : y * t = 0 := by omega
    have h2' : x * t = 0 := by omega
    exact ⟨(Int.mul_eq_zero.1 h2').resolve_right hz, (Int.mul_eq_zero.1 h1').resolve_right hz⟩
theorem neg_zero3 {a : P3} : ((-a.1, -a.2.1, -a.2.2) : P3) = (0, 0, 0) ↔ a = (0, 0, 0) := by
  obtain ⟨x, y, z⟩ := a
  simp only [Prod.mk.injEq]
  omega
theorem solve2_rev {w : Int} {a b : P3} (ha : a ≠ (0, 0, 0)) (hb : b ≠ (0, 0, 0)) : solve2 w b a = revE (solve2 w a b) := by
  unfold solve2
  rw [crs_neg (a := a) (b := b), crs_neg (a := (0, 0, w)) (b := b), crs_neg (a := a) (b := (0, 0, w))]
  simp only [neg_zero3]
  by_cases h0 : crs a b = (0, 0, 0)
  · rw [if_pos h0, if_pos h0]
    simp only [revE, upright_par ha hb h0]
  · rw [if_neg h0, if_neg h0]
    generalize crs a b = c at *
    generalize crs (0, 0, w) b = p at *
    generalize crs a (0, 0, w) = q at *
    by_cases h1 : w ≠ 0 ∧ c.2.2 ≠ 0
    · rw [if_pos h1, if_pos (by omega)]; rfl
    · rw [if_neg h1, if_neg (by omega)]
      by_cases hx : c.1 = 0
      · by_cases hy : c.2.1 = 0
        · have hz : c.2.2 ≠ 0 := comp_ne h0 (by omega) (by omega)
          rw [if_neg (by omega), if_neg (by omega), if_neg (by omega), if_neg (by omega)]
          rw [div_eq (n := -q.2.2) (m := q.2.2) (e := c.2.2) (by omega) hz (by grind), div_eq (n := -p.2.2) (m := p.2.2) (e := c.2.2) (by omega) hz (by grind)]
          rfl
        · rw [if_neg (by omega), if_pos (by omega), if_neg (by omega), if_pos (by omega)]
          rw [div_eq (n := -q.2.1) (m := q.2.1) (e := c.2.1) (by omega) hy (by grind), div_eq (n := -p.2.1) (m := p.2.1) (e := c.2.1) (by omega) hy (by grind)]
          rfl
      · rw [if_pos (by omega), if_pos hx]
        rw [div_eq (n := -q.1) (m := q.1) (e := c.1) (by omega) hx (by grind), div_eq (n := -p.1) (m := p.1) (e := c.1) (by omega) hx (by grind)]
        rfl
theorem solve3_rev {w : Int} {a b c : P3} (ha : a ≠ (0, 0, 0)) (hc : c ≠ (0, 0, 0)) : solve3 w c b a = revE (solve3 w a b c) := by
  have hd : dt c (crs b a) = - dt a (crs b c) := by simp only [dt, crs]; grind
  unfold solve3
  by_cases h : dt a (crs b c) = 0
  · rw [if_pos h, if_pos (by omega)]
    have u1 := upr3 h
    have u2 := upr3 (show dt c (crs b a) = 0 by omega)
    rw [crs_neg (a := a) (b := b), crs_neg (a := c) (b := a), crs_neg (a := b) (b := c)] at u2
    simp only [neg_zero3] at u2
    have e : uprN (nzP (nzP (nzP (0, 0, 0) (crs c b)) (crs c a)) (crs b a)) c = uprN (nzP (nzP (nzP (0, 0, 0) (crs a b)) (crs a c)) (crs b c)) a := by
      rw [Bool.eq_iff_iff, u1, crs_neg (a := a) (b := b), crs_neg (a := b) (b := c), u2]
      by_cases hz : crs b c = (0, 0, 0) ∧ crs c a = (0, 0, 0) ∧ crs a b = (0, 0, 0)
      · rw [if_pos hz, if_pos ⟨hz.2.2, hz.2.1, hz.1⟩, upright_par hc ha hz.2.1]
      · rw [if_neg hz, if_neg (fun e => hz ⟨e.2.2, e.2.1, e.1⟩)]
        omega
    rw [e]
    rfl
  · rw [if_neg h, if_neg (by omega), hd]
    rw [crs_neg (a := a) (b := b), crs_neg (a := c) (b := a), crs_neg (a := b) (b := c)]
    simp only
    rw [div_eq (n := w * -(crs a b).2.2) (m := w * (crs a b).2.2) (e := dt a (crs b c)) (by omega) h (by grind), div_eq (n := w * -(crs c a).2.2) (m := w * (crs c a).2.2) (e := dt a (crs b c)) (by omega) h (by grind), div_eq (n := w * -(crs b c).2.2) (m := w * (crs b c).2.2) (e := dt a (crs b c)) (by omega) h (by grind)]
    rfl

end Go.Proofs.Ytghjblbkbelcfaa
