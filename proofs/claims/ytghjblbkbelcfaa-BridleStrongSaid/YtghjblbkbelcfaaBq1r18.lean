/- Bridles: pulls of twice the weight, and of longer arms. -/
import Derived.Test.YtghjblbkbelcfaaBr5r18
namespace Go.Proofs.Ytghjblbkbelcfaa
open Try Dn Dn.Sh

def mapE (c : Rat) : Except Int (List Rat) → Except Int (List Rat)
  | .ok l => .ok (l.map (· * c))
  | .error e => .error e
theorem div_mul {n d m e : Int} : ((n : Rat) / d) * ((m : Rat) / e) = ((n * m : Int) : Rat) / ((d * e : Int) : Rat) := by
  rw [← Rat.divInt_eq_div, ← Rat.divInt_eq_div, ← Rat.divInt_eq_div, Rat.divInt_mul_divInt]
theorem div_scale {n d m e n' d' : Int} (hd : d ≠ 0) (he : e ≠ 0) (hd' : d' ≠ 0) (h : n' * (d * e) = n * m * d') : (n' : Rat) / d' = ((n : Rat) / d) * ((m : Rat) / e) := by
  rw [div_mul, div_eq hd' (Int.mul_ne_zero hd he) h]

theorem solve1_twice {w : Int} {a : P3} (h0 : a ≠ (0, 0, 0)) : solve1 (w * 2) a = mapE (((2 : Int) : Rat) / ((1 : Int) : Rat)) (solve1 w a) := by
  unfold solve1
  by_cases h : w = 0
  · rw [if_pos h, if_pos (by omega)]
    simp only [mapE, List.map_cons, List.map_nil, Rat.zero_mul]
  · rw [if_neg h, if_neg (by omega)]
    split
    · rfl
    · rename_i h2
      have h3 : a.2.2 ≠ 0 := fun h3 => h0 (by obtain ⟨x, y, z⟩ := a; simp only at h2 h3; rw [h3, show x = 0 by omega, show y = 0 by omega])
      simp only [mapE, List.map_cons, List.map_nil]
      rw [div_scale (m := 2) (e := 1) (n' := w * 2) (n := w) h3 (by omega) h3 (by grind)]
theorem crs_load {w : Int} {b : P3} : crs (0, 0, w * 2) b = ((crs (0, 0, w) b).1 * 2, (crs (0, 0, w) b).2.1 * 2, (crs (0, 0, w) b).2.2 * 2) := by
  simp only [crs, Prod.mk.injEq]
  grind
theorem crs_load' {w : Int} {b : P3} : crs b (0, 0, w * 2) = ((crs b (0, 0, w)).1 * 2, (crs b (0, 0, w)).2.1 * 2, (crs b (0, 0, w)).2.2 * 2) := by
  simp only [crs, Prod.mk.injEq]
  grind
theorem comp_ne {a : P3} (h : a ≠ (0, 0, 0)) (h1 : ¬ a.1 ≠ 0) (h2 : ¬ a.2.1 ≠ 0) : a.2.2 ≠ 0 := fun h3 => h (by
  obtain ⟨x, y, z⟩ := a
  simp only at h1 h2 h3
  rw [h3, show x = 0 by omega, show y = 0 by omega])
theorem solve2_twice {w : Int} {a b : P3} : solve2 (w * 2) a b = mapE (((2 : Int) : Rat) / ((1 : Int) : Rat)) (solve2 w a b) := by
  unfold solve2
  rw [crs_load, crs_load']
  generalize crs (0, 0, w) b = p
  generalize crs a (0, 0, w) = q
  by_cases h0 : crs a b = (0, 0, 0)
  · rw [if_pos h0, if_pos h0]
    simp only [mapE, show (w * 2 = 0) = (w = 0) from propext (by omega)]
  · rw [if_neg h0, if_neg h0]
    simp only [ne_eq, show (w * 2 = 0) = (w = 0) from propext (by omega)]
    split
    · rfl
    · split
      · rename_i h1
        simp only [mapE, List.map_cons, List.map_nil]
        rw [div_scale (m := 2) (e := 1) (n' := p.1 * 2) (n := p.1) h1 (by omega) h1 (by grind), div_scale (m := 2) (e := 1) (n' := q.1 * 2) (n := q.1) h1 (by omega) h1 (by grind)]
      · split
        · rename_i h1
          simp only [mapE, List.map_cons, List.map_nil]
          rw [div_scale (m := 2) (e := 1) (n' := p.2.1 * 2) (n := p.2.1) h1 (by omega) h1 (by grind), div_scale (m := 2) (e := 1) (n' := q.2.1 * 2) (n := q.2.1) h1 (by omega) h1 (by grind)]
        · rename_i h2 h3
          have h1 := comp_ne h0 h2 h3
          simp only [mapE, List.map_cons, List.map_nil]
          rw [div_scale (m := 2) (e := 1) (n' := p.2.2 * 2) (n := p.2.2) h1 (by omega) h1 (by grind), div_scale (m := 2) (e := 1) (n' := q.2.2 * 2) (n := q.2.2) h1 (by omega) h1 (by grind)]
theorem solve3_twice {w : Int} {a b c : P3} : solve3 (w * 2) a b c = mapE (((2 : Int) : Rat) / ((1 : Int) : Rat)) (solve3 w a b c) := by
  unfold solve3
  split
  · simp only [mapE, show (w * 2 = 0) = (w = 0) from propext (by omega)]
  · rename_i hd
    simp only [mapE, List.map_cons, List.map_nil]
    rw [div_scale (m := 2) (e := 1) (n' := w * 2 * (crs b c).2.2) (n := w * (crs b c).2.2) hd (by omega) hd (by grind), div_scale (m := 2) (e := 1) (n' := w * 2 * (crs c a).2.2) (n := w * (crs c a).2.2) hd (by omega) hd (by grind), div_scale (m := 2) (e := 1) (n' := w * 2 * (crs a b).2.2) (n := w * (crs a b).2.2) hd (by omega) hd (by grind)]

/-! ### Arms k times as long -/
def mulP (k : Int) (a : P3) : P3 := (k * a.1, k * a.2.1, k * a.2.2)
theorem mulP_zero {k : Int} (hk : k ≠ 0) {a : P3} : mulP k a = (0, 0, 0) ↔ a = (0, 0, 0) := by
  obtain ⟨x, y, z⟩ := a
  simp only [mulP, Prod.mk.injEq, Int.mul_eq_zero, hk, false_or]
theorem crs_mul {k : Int} {a b : P3} : crs (mulP k a) (mulP k b) = mulP (k * k) (crs a b) := by
  simp only [crs, mulP, Prod.mk.injEq]
  grind
theorem crs_mulR {k : Int} {a b : P3} : crs a (mulP k b) = mulP k (crs a b) := by
  simp only [crs, mulP, Prod.mk.injEq]
  grind
theorem crs_mulL {k : Int} {a b : P3} : crs (mulP k a) b = mulP k (crs a b) := by
  simp only [crs, mulP, Prod.mk.injEq]
  grind
theorem nzP_mul {k : Int} (hk : k ≠ 0) {a b : P3} : nzP (mulP k a) (mulP k b) = mulP k (nzP a b) := by
  unfold nzP
  by_cases h : b = (0, 0, 0)
  · rw [if_pos h, if_pos ((mulP_zero hk).2 h)]
  · rw [if_neg h, if_neg (fun e => h ((mulP_zero hk).1 e))]
theorem uprN_mul {k l : Int} (hk : k ≠ 0) (hl : l ≠ 0) {n a : P3} : uprN (mulP k n) (mulP l a) = uprN n a := by
  unfold uprN
  by_cases h : n = (0, 0, 0)
  · rw [if_pos h, if_pos ((mulP_zero hk).2 h)]
    simp only [mulP, Int.mul_eq_zero, hl, false_or]
  · rw [if_neg h, if_neg (fun e => h ((mulP_zero hk).1 e))]
    simp only [mulP, Int.mul_eq_zero, hk, false_or]

theorem solve1_far {w k : Int} (hk : k ≠ 0) {a : P3} (h0 : a ≠ (0, 0, 0)) : solve1 w (mulP k a) = mapE (((1 : Int) : Rat) / (k : Rat)) (solve1 w a) := by
  unfold solve1
  by_cases h : w = 0
  · rw [if_pos h, if_pos h]
    simp only [mapE, List.map_cons, List.map_nil, Rat.zero_mul]
  · rw [if_neg h, if_neg h]
    simp only [mulP, ne_eq, Int.mul_eq_zero, hk, false_or]
    split
    · rfl
    · rename_i h2
      have h3 : a.2.2 ≠ 0 := comp_ne h0 (by omega) (by omega)
      simp only [mapE, List.map_cons, List.map_nil]
      rw [div_scale (m := 1) (e := k) (n' := w) (d' := k * a.2.2) (n := w) h3 hk (Int.mul_ne_zero hk h3) (by grind)]
theorem solve2_far {w k : Int} (hk : k ≠ 0) {a b : P3} : solve2 w (mulP k a) (mulP k b) = mapE (((1 : Int) : Rat) / (k : Rat)) (solve2 w a b) := by
  unfold solve2
  rw [crs_mul, crs_mulR, crs_mulL]
  have hkk := Int.mul_ne_zero hk hk
  generalize crs (0, 0, w) b = p
  generalize crs a (0, 0, w) = q
  simp only [mulP_zero hkk]
  by_cases h0 : crs a b = (0, 0, 0)
  · rw [if_pos h0, if_pos h0]
    simp only [mapE, mulP, Int.mul_eq_zero, hk, false_or]
  · rw [if_neg h0, if_neg h0]
    simp only [mulP, ne_eq, Int.mul_eq_zero, hk, false_or]
    split
    · rfl
    · split
      · rename_i h1
        simp only [mapE, List.map_cons, List.map_nil]
        rw [div_scale (m := 1) (e := k) (n' := k * p.1) (n := p.1) (d := (crs a b).1) h1 hk (Int.mul_ne_zero hkk h1) (by grind), div_scale (m := 1) (e := k) (n' := k * q.1) (n := q.1) (d := (crs a b).1) h1 hk (Int.mul_ne_zero hkk h1) (by grind)]
      · split
        · rename_i h1
          simp only [mapE, List.map_cons, List.map_nil]
          rw [div_scale (m := 1) (e := k) (n' := k * p.2.1) (n := p.2.1) (d := (crs a b).2.1) h1 hk (Int.mul_ne_zero hkk h1) (by grind), div_scale (m := 1) (e := k) (n' := k * q.2.1) (n := q.2.1) (d := (crs a b).2.1) h1 hk (Int.mul_ne_zero hkk h1) (by grind)]
        · rename_i h2 h3
          have h1 := comp_ne h0 h2 h3
          simp only [mapE, List.map_cons, List.map_nil]
          rw [div_scale (m := 1) (e := k) (n' := k * p.2.2) (n := p.2.2) (d := (crs a b).2.2) h1 hk (Int.mul_ne_zero hkk h1) (by grind), div_scale (m := 1) (e := k) (n' := k * q.2.2) (n := q.2.2) (d := (crs a b).2.2) h1 hk (Int.mul_ne_zero hkk h1) (by grind)]
theorem dt_mul {k l : Int} {a b : P3} : dt (mulP k a) (mulP l b) = k * l * dt a b := by
  simp only [dt, mulP]
  grind
theorem solve3_far {w k : Int} (hk : k ≠ 0) {a b c : P3} : solve3 w (mulP k a) (mulP k b) (mulP k c) = mapE (((1 : Int) : Rat) / (k : Rat)) (solve3 w a b c) := by
  have hkk := Int.mul_ne_zero hk hk
  have hk3 := Int.mul_ne_zero hk hkk
  unfold solve3
  rw [crs_mul, crs_mul, crs_mul, crs_mul, dt_mul, show ((0, 0, 0) : P3) = mulP (k * k) (0, 0, 0) by simp [mulP], nzP_mul hkk, nzP_mul hkk, nzP_mul hkk, uprN_mul hkk hk, show mulP (k * k) (0, 0, 0) = (0, 0, 0) by simp [mulP]]
  by_cases hd : dt a (crs b c) = 0
  · rw [if_pos hd, if_pos (by rw [hd, Int.mul_zero])]
    rfl
  · have hd' := Int.mul_ne_zero hk3 hd
    rw [if_neg hd, if_neg hd']
    simp only [mapE, List.map_cons, List.map_nil]
    rw [div_scale (m := 1) (e := k) (n' := w * (mulP (k * k) (crs b c)).2.2) (n := w * (crs b c).2.2) (d := dt a (crs b c)) hd hk hd' (by simp only [mulP]; grind), div_scale (m := 1) (e := k) (n' := w * (mulP (k * k) (crs c a)).2.2) (n := w * (crs c a).2.2) (d := dt a (crs b c)) hd hk hd' (by simp only [mulP]; grind), div_scale (m := 1) (e := k) (n' := w * (mulP (k * k) (crs a b)).2.2) (n := w * (crs a b).2.2) (d := dt a (crs b c)) hd hk hd' (by simp only [mulP]; grind)]

end Go.Proofs.Ytghjblbkbelcfaa
