/- The law BridleStrong: lengths and spans. -/
import Derived.Test.YtghjblbkbelcfaaBs1r18
namespace Go.Proofs.Ytghjblbkbelcfaa
open Try Dn Dn.Sh

theorem root_hi {n : Int} (h : 0 ≤ n) : 0 ≤ (rootS n).1 ∧ (rootS n).1 ≤ (rootS n).2 ∧ n ≤ (rootS n).2 * (rootS n).2 := by
  obtain ⟨h1, h2⟩ := isq_spec n.toNat
  unfold rootS
  simp only
  split
  · rename_i he
    refine ⟨by omega, Int.le_refl _, ?_⟩
    rw [← Int.natCast_mul]; omega
  · refine ⟨by omega, by omega, ?_⟩
    have : ((isq n.toNat : Int) + 1) * ((isq n.toNat : Int) + 1) = (((isq n.toNat + 1) * (isq n.toNat + 1) : Nat) : Int) := by rw [Int.natCast_mul]; rfl
    omega
theorem le_of_sq {a b : Int} (hb : 0 ≤ b) (h : a * a ≤ b * b) : a ≤ b := by
  by_cases hc : a ≤ b
  · exact hc
  · have := sq_lt hb (show b < a by omega)
    omega
def upOf (a : P3) : Int := if a.2.2 > 0 then a.2.2 else 0
theorem up_sq (a : P3) : 0 ≤ upOf a ∧ upOf a * upOf a ≤ nsq a := by
  have e1 : 0 ≤ a.1 * a.1 := by rcases Int.le_total 0 a.1 with h | h; exact Int.mul_nonneg h h; exact Int.mul_nonneg_of_nonpos_of_nonpos h h
  have e2 : 0 ≤ a.2.1 * a.2.1 := by rcases Int.le_total 0 a.2.1 with h | h; exact Int.mul_nonneg h h; exact Int.mul_nonneg_of_nonpos_of_nonpos h h
  have e3 : 0 ≤ a.2.2 * a.2.2 := by rcases Int.le_total 0 a.2.2 with h | h; exact Int.mul_nonneg h h; exact Int.mul_nonneg_of_nonpos_of_nonpos h h
  unfold upOf nsq
  split
  · exact ⟨by omega, by omega⟩
  · exact ⟨by omega, by omega⟩
theorem up_root {a : P3} : upOf a ≤ (rootS (nsq a)).2 := by
  obtain ⟨h1, h2⟩ := up_sq a
  have h3 : 0 ≤ nsq a := Int.le_trans (Int.mul_nonneg h1 h1) h2
  obtain ⟨r1, r2, r3⟩ := root_hi h3
  exact le_of_sq (by omega) (by omega)
theorem up_len {a : P3} : 1000 * upOf a ≤ (lenS a).2 := by
  obtain ⟨h1, h2⟩ := up_sq a
  have h3 : 0 ≤ nsq a := Int.le_trans (Int.mul_nonneg h1 h1) h2
  obtain ⟨r1, r2, r3⟩ := root_hi (n := 1000000 * nsq a) (by omega)
  refine le_of_sq (by unfold lenS; omega) ?_
  rw [show 1000 * upOf a * (1000 * upOf a) = 1000000 * (upOf a * upOf a) by grind]
  unfold lenS
  omega

theorem div_le_div {m n : Int} (h : m ≤ n) : (m : Rat) / (1000 : Int) ≤ (n : Rat) / (1000 : Int) := by
  rw [Rat.div_def, Rat.div_def]
  exact Rat.mul_le_mul_of_nonneg_right (Rat.intCast_le_intCast.2 h) (by decide +kernel)
theorem div_nonneg {m : Int} (h : 0 ≤ m) : 0 ≤ (m : Rat) / (1000 : Int) := by
  have := div_le_div h
  rwa [zero_div rfl] at this
theorem thousand {m : Int} : (m : Rat) = ((1000 * m : Int) : Rat) / (1000 : Int) := by
  have := div_eq (n := m) (d := 1) (m := 1000 * m) (e := 1000) (by omega) (by omega) (by omega)
  rw [← this, Rat.div_def]
  rw [show ((1 : Int) : Rat)⁻¹ = 1 by decide +kernel, Rat.mul_one]
theorem floor_ceil {x y : Rat} (h : x ≤ y) : x.floor ≤ y.ceil := Rat.intCast_le_intCast.1 (Rat.le_trans (Rat.floor_le x) (Rat.le_trans h Rat.le_ceil))

/-- What the law asks of the span of a pull that is not negative. -/
theorem span_facts {q : Rat} {a : P3} (hq : 0 ≤ q) (h : (spanE q (lenS a)).2.1 = 0) : 0 ≤ (spanE q (lenS a)).1.1 ∧ (spanE q (lenS a)).1.1 ≤ (spanE q (lenS a)).1.2 ∧ (q * (upOf a : Rat)).floor ≤ (spanE q (lenS a)).1.2 := by
  obtain ⟨h1, h2⟩ := up_sq a
  have h3 : 0 ≤ nsq a := Int.le_trans (Int.mul_nonneg h1 h1) h2
  obtain ⟨r1, r2, _⟩ := root_hi (n := 1000000 * nsq a) (by omega)
  have r1' : 0 ≤ (lenS a).1 := r1
  have r2' : (lenS a).1 ≤ (lenS a).2 := r2
  have r4 := up_len (a := a)
  unfold spanE at h ⊢
  split
  · simp only
    refine ⟨Rat.le_floor_iff.2 ?_, floor_ceil (Rat.mul_le_mul_of_nonneg_left (div_le_div r2') hq), floor_ceil (Rat.mul_le_mul_of_nonneg_left ?_ hq)⟩
    · exact Rat.mul_nonneg hq (div_nonneg r1')
    · rw [thousand]
      exact div_le_div r4
  · rename_i hf
    rw [if_neg hf] at h
    exact absurd h (by decide)

theorem pLength_ok {b : Brd} {i : Nat} (h : validB b = true) (hi : i < b.2.2.length) : points_Length b.1 (legAt b i).2.1 = some (rootS (nsq (armB b i)), 0, ()) := by
  obtain ⟨a1, a2, a3, a4⟩ := valid_arm h hi
  obtain ⟨n1, n2⟩ := nsq_bound a1
  simp only [points_Length, points_Length_b, square_ok a3 a4, obind_some', decide_true, Bool.not_true, cF]
  rw [show nsq (sub b.1 (legAt b i).2.1) = nsq (armB b i) from rfl, root_ok (by omega) (by omega)]
  rfl

end Go.Proofs.Ytghjblbkbelcfaa
