/- Points: valid ones, squares of ways, roots. -/
import Derived.Test.YtghjblbkbelcfaaEr18
import Derived.Test.YtghjblbkbelcfaaDnX
namespace Go.Proofs.Ytghjblbkbelcfaa
open Try Dn Dn.Sh

abbrev P3 := Int × Int × Int
def inP (p : P3) : Prop := (-1048576 ≤ p.1 ∧ p.1 ≤ 1048576) ∧ (-1048576 ≤ p.2.1 ∧ p.2.1 ≤ 1048576) ∧ (-1048576 ≤ p.2.2 ∧ p.2.2 ≤ 1048576)
instance (p : P3) : Decidable (inP p) := by unfold inP; infer_instance
def dec (p : P3) : Bool := decide (inP p)
theorem dec_iff {p : P3} : dec p = true ↔ inP p := by simp [dec]

theorem valid_eq (p : P3) : points_Valid p = some (dec p) := by
  simp only [points_Valid, points_Valid_b, not_or_self', Bool.and_self, cond_true]
  congr 1
  rw [Bool.eq_iff_iff]
  simp only [dec, bif_false', Bool.and_eq_true, decide_eq_true_eq]
  unfold inP
  simp only [ite_max, ite_min, Int.max_le, Int.le_min, ge_iff_le]
  omega
theorem within1_eq (n : Int) : ref09_within n = some (decide (-1048576 ≤ n ∧ n ≤ 1048576)) := by
  simp only [ref09_within, ref09_within_b, not_or_self', cond_true, bif_false', ge_iff_le, Bool.decide_and]
theorem refValidP_eq (p : P3) : ref09_Valid p = some (dec p) := by
  simp only [ref09_Valid, ref09_Valid_b, within1_eq, obind_some', not_or_self', cond_true, bif_false']
  unfold dec inP
  by_cases h1 : -1048576 ≤ p.1 ∧ p.1 ≤ 1048576
  · by_cases h2 : -1048576 ≤ p.2.1 ∧ p.2.1 ≤ 1048576
    · simp [h1, h2, obind_some']
    · simp [h1, h2, obind_some']
  · simp [h1, obind_some']

/-- The way from a to b. -/
def sub (a b : P3) : P3 := (b.1 - a.1, b.2.1 - a.2.1, b.2.2 - a.2.2)
theorem to_eq {a b : P3} (ha : inP a) (hb : inP b) : points_to a b = some (sub a b) := by
  unfold inP at ha hb
  simp only [points_to, points_to_b, sub]
  rw [wrap_id (by omega) (by omega), wrap_id (by omega) (by omega), wrap_id (by omega) (by omega)]

theorem mul_bound {a b m n : Int} (h1 : -m ≤ a) (h2 : a ≤ m) (h3 : -n ≤ b) (h4 : b ≤ n) : -(m * n) ≤ a * b ∧ a * b ≤ m * n := by
  have e : (a * b).natAbs ≤ m.natAbs * n.natAbs := by
    rw [Int.natAbs_mul]
    exact Nat.mul_le_mul (by omega) (by omega)
  have e2 : ((m.natAbs * n.natAbs : Nat) : Int) = m * n := by
    rw [Int.natCast_mul, Int.natAbs_of_nonneg (by omega), Int.natAbs_of_nonneg (by omega)]
  omega
theorem sq_bound {a m : Int} (h1 : -m ≤ a) (h2 : a ≤ m) : 0 ≤ a * a ∧ a * a ≤ m * m := by
  have := mul_bound h1 h2 h1 h2
  refine ⟨?_, this.2⟩
  rcases Int.le_total 0 a with h | h
  · exact Int.mul_nonneg h h
  · exact Int.mul_nonneg_of_nonpos_of_nonpos h h

/-- The square of a way. -/
def nsq (p : P3) : Int := p.1 * p.1 + p.2.1 * p.2.1 + p.2.2 * p.2.2

theorem all2_eq {a b : P3} : points_all [a, b] = some (dec a && dec b) := by
  simp only [points_all, points_all_b, slices_ContainsFunc_118, slices_ContainsFunc_118_b, slices_IndexFunc_125, slices_IndexFunc_125_b, lpK_eq]
  have h : ∀ p : P3, points_all_1 p = some (!dec p) := fun p => by
    simp only [points_all_1, points_all_1_b, valid_eq, obind_some']
  rw [loopF_K0]
  simp only [show decide ((0 : Int) < (([a, b] : List P3).length : Int)) = true from rfl, show inB 0 ([a, b] : List P3).length = true from rfl, cond_true, show IntKind.wrap .i64 (0 + 1) = 1 from rfl, show Int.toNat 0 = 0 from rfl, List.getD_cons_zero, h, obind_some']
  cases dec a with
  | false => rfl
  | true =>
    simp only [Bool.not_true, cond_false]
    rw [loopF_K1]
    simp only [show decide ((1 : Int) < (([a, b] : List P3).length : Int)) = true from rfl, show inB 1 ([a, b] : List P3).length = true from rfl, cond_true, show IntKind.wrap .i64 (1 + 1) = 2 from rfl, show Int.toNat 1 = 1 from rfl, List.getD_cons_zero, List.getD_cons_succ, h, obind_some']
    cases dec b with
    | false => rfl
    | true =>
      simp only [Bool.not_true, cond_false]
      rw [loopF_K2]
      rfl

theorem square_ok {a b : P3} (ha : inP a) (hb : inP b) : points_Square a b = some (nsq (sub a b), 0, ()) := by
  simp only [points_Square, points_Square_b, all2_eq, dec_iff.2 ha, dec_iff.2 hb, Bool.and_self, Bool.not_true, cond_false, obind_some', to_eq ha hb]
  unfold inP at ha hb
  have e1 := sq_bound (a := b.1 - a.1) (m := 2097152) (by omega) (by omega)
  have e2 := sq_bound (a := b.2.1 - a.2.1) (m := 2097152) (by omega) (by omega)
  have e3 := sq_bound (a := b.2.2 - a.2.2) (m := 2097152) (by omega) (by omega)
  simp (disch := omega) only [sub, nsq, wrap_id]

/-! ### Roots -/

def isq : Nat → Nat
  | 0 => 0
  | n + 1 => if (isq n + 1) * (isq n + 1) ≤ n + 1 then isq n + 1 else isq n
theorem isq_spec : ∀ n, isq n * isq n ≤ n ∧ n < (isq n + 1) * (isq n + 1)
  | 0 => by simp [isq]
  | n + 1 => by
    obtain ⟨h1, h2⟩ := isq_spec n
    simp only [isq]
    split
    · rename_i h
      refine ⟨h, ?_⟩
      have : (isq n + 1 + 1) * (isq n + 1 + 1) = (isq n + 1) * (isq n + 1) + 2 * (isq n + 1) + 1 := by grind
      omega
    · omega
theorem isq_uniq {n r : Nat} (h1 : r * r ≤ n) (h2 : n < (r + 1) * (r + 1)) : r = isq n := by
  obtain ⟨h3, h4⟩ := isq_spec n
  rcases Nat.lt_trichotomy r (isq n) with h | h | h
  · exfalso
    have : (r + 1) * (r + 1) ≤ isq n * isq n := Nat.mul_le_mul h h
    omega
  · exact h
  · exfalso
    have : (isq n + 1) * (isq n + 1) ≤ r * r := Nat.mul_le_mul h h
    omega

/-- The least span of the root of a number. -/
def rootS (n : Int) : Int × Int := ((isq n.toNat : Int), if (isq n.toNat * isq n.toNat : Nat) = n.toNat then (isq n.toNat : Int) else (isq n.toNat : Int) + 1)

theorem rootS_of {n r : Int} (hr : 0 ≤ r) (h1 : r * r ≤ n) (h2 : n < (r + 1) * (r + 1)) : rootS n = (r, if r * r = n then r else r + 1) := by
  have hn : 0 ≤ n := Int.le_trans (Int.mul_nonneg hr hr) h1
  obtain ⟨m, rfl⟩ : ∃ m : Nat, r = m := ⟨r.toNat, by omega⟩
  obtain ⟨k, rfl⟩ : ∃ k : Nat, n = k := ⟨n.toNat, by omega⟩
  have h1' : m * m ≤ k := by rw [← Int.natCast_mul] at h1; omega
  have h2' : k < (m + 1) * (m + 1) := by
    have : ((m : Int) + 1) * ((m : Int) + 1) = (((m + 1) * (m + 1) : Nat) : Int) := by rw [Int.natCast_mul]; rfl
    omega
  have e := isq_uniq h1' h2'
  unfold rootS
  rw [Int.toNat_natCast, ← e]
  congr 1
  rw [← Int.natCast_mul]
  by_cases h : m * m = k
  · rw [if_pos h, if_pos (by omega)]
  · rw [if_neg h, if_neg (by omega)]

theorem sq_lt {a b : Int} (h0 : 0 ≤ a) (h : a < b) : a * a < b * b := by
  have h1 : a * a ≤ a * b := Int.mul_le_mul_of_nonneg_left (by omega) h0
  have h2 : a * b < b * b := Int.mul_lt_mul_of_pos_right h (by omega)
  omega

theorem refRoot_ok {n : Int} (h0 : 0 ≤ n) (h1 : n ≤ 1152921504606846976) : ref09_Root n = some (rootS n) := by
  simp only [ref09_Root, ref09_Root_b]
  refine lpK_loop (g := fun _ => some (rootS n)) (I := fun (x : Int × Int × PUnit) => 0 ≤ x.1 ∧ x.1 < x.2.1 ∧ x.2.1 ≤ 1073741825 ∧ x.1 * x.1 ≤ n ∧ n < x.2.1 * x.2.1) (μ := fun (x : Int × Int × PUnit) => (x.2.1 - x.1).toNat) (x := ((0 : Int), (1073741825 : Int), PUnit.unit)) ?_ ⟨by simp, by simp, by simp, by simpa using h0, by simp only; omega⟩ (by simp)
  rintro ⟨lo, hi, _⟩ rec ⟨i0, i1, i2, i3, i4⟩ hrec
  simp only at i0 i1 i2 i3 i4 ⊢
  rw [wrap_id (x := hi - lo) (by omega) (by omega), wrap_id (x := lo + hi) (by omega) (by omega)]
  have ht : Int.tdiv (lo + hi) 2 = (lo + hi) / 2 := Int.tdiv_eq_ediv_of_nonneg (by omega)
  rw [ht, wrap_id (x := (lo + hi) / 2) (by omega) (by omega)]
  by_cases hc : hi - lo > 1
  · rw [decide_eq_true hc, cond_true]
    have hb := sq_bound (a := (lo + hi) / 2) (m := 1073741825) (by omega) (by omega)
    rw [wrap_id (x := (lo + hi) / 2 * ((lo + hi) / 2)) (by omega) (by omega)]
    by_cases hm : (lo + hi) / 2 * ((lo + hi) / 2) ≤ n
    · rw [decide_eq_true hm, cond_true]
      exact hrec _ ⟨by simp only; omega, by simp only; omega, by simp only; omega, hm, i4⟩ (by simp only; omega)
    · rw [decide_eq_false hm, cond_false]
      exact hrec _ ⟨by simp only; omega, by simp only; omega, by simp only; omega, i3, by simp only; omega⟩ (by simp only; omega)
  · rw [decide_eq_false hc, cond_false]
    have hh : hi = lo + 1 := by omega
    subst hh
    have hb := sq_bound (a := lo) (m := 1073741825) (by omega) (by omega)
    rw [wrap_id (x := lo * lo) (by omega) (by omega), wrap_id (x := lo + 1) (by omega) (by omega), rootS_of i0 i3 i4]
    by_cases he : lo * lo = n
    · simp [he]
    · simp [he]

theorem root_ok {n : Int} (h0 : 0 ≤ n) (h1 : n ≤ 1152921504606846976) : points_Root n = some (rootS n, 0, ()) := by
  simp only [points_Root, points_Root_b, not_or_self', or_self_not, cond_true]
  rw [decide_eq_false (show ¬ n < 0 by omega), cond_false, decide_eq_false (show ¬ n > 1152921504606846976 by omega), cond_false]
  refine lpK_loop (g := fun _ => some (rootS n, 0, ())) (I := fun (x : Int × Int × PUnit) => 0 ≤ x.1 ∧ x.1 * x.1 ≤ n ∧ ((x.2.1 = 0 ∧ x.1 ≤ 2147483648 ∧ n < (x.1 + 1) * (x.1 + 1)) ∨ ∃ k : Nat, x.2.1 = (2 ^ k : Nat) ∧ x.1 + 2 * x.2.1 ≤ 2147483648 ∧ n < (x.1 + 2 * x.2.1) * (x.1 + 2 * x.2.1)))
    (μ := fun (x : Int × Int × PUnit) => x.2.1.toNat) (x := ((0 : Int), (1073741824 : Int), PUnit.unit)) ?_ ⟨by simp, by simpa using h0, .inr ⟨30, by decide, by simp, by simp only; omega⟩⟩ (by simp)
  rintro ⟨r, b, _⟩ rec ⟨i0, i1, i2⟩ hrec
  simp only at i0 i1 i2 ⊢
  rcases i2 with ⟨rfl, i3, i4⟩ | ⟨k, hk, i3, i4⟩
  · have hb := sq_bound (a := r) (m := 2147483648) (by omega) (by omega)
    rw [decide_eq_false (show ¬ (0 : Int) > 0 by omega), cond_false, wrap_id (x := r * r) (by omega) (by omega), rootS_of i0 i1 i4]
    by_cases he : r * r < n
    · rw [decide_eq_true he, cond_true, wrap_id (x := r + 1) (by omega) (by omega), if_neg (by omega)]
    · rw [decide_eq_false he, cond_false, if_pos (by omega)]
  · have hpos : 0 < b := by rw [hk]; exact Int.natCast_pos.2 (Nat.pow_pos (by omega))
    have ht : Int.tdiv b 2 = b / 2 := Int.tdiv_eq_ediv_of_nonneg (by omega)
    have hb := sq_bound (a := r + b) (m := 2147483648) (by omega) (by omega)
    rw [decide_eq_true hpos, cond_true, wrap_id (x := r + b) (by omega) (by omega), wrap_id (x := (r + b) * (r + b)) (by omega) (by omega), ht, wrap_id (x := b / 2) (by omega) (by omega)]
    have next : ∀ r', (r' + b) * (r' + b) = (r' + b) * (r' + b) → r' + b ≤ 2147483648 → n < (r' + b) * (r' + b) → (b / 2 = 0 ∧ r' ≤ 2147483648 ∧ n < (r' + 1) * (r' + 1)) ∨ ∃ k : Nat, b / 2 = (2 ^ k : Nat) ∧ r' + 2 * (b / 2) ≤ 2147483648 ∧ n < (r' + 2 * (b / 2)) * (r' + 2 * (b / 2)) := fun r' _ hle hlt => by
      cases k with
      | zero =>
        have hb1 : b = 1 := by rw [hk]; rfl
        subst hb1
        exact .inl ⟨rfl, by omega, hlt⟩
      | succ k =>
        have h2 : b = 2 * ((2 ^ k : Nat) : Int) := by rw [hk, Nat.pow_succ, Int.natCast_mul]; omega
        have h3 : b / 2 = ((2 ^ k : Nat) : Int) := by omega
        have h4 : 2 * (b / 2) = b := by omega
        exact .inr ⟨k, h3, by rw [h4]; exact hle, by rw [h4]; exact hlt⟩
    by_cases hm : (r + b) * (r + b) ≤ n
    · rw [decide_eq_true hm, cond_true]
      refine hrec _ ⟨by simp only; omega, hm, next (r + b) rfl (by omega) ?_⟩ (by simp only; omega)
      rw [show r + b + b = r + 2 * b by omega]
      exact i4
    · rw [decide_eq_false hm, cond_false]
      exact hrec _ ⟨i0, i1, next r rfl (by omega) (by omega)⟩ (by simp only; omega)

end Go.Proofs.Ytghjblbkbelcfaa
