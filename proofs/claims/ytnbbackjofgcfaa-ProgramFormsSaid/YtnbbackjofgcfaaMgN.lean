/- Numbers of 128 bits: sums, differences, comparisons; the length of a number. The quotient of a number of 128 bits by one of 64. Fractions: 'Add' of package ratio. Loops over lists: searches and tests of all elements. Fractions: 'Add', 'Valid', 'All' of the reference. Fractions: 'Sub' and 'Cmp' of both. Loops over the elements of a list, as recursions over it. Programs: both programs know the same valid ones. Programs: sums of numbers times fractions. Programs: which points are feasible, as the program tells it. Programs: feasible points and values, in both programs. The law ProgramForms. -/
import Derived.Test.YtnbbackjofgcfaaMgM

namespace Go.Proofs.Ytnbbackjofgcfaa
open Try Dn Dn.Sh

theorem rLess_ok {a b : Nat} : ratio_less (hl a) (hl b) = some (decide (a < b)) := by
  simp only [ratio_less, ratio_less_b]
  have e : decide (a < b) = (bif decide ((hl a).1 < (hl b).1) then true else bif decide ((hl a).1 = (hl b).1) then decide ((hl a).2 < (hl b).2) else false) := by
    by_cases c1 : (hl a).1 < (hl b).1
    · simp only [c1, decide_true, cond_true]
      simp only [hl] at c1
      exact decide_eq_true (by omega)
    · by_cases c2 : (hl a).1 = (hl b).1
      · rw [decide_eq_false c1, decide_eq_true c2, cond_true, cond_false]
        have e2 : a < b ↔ (hl a).2 < (hl b).2 := by
          simp only [hl] at c1 c2 ⊢
          omega
        rw [Bool.eq_iff_iff, decide_eq_true_iff, decide_eq_true_iff]
        exact e2
      · simp only [c1, c2, decide_false, cond_false]
        simp only [hl] at c1 c2
        exact decide_eq_false (by omega)
  rw [e]
  cases decide ((hl a).1 < (hl b).1) <;> cases decide ((hl a).1 = (hl b).1) <;> rfl

theorem addC_hl {m n : Nat} : addC (hl m).2 (hl n).2 0 = (((m % 18446744073709551616 + n % 18446744073709551616) / 18446744073709551616 : Nat) : Int) := by
  simp only [addC, hl, Int.toNat_natCast, Int.toNat_zero, Nat.add_zero]
  rfl
theorem subC_hl {m n : Nat} : subC (hl m).2 (hl n).2 0 = (((if m % 18446744073709551616 < n % 18446744073709551616 then 1 else 0 : Nat) : Nat) : Int) := by
  simp only [subC, hl, Int.toNat_natCast, Int.toNat_zero, Nat.add_zero]
  cases h : Nat.blt (m % 18446744073709551616) (n % 18446744073709551616) with
  | true =>
    have h' : m % 18446744073709551616 < n % 18446744073709551616 := by simpa [Nat.blt_eq] using h
    rw [if_pos h']; rfl
  | false =>
    have h' : ¬ m % 18446744073709551616 < n % 18446744073709551616 := by
      intro h2
      have : Nat.blt (m % 18446744073709551616) (n % 18446744073709551616) = true := by simpa [Nat.blt_eq] using h2
      rw [this] at h; cases h
    rw [if_neg h']; rfl

theorem rPlus_ok {m n : Nat} (h : m + n < 340282366920938463463374607431768211456) : ratio_plus (hl m) (hl n) = some (hl (m + n)) := by
  simp only [ratio_plus, ratio_plus_b, addC_hl]
  have c1 : decide ((0 : Int) ≤ (0 : Int)) = true := rfl
  have c2 : decide ((0 : Int) ≤ (1 : Int)) = true := rfl
  rw [c1, c2, decide_eq_true (show (0 : Int) ≤ (((m % 18446744073709551616 + n % 18446744073709551616) / 18446744073709551616 : Nat) : Int) by omega), decide_eq_true (show (((m % 18446744073709551616 + n % 18446744073709551616) / 18446744073709551616 : Nat) : Int) ≤ 1 by omega)]
  simp only [Bool.and_self, cT, Option.some.injEq, addO, hl, Int.toNat_natCast, Int.toNat_zero, Nat.add_zero, Prod.mk.injEq]
  constructor
  · show ((_ : Nat) : Int) = ((_ : Nat) : Int)
    omega
  · show ((_ : Nat) : Int) = ((_ : Nat) : Int)
    omega
theorem rMinus_ok {m n : Nat} (h : n ≤ m) (hm : m < 340282366920938463463374607431768211456) : ratio_minus (hl m) (hl n) = some (hl (m - n)) := by
  simp only [ratio_minus, ratio_minus_b, subC_hl]
  have c1 : decide ((0 : Int) ≤ (0 : Int)) = true := rfl
  have c2 : decide ((0 : Int) ≤ (1 : Int)) = true := rfl
  have hb : (if m % 18446744073709551616 < n % 18446744073709551616 then 1 else 0 : Nat) ≤ 1 := by split <;> omega
  have hc : (if m % 18446744073709551616 < n % 18446744073709551616 then 1 else 0 : Nat) = 1 ∧ m % 18446744073709551616 < n % 18446744073709551616 ∨ (if m % 18446744073709551616 < n % 18446744073709551616 then 1 else 0 : Nat) = 0 ∧ ¬ m % 18446744073709551616 < n % 18446744073709551616 := by split <;> simp_all
  generalize (if m % 18446744073709551616 < n % 18446744073709551616 then 1 else 0 : Nat) = c at *
  rw [c1, c2, decide_eq_true (show (0 : Int) ≤ (c : Int) by omega), decide_eq_true (show (c : Int) ≤ 1 by omega)]
  simp only [Bool.and_self, cT, Option.some.injEq, subO, hl, Int.toNat_natCast, Int.toNat_zero, Nat.sub_zero, Prod.mk.injEq]
  constructor
  · show ((_ : Nat) : Int) = ((_ : Nat) : Int)
    omega
  · show ((_ : Nat) : Int) = ((_ : Nat) : Int)
    omega

noncomputable def lenT (T : ByteArray) (a b : Int) : Option Int :=
  bif decide (a ≥ (256 : Int)) then bif decide ((0 : Int) ≤ (8 : Int)) then bif inB (IntKind.wrap .u8 (Int.fdiv a ((2 : Int) ^ (8 : Nat)))) (256 : Nat) then
    some (IntKind.wrap .i64 (IntKind.wrap .i64 (b + (8 : Int)) + IntKind.wrap .i64 (byteAt T (Int.toNat (IntKind.wrap .u8 (Int.fdiv a ((2 : Int) ^ (8 : Nat)))))))) else none else none
  else bif inB (IntKind.wrap .u8 a) (256 : Nat) then some (IntKind.wrap .i64 (b + IntKind.wrap .i64 (byteAt T (Int.toNat (IntKind.wrap .u8 a))))) else none
noncomputable def lenU (T : ByteArray) (a b : Int) : Option Int := bif decide (a ≥ (65536 : Int)) then bif decide ((0 : Int) ≤ (16 : Int)) then lenT T (Int.fdiv a ((2 : Int) ^ (16 : Nat))) (IntKind.wrap .i64 (b + (16 : Int))) else none else lenT T a b
theorem len_table : ∃ T : ByteArray, (∀ i, i < 256 → 0 ≤ byteAt T i ∧ byteAt T i ≤ 8 ∧ (0 < i → i < 2 ^ (byteAt T i).toNat ∧ 2 ^ (byteAt T i).toNat ≤ 2 * i)) ∧
    ∀ x, bits_Len64 x = bif decide (x ≥ (4294967296 : Int)) then bif decide ((0 : Int) ≤ (32 : Int)) then lenU T (Int.fdiv x ((2 : Int) ^ (32 : Nat))) 32 else none else lenU T x 0 :=
  ⟨_, by decide +kernel, fun _ => rfl⟩

/-- The length of a number that is not 0. -/
def isLen (n L : Nat) : Prop := n < 2 ^ L ∧ 2 ^ L ≤ 2 * n
theorem isLen_shift {n k L : Nat} (h : isLen (n / 2 ^ k) L) : isLen n (L + k) := by
  obtain ⟨h1, h2⟩ := h
  have hk : 0 < 2 ^ k := Nat.two_pow_pos k
  unfold isLen
  rw [Nat.pow_add]
  constructor
  · exact (Nat.div_lt_iff_lt_mul hk).1 h1
  · have h3 : n / 2 ^ k * 2 ^ k ≤ n := Nat.div_mul_le_self n _
    have h4 := Nat.mul_le_mul_right (2 ^ k) h2
    rw [Nat.mul_assoc] at h4
    omega
theorem u8_wrap {x : Int} (h1 : 0 ≤ x) (h2 : x < 256) : IntKind.wrap .u8 x = x := by
  rw [IntKind.wrap_u8]; omega
theorem Len64_ok {n : Nat} (h0 : 0 < n) (h1 : n < 18446744073709551616) : ∃ L : Nat, bits_Len64 (n : Int) = some (L : Int) ∧ isLen n L ∧ L ≤ 64 := by
  obtain ⟨T, hT, hx⟩ := len_table
  have tab : ∀ i : Nat, 0 < i → i < 256 → ∃ L : Nat, byteAt T i = L ∧ L ≤ 8 ∧ isLen i L := fun i h2 h3 => by
    obtain ⟨a1, a2, a3⟩ := hT i h3
    exact ⟨(byteAt T i).toNat, by omega, by omega, a3 h2⟩
  have p8 : (2 : Int) ^ (8 : Nat) = 256 := by decide
  have p16 : (2 : Int) ^ (16 : Nat) = 65536 := by decide
  have p32 : (2 : Int) ^ (32 : Nat) = 4294967296 := by decide
  have stepT : ∀ a b : Nat, 0 < a → a < 65536 → b ≤ 48 → ∃ L : Nat, lenT T (a : Int) (b : Int) = some ((L + b : Nat) : Int) ∧ isLen a L ∧ L ≤ 16 := fun a b ha hb hb2 => by
    unfold lenT
    by_cases h : a < 256
    · obtain ⟨L, e1, e2, e3⟩ := tab a ha h
      rw [decide_eq_false (show ¬ (a : Int) ≥ 256 by omega), cond_false, u8_wrap (by omega) (by omega), inB_of (by omega) (by omega), cond_true, Int.toNat_natCast, e1, wrap_id (x := (L : Int)) (by omega) (by omega), wrap_id (by omega) (by omega)]
      exact ⟨L, by congr 1; omega, e3, by omega⟩
    · obtain ⟨L, e1, e2, e3⟩ := tab (a / 256) (by omega) (by omega)
      rw [decide_eq_true (show (a : Int) ≥ 256 by omega), cond_true, show decide ((0 : Int) ≤ 8) = true from rfl, cond_true, p8, fdiv_of (by omega), u8_wrap (by omega) (by omega), inB_of (by omega) (by omega), cond_true, show ((a : Int) / 256).toNat = a / 256 by omega, e1, wrap_id (x := (L : Int)) (by omega) (by omega), wrap_id (x := (b : Int) + 8) (by omega) (by omega), wrap_id (by omega) (by omega)]
      exact ⟨L + 8, by congr 1; omega, isLen_shift (k := 8) e3, by omega⟩
  have stepU : ∀ a b : Nat, 0 < a → a < 4294967296 → b ≤ 32 → ∃ L : Nat, lenU T (a : Int) (b : Int) = some ((L + b : Nat) : Int) ∧ isLen a L ∧ L ≤ 32 := fun a b ha hb hb2 => by
    unfold lenU
    by_cases h : a < 65536
    · obtain ⟨L, e1, e2, e3⟩ := stepT a b ha h (by omega)
      rw [decide_eq_false (show ¬ (a : Int) ≥ 65536 by omega), cond_false, e1]
      exact ⟨L, rfl, e2, by omega⟩
    · obtain ⟨L, e1, e2, e3⟩ := stepT (a / 65536) (b + 16) (by omega) (by omega) (by omega)
      rw [decide_eq_true (show (a : Int) ≥ 65536 by omega), cond_true, show decide ((0 : Int) ≤ 16) = true from rfl, cond_true, p16, fdiv_of (by omega), wrap_id (by omega) (by omega), show (a : Int) / 65536 = ((a / 65536 : Nat) : Int) by omega, show (b : Int) + 16 = ((b + 16 : Nat) : Int) by omega, e1]
      exact ⟨L + 16, by congr 1; omega, isLen_shift (k := 16) e2, by omega⟩
  rw [hx]
  by_cases h : n < 4294967296
  · obtain ⟨L, e1, e2, e3⟩ := stepU n 0 h0 h (by omega)
    rw [decide_eq_false (show ¬ (n : Int) ≥ 4294967296 by omega), cond_false]
    exact ⟨L, e1, e2, by omega⟩
  · obtain ⟨L, e1, e2, e3⟩ := stepU (n / 4294967296) 32 (by omega) (by omega) (by omega)
    rw [decide_eq_true (show (n : Int) ≥ 4294967296 by omega), cond_true, show decide ((0 : Int) ≤ 32) = true from rfl, cond_true, p32, fdiv_of (by omega), show (n : Int) / 4294967296 = ((n / 4294967296 : Nat) : Int) by omega]
    exact ⟨L + 32, e1, isLen_shift (k := 32) e2, by omega⟩

end Go.Proofs.Ytnbbackjofgcfaa

namespace Go.Proofs.Ytnbbackjofgcfaa
open Try Dn Dn.Sh

/-- One digit: the guess is not too small; what a round may conclude. -/
theorem digit_stop {q r U u y1 y0 : Int} (hq : q * y1 + r = U) (hu : 0 ≤ u) (hy : 0 < y1 * 4294967296 + y0) (hge : (U * 4294967296 + u) / (y1 * 4294967296 + y0) ≤ q) (ht : q * y0 ≤ 4294967296 * r + u) : q = (U * 4294967296 + u) / (y1 * 4294967296 + y0) := by
  refine Int.le_antisymm (Int.le_ediv_of_mul_le hy ?_) hge
  rw [Int.mul_add, ← Int.mul_assoc]
  omega
theorem digit_less {q r U u y1 y0 : Int} (hq : q * y1 + r = U) (hy : 0 < y1 * 4294967296 + y0) (hU : U * 4294967296 + u < (y1 * 4294967296 + y0) * 4294967296) (ht : q ≥ 4294967296 ∨ q * y0 > 4294967296 * r + u) : (U * 4294967296 + u) / (y1 * 4294967296 + y0) ≤ q - 1 := by
  have : (U * 4294967296 + u) / (y1 * 4294967296 + y0) < q := by
    refine Int.ediv_lt_of_lt_mul hy ?_
    rcases ht with ht | ht
    · exact Int.lt_of_lt_of_le hU (by rw [Int.mul_comm q]; exact Int.mul_le_mul_of_nonneg_left ht (by omega))
    · rw [Int.mul_add, ← Int.mul_assoc]
      omega
  omega
theorem digit_end {q r U u y1 y0 : Int} (hq : q * y1 + r = U) (hu : 0 ≤ u) (hy : 0 < y1 * 4294967296 + y0) (h0 : 0 ≤ y0 ∧ y0 < 4294967296) (hge : (U * 4294967296 + u) / (y1 * 4294967296 + y0) ≤ q - 1) (hr : r + y1 ≥ 4294967296) (hq2 : 1 ≤ q ∧ q ≤ 4294967297) : q - 1 = (U * 4294967296 + u) / (y1 * 4294967296 + y0) := by
  refine Int.le_antisymm (Int.le_ediv_of_mul_le hy ?_) hge
  have e1 : (q - 1) * y0 ≤ 4294967296 * 4294967295 := Int.mul_le_mul (by omega) (by omega) h0.1 (by omega)
  rw [Int.mul_add, ← Int.mul_assoc, Int.sub_mul q 1 y1, Int.one_mul]
  omega

theorem lor_add {s : Nat} {a b : Nat} (h : b < 2 ^ s) : Nat.lor (a * 2 ^ s) b = a * 2 ^ s + b := by
  have := Nat.two_pow_add_eq_or_of_lt h a
  rw [Nat.mul_comm a]
  exact this.symm

theorem digit_loop {α R : Type} {F : (α → Option R) → α → Option R} {J : Int → Option R} {U u y1 y0 : Int} (enc : Int → Int → α) (dec : α → Int) (hdec : ∀ q r, dec (enc q r) = q)
    (hu : 0 ≤ u) (h0 : 0 ≤ y0 ∧ y0 < 4294967296) (h1 : 2147483648 ≤ y1 ∧ y1 < 4294967296) (hU0 : 0 ≤ U) (hU : U * 4294967296 + u < (y1 * 4294967296 + y0) * 4294967296)
    (hF1 : ∀ again q r, 1 ≤ q → q ≤ 4294967297 → 0 ≤ r → r < 4294967296 → (q ≥ 4294967296 ∨ q * y0 > 4294967296 * r + u) → F again (enc q r) = bif decide (r + y1 ≥ 4294967296) then J (q - 1) else again (enc (q - 1) (r + y1)))
    (hF2 : ∀ again q r, 0 ≤ q → q < 4294967296 → 0 ≤ r → r < 4294967296 → ¬ q * y0 > 4294967296 * r + u → F again (enc q r) = J q)
    {q r : Int} (hq : q * y1 + r = U) (hq0 : 0 ≤ q) (hq2 : q ≤ 4294967297) (hr0 : 0 ≤ r) (hr1 : r < 4294967296) (hge : (U * 4294967296 + u) / (y1 * 4294967296 + y0) ≤ q) :
    lpK α R F (enc q r) = J ((U * 4294967296 + u) / (y1 * 4294967296 + y0)) := by
  have hD : 0 ≤ (U * 4294967296 + u) / (y1 * 4294967296 + y0) := Int.ediv_nonneg (by omega) (by omega)
  refine lpK_loop (g := fun _ => J ((U * 4294967296 + u) / (y1 * 4294967296 + y0))) (I := fun x => ∃ q r, x = enc q r ∧ q * y1 + r = U ∧ 0 ≤ q ∧ q ≤ 4294967297 ∧ 0 ≤ r ∧ r < 4294967296 ∧ (U * 4294967296 + u) / (y1 * 4294967296 + y0) ≤ q) (μ := fun x => (dec x).toNat) ?_ ⟨q, r, rfl, hq, hq0, hq2, hr0, hr1, hge⟩ (by rw [hdec]; omega)
  rintro _ rec ⟨q, r, rfl, hq, hq0, hq2, hr0, hr1, hge⟩ hrec
  have hy : 0 < y1 * 4294967296 + y0 := by omega
  by_cases ht : q ≥ 4294967296 ∨ q * y0 > 4294967296 * r + u
  · have hl := digit_less hq hy hU ht
    rw [hF1 _ _ _ (by omega) hq2 hr0 hr1 ht]
    by_cases hr : r + y1 ≥ 4294967296
    · rw [decide_eq_true hr, cond_true, digit_end hq hu hy h0 hl hr ⟨by omega, hq2⟩]
    · rw [decide_eq_false hr, cond_false]
      refine hrec _ ⟨q - 1, r + y1, rfl, ?_, by omega, by omega, by omega, by omega, hl⟩ (by rw [hdec, hdec]; omega)
      rw [Int.sub_mul, Int.one_mul]; omega
  · rw [not_or] at ht
    rw [hF2 _ _ _ hq0 (by omega) hr0 hr1 ht.2, ← digit_stop hq hu hy hge (by omega)]

/-- What the first guess of a digit is. -/
theorem digit_init {U u y1 y0 : Int} (hu : 0 ≤ u ∧ u < 4294967296) (h0 : 0 ≤ y0 ∧ y0 < 4294967296) (h1 : 2147483648 ≤ y1 ∧ y1 < 4294967296) (hU0 : 0 ≤ U) (hU : U < y1 * 4294967296 + y0) :
    (U / y1) * y1 + (U - U / y1 * y1) = U ∧ 0 ≤ U / y1 ∧ U / y1 ≤ 4294967297 ∧ 0 ≤ U - U / y1 * y1 ∧ U - U / y1 * y1 < 4294967296 ∧ (U * 4294967296 + u) / (y1 * 4294967296 + y0) ≤ U / y1 := by
  have e1 := Int.mul_ediv_add_emod U y1
  have e2 := Int.emod_nonneg U (show y1 ≠ 0 by omega)
  have e3 := Int.emod_lt_of_pos U (show 0 < y1 by omega)
  rw [Int.mul_comm] at e1
  refine ⟨by omega, Int.ediv_nonneg hU0 (by omega), ?_, by omega, by omega, ?_⟩
  · have : U / y1 < 4294967298 := Int.ediv_lt_of_lt_mul (by omega) (by omega)
    omega
  · have : (U * 4294967296 + u) / (y1 * 4294967296 + y0) < U / y1 + 1 := by
      refine Int.ediv_lt_of_lt_mul (by omega) ?_
      have hq : 0 ≤ U / y1 := Int.ediv_nonneg hU0 (by omega)
      have e4 : 0 ≤ (U / y1 + 1) * y0 := Int.mul_nonneg (by omega) h0.1
      rw [Int.mul_add, ← Int.mul_assoc, Int.add_mul (U / y1) 1 y1, Int.one_mul]
      omega
    omega

/-- The second loop of 'Div64', and what follows it. -/
noncomputable def dv2E (y1 y0 Y u0 P q1 un : Int) (q : Int) : Option (Int × Int × Unit) := some (IntKind.wrap .u64 (IntKind.wrap .u64 (q1 * 4294967296) + q), Int.fdiv (IntKind.wrap .u64 (IntKind.wrap .u64 (IntKind.wrap .u64 (un * 4294967296) + u0) - IntKind.wrap .u64 (q * Y))) P, ())
noncomputable def dv2 (y1 y0 Y u0 P q1 un : Int) : Option (Int × Int × Unit) := lpK (Int × Int × PUnit) (Int × Int × PUnit) (fun again x => bif (bif decide (x.2.1 ≥ 4294967296) then true else decide (IntKind.wrap .u64 (x.2.1 * y0) > IntKind.wrap .u64 (IntKind.wrap .u64 (4294967296 * x.1) + u0))) then
  (bif decide (IntKind.wrap .u64 (x.1 + y1) ≥ 4294967296) then dv2E y1 y0 Y u0 P q1 un (IntKind.wrap .u64 (x.2.1 - 1)) else again (IntKind.wrap .u64 (x.1 + y1), IntKind.wrap .u64 (x.2.1 - 1), PUnit.unit)) else dv2E y1 y0 Y u0 P q1 un x.2.1)
  (IntKind.wrap .u64 (un - IntKind.wrap .u64 (IntKind.wrap .u64 (Int.tdiv un y1) * y1)), IntKind.wrap .u64 (Int.tdiv un y1), PUnit.unit)
theorem dv2_ok {y1 y0 u0 P q1 un : Int} (hu : 0 ≤ u0 ∧ u0 < 4294967296) (h0 : 0 ≤ y0 ∧ y0 < 4294967296) (h1 : 2147483648 ≤ y1 ∧ y1 < 4294967296) (hU0 : 0 ≤ un) (hU : un < y1 * 4294967296 + y0) :
    dv2 y1 y0 (y1 * 4294967296 + y0) u0 P q1 un = dv2E y1 y0 (y1 * 4294967296 + y0) u0 P q1 un ((un * 4294967296 + u0) / (y1 * 4294967296 + y0)) := by
  obtain ⟨i1, i2, i3, i4, i5, i6⟩ := digit_init (U := un) hu h0 h1 hU0 hU
  unfold dv2
  rw [Int.tdiv_eq_ediv_of_nonneg hU0]
  have hm : un / y1 * y1 ≤ un := by omega
  have hm0 : 0 ≤ un / y1 * y1 := Int.mul_nonneg i2 (by omega)
  rw [u_wrap (x := un / y1) i2 (by omega), u_wrap (x := un / y1 * y1) hm0 (by omega), u_wrap (x := un - un / y1 * y1) (by omega) (by omega)]
  refine digit_loop (α := Int × Int × PUnit) (enc := fun q r => (r, q, PUnit.unit)) (dec := fun x => x.2.1) (fun _ _ => rfl) hu.1 h0 h1 hU0 (by omega) ?_ ?_ i1 i2 i3 i4 i5 i6
  · intro again q r g1 g2 g3 g4 g5
    have e1 : 0 ≤ q * y0 := Int.mul_nonneg (by omega) h0.1
    have e2 : q * y0 ≤ 4294967297 * 4294967295 := Int.mul_le_mul g2 (by omega) h0.1 (by omega)
    simp only
    rw [u_wrap (x := q * y0) e1 (by omega), u_wrap (x := 4294967296 * r) (by omega) (by omega), u_wrap (x := 4294967296 * r + u0) (by omega) (by omega), u_wrap (x := r + y1) (by omega) (by omega), u_wrap (x := q - 1) (by omega) (by omega)]
    have e : (bif decide (q ≥ 4294967296) then true else decide (q * y0 > 4294967296 * r + u0)) = true := by
      rcases g5 with ht | ht
      · rw [decide_eq_true ht]; rfl
      · rw [decide_eq_true ht]; cases decide (q ≥ 4294967296) <;> rfl
    rw [e, cT]
  · intro again q r g1 g2 g3 g4 g5
    have e1 : 0 ≤ q * y0 := Int.mul_nonneg (by omega) h0.1
    have e2 : q * y0 ≤ 4294967297 * 4294967295 := Int.mul_le_mul (by omega) (by omega) h0.1 (by omega)
    simp only
    rw [u_wrap (x := q * y0) e1 (by omega), u_wrap (x := 4294967296 * r) (by omega) (by omega), u_wrap (x := 4294967296 * r + u0) (by omega) (by omega)]
    rw [decide_eq_false (show ¬ q ≥ 4294967296 by omega), decide_eq_false g5, cF, cF]

/-- The first loop of 'Div64', and what follows it. -/
noncomputable def dv1E (y1 y0 Y u1 u0 P U : Int) (q1 : Int) : Option (Int × Int × Unit) := dv2 y1 y0 Y u0 P q1 (IntKind.wrap .u64 (IntKind.wrap .u64 (IntKind.wrap .u64 (U * 4294967296) + u1) - IntKind.wrap .u64 (q1 * Y)))
noncomputable def dv1 (y1 y0 Y u1 u0 P U : Int) : Option (Int × Int × Unit) := lpK (Int × Int × PUnit) (Int × Int × PUnit) (fun again x => bif (bif decide (x.1 ≥ 4294967296) then true else decide (IntKind.wrap .u64 (x.1 * y0) > IntKind.wrap .u64 (IntKind.wrap .u64 (4294967296 * x.2.1) + u1))) then
  (bif decide (IntKind.wrap .u64 (x.2.1 + y1) ≥ 4294967296) then dv1E y1 y0 Y u1 u0 P U (IntKind.wrap .u64 (x.1 - 1)) else again (IntKind.wrap .u64 (x.1 - 1), IntKind.wrap .u64 (x.2.1 + y1), PUnit.unit)) else dv1E y1 y0 Y u1 u0 P U x.1)
  (IntKind.wrap .u64 (Int.tdiv U y1), IntKind.wrap .u64 (U - IntKind.wrap .u64 (IntKind.wrap .u64 (Int.tdiv U y1) * y1)), PUnit.unit)
theorem dv1_ok {y1 y0 u1 u0 P U : Int} (hu : 0 ≤ u1 ∧ u1 < 4294967296) (h0 : 0 ≤ y0 ∧ y0 < 4294967296) (h1 : 2147483648 ≤ y1 ∧ y1 < 4294967296) (hU0 : 0 ≤ U) (hU : U < y1 * 4294967296 + y0) :
    dv1 y1 y0 (y1 * 4294967296 + y0) u1 u0 P U = dv1E y1 y0 (y1 * 4294967296 + y0) u1 u0 P U ((U * 4294967296 + u1) / (y1 * 4294967296 + y0)) := by
  obtain ⟨i1, i2, i3, i4, i5, i6⟩ := digit_init (U := U) hu h0 h1 hU0 hU
  unfold dv1
  rw [Int.tdiv_eq_ediv_of_nonneg hU0]
  have hm : U / y1 * y1 ≤ U := by omega
  have hm0 : 0 ≤ U / y1 * y1 := Int.mul_nonneg i2 (by omega)
  rw [u_wrap (x := U / y1) i2 (by omega), u_wrap (x := U / y1 * y1) hm0 (by omega), u_wrap (x := U - U / y1 * y1) (by omega) (by omega)]
  refine digit_loop (α := Int × Int × PUnit) (enc := fun q r => (q, r, PUnit.unit)) (dec := fun x => x.1) (fun _ _ => rfl) hu.1 h0 h1 hU0 (by omega) ?_ ?_ i1 i2 i3 i4 i5 i6
  · intro again q r g1 g2 g3 g4 g5
    have e1 : 0 ≤ q * y0 := Int.mul_nonneg (by omega) h0.1
    have e2 : q * y0 ≤ 4294967297 * 4294967295 := Int.mul_le_mul g2 (by omega) h0.1 (by omega)
    simp only
    rw [u_wrap (x := q * y0) e1 (by omega), u_wrap (x := 4294967296 * r) (by omega) (by omega), u_wrap (x := 4294967296 * r + u1) (by omega) (by omega), u_wrap (x := r + y1) (by omega) (by omega), u_wrap (x := q - 1) (by omega) (by omega)]
    have e : (bif decide (q ≥ 4294967296) then true else decide (q * y0 > 4294967296 * r + u1)) = true := by
      rcases g5 with ht | ht
      · rw [decide_eq_true ht]; rfl
      · rw [decide_eq_true ht]; cases decide (q ≥ 4294967296) <;> rfl
    rw [e, cT]
  · intro again q r g1 g2 g3 g4 g5
    have e1 : 0 ≤ q * y0 := Int.mul_nonneg (by omega) h0.1
    have e2 : q * y0 ≤ 4294967297 * 4294967295 := Int.mul_le_mul (by omega) (by omega) h0.1 (by omega)
    simp only
    rw [u_wrap (x := q * y0) e1 (by omega), u_wrap (x := 4294967296 * r) (by omega) (by omega), u_wrap (x := 4294967296 * r + u1) (by omega) (by omega)]
    rw [decide_eq_false (show ¬ q ≥ 4294967296 by omega), decide_eq_false g5, cF, cF]

/-- Both digits. -/
theorem dv_ok {U W Y P : Nat} (hY : 9223372036854775808 ≤ Y) (hY2 : Y < 18446744073709551616) (hW : W < 18446744073709551616) (hU : U < Y) :
    dv1 ((Y : Int) / 4294967296) ((Y : Int) % 4294967296) (Y : Int) ((W : Int) / 4294967296) ((W : Int) % 4294967296) (P : Int) (U : Int) = some ((((U * 18446744073709551616 + W) / Y : Nat) : Int), (((U * 18446744073709551616 + W) % Y / P : Nat) : Int), ()) := by
  have eY : (Y : Int) / 4294967296 * 4294967296 + (Y : Int) % 4294967296 = Y := by omega
  have h1 := dv1_ok (y1 := (Y : Int) / 4294967296) (y0 := (Y : Int) % 4294967296) (u1 := (W : Int) / 4294967296) (u0 := (W : Int) % 4294967296) (P := (P : Int)) (U := (U : Int)) (by omega) (by omega) (by omega) (by omega) (by omega)
  rw [eY] at h1
  rw [h1]
  unfold dv1E
  obtain ⟨A, hA⟩ : ∃ A : Nat, A = U * 4294967296 + W / 4294967296 := ⟨_, rfl⟩
  have hAi : (U : Int) * 4294967296 + (W : Int) / 4294967296 = (A : Int) := by omega
  rw [hAi]
  have hq1 : A / Y < 4294967296 := (Nat.div_lt_iff_lt_mul (by omega)).2 (by omega)
  have d1 := Nat.div_add_mod A Y
  have d2 := Nat.mod_lt A (show Y > 0 by omega)
  rw [show (A : Int) / (Y : Int) = ((A / Y : Nat) : Int) from rfl]
  have hun : IntKind.wrap .u64 (IntKind.wrap .u64 (IntKind.wrap .u64 ((U : Int) * 4294967296) + (W : Int) / 4294967296) - IntKind.wrap .u64 (((A / Y : Nat) : Int) * (Y : Int))) = ((A % Y : Nat) : Int) := by
    rw [← Int.natCast_mul, Nat.mul_comm (A / Y)]
    generalize A / Y = q1 at *
    generalize Y * q1 = m at *
    rw [IntKind.wrap_u64, IntKind.wrap_u64, IntKind.wrap_u64, IntKind.wrap_u64]
    omega
  rw [hun]
  have h2 := dv2_ok (y1 := (Y : Int) / 4294967296) (y0 := (Y : Int) % 4294967296) (u0 := (W : Int) % 4294967296) (P := (P : Int)) (q1 := ((A / Y : Nat) : Int)) (un := ((A % Y : Nat) : Int)) (by omega) (by omega) (by omega) (by omega) (by omega)
  rw [eY] at h2
  rw [h2]
  unfold dv2E
  obtain ⟨B, hB⟩ : ∃ B : Nat, B = A % Y * 4294967296 + W % 4294967296 := ⟨_, rfl⟩
  have hBi : ((A % Y : Nat) : Int) * 4294967296 + (W : Int) % 4294967296 = (B : Int) := by omega
  rw [hBi, show (B : Int) / (Y : Int) = ((B / Y : Nat) : Int) from rfl]
  have hq0 : B / Y < 4294967296 := (Nat.div_lt_iff_lt_mul (by omega)).2 (by omega)
  have d3 := Nat.div_add_mod B Y
  have d4 := Nat.mod_lt B (show Y > 0 by omega)
  have hN : U * 18446744073709551616 + W = (A / Y * 4294967296 + B / Y) * Y + B % Y := by
    rw [Nat.add_mul, Nat.mul_right_comm, Nat.mul_comm (A / Y), Nat.mul_comm (B / Y)]
    omega
  obtain ⟨n1, n2⟩ := divMod_of d4 hN
  rw [n1, n2]
  have hrest : IntKind.wrap .u64 (IntKind.wrap .u64 (IntKind.wrap .u64 (((A % Y : Nat) : Int) * 4294967296) + (W : Int) % 4294967296) - IntKind.wrap .u64 (((B / Y : Nat) : Int) * (Y : Int))) = ((B % Y : Nat) : Int) := by
    rw [← Int.natCast_mul, Nat.mul_comm (B / Y)]
    generalize B / Y = q0 at *
    generalize Y * q0 = m at *
    generalize A % Y = r1 at *
    rw [IntKind.wrap_u64, IntKind.wrap_u64, IntKind.wrap_u64, IntKind.wrap_u64]
    omega
  rw [hrest, fdiv_of (by omega)]
  generalize A / Y = q1 at *
  generalize B / Y = q0 at *
  rw [u_wrap (x := (q1 : Int) * 4294967296) (by omega) (by omega), u_wrap (by omega) (by omega)]
  rfl

theorem tmod_nat (m n : Nat) : Int.tmod (m : Int) (n : Int) = ((m % n : Nat) : Int) := by
  rw [Int.tmod_eq_emod_of_nonneg (by omega)]
  rfl

/-- As 'jnK_eq'', but not by computation. -/
theorem jnT {α R : Type} (j : α → Option R) (f : (α → Option R) → Option R) : jnK α R j f = f j := Eq.trans rfl rfl

theorem Div64_ok {h l y : Nat} (hy : h < y) (hy2 : y < 18446744073709551616) (hl0 : l < 18446744073709551616) : bits_Div64 (h : Int) (l : Int) (y : Int) = some ((((h * 18446744073709551616 + l) / y : Nat) : Int), (((h * 18446744073709551616 + l) % y : Nat) : Int), ()) := by
  simp only [bits_Div64, bits_Div64_b, jnT]
  rw [decide_eq_false (show ¬ (y : Int) = 0 by omega), cF, decide_eq_false (show ¬ (y : Int) ≤ (h : Int) by omega), cF]
  have hz : nzB (y : Int) = true := nzB_of (by omega)
  by_cases h0 : h = 0
  · subst h0
    rw [decide_eq_true (show ((0 : Nat) : Int) = 0 from rfl), cT, hz, cT, cT, tdiv_nat, tmod_nat, Nat.zero_mul, Nat.zero_add]
    have := Nat.div_le_self l y
    generalize l / y = d at *
    rw [u_wrap (by omega) (by omega)]
  · rw [decide_eq_false (show ¬ (h : Int) = 0 by omega), cF]
    obtain ⟨L, e1, ⟨e2, e3⟩, e4⟩ := Len64_ok (n := y) (by omega) hy2
    simp only [bits_LeadingZeros64, bits_LeadingZeros64_b, e1, obind_some']
    rw [wrap_id (x := 64 - (L : Int)) (by omega) (by omega)]
    obtain ⟨s, hs⟩ : ∃ s : Nat, L + s = 64 := ⟨64 - L, by omega⟩
    have w1 : IntKind.wrap .u64 (64 - (L : Int)) = (s : Int) := by rw [u_wrap (by omega) (by omega)]; omega
    have w2 : IntKind.wrap .u64 (64 - (s : Int)) = (L : Int) := by rw [u_wrap (by omega) (by omega)]; omega
    have p2 : ∀ k : Nat, (2 : Int) ^ k = ((2 ^ k : Nat) : Int) := fun k => by rw [Int.natCast_pow]; rfl
    have p32 : (2 : Int) ^ (32 : Nat) = 4294967296 := by decide
    simp only [w1, w2, Int.toNat_natCast, Nat.min_eq_left (show s ≤ 64 by omega), Nat.min_eq_left (show L ≤ 64 by omega), p32]
    simp only [p2]
    have hPQ : 2 ^ s * 2 ^ L = 18446744073709551616 := by rw [← Nat.pow_add, show s + L = 64 by omega]
    have hP : 0 < 2 ^ s := Nat.two_pow_pos s
    have hQ : 0 < 2 ^ L := Nat.two_pow_pos L
    have hYlt : y * 2 ^ s < 18446744073709551616 := by rw [← hPQ, Nat.mul_comm (2 ^ s)]; exact Nat.mul_lt_mul_of_pos_right e2 hP
    have hYge : 9223372036854775808 ≤ y * 2 ^ s := by
      have := Nat.mul_le_mul_right (2 ^ s) e3
      rw [Nat.mul_comm (2 ^ L), hPQ, Nat.mul_assoc] at this
      omega
    have hhP : h * 2 ^ s + 2 ^ s ≤ y * 2 ^ s := by rw [← Nat.succ_mul]; exact Nat.mul_le_mul_right _ hy
    have hlQ : l / 2 ^ L < 2 ^ s := by rw [Nat.div_lt_iff_lt_mul hQ, hPQ]; exact hl0
    have hlor : IntKind.wrap .u64 ((Nat.lor (Int.toNat (IntKind.wrap .u64 ((h : Int) * ((2 ^ s : Nat) : Int)) % Int.ofNat 18446744073709551616)) (Int.toNat (Int.fdiv (l : Int) ((2 ^ L : Nat) : Int) % Int.ofNat 18446744073709551616)) : Nat) : Int) = ((h * 2 ^ s + l / 2 ^ L : Nat) : Int) := by
      have a1 : IntKind.wrap .u64 ((h : Int) * ((2 ^ s : Nat) : Int)) = ((h * 2 ^ s : Nat) : Int) := by rw [← Int.natCast_mul, u_wrap (by omega) (by omega)]
      have a2 : Int.fdiv (l : Int) ((2 ^ L : Nat) : Int) = ((l / 2 ^ L : Nat) : Int) := by rw [fdiv_of (by omega)]; rfl
      have a3 : ∀ n : Nat, n < 18446744073709551616 → Int.toNat ((n : Int) % Int.ofNat 18446744073709551616) = n := fun n hn => by
        rw [show Int.ofNat 18446744073709551616 = (18446744073709551616 : Int) from rfl]; omega
      rw [a1, a2, a3 (h * 2 ^ s) (by omega), a3 (l / 2 ^ L) (by omega), lor_add hlQ]
      exact u_wrap (Int.natCast_nonneg _) (by
        have h5 : h * 2 ^ s + l / 2 ^ L < 18446744073709551616 := by omega
        exact Int.ofNat_lt.2 h5)
    have hlo : IntKind.wrap .u64 ((l : Int) * ((2 ^ s : Nat) : Int)) = ((l % 2 ^ L * 2 ^ s : Nat) : Int) := by
      rw [← Int.natCast_mul, IntKind.wrap_u64]
      have a1 : l * 2 ^ s = (l / 2 ^ L) * 18446744073709551616 + l % 2 ^ L * 2 ^ s := by
        rw [← hPQ, Nat.mul_comm (2 ^ s), ← Nat.mul_assoc, ← Nat.add_mul, Nat.mul_comm (l / 2 ^ L), Nat.div_add_mod]
      have a2 : l % 2 ^ L * 2 ^ s < 18446744073709551616 := by rw [← hPQ, Nat.mul_comm (2 ^ s)]; exact Nat.mul_lt_mul_of_pos_right (Nat.mod_lt _ hQ) hP
      rw [a1]
      generalize l / 2 ^ L = A at *
      generalize l % 2 ^ L * 2 ^ s = B at *
      omega
    have hlolt : l % 2 ^ L * 2 ^ s < 18446744073709551616 := by rw [← hPQ, Nat.mul_comm (2 ^ s)]; exact Nat.mul_lt_mul_of_pos_right (Nat.mod_lt _ hQ) hP
    have hN : (h * 18446744073709551616 + l) * 2 ^ s = (h * 2 ^ s + l / 2 ^ L) * 18446744073709551616 + l % 2 ^ L * 2 ^ s := by
      have a1 : l * 2 ^ s = (l / 2 ^ L) * 18446744073709551616 + l % 2 ^ L * 2 ^ s := by
        rw [← hPQ, Nat.mul_comm (2 ^ s), ← Nat.mul_assoc, ← Nat.add_mul, Nat.mul_comm (l / 2 ^ L), Nat.div_add_mod]
      rw [Nat.add_mul, a1, Nat.add_mul, Nat.mul_right_comm]
      omega
    have hY : IntKind.wrap .u64 ((y : Int) * ((2 ^ s : Nat) : Int)) = ((y * 2 ^ s : Nat) : Int) := by rw [← Int.natCast_mul, u_wrap (by omega) (by omega)]
    have hdiv : (h * 18446744073709551616 + l) / y = ((h * 2 ^ s + l / 2 ^ L) * 18446744073709551616 + l % 2 ^ L * 2 ^ s) / (y * 2 ^ s) := by rw [← hN, Nat.mul_div_mul_right _ _ hP]
    have hmod : ((h * 18446744073709551616 + l) % y) * 2 ^ s = ((h * 2 ^ s + l / 2 ^ L) * 18446744073709551616 + l % 2 ^ L * 2 ^ s) % (y * 2 ^ s) := by rw [← hN, Nat.mul_mod_mul_right]
    rw [hlor, hlo, hY]
    have hU : h * 2 ^ s + l / 2 ^ L < y * 2 ^ s := by omega
    have hm : (h * 18446744073709551616 + l) % y = ((h * 2 ^ s + l / 2 ^ L) * 18446744073709551616 + l % 2 ^ L * 2 ^ s) % (y * 2 ^ s) / 2 ^ s := by rw [← hmod, Nat.mul_div_cancel _ hP]
    rw [hdiv, hm]
    generalize h * 2 ^ s + l / 2 ^ L = U at *
    generalize l % 2 ^ L * 2 ^ s = W at *
    generalize y * 2 ^ s = Y at *
    generalize 2 ^ s = P at *
    clear e2 e3 e1 hlor hlo hN hdiv hmod hm hlQ hPQ hhP hY
    have hdv := dv_ok (P := P) hYge hYlt hlolt hU
    rw [← hdv]
    have c1 : decide ((0 : Int) ≤ (s : Int)) = true := decide_eq_true (by omega)
    have c2 : decide ((0 : Int) ≤ (L : Int)) = true := decide_eq_true (by omega)
    have c3 : decide ((0 : Int) ≤ (32 : Int)) = true := rfl
    have c4 : nzB ((Y : Int) / 4294967296) = true := nzB_of (by omega)
    have m1 : ∀ n : Nat, n < 18446744073709551616 → IntKind.wrap .u64 ((Nat.land (Int.toNat ((n : Int) % Int.ofNat 18446744073709551616)) (Int.toNat ((4294967295 : Int) % Int.ofNat 18446744073709551616)) : Nat) : Int) = (n : Int) % 4294967296 := fun n hn => by
      rw [land32 (by omega) (by omega), u_wrap (by omega) (by omega)]
    simp only [fdiv_of (show (0 : Int) ≤ 4294967296 by omega), c1, c2, c3, c4, m1 Y hYlt, m1 W hlolt, not_or_self', or_self_not, Bool.not_not, Bool.and_self, cT]
    rfl

end Go.Proofs.Ytnbbackjofgcfaa

namespace Go.Proofs.Ytnbbackjofgcfaa
open Try Dn Dn.Sh

theorem over_ok {n b : Nat} (hb0 : 0 < b) (hb : b < 18446744073709551616) (hn : n < 340282366920938463463374607431768211456) : ratio_over (hl n) (b : Int) = some (hl (n / b), ((n % b : Nat) : Int), ()) := by
  have hz : nzB (b : Int) = true := nzB_of (by omega)
  obtain ⟨h, l, hh, hl', hnn⟩ : ∃ h l : Nat, h = n / 18446744073709551616 ∧ l = n % 18446744073709551616 ∧ n = h * 18446744073709551616 + l := ⟨_, _, rfl, rfl, by omega⟩
  have e : hl n = ((h : Int), (l : Int)) := by unfold hl; rw [hh, hl']
  rw [e]
  simp only [ratio_over, ratio_over_b]
  rw [hz, tmod_nat, Div64_ok (Nat.mod_lt h hb0) hb (by omega), obind_some']
  have d1 := Nat.div_add_mod h b
  have d2 := Nat.mod_lt h hb0
  obtain ⟨A, hA⟩ : ∃ A, A = h % b * 18446744073709551616 + l := ⟨_, rfl⟩
  rw [← hA]
  have d3 := Nat.div_add_mod A b
  have d4 := Nat.mod_lt A hb0
  have d5 : A / b < 18446744073709551616 := (Nat.div_lt_iff_lt_mul hb0).2 (by
    have : (h % b + 1) * 18446744073709551616 ≤ b * 18446744073709551616 := Nat.mul_le_mul_right _ d2
    rw [Nat.mul_comm 18446744073709551616 b]
    omega)
  have hN : n = (h / b * 18446744073709551616 + A / b) * b + A % b := by
    have e1 : (h / b * 18446744073709551616 + A / b) * b = b * (h / b) * 18446744073709551616 + b * (A / b) := by grind
    rw [e1, hnn]
    generalize b * (h / b) = x at *
    generalize b * (A / b) = y at *
    generalize A % b = r at *
    generalize h % b = r1 at *
    clear e hz hb0 hb hn hh hl' hnn d5 e1
    omega
  obtain ⟨n1, n2⟩ := divMod_of d4 hN
  rw [n1, n2, tdiv_nat]
  have d6 : h / b < 18446744073709551616 := Nat.lt_of_le_of_lt (Nat.div_le_self h b) (by omega)
  generalize h / b = x at *
  generalize A / b = y at *
  rw [u_wrap (x := (x : Int)) (by omega) (by omega)]
  unfold hl
  rw [show (x * 18446744073709551616 + y) / 18446744073709551616 = x by omega, show (x * 18446744073709551616 + y) % 18446744073709551616 = y by omega]
  rfl

theorem sum_cop {na nb : Int} {da A B : Nat} (ha : Nat.gcd na.natAbs da = 1) (hA : A ∣ da) (hAB : Nat.gcd A B = 1) : Nat.gcd (na * B + nb * A).natAbs A = 1 := by
  have d1 := Nat.gcd_dvd_left (na * B + nb * A).natAbs A
  have d2 := Nat.gcd_dvd_right (na * B + nb * A).natAbs A
  generalize Nat.gcd (na * B + nb * A).natAbs A = d at *
  have e1 : (d : Int) ∣ na * B + nb * A := Int.ofNat_dvd_left.2 d1
  have e2 : (d : Int) ∣ nb * A := Int.dvd_mul_of_dvd_right (Int.ofNat_dvd.2 d2)
  have e3 : (d : Int) ∣ na * B := (Int.dvd_iff_dvd_of_dvd_add e1).2 e2
  have e4 : d ∣ na.natAbs * B := by
    have := Int.ofNat_dvd_left.1 e3
    rwa [Int.natAbs_mul, Int.natAbs_natCast] at this
  have e5 : Nat.Coprime d na.natAbs := (Nat.Coprime.coprime_dvd_right (Nat.dvd_trans d2 hA) ha).symm
  have e6 : d ∣ B := Nat.Coprime.dvd_of_dvd_mul_left e5 e4
  have e7 := Nat.dvd_gcd d2 e6
  rw [hAB] at e7
  exact Nat.dvd_one.1 e7

theorem sum_plain {na nb : Int} {da db g A B : Nat} (ha : Nat.gcd na.natAbs da = 1) (hb : Nat.gcd nb.natAbs db = 1) (h1 : da = A * g) (h2 : db = B * g) (hAB : Nat.gcd A B = 1) (hg : 0 < g) (hA : 0 < A) (hB : 0 < B) {c : Nat} (hc : c = Nat.gcd g (na * B + nb * A).natAbs) :
    mkRat na da + mkRat nb db = mkRat (na * B + nb * A) (A * db) ∧ Nat.gcd ((na * B + nb * A).natAbs / c) (A * (db / c)) = 1 ∧ 0 < c ∧ c ∣ (na * B + nb * A).natAbs ∧ c ∣ db := by
  have hc0 : 0 < c := by rw [hc]; exact Nat.gcd_pos_of_pos_left _ hg
  have k1 : Nat.gcd (na * B + nb * A).natAbs A = 1 := sum_cop ha ⟨g, h1⟩ hAB
  have k2 : Nat.gcd (na * B + nb * A).natAbs B = 1 := by
    rw [Int.add_comm]
    exact sum_cop hb ⟨g, h2⟩ (by rw [Nat.gcd_comm]; exact hAB)
  have c1 : c ∣ (na * B + nb * A).natAbs := by rw [hc]; exact Nat.gcd_dvd_right _ _
  have c2 : c ∣ g := by rw [hc]; exact Nat.gcd_dvd_left _ _
  refine ⟨?_, ?_, hc0, c1, by rw [h2]; exact Nat.dvd_trans c2 (Nat.dvd_mul_left g B)⟩
  · have p1 : 0 < A * g := Nat.mul_pos hA hg
    have p2 : 0 < B * g := Nat.mul_pos hB hg
    have p3 : 0 < A * (B * g) := Nat.mul_pos hA p2
    rw [Rat.mkRat_add_mkRat _ _ (by omega) (by omega), h1, h2, Rat.mkRat_eq_iff (Nat.ne_of_gt (Nat.mul_pos p1 p2)) (by omega)]
    simp only [Int.natCast_mul]
    grind
  · have c3 : Nat.gcd ((na * B + nb * A).natAbs / c) (g / c) = 1 := by
      rw [hc, Nat.gcd_comm]
      exact Nat.gcd_div_gcd_div_gcd_of_pos_left hg
    have hdb : db / c = B * (g / c) := by rw [h2, Nat.mul_div_assoc _ c2]
    have dv : (na * B + nb * A).natAbs / c ∣ (na * B + nb * A).natAbs := Nat.div_dvd_of_dvd c1
    rw [hdb]
    exact Nat.Coprime.mul_right (Nat.Coprime.coprime_dvd_left dv k1) (Nat.Coprime.mul_right (Nat.Coprime.coprime_dvd_left dv k2) c3)

theorem Add_ok {a b : Fq} (ha : okF a) (hb : okF b) : ratio_Add a b = some (fitQ (qv a + qv b)) := by
  obtain ⟨na, da'⟩ := a
  obtain ⟨nb, db'⟩ := b
  have ha' := ha
  have hb' := hb
  unfold okF at ha' hb'
  simp only at ha' hb'
  obtain ⟨⟨a1, a2⟩, ⟨a3, a4⟩, a5⟩ := ha'
  obtain ⟨⟨b1, b2⟩, ⟨b3, b4⟩, b5⟩ := hb'
  obtain ⟨da, rfl⟩ : ∃ da : Nat, da' = da := ⟨da'.toNat, by omega⟩
  obtain ⟨db, rfl⟩ : ∃ db : Nat, db' = db := ⟨db'.toNat, by omega⟩
  rw [Int.natAbs_natCast] at a5 b5
  simp only [ratio_Add, ratio_Add_b, Valid_ok, decide_eq_true ha, decide_eq_true hb, obind_some', Bool.not_true, Bool.not_false, Bool.or_false, Bool.or_true, Bool.false_or, Bool.true_or, cT, cF, jnT]
  rw [u_wrap (x := (da : Int)) (by omega) (by omega), u_wrap (x := (db : Int)) (by omega) (by omega), gcd_ok _ _ (by omega), obind_some', size_ok (by omega) (by omega), obind_some', size_ok (by omega) (by omega)]
  have hg : 0 < Nat.gcd da db := Nat.gcd_pos_of_pos_left _ (by omega)
  have hgl : Nat.gcd da db ≤ da := Nat.gcd_le_left _ (by omega)
  obtain ⟨A, hA⟩ : ∃ A, A = da / Nat.gcd da db := ⟨_, rfl⟩
  obtain ⟨B, hB⟩ : ∃ B, B = db / Nat.gcd da db := ⟨_, rfl⟩
  have hAg : da = A * Nat.gcd da db := by rw [hA, Nat.div_mul_cancel (Nat.gcd_dvd_left _ _)]
  have hBg : db = B * Nat.gcd da db := by rw [hB, Nat.div_mul_cancel (Nat.gcd_dvd_right _ _)]
  have hAB : Nat.gcd A B = 1 := by rw [hA, hB]; exact Nat.gcd_div_gcd_div_gcd_of_pos_left (by omega)
  have hA0 : 0 < A := by rw [hA]; exact Nat.div_pos (Nat.gcd_le_left _ (by omega)) hg
  have hB0 : 0 < B := by rw [hB]; exact Nat.div_pos (Nat.gcd_le_right _ (by omega)) hg
  have hAl : A ≤ da := by rw [hA]; exact Nat.div_le_self _ _
  have hBl : B ≤ db := by rw [hB]; exact Nat.div_le_self _ _
  have hz : nzB ((Nat.gcd da db : Nat) : Int) = true := nzB_of (by omega)
  rw [hz, cT, tdiv_nat, tdiv_nat, ← hA, ← hB, u_wrap (x := (A : Int)) (by omega) (by omega), u_wrap (x := (B : Int)) (by omega) (by omega)]
  have x1 : na.natAbs * B ≤ 1152921504606846976 * 1152921504606846976 := Nat.mul_le_mul (by omega) (by omega)
  have y1 : nb.natAbs * A ≤ 1152921504606846976 * 1152921504606846976 := Nat.mul_le_mul (by omega) (by omega)
  rw [product_ok (by omega) (by omega), obind_some', obind_some', cT, product_ok (by omega) (by omega), obind_some']
  have hsum := sum_plain (na := na) (nb := nb) a5 b5 hAg hBg hAB hg hA0 hB0 rfl
  generalize Nat.gcd da db = g at *
  have hv : qv (na, (da : Int)) + qv (nb, (db : Int)) = mkRat na da + mkRat nb db := rfl
  rw [hv, hsum.1]
  simp only [not_or_self', or_self_not, Bool.not_not, cT]
  have tail : ∀ (s : Bool) (N : Nat), N ≤ 2658455991569831745807614120560689152 → sgn s N = na * B + nb * A → (bif decide ((hl N).1 = 0) && (decide ((hl N).2 = 0) && true) then some (((0 : Int), (1 : Int)), (0 : Int), PUnit.unit) else
      obind (ratio_over (hl N) (g : Int)) fun t_5 => obind (ratio_gcd (g : Int) t_5.2.1) fun t_1 => obind (ratio_over (hl N) t_1) fun t_6 => bif nzB t_1 then obind (ratio_product (A : Int) (IntKind.wrap .u64 (Int.tdiv (db : Int) t_1))) fun t =>
        bif bif decide (t_6.1.1 > 0) then true else decide (t.1 > 0) then some (((0 : Int), (0 : Int)), (5 : Int), PUnit.unit) else obind (ratio_signed s t_6.1.2 t.2) fun t => some (t.1, t.2.1, PUnit.unit) else none) = some (fitQ (mkRat (na * B + nb * A) (A * db))) := by
    intro s N hN hs
    have hNT : (na * B + nb * A).natAbs = N := by rw [← hs]; unfold sgn; split <;> simp
    rw [hNT] at hsum
    rw [zero_hl (by omega)]
    by_cases h0 : N = 0
    · rw [decide_eq_true h0, cT, ← hs, h0, show sgn s 0 = 0 by unfold sgn; cases s <;> rfl, Rat.zero_mkRat]
      rfl
    · obtain ⟨c, hc⟩ : ∃ c, c = Nat.gcd g N := ⟨_, rfl⟩
      rw [← hc] at hsum
      obtain ⟨_, s2, s3, s4, s5⟩ := hsum
      have hcg : c ≤ g := by rw [hc]; exact Nat.gcd_le_left _ hg
      rw [decide_eq_false h0, cF, over_ok hg (by omega) (by omega), obind_some', gcd_ok _ _ (by have := Nat.mod_lt N hg; generalize N % g = w at *; omega), obind_some', Nat.gcd_comm, ← Nat.gcd_rec, ← hc, over_ok s3 (by omega) (by omega), obind_some', nzB_of (by omega), cT, tdiv_nat]
      have hdc : db / c ≤ db := Nat.div_le_self _ _
      have hdc0 : 0 < db / c := Nat.div_pos (Nat.le_of_dvd (by omega) s5) s3
      rw [u_wrap (by omega) (by generalize db / c = w at *; omega), product_ok (by omega) (by generalize db / c = w at *; omega), obind_some']
      have hNc : N / c ≤ N := Nat.div_le_self _ _
      have hval : mkRat (na * B + nb * A) (A * db) = mkRat (sgn s (N / c)) (A * (db / c)) := by
        rw [← hs]
        refine mkQ_congr (Nat.mul_pos hA0 (by omega)) (Nat.mul_pos hA0 hdc0) ?_
        obtain ⟨x, rfl⟩ := s4
        obtain ⟨y, rfl⟩ := s5
        rw [Nat.mul_div_cancel_left _ s3, Nat.mul_div_cancel_left _ s3]
        grind
      rw [hval, fit_low (Nat.mul_pos hA0 hdc0) s2]
      have hden : A * (db / c) ≤ 1152921504606846976 * 1152921504606846976 := Nat.mul_le_mul (by omega) (by omega)
      generalize N / c = n at *
      generalize A * (db / c) = d at *
      by_cases hn : n < 18446744073709551616
      · by_cases hd : d < 18446744073709551616
        · rw [hl_small hn, hl_small hd]
          simp only
          rw [show decide ((0 : Int) > 0) = false from rfl, cF, cF, signed_ok _ _ _ hn hd, obind_some']
        · rw [hl_small hn]
          simp only
          rw [show decide ((0 : Int) > 0) = false from rfl, decide_eq_true (hl_big hd), cF, cT, if_neg (by omega)]
      · rw [decide_eq_true (hl_big hn), cT, cT, if_neg (by omega)]
  have sx : ∀ {n : Int} {s : Bool}, s = decide (n < 0) → n = sgn s n.natAbs := fun {n s} h => by rw [h]; exact size_sgn n
  by_cases hsg : decide (na < 0) = decide (nb < 0)
  · rw [decide_eq_true hsg, cT, rPlus_ok (by omega), obind_some']
    refine tail _ _ (by omega) ?_
    have e1 : na = sgn (decide (na < 0)) na.natAbs := size_sgn na
    have e2 : nb = sgn (decide (na < 0)) nb.natAbs := by rw [hsg]; exact size_sgn nb
    generalize na.natAbs = m at *
    generalize nb.natAbs = n at *
    generalize decide (na < 0) = s at *
    rw [e1, e2]
    unfold sgn
    cases s
    · simp only [Bool.false_eq_true, if_false]
      rw [Int.natCast_add, Int.natCast_mul, Int.natCast_mul]
    · simp only [if_true]
      rw [Int.natCast_add, Int.natCast_mul, Int.natCast_mul]
      grind
  · have e1 : na = sgn (decide (na < 0)) na.natAbs := size_sgn na
    have e2 : nb = sgn (!decide (na < 0)) nb.natAbs := by
      have : (!decide (na < 0)) = decide (nb < 0) := by
        clear tail sx hsum hv ha hb
        revert hsg
        cases decide (na < 0) <;> cases decide (nb < 0) <;> simp
      rw [this]; exact size_sgn nb
    rw [decide_eq_false hsg, cF, rLess_ok, obind_some']
    by_cases hlt : na.natAbs * B < nb.natAbs * A
    · rw [decide_eq_true hlt, cT, rMinus_ok (by omega) (by omega), obind_some']
      refine tail _ _ (by omega) ?_
      generalize na.natAbs = m at *
      generalize nb.natAbs = n at *
      generalize decide (na < 0) = s at *
      rw [e1, e2]
      have e3 : (((n * A - m * B : Nat)) : Int) = (n : Int) * A - (m : Int) * B := by rw [Int.ofNat_sub (Nat.le_of_lt hlt), Int.natCast_mul, Int.natCast_mul]
      unfold sgn
      cases s
      · simp only [Bool.false_eq_true, if_false, Bool.not_false, if_true]
        grind
      · simp only [if_true, Bool.not_true, Bool.false_eq_true, if_false]
        grind
    · rw [decide_eq_false hlt, cF, rMinus_ok (by omega) (by omega), obind_some']
      refine tail _ _ (by omega) ?_
      generalize na.natAbs = m at *
      generalize nb.natAbs = n at *
      generalize decide (na < 0) = s at *
      rw [e1, e2]
      have e3 : (((m * B - n * A : Nat)) : Int) = (m : Int) * B - (n : Int) * A := by rw [Int.ofNat_sub (Nat.not_lt.1 hlt), Int.natCast_mul, Int.natCast_mul]
      unfold sgn
      cases s
      · simp only [Bool.false_eq_true, if_false, Bool.not_false, if_true]
        grind
      · simp only [if_true, Bool.not_true, Bool.false_eq_true, if_false]
        grind

end Go.Proofs.Ytnbbackjofgcfaa

namespace Go.Proofs.Ytnbbackjofgcfaa
namespace Dn

theorem lpK_up {σ α R : Type} {F : (α → Option R) → α → Option R} (n : Nat) (hn : n ≤ 1180591620717411303423) (enc : Nat → σ → α) (b : Nat → σ → (σ → Option R) → Option R) (f : σ → Option R)
    (hb : ∀ again (i : Nat) s, i < n → F again (enc i s) = b i s (fun s' => again (enc (i + 1) s'))) (hf : ∀ again s, F again (enc n s) = f s) (s : σ) :
    lpK α R F (enc 0 s) = upF b f n 0 s := loopF_up n hn enc b f hb hf s

/-- The first place, from i on, of an element that p takes; -1 if none. -/
def idxI {α : Type} (p : α → Bool) : List α → Int → Int
  | [], _ => -1
  | a :: l, i => bif p a then i else idxI p l (i + 1)

theorem idxI_neg {α : Type} {p : α → Bool} : ∀ {l : List α} {i : Int}, 0 ≤ i → (idxI p l i < 0 ↔ ∀ a ∈ l, p a = false)
  | [], i, h => by simp [idxI]
  | a :: l, i, h => by
    unfold idxI
    cases hp : p a with
    | true => simp only [cond_true, List.mem_cons, forall_eq_or_imp, hp]; simp; omega
    | false => simp only [cond_false, List.mem_cons, forall_eq_or_imp, hp, true_and]; exact idxI_neg (by omega)

theorem idxI_drop {α : Type} {p : α → Bool} {l : List α} {d : α} {i : Nat} (h : i < l.length) : idxI p (l.drop i) i = bif p (l.getD i d) then (i : Int) else idxI p (l.drop (i + 1)) ((i : Int) + 1) := by
  rw [List.drop_eq_getElem_cons h, getD_nat h]
  rfl

/-- The walk of slices.IndexFunc. -/
theorem index_loop {α : Type} {f : (α × Unit) → Option Bool} {d : α} {p : α → Bool} {l : List α} (hl : l.length ≤ 1000000) (h : ∀ a, a ∈ l → f (a, ()) = some (p a)) :
    lpK (Int × PUnit) Int (fun (again : Int × PUnit → Option Int) (x : Int × PUnit) => bif decide (x.fst < (↑(List.length l) : Int)) then bif inB x.fst (List.length l) then obind (f
      (List.getD l (Int.toNat x.fst) d, PUnit.unit)) fun (t : Bool) => bif t then some x.fst else again
      (IntKind.wrap IntKind.i64 (x.fst + (1 : Int)), PUnit.unit) else none else some (-1 : Int)) ((0 : Int), PUnit.unit) = some (idxI p l 0) := by
  refine lpK_loop (g := fun _ => some (idxI p l 0)) (I := fun (x : Int × PUnit) => 0 ≤ x.1 ∧ x.1 ≤ l.length ∧ idxI p (l.drop x.1.toNat) x.1 = idxI p l 0) (μ := fun (x : Int × PUnit) => ((l.length : Int) - x.1).toNat) ?_ ⟨by simp, by simp only; omega, rfl⟩ (by simp only; omega)
  rintro ⟨i, _⟩ rec ⟨h0, h1, h2⟩ hrec
  simp only at h0 h1 h2 ⊢
  by_cases hi : i < l.length
  · obtain ⟨n, rfl⟩ : ∃ n : Nat, i = n := ⟨i.toNat, by omega⟩
    rw [decide_eq_true hi, cond_true, inB_of h0 hi, cond_true, Int.toNat_natCast, h _ (by rw [getD_nat (by omega)]; exact List.getElem_mem (by omega)), obind_some', wrap_id (by omega) (by omega)]
    rw [Int.toNat_natCast, idxI_drop (d := d) (by omega)] at h2
    cases hp : p (l.getD n d) with
    | true => rw [hp, cond_true] at h2; rw [cond_true, h2]
    | false => rw [hp, cond_false] at h2; rw [cond_false]; exact hrec _ ⟨by simp only; omega, by simp only; omega, h2⟩ (by simp only; omega)
  · rw [decide_eq_false hi, cond_false]
    have e : i.toNat = l.length := by omega
    rw [e, List.drop_length] at h2
    rw [← h2]
    rfl

theorem upF_all {R σ : Type} {b : Nat → σ → (σ → Option R) → Option R} {f : σ → Option R} {p : Nat → Bool} {r : Option R} {s : σ} (n : Nat) (hb : ∀ i (k : σ → Option R), i < n → b i s k = bif p i then k s else r) :
    ∀ (k i : Nat), i + k ≤ n → upF b f k i s = bif (List.range' i k).all p then f s else r
  | 0, i, _ => rfl
  | k + 1, i, h => by
    simp only [upF, hb i _ (by omega), List.range'_succ, List.all_cons]
    cases hp : p i with
    | true => exact upF_all n hb k (i + 1) (by omega)
    | false => rfl

end Dn
end Go.Proofs.Ytnbbackjofgcfaa

namespace Go.Proofs.Ytnbbackjofgcfaa
open Try Dn Dn.Sh

theorem sgn_same {na nb : Int} {A B : Nat} (h : decide (na < 0) = decide (nb < 0)) : sgn (decide (na < 0)) (na.natAbs * B + nb.natAbs * A) = na * B + nb * A := by
  have e1 : na = sgn (decide (na < 0)) na.natAbs := size_sgn na
  have e2 : nb = sgn (decide (na < 0)) nb.natAbs := by rw [h]; exact size_sgn nb
  generalize na.natAbs = m at *
  generalize nb.natAbs = n at *
  generalize decide (na < 0) = s at *
  rw [e1, e2]
  unfold sgn
  cases s
  · simp only [Bool.false_eq_true, if_false]
    rw [Int.natCast_add, Int.natCast_mul, Int.natCast_mul]
  · simp only [if_true]
    rw [Int.natCast_add, Int.natCast_mul, Int.natCast_mul]
    grind
theorem not_same {na nb : Int} (h : ¬ decide (na < 0) = decide (nb < 0)) : nb = sgn (!decide (na < 0)) nb.natAbs := by
  have : (!decide (na < 0)) = decide (nb < 0) := by
    revert h
    cases decide (na < 0) <;> cases decide (nb < 0) <;> simp
  rw [this]; exact size_sgn nb
theorem sgn_less {na nb : Int} {A B : Nat} (h : ¬ decide (na < 0) = decide (nb < 0)) (hlt : na.natAbs * B < nb.natAbs * A) : sgn (!decide (na < 0)) (nb.natAbs * A - na.natAbs * B) = na * B + nb * A := by
  have e1 : na = sgn (decide (na < 0)) na.natAbs := size_sgn na
  have e2 := not_same h
  generalize na.natAbs = m at *
  generalize nb.natAbs = n at *
  generalize decide (na < 0) = s at *
  rw [e1, e2]
  have e3 : (((n * A - m * B : Nat)) : Int) = (n : Int) * A - (m : Int) * B := by rw [Int.ofNat_sub (Nat.le_of_lt hlt), Int.natCast_mul, Int.natCast_mul]
  unfold sgn
  cases s
  · simp only [Bool.false_eq_true, if_false, Bool.not_false, if_true]
    grind
  · simp only [if_true, Bool.not_true, Bool.false_eq_true, if_false]
    grind
theorem sgn_more {na nb : Int} {A B : Nat} (h : ¬ decide (na < 0) = decide (nb < 0)) (hlt : ¬ na.natAbs * B < nb.natAbs * A) : sgn (decide (na < 0)) (na.natAbs * B - nb.natAbs * A) = na * B + nb * A := by
  have e1 : na = sgn (decide (na < 0)) na.natAbs := size_sgn na
  have e2 := not_same h
  generalize na.natAbs = m at *
  generalize nb.natAbs = n at *
  generalize decide (na < 0) = s at *
  rw [e1, e2]
  have e3 : (((m * B - n * A : Nat)) : Int) = (m : Int) * B - (n : Int) * A := by rw [Int.ofNat_sub (Nat.not_lt.1 hlt), Int.natCast_mul, Int.natCast_mul]
  unfold sgn
  cases s
  · simp only [Bool.false_eq_true, if_false, Bool.not_false, if_true]
    grind
  · simp only [if_true, Bool.not_true, Bool.false_eq_true, if_false]
    grind

theorem RAdd_ok {a b : Fq} (ha : okF a) (hb : okF b) : ref02_Add a b = some (fitQ (qv a + qv b)) := by
  obtain ⟨na, da'⟩ := a
  obtain ⟨nb, db'⟩ := b
  have ha' := ha
  have hb' := hb
  unfold okF at ha' hb'
  simp only at ha' hb'
  obtain ⟨⟨a1, a2⟩, ⟨a3, a4⟩, a5⟩ := ha'
  obtain ⟨⟨b1, b2⟩, ⟨b3, b4⟩, b5⟩ := hb'
  obtain ⟨da, rfl⟩ : ∃ da : Nat, da' = da := ⟨da'.toNat, by omega⟩
  obtain ⟨db, rfl⟩ : ∃ db : Nat, db' = db := ⟨db'.toNat, by omega⟩
  simp only [ref02_Add, ref02_Add_b]
  rw [RSize_ok (by omega) (by omega), obind_some', RSize_ok (by omega) (by omega), obind_some', Int.natAbs_natCast, RMul_ok (by omega) (by omega), obind_some', RSize_ok (by omega) (by omega), obind_some', RSize_ok (by omega) (by omega), obind_some', Int.natAbs_natCast, RMul_ok (by omega) (by omega), obind_some', obind_some', obind_some', RMul_ok (by omega) (by omega), obind_some']
  have x1 : na.natAbs * db ≤ 1152921504606846976 * 1152921504606846976 := Nat.mul_le_mul (by omega) (by omega)
  have y1 : nb.natAbs * da ≤ 1152921504606846976 * 1152921504606846976 := Nat.mul_le_mul (by omega) (by omega)
  have d1 : da * db ≤ 1152921504606846976 * 1152921504606846976 := Nat.mul_le_mul (by omega) (by omega)
  have d0 : 0 < da * db := Nat.mul_pos (by omega) (by omega)
  have hv : qv (na, (da : Int)) + qv (nb, (db : Int)) = mkRat (na * db + nb * da) (da * db) := Rat.mkRat_add_mkRat _ _ (by omega) (by omega)
  rw [hv]
  by_cases hs : decide (na < 0) = decide (nb < 0)
  · rw [decide_eq_true hs, cT, Plus_ok (by omega), obind_some', RMade_ok (by omega) d0 (by omega), obind_some', sgn_same hs]
  · rw [decide_eq_false hs, cF, Less_ok, obind_some']
    by_cases hlt : na.natAbs * db < nb.natAbs * da
    · have e2 : decide (nb < 0) = !decide (na < 0) := by
        clear ha hb hv
        revert hs
        cases decide (na < 0) <;> cases decide (nb < 0) <;> simp
      rw [decide_eq_true hlt, cT, Minus_ok (by omega) (by omega), obind_some', RMade_ok (by omega) d0 (by omega), obind_some', e2, sgn_less hs hlt]
    · rw [decide_eq_false hlt, cF, Minus_ok (by omega) (by omega), obind_some', RMade_ok (by omega) d0 (by omega), obind_some', sgn_more hs hlt]

theorem one_hl {n : Nat} (h : n < 18446744073709551616) : (decide ((hl n).1 = 0) && (decide ((hl n).2 = 1) && true)) = decide (n = 1) := by
  rw [hl_small h]
  simp only [decide_true, Bool.true_and, Bool.and_true]
  rw [Bool.eq_iff_iff, decide_eq_true_eq, decide_eq_true_eq]
  omega

theorem RValid_ok {a : Fq} : ref02_Valid a = some (decide (okF a)) := by
  simp only [ref02_Valid, ref02_Valid_b, not_or_self', or_self_not, cT]
  by_cases h1 : a.2 < 1
  · rw [decide_eq_true h1]
    simp only [cT]
    rw [decide_eq_false (by unfold okF; omega)]
  · rw [decide_eq_false h1]
    by_cases h2 : a.2 > 1152921504606846976
    · rw [decide_eq_true h2]
      simp only [cT, cF]
      rw [decide_eq_false (by unfold okF; omega)]
    · rw [decide_eq_false h2]
      by_cases h3 : a.1 < -1152921504606846976
      · rw [decide_eq_true h3]
        simp only [cT, cF]
        rw [decide_eq_false (by unfold okF; omega)]
      · rw [decide_eq_false h3]
        by_cases h4 : a.1 > 1152921504606846976
        · rw [decide_eq_true h4]
          simp only [cT, cF]
          rw [decide_eq_false (by unfold okF; omega)]
        · rw [decide_eq_false h4]
          simp only [cT, cF]
          have hg : Nat.gcd a.1.natAbs a.2.natAbs ≤ a.2.natAbs := Nat.gcd_le_right _ (by omega)
          rw [RSize_ok (by omega) (by omega), obind_some', RSize_ok (by omega) (by omega), obind_some', ← hl_small (show a.1.natAbs < 18446744073709551616 by omega), ← hl_small (show a.2.natAbs < 18446744073709551616 by omega), Gcd_ok (by omega) (by omega) (by omega), obind_some', one_hl (by generalize Nat.gcd a.1.natAbs a.2.natAbs = g at *; omega)]
          congr 1
          rw [Bool.eq_iff_iff, decide_eq_true_eq, decide_eq_true_eq]
          unfold okF
          generalize Nat.gcd a.1.natAbs a.2.natAbs = g at *
          omega

theorem RAll_ok {l : List Fq} (h : l.length ≤ 1000000) : ref02_All l = some (l.all fun a => decide (okF a)) := by
  simp only [ref02_All, ref02_All_b]
  refine (lpK_up (α := Int × PUnit) (σ := Unit) l.length (by omega) (fun i _ => ((i : Int), PUnit.unit)) (fun i _ K => bif decide (okF (l.getD i (0, 0))) then K () else some false) (fun _ => some true) ?_ ?_ ()).trans ?_
  · intro again i s hi
    simp only
    rw [decide_eq_true (show (i : Int) < l.length by omega), cT, inB_of (by omega) (by omega), cT, Int.toNat_natCast, RValid_ok, obind_some', wrap_id (by omega) (by omega)]
    cases decide (okF (l.getD i (0, 0))) <;> rfl
  · intro again s
    simp only
    rw [decide_eq_false (by omega), cF]
  · rw [upF_all (p := fun i => decide (okF (l.getD i (0, 0)))) (r := some false) l.length (fun i k hi => rfl) l.length 0 (by omega)]
    have : ((List.range' 0 l.length).all fun i => decide (okF (l.getD i (0, 0)))) = l.all fun a => decide (okF a) := by
      rw [Bool.eq_iff_iff, List.all_eq_true, List.all_eq_true]
      constructor
      · intro hh a ha
        obtain ⟨i, hi, rfl⟩ := List.mem_iff_getElem.1 ha
        have := hh i (List.mem_range'.2 ⟨i, hi, by omega⟩)
        rwa [getD_nat hi] at this
      · intro hh i hi
        obtain ⟨k, hk, rfl⟩ := List.mem_range'.1 hi
        refine hh _ ?_
        rw [getD_nat (by omega)]
        exact List.getElem_mem _
    rw [this]
    cases l.all fun a => decide (okF a) <;> rfl

end Go.Proofs.Ytnbbackjofgcfaa

namespace Go.Proofs.Ytnbbackjofgcfaa
open Try Dn Dn.Sh

/-- How two numbers compare. -/
def cmpQ (p q : Rat) : Int := if p < q then -1 else if p = q then 0 else 1

theorem hl_beq {m n : Nat} : (decide ((hl m).1 = (hl n).1) && (decide ((hl m).2 = (hl n).2) && true)) = decide (m = n) := by
  rw [Bool.eq_iff_iff]
  simp only [Bool.and_eq_true, decide_eq_true_eq, and_true]
  unfold hl
  constructor
  · rintro ⟨h1, h2⟩
    have h1 : m / 18446744073709551616 = n / 18446744073709551616 := Int.ofNat.inj h1
    have h2 : m % 18446744073709551616 = n % 18446744073709551616 := Int.ofNat.inj h2
    omega
  · intro h
    rw [h]
    exact ⟨rfl, rfl⟩

/-- Two fractions compare as the products of their sizes, with the signs. -/
theorem cmp_signs {a b : Fq} (ha : okF a) (hb : okF b) {M N : Nat} (hM : M = a.1.natAbs * b.2.natAbs) (hN : N = b.1.natAbs * a.2.natAbs) :
    cmpQ (qv a) (qv b) = if a.1 < 0 then (if b.1 < 0 then (if N < M then -1 else if M = N then 0 else 1) else -1) else (if b.1 < 0 then 1 else (if M < N then -1 else if M = N then 0 else 1)) := by
  have e1 := okF_lt ha hb
  have e2 : qv a = qv b ↔ a.1 * b.2 = b.1 * a.2 := by
    have h1 := okF_le ha hb
    have h2 := okF_le hb ha
    constructor
    · intro h
      have h3 := h1.1 (by rw [h]; exact Rat.le_refl)
      have h4 := h2.1 (by rw [h]; exact Rat.le_refl)
      omega
    · intro h
      exact Rat.le_antisymm (h1.2 (by omega)) (h2.2 (by omega))
  obtain ⟨⟨a1, _⟩, _, _⟩ := ha
  obtain ⟨⟨b1, _⟩, _, _⟩ := hb
  have eM : (M : Int) = (a.1.natAbs : Int) * b.2 := by rw [hM, Int.natCast_mul, show ((b.2.natAbs : Nat) : Int) = b.2 by omega]
  have eN : (N : Int) = (b.1.natAbs : Int) * a.2 := by rw [hN, Int.natCast_mul, show ((a.2.natAbs : Nat) : Int) = a.2 by omega]
  have sa : a.1 * b.2 = if a.1 < 0 then -(M : Int) else M := by
    split
    · rw [eM, ← Int.neg_mul]; congr 1; omega
    · rw [eM]; congr 1; omega
  have sb : b.1 * a.2 = if b.1 < 0 then -(N : Int) else N := by
    split
    · rw [eN, ← Int.neg_mul]; congr 1; omega
    · rw [eN]; congr 1; omega
  have p1 : a.1 < 0 → 0 < M := fun h => by rw [hM]; exact Nat.mul_pos (by omega) (by omega)
  have p2 : b.1 < 0 → 0 < N := fun h => by rw [hN]; exact Nat.mul_pos (by omega) (by omega)
  unfold cmpQ
  simp only [e1, e2, sa, sb]
  clear e1 e2 sa sb eM eN hM hN
  by_cases c1 : a.1 < 0
  · by_cases c2 : b.1 < 0
    · simp only [c1, c2, if_true]
      repeat' split
      all_goals first | rfl | omega
    · have := p1 c1
      simp only [c1, c2, if_true, if_false]
      repeat' split
      all_goals first | rfl | omega
  · by_cases c2 : b.1 < 0
    · have := p2 c2
      simp only [c1, c2, if_true, if_false]
      repeat' split
      all_goals first | rfl | omega
    · simp only [c1, c2, if_false]
      repeat' split
      all_goals first | rfl | omega

theorem RCmp_ok {a b : Fq} (ha : okF a) (hb : okF b) : ref02_Cmp a b = some (cmpQ (qv a) (qv b)) := by
  have hs := cmp_signs ha hb rfl rfl
  obtain ⟨⟨a1, a2⟩, ⟨a3, a4⟩, _⟩ := ha
  obtain ⟨⟨b1, b2⟩, ⟨b3, b4⟩, _⟩ := hb
  simp only [ref02_Cmp, ref02_Cmp_b]
  rw [RSize_ok (by omega) (by omega), obind_some', RSize_ok (by omega) (by omega), obind_some', RMul_ok (by omega) (by omega), obind_some', RSize_ok (by omega) (by omega), obind_some', RSize_ok (by omega) (by omega), obind_some', RMul_ok (by omega) (by omega), obind_some']
  simp only [not_or_self', cT, hl_beq, Less_ok, obind_some']
  rw [hs]
  clear hs
  generalize a.1.natAbs * b.2.natAbs = M
  generalize b.1.natAbs * a.2.natAbs = N
  by_cases c1 : a.1 < 0
  · by_cases c2 : b.1 < 0
    · rw [if_pos c1, if_pos c2]
      simp only [decide_eq_true c1, decide_eq_false (show ¬ b.1 ≥ 0 by omega), decide_eq_false (show ¬ a.1 ≥ 0 by omega), cT, cF]
      by_cases e : M = N
      · simp only [decide_eq_true e, cT]; rw [if_neg (by omega), if_pos e]
      · simp only [decide_eq_false e, cF]
        by_cases e2 : M < N
        · rw [decide_eq_true e2, if_neg (by omega), if_neg e]; rfl
        · rw [decide_eq_false e2, if_pos (by omega)]; rfl
    · rw [if_pos c1, if_neg c2]
      simp only [decide_eq_true c1, decide_eq_true (show b.1 ≥ 0 by omega), cT]
  · by_cases c2 : b.1 < 0
    · rw [if_neg c1, if_pos c2]
      simp only [decide_eq_false c1, decide_eq_true c2, decide_eq_true (show a.1 ≥ 0 by omega), cT, cF]
    · rw [if_neg c1, if_neg c2]
      simp only [decide_eq_false c1, decide_eq_false c2, decide_eq_true (show a.1 ≥ 0 by omega), cT, cF]
      by_cases e : M = N
      · simp only [decide_eq_true e, cT]; rw [if_neg (by omega), if_pos e]
      · simp only [decide_eq_false e, cF]
        by_cases e2 : M < N
        · rw [decide_eq_true e2, if_pos e2]; rfl
        · rw [decide_eq_false e2, if_neg e2, if_neg e]; rfl

theorem Cmp_ok {a b : Fq} (ha : okF a) (hb : okF b) : ratio_Cmp a b = some (cmpQ (qv a) (qv b), 0, ()) := by
  have hs := cmp_signs ha hb rfl rfl
  have ha' := ha
  have hb' := hb
  obtain ⟨⟨a1, a2⟩, ⟨a3, a4⟩, _⟩ := ha'
  obtain ⟨⟨b1, b2⟩, ⟨b3, b4⟩, _⟩ := hb'
  simp only [ratio_Cmp, ratio_Cmp_b, Valid_ok, decide_eq_true ha, decide_eq_true hb, obind_some', Bool.not_true, Bool.not_false, Bool.or_false, Bool.or_true, Bool.false_or, Bool.true_or, cT, cF, jnT]
  rw [size_ok (by omega) (by omega), obind_some', u_wrap (by omega) (by omega), u_wrap (by omega) (by omega), show b.2 = ((b.2.natAbs : Nat) : Int) by omega, product_ok (by omega) (by omega), obind_some', size_ok (by omega) (by omega), obind_some', show a.2 = ((a.2.natAbs : Nat) : Int) by omega, product_ok (by omega) (by omega), obind_some']
  simp only [not_dec_eq]
  rw [hs]
  clear hs
  generalize a.1.natAbs * b.2.natAbs = M
  generalize b.1.natAbs * a.2.natAbs = N
  by_cases c1 : a.1 < 0
  · by_cases c2 : b.1 < 0
    · rw [if_pos c1, if_pos c2]
      simp only [decide_eq_true c1, decide_eq_true c2, bne_self_eq_false, cT, cF, rLess_ok, obind_some']
      by_cases e : N < M
      · simp only [decide_eq_true e, cT]; rw [if_pos e]
      · simp only [decide_eq_false e, cF]; rw [if_neg e]
        by_cases e2 : M < N
        · simp only [decide_eq_true e2, cT]; rw [if_neg (by omega)]
        · simp only [decide_eq_false e2, cF]; rw [if_pos (by omega)]
    · rw [if_pos c1, if_neg c2]
      simp only [decide_eq_true c1, decide_eq_false c2, Bool.true_bne, Bool.not_false, cT]
  · by_cases c2 : b.1 < 0
    · rw [if_neg c1, if_pos c2]
      simp only [decide_eq_false c1, decide_eq_true c2, Bool.false_bne, cT, cF]
    · rw [if_neg c1, if_neg c2]
      simp only [decide_eq_false c1, decide_eq_false c2, bne_self_eq_false, cT, cF, rLess_ok, obind_some']
      by_cases e : M < N
      · simp only [decide_eq_true e, cT]; rw [if_pos e]
      · simp only [decide_eq_false e, cF]; rw [if_neg e]
        by_cases e2 : N < M
        · simp only [decide_eq_true e2, cT]; rw [if_neg (by omega)]
        · simp only [decide_eq_false e2, cF]; rw [if_pos (by omega)]

end Go.Proofs.Ytnbbackjofgcfaa

namespace Go.Proofs.Ytnbbackjofgcfaa
namespace Dn

/-- A walk over a list: a round may answer, or go on with another state. -/
def listF {α σ R : Type} (b : α → σ → (σ → Option R) → Option R) (f : σ → Option R) : List α → σ → Option R
  | [], s => f s
  | a :: l, s => b a s (listF b f l)

theorem upF_list {α σ R : Type} (L : List α) (d : α) {b : α → σ → (σ → Option R) → Option R} {c : Nat → σ → (σ → Option R) → Option R} {f : σ → Option R} (h : ∀ i s k, i < L.length → c i s k = b (L.getD i d) s k) :
    ∀ (k i : Nat) (s : σ), i + k = L.length → upF c f k i s = listF b f (L.drop i) s
  | 0, i, s, hi => by
    rw [List.drop_of_length_le (by omega)]
    rfl
  | k + 1, i, s, hi => by
    rw [List.drop_eq_getElem_cons (show i < L.length by omega)]
    simp only [upF, listF]
    rw [h _ _ _ (by omega), getD_nat (by omega)]
    congr 1
    funext s'
    exact upF_list L d h k (i + 1) s' (by omega)

/-- A loop whose counter is an int in the state. -/
theorem lpK_int {α β σ R : Type} (L : List α) (d : α) (hn : L.length ≤ 1180591620717411303423) {F : (β → Option R) → β → Option R} (enc : Nat → σ → β) (b : α → σ → (σ → Option R) → Option R) (f : σ → Option R)
    (hb : ∀ again (i : Nat) s, i < L.length → F again (enc i s) = b (L.getD i d) s (fun s' => again (enc (i + 1) s'))) (hf : ∀ again s, F again (enc L.length s) = f s) (s : σ) : lpK β R F (enc 0 s) = listF b f L s :=
  (lpK_up L.length hn enc (fun i s k => b (L.getD i d) s k) f hb hf s).trans ((upF_list L d (b := b) (fun _ _ _ _ => rfl) L.length 0 s (by omega)).trans (by rw [List.drop_zero]))

/-- A walk that changes only its state. -/
theorem listF_fold {α σ R : Type} {b : α → σ → (σ → Option R) → Option R} {f : σ → Option R} (g : σ → α → σ) : ∀ {L : List α} {s : σ}, (∀ a ∈ L, ∀ s k, b a s k = k (g s a)) → listF b f L s = f (L.foldl g s)
  | [], _, _ => rfl
  | a :: L, s, h => by
    simp only [listF, List.foldl_cons]
    rw [h a (by simp)]
    exact listF_fold g fun a' ha => h a' (by simp [ha])

end Dn
end Go.Proofs.Ytnbbackjofgcfaa

namespace Go.Proofs.Ytnbbackjofgcfaa
open Try Dn Dn.Sh

abbrev Rw := List Int × Int × Int
abbrev Pg := List Int × List Rw
abbrev rw0 : Rw := ([], (0 : Int), (0 : Int))
def inC (n : Int) : Bool := decide (-1048576 ≤ n ∧ n ≤ 1048576)
def inR (n : Int) : Bool := decide (-1073741824 ≤ n ∧ n ≤ 1073741824)
def rowOk (n : Nat) (r : Rw) : Bool := decide (r.1.length = n) && (decide (1 ≤ r.2.1 ∧ r.2.1 ≤ 3) && (inR r.2.2 && r.1.all inC))
def sizeP (p : Pg) : Bool := decide (1 ≤ p.1.length ∧ p.1.length ≤ 12 ∧ p.2.length ≤ 6)
def validP (p : Pg) : Bool := sizeP p && (p.1.all inC && p.2.all (rowOk p.1.length))

theorem any_idx {α : Type} {p : α → Bool} {l : List α} : decide (idxI p l 0 ≥ 0) = l.any p := by
  have := idxI_neg (p := p) (l := l) (i := 0) (by omega)
  rw [Bool.eq_iff_iff, decide_eq_true_iff, List.any_eq_true]
  constructor
  · intro h1
    by_cases h2 : ∃ a ∈ l, p a = true
    · exact h2
    · have : idxI p l 0 < 0 := this.2 fun a ha => by
        cases e : p a with
        | false => rfl
        | true => exact (h2 ⟨a, ha, e⟩).elim
      omega
  · rintro ⟨a, ha, h3⟩
    by_cases h2 : idxI p l 0 < 0
    · rw [this.1 h2 a ha] at h3; cases h3
    · omega
theorem any_not {α : Type} {p : α → Bool} {l : List α} : (l.any fun a => !p a) = !l.all p := by
  induction l with
  | nil => rfl
  | cons a l ih => simp [ih, Bool.not_and]
theorem all_range {α : Type} {p : α → Bool} {l : List α} (d : α) : (List.range' 0 l.length).all (fun i => p (l.getD i d)) = l.all p := by
  rw [Bool.eq_iff_iff, List.all_eq_true, List.all_eq_true]
  constructor
  · intro h a ha
    obtain ⟨i, hi, rfl⟩ := List.getElem_of_mem ha
    have := h i (List.mem_range'.2 ⟨i, hi, by omega⟩)
    rwa [getD_nat hi] at this
  · intro h i hi
    obtain ⟨k, hk, rfl⟩ := List.mem_range'.1 hi
    rw [getD_nat (by omega)]
    exact h _ (List.getElem_mem _)

theorem contains81 {f : (Int × Unit) → Option Bool} {p : Int → Bool} {l : List Int} (hl : l.length ≤ 1000000) (h : ∀ a, a ∈ l → f (a, ()) = some (p a)) : slices_ContainsFunc_81 l f = some (l.any p) := by
  have h1 : slices_IndexFunc_117 l f = some (idxI p l 0) := by
    unfold slices_IndexFunc_117 slices_IndexFunc_117_b
    exact index_loop (f := f) (d := (0 : Int)) hl h
  simp only [slices_ContainsFunc_81, slices_ContainsFunc_81_b, h1, obind_some', any_idx]
theorem containsR {f : (Rw × Unit) → Option Bool} {p : Rw → Bool} {l : List Rw} (hl : l.length ≤ 1000000) (h : ∀ a, a ∈ l → f (a, ()) = some (p a)) : slices_ContainsFunc_41 l f = some (l.any p) := by
  have h1 : slices_IndexFunc_93 l f = some (idxI p l 0) := by
    unfold slices_IndexFunc_93 slices_IndexFunc_93_b
    exact index_loop (f := f) (d := rw0) hl h
  simp only [slices_ContainsFunc_41, slices_ContainsFunc_41_b, h1, obind_some', any_idx]
theorem containsF {f : ((Int × Int) × Unit) → Option Bool} {p : (Int × Int) → Bool} {l : List (Int × Int)} (hl : l.length ≤ 1000000) (h : ∀ a, a ∈ l → f (a, ()) = some (p a)) : slices_ContainsFunc_95 l f = some (l.any p) := by
  have h1 : slices_IndexFunc_122 l f = some (idxI p l 0) := by
    unfold slices_IndexFunc_122 slices_IndexFunc_122_b
    exact index_loop (f := f) (d := ((0 : Int), (0 : Int))) hl h
  simp only [slices_ContainsFunc_95, slices_ContainsFunc_95_b, h1, obind_some', any_idx]
theorem containsL {f : ((List (Int × Int)) × Unit) → Option Bool} {p : List (Int × Int) → Bool} {l : List (List (Int × Int))} (hl : l.length ≤ 1000000) (h : ∀ a, a ∈ l → f (a, ()) = some (p a)) : slices_ContainsFunc_43 l f = some (l.any p) := by
  have h1 : slices_IndexFunc_94 l f = some (idxI p l 0) := by
    unfold slices_IndexFunc_94 slices_IndexFunc_94_b
    exact index_loop (f := f) (d := ([] : List (Int × Int))) hl h
  simp only [slices_ContainsFunc_43, slices_ContainsFunc_43_b, h1, obind_some', any_idx]

theorem far_ok (n m : Int) (h0 : 0 ≤ m) (h1 : m ≤ 1099511627776) : program_Valid_1_1 n m = some (!decide (-m ≤ n ∧ n ≤ m)) := by
  have hw : IntKind.wrap .i64 (0 - m) = -m := by rw [wrap_id (by omega) (by omega)]; omega
  simp only [program_Valid_1_1, program_Valid_1_1_b, hw, not_or_self', or_self_not, Bool.and_self, cT]
  by_cases g1 : n < -m
  · rw [decide_eq_true g1, decide_eq_false (show ¬ (-m ≤ n ∧ n ≤ m) by omega)]; rfl
  · rw [decide_eq_false g1]
    by_cases g2 : n > m
    · rw [decide_eq_true g2, decide_eq_false (show ¬ (-m ≤ n ∧ n ≤ m) by omega)]; rfl
    · rw [decide_eq_false g2, decide_eq_true (show (-m ≤ n ∧ n ≤ m) by omega)]; rfl
theorem rwithin_ok (n m : Int) (h0 : 0 ≤ m) (h1 : m ≤ 1099511627776) : ref05_within n m = some (decide (-m ≤ n ∧ n ≤ m)) := by
  have hw : IntKind.wrap .i64 (0 - m) = -m := by rw [wrap_id (by omega) (by omega)]; omega
  simp only [ref05_within, ref05_within_b, hw, not_or_self', Bool.and_self, cT]
  by_cases g1 : n ≥ -m
  · rw [decide_eq_true g1]
    by_cases g2 : n ≤ m
    · rw [decide_eq_true g2, decide_eq_true (show (-m ≤ n ∧ n ≤ m) by omega)]; rfl
    · rw [decide_eq_false g2, decide_eq_false (show ¬ (-m ≤ n ∧ n ≤ m) by omega)]; rfl
  · rw [decide_eq_false g1, decide_eq_false (show ¬ (-m ≤ n ∧ n ≤ m) by omega)]; rfl
theorem farC (n : Int) : program_Valid_1_1 n 1048576 = some (!inC n) := far_ok n _ (by omega) (by omega)
theorem farR (n : Int) : program_Valid_1_1 n 1073741824 = some (!inR n) := far_ok n _ (by omega) (by omega)
theorem rinC (n : Int) : ref05_within n 1048576 = some (inC n) := rwithin_ok n _ (by omega) (by omega)
theorem rinR (n : Int) : ref05_within n 1073741824 = some (inR n) := rwithin_ok n _ (by omega) (by omega)

/-- A loop that looks at all numbers of a list. -/
theorem allC_loop {R : Type} {l : List Int} (hl : l.length ≤ 1000000) {yes no : Option R} :
    lpK (Int × PUnit) R (fun (again : Int × PUnit → Option R) (x : Int × PUnit) => bif decide (x.fst < (↑(List.length l) : Int)) then bif inB x.fst (List.length l) then obind (ref05_within (List.getD l (Int.toNat x.fst) (0 : Int)) (1048576 : Int)) fun (t : Bool) => bif !t then no else again
      (IntKind.wrap IntKind.i64 (x.fst + (1 : Int)), PUnit.unit) else none else yes) ((0 : Int), PUnit.unit) = bif l.all inC then yes else no := by
  refine (lpK_up (α := Int × PUnit) l.length (by omega) (fun i (_ : Unit) => ((i : Int), PUnit.unit)) (fun i s k => bif inC (l.getD i 0) then k s else no) (fun _ => yes) ?_ ?_ ()).trans ?_
  · intro again i _ hi
    have hw : IntKind.wrap .i64 ((i : Int) + 1) = ((i + 1 : Nat) : Int) := by rw [wrap_id (by omega) (by omega)]; rfl
    simp only [inB_nat, decide_eq_true hi, decide_eq_true (show (i : Int) < l.length by omega), cT, Int.toNat_natCast, hw, rinC, obind_some']
    cases inC (l.getD i 0) <;> rfl
  · intro again _
    simp only [decide_eq_false (show ¬ (l.length : Int) < l.length by omega), cF]
  · refine (upF_all (p := fun i => inC (l.getD i 0)) (r := no) l.length (fun _ _ _ => rfl) l.length 0 (by omega)).trans ?_
    rw [all_range (p := inC) (l := l) 0]

theorem pValid_ok (p : Pg) : program_Valid p = some (validP p) := by
  obtain ⟨c, rs⟩ := p
  simp only [program_Valid, program_Valid_b, program_Valid_1, program_Valid_1_b, not_or_self', or_self_not, Bool.and_self, cT, validP, sizeP]
  by_cases g1 : (c.length : Int) < 1
  · rw [decide_eq_true g1, decide_eq_false (show ¬ (1 ≤ c.length ∧ c.length ≤ 12 ∧ rs.length ≤ 6) by omega)]
    rfl
  · rw [decide_eq_false g1]
    by_cases g2 : (c.length : Int) > 12
    · rw [decide_eq_true g2, decide_eq_false (show ¬ (1 ≤ c.length ∧ c.length ≤ 12 ∧ rs.length ≤ 6) by omega)]
      rfl
    · rw [decide_eq_false g2]
      by_cases g3 : (rs.length : Int) > 6
      · rw [decide_eq_true g3, decide_eq_false (show ¬ (1 ≤ c.length ∧ c.length ≤ 12 ∧ rs.length ≤ 6) by omega)]
        rfl
      · rw [decide_eq_false g3, decide_eq_true (show (1 ≤ c.length ∧ c.length ≤ 12 ∧ rs.length ≤ 6) by omega)]
        have hc : ∀ l : List Int, l.length ≤ 1000000 → slices_ContainsFunc_81 l (fun x => program_Valid_1_1 x.fst 1048576) = some (!l.all inC) := fun l hl => by
          rw [← any_not]
          exact contains81 hl fun a _ => farC a
        simp only [cF, cT, Bool.not_false, obind_some', hc c (by omega), Bool.true_and]
        cases hcc : c.all inC with
        | false => rfl
        | true =>
          simp only [Bool.not_true, cF, Bool.true_and]
          refine (lpK_up (α := Int × PUnit) rs.length (by omega) (fun i (_ : Unit) => ((i : Int), PUnit.unit)) (fun i s k => bif rowOk c.length (rs.getD i rw0) then k s else some false) (fun _ => some true) ?_ ?_ ()).trans ?_
          · intro again i _ hi
            have hw : IntKind.wrap .i64 ((i : Int) + 1) = ((i + 1 : Nat) : Int) := by rw [wrap_id (by omega) (by omega)]; rfl
            simp only [inB_nat, decide_eq_true hi, decide_eq_true (show (i : Int) < rs.length by omega), cT, Int.toNat_natCast, hw]
            obtain ⟨a, k, b, e⟩ : ∃ a k b, List.getD rs i rw0 = (a, k, b) := ⟨_, _, _, rfl⟩
            simp only [e, rowOk, farR, decide_eq_true (show (i : Int) ≥ 0 by omega)]
            by_cases q1 : a.length = c.length
            · have hca := hc a (by omega)
              simp only [decide_eq_true (show (a.length : Int) = c.length by omega), decide_eq_true q1, Bool.not_true, Bool.not_false, cT, cF, obind_some', hca, Bool.true_and]
              by_cases q2 : k < 1
              · simp only [decide_eq_true q2, decide_eq_false (show ¬ (1 ≤ k ∧ k ≤ 3) by omega)]
                cases a.all inC <;> simp [obind_some']
              · by_cases q3 : k > 3
                · simp only [decide_eq_false q2, decide_eq_true q3, decide_eq_false (show ¬ (1 ≤ k ∧ k ≤ 3) by omega)]
                  cases a.all inC <;> simp [obind_some']
                · simp only [decide_eq_false q2, decide_eq_false q3, decide_eq_true (show (1 ≤ k ∧ k ≤ 3) by omega)]
                  cases h1 : a.all inC <;> cases h2 : inR b <;> simp [obind_some', farR, h2]
            · simp only [decide_eq_false (show ¬ (a.length : Int) = c.length by omega), decide_eq_false q1]
              simp [obind_some']
          · intro again _
            simp
          · refine (upF_all (p := fun i => rowOk c.length (rs.getD i rw0)) (r := some false) rs.length (fun _ _ _ => rfl) rs.length 0 (by omega)).trans ?_
            rw [all_range (p := rowOk c.length) (l := rs) rw0]
            cases rs.all (rowOk c.length) <;> rfl

theorem rValid_ok (p : Pg) : ref05_Valid p = some (validP p) := by
  obtain ⟨c, rs⟩ := p
  simp only [ref05_Valid, ref05_Valid_b, not_or_self', or_self_not, Bool.and_self, cT, validP, sizeP]
  by_cases g1 : (c.length : Int) < 1
  · rw [decide_eq_true g1, decide_eq_false (show ¬ (1 ≤ c.length ∧ c.length ≤ 12 ∧ rs.length ≤ 6) by omega)]
    rfl
  · rw [decide_eq_false g1]
    by_cases g2 : (c.length : Int) > 12
    · rw [decide_eq_true g2, decide_eq_false (show ¬ (1 ≤ c.length ∧ c.length ≤ 12 ∧ rs.length ≤ 6) by omega)]
      rfl
    · rw [decide_eq_false g2]
      by_cases g3 : (rs.length : Int) > 6
      · rw [decide_eq_true g3, decide_eq_false (show ¬ (1 ≤ c.length ∧ c.length ≤ 12 ∧ rs.length ≤ 6) by omega)]
        rfl
      · rw [decide_eq_false g3, decide_eq_true (show (1 ≤ c.length ∧ c.length ≤ 12 ∧ rs.length ≤ 6) by omega)]
        simp only [cF, Bool.true_and]
        rw [allC_loop (l := c) (by omega)]
        cases hcc : c.all inC with
        | false => rfl
        | true =>
          simp only [cT, Bool.true_and]
          refine (lpK_up (α := Int × PUnit) rs.length (by omega) (fun i (_ : Unit) => ((i : Int), PUnit.unit)) (fun i s k => bif rowOk c.length (rs.getD i rw0) then k s else some false) (fun _ => some true) ?_ ?_ ()).trans ?_
          · intro again i _ hi
            have hw : IntKind.wrap .i64 ((i : Int) + 1) = ((i + 1 : Nat) : Int) := by rw [wrap_id (by omega) (by omega)]; rfl
            simp only [inB_nat, decide_eq_true hi, decide_eq_true (show (i : Int) < rs.length by omega), cT, Int.toNat_natCast, hw]
            obtain ⟨a, k, b, e⟩ : ∃ a k b, List.getD rs i rw0 = (a, k, b) := ⟨_, _, _, rfl⟩
            simp only [e, rowOk, rinR]
            by_cases q1 : a.length = c.length
            · have hca := fun (y n : Option Bool) => allC_loop (l := a) (by omega) (yes := y) (no := n)
              simp only [decide_eq_true (show (a.length : Int) = c.length by omega), decide_eq_true q1, Bool.not_true, Bool.not_false, cT, cF, obind_some', Bool.true_and]
              rw [hca]
              by_cases q2 : k < 1
              · simp only [decide_eq_true q2, decide_eq_false (show ¬ (1 ≤ k ∧ k ≤ 3) by omega)]
                simp [obind_some']
              · by_cases q3 : k > 3
                · simp only [decide_eq_false q2, decide_eq_true q3, decide_eq_false (show ¬ (1 ≤ k ∧ k ≤ 3) by omega)]
                  simp [obind_some']
                · simp only [decide_eq_false q2, decide_eq_false q3, decide_eq_true (show (1 ≤ k ∧ k ≤ 3) by omega)]
                  cases h1 : a.all inC <;> cases h2 : inR b <;> simp [obind_some', rinR, h2]
            · simp only [decide_eq_false (show ¬ (a.length : Int) = c.length by omega), decide_eq_false q1]
              simp [obind_some']
          · intro again _
            simp
          · refine (upF_all (p := fun i => rowOk c.length (rs.getD i rw0)) (r := some false) rs.length (fun _ _ _ => rfl) rs.length 0 (by omega)).trans ?_
            rw [all_range (p := rowOk c.length) (l := rs) rw0]
            cases rs.all (rowOk c.length) <;> rfl

end Go.Proofs.Ytnbbackjofgcfaa

namespace Go.Proofs.Ytnbbackjofgcfaa
open Try Dn Dn.Sh

/-- The sum of numbers times fractions; none where a product or a sum does not fit. -/
noncomputable def sumR : List Int → List Fq → Rat → Option Rat
  | n :: l, a :: x, s => if fitsQ ((n : Rat) * qv a) ∧ fitsQ (s + (n : Rat) * qv a) then sumR l x (s + (n : Rat) * qv a) else none
  | _, _, s => some s
noncomputable def endR {R : Type} (o : Option Rat) (bad : Option R) (good : Rat → Option R) : Option R := match o with
  | some q => good q
  | none => bad

theorem sum_up {σ R : Type} {l : List Int} {x : List Fq} (hl : l.length ≤ x.length) {b : Nat → σ → (σ → Option R) → Option R} {f : σ → Option R} {cur : σ → Rat} {bad : Option R} {good : Rat → Option R}
    (nx : ∀ i s, fitsQ (cur s + ((l.getD i 0 : Int) : Rat) * qv (x.getD i (0, 0))) → σ) (hnx : ∀ i s h, cur (nx i s h) = cur s + ((l.getD i 0 : Int) : Rat) * qv (x.getD i (0, 0)))
    (hb : ∀ i s k, i < l.length → b i s k = if h : fitsQ (((l.getD i 0 : Int) : Rat) * qv (x.getD i (0, 0))) ∧ fitsQ (cur s + ((l.getD i 0 : Int) : Rat) * qv (x.getD i (0, 0))) then k (nx i s h.2) else bad)
    (hf : ∀ s, f s = good (cur s)) : ∀ (k i : Nat) (s : σ), i + k = l.length → upF b f k i s = endR (sumR (l.drop i) (x.drop i) (cur s)) bad good
  | 0, i, s, h => by
    rw [List.drop_eq_nil_of_le (by omega)]
    exact hf s
  | k + 1, i, s, h => by
    have h1 : i < l.length := by omega
    have h2 : i < x.length := by omega
    have e1 : l.getD i 0 = l[i] := getD_nat h1
    have e2 : x.getD i (0, 0) = x[i] := getD_nat h2
    simp only [upF]
    rw [hb i s _ h1, List.drop_eq_getElem_cons h1, List.drop_eq_getElem_cons h2, sumR, ← e1, ← e2]
    split
    · rw [sum_up hl nx hnx hb hf k (i + 1) _ (by omega), hnx]
    · rfl

theorem obN {T R : Type} {t : T} {k : T → Option R} : obind (some t) k = k t := id rfl
theorem rOf_ok (n : Int) : ref02_Of n = some (n, 1) := id rfl
theorem of_ok {l : List Int} {x : List Fq} {e : Int} (hl : l.length ≤ x.length) (h0 : l.length ≤ 1000000) (hc : ∀ n ∈ l, -1152921504606846976 ≤ n ∧ n ≤ 1152921504606846976) (hx : ∀ a ∈ x, okF a) :
    program_sums_of e l x = endR (sumR l x 0) (some (5, (0, 1))) fun q => some (e, prQ q) := by
  simp only [program_sums_of, program_sums_of_b]
  refine (lpK_up (α := Int × Int × Fq × Fq × PUnit) l.length (by omega) (fun i (s : Fq × {q : Rat // fitsQ q}) => ((i : Int), e, s.1, prQ s.2.1, PUnit.unit))
    (fun i s k => if h : fitsQ (((l.getD i 0 : Int) : Rat) * qv (x.getD i (0, 0))) ∧ fitsQ (s.2.1 + ((l.getD i 0 : Int) : Rat) * qv (x.getD i (0, 0))) then k (s.1, ⟨_, h.2⟩) else some (5, (0, 1))) (fun s => some (e, prQ s.2.1)) ?_ ?_ ((0, 0), ⟨0, by decide⟩)).trans ?_
  · intro again i s hi
    have hw : IntKind.wrap .i64 ((i : Int) + 1) = ((i + 1 : Nat) : Int) := by rw [wrap_id (by omega) (by omega)]; rfl
    obtain ⟨w, q, hq⟩ := s
    have hn : l.getD i 0 ∈ l := by rw [getD_nat hi]; exact List.getElem_mem _
    have ha : okF (x.getD i (0, 0)) := by rw [getD_nat (show i < x.length by omega)]; exact hx _ (List.getElem_mem _)
    have hm := Mul_ok (okF_int (hc _ hn).1 (hc _ hn).2) ha
    rw [qv_int] at hm
    simp only [inB_nat, decide_eq_true hi, decide_eq_true (show i < x.length by omega), decide_eq_true (show (i : Int) < l.length by omega), cT, Int.toNat_natCast, hw, jnK_eq', hm, obind_some']
    generalize l.getD i 0 = n at *
    generalize x.getD i (0, 0) = a at *
    rcases fitQ_cases ((n : Rat) * qv a) with ⟨f1, e1⟩ | ⟨f1, e1⟩
    · have hA := Add_ok (okF_prQ hq) (okF_prQ f1)
      rw [qv_prQ, qv_prQ] at hA
      simp only [e1, decide_true, cT, hA, obind_some']
      rcases fitQ_cases (q + (n : Rat) * qv a) with ⟨f2, e2⟩ | ⟨f2, e2⟩
      · rw [dif_pos ⟨f1, f2⟩]
        simp only [e2, decide_true, Bool.not_true, cF]
      · rw [dif_neg fun h => f2 h.2]
        simp only [e2]
        rfl
    · rw [dif_neg fun h => f1 h.1]
      simp only [e1]
      rfl
  · intro again s
    simp only [decide_eq_false (show ¬ (l.length : Int) < l.length by omega), cF]
  · exact sum_up (cur := fun s : Fq × {q : Rat // fitsQ q} => s.2.1) (bad := some (5, (0, 1))) (good := fun q => some (e, prQ q)) hl (fun i s h => (s.1, ⟨_, h⟩)) (fun _ _ _ => rfl) (fun _ _ _ _ => rfl) (fun _ => rfl) l.length 0 ((0, 0), ⟨0, by decide⟩) (by omega)

theorem rsum_ok {l : List Int} {x : List Fq} (hl : l.length ≤ x.length) (h0 : l.length ≤ 1000000) (hc : ∀ n ∈ l, -1152921504606846976 ≤ n ∧ n ≤ 1152921504606846976) (hx : ∀ a ∈ x, okF a) :
    ref05_Sum l x = endR (sumR l x 0) (some ((0, 0), 5, ())) fun q => some (prQ q, 0, ()) := by
  unfold ref05_Sum ref05_Sum_b
  rw [rOf_ok, obN]
  refine (lpK_up (α := Int × Fq × Fq × PUnit) l.length (by omega) (fun i (s : {q : Rat // fitsQ q}) => ((i : Int), (0, 0), prQ s.1, PUnit.unit))
    (fun i s k => if h : fitsQ (((l.getD i 0 : Int) : Rat) * qv (x.getD i (0, 0))) ∧ fitsQ (s.1 + ((l.getD i 0 : Int) : Rat) * qv (x.getD i (0, 0))) then k ⟨_, h.2⟩ else some ((0, 0), 5, ())) (fun s => some (prQ s.1, 0, ())) ?_ ?_ ⟨0, by decide⟩).trans ?_
  · intro again i s hi
    have hw : IntKind.wrap .i64 ((i : Int) + 1) = ((i + 1 : Nat) : Int) := by rw [wrap_id (by omega) (by omega)]; rfl
    obtain ⟨q, hq⟩ := s
    have hn : l.getD i 0 ∈ l := by rw [getD_nat hi]; exact List.getElem_mem _
    have ha : okF (x.getD i (0, 0)) := by rw [getD_nat (show i < x.length by omega)]; exact hx _ (List.getElem_mem _)
    have hm := RTimes_ok (okF_int (hc _ hn).1 (hc _ hn).2) ha
    rw [qv_int] at hm
    simp only [inB_nat, decide_eq_true hi, decide_eq_true (show i < x.length by omega), decide_eq_true (show (i : Int) < l.length by omega), cT, Int.toNat_natCast, hw, rOf_ok, hm, obind_some']
    generalize l.getD i 0 = n at *
    generalize x.getD i (0, 0) = a at *
    rcases fitQ_cases ((n : Rat) * qv a) with ⟨f1, e1⟩ | ⟨f1, e1⟩
    · have hA := RAdd_ok (okF_prQ hq) (okF_prQ f1)
      rw [qv_prQ, qv_prQ] at hA
      simp only [e1, decide_true, Bool.not_true, cF, hA, obind_some']
      rcases fitQ_cases (q + (n : Rat) * qv a) with ⟨f2, e2⟩ | ⟨f2, e2⟩
      · rw [dif_pos ⟨f1, f2⟩]
        simp only [e2, decide_true, Bool.not_true, cF]
      · rw [dif_neg fun h => f2 h.2]
        simp only [e2]
        rfl
    · rw [dif_neg fun h => f1 h.1]
      simp only [e1]
      rfl
  · intro again s
    simp only [decide_eq_false (show ¬ (l.length : Int) < l.length by omega), cF]
  · exact sum_up (cur := fun s : {q : Rat // fitsQ q} => s.1) (bad := some ((0, 0), 5, ())) (good := fun q => some (prQ q, 0, ())) hl (fun i s h => ⟨_, h⟩) (fun _ _ _ => rfl) (fun _ _ _ _ => rfl) (fun _ => rfl) l.length 0 ⟨0, by decide⟩ (by omega)
theorem sumR_fits : ∀ {l : List Int} {x : List Fq} {s q : Rat}, fitsQ s → sumR l x s = some q → fitsQ q
  | [], _, s, q, hs, h => by
    unfold sumR at h
    injection h with h
    rw [← h]; exact hs
  | _ :: _, [], s, q, hs, h => by
    unfold sumR at h
    injection h with h
    rw [← h]; exact hs
  | n :: l, a :: x, s, q, hs, h => by
    unfold sumR at h
    split at h
    · rename_i hh
      exact sumR_fits hh.2 h
    · cases h

end Go.Proofs.Ytnbbackjofgcfaa

namespace Go.Proofs.Ytnbbackjofgcfaa
open Try Dn Dn.Sh

theorem inC_big {n : Int} (h : inC n = true) : -1152921504606846976 ≤ n ∧ n ≤ 1152921504606846976 := by
  have := of_decide_eq_true h
  omega
theorem inR_big {n : Int} (h : inR n = true) : -1152921504606846976 ≤ n ∧ n ≤ 1152921504606846976 := by
  have := of_decide_eq_true h
  omega
structure ValidP (p : Pg) : Prop where
  cost : 1 ≤ p.1.length ∧ p.1.length ≤ 12
  rows : p.2.length ≤ 6
  cs : ∀ n ∈ p.1, inC n = true
  len : ∀ r ∈ p.2, r.1.length = p.1.length
  kind : ∀ r ∈ p.2, 1 ≤ r.2.1 ∧ r.2.1 ≤ 3
  right : ∀ r ∈ p.2, inR r.2.2 = true
  coefs : ∀ r ∈ p.2, ∀ n ∈ r.1, inC n = true
theorem validP_iff {p : Pg} : validP p = true ↔ ValidP p := by
  unfold validP sizeP
  rw [Bool.and_eq_true, Bool.and_eq_true, decide_eq_true_iff, List.all_eq_true, List.all_eq_true]
  constructor
  · rintro ⟨⟨h1, h2, h3⟩, h4, h5⟩
    have h6 : ∀ r ∈ p.2, r.1.length = p.1.length ∧ (1 ≤ r.2.1 ∧ r.2.1 ≤ 3) ∧ inR r.2.2 = true ∧ ∀ n ∈ r.1, inC n = true := fun r hr => by
      have := h5 r hr
      unfold rowOk at this
      rw [Bool.and_eq_true, Bool.and_eq_true, Bool.and_eq_true, decide_eq_true_iff, decide_eq_true_iff, List.all_eq_true] at this
      exact this
    exact ⟨⟨h1, h2⟩, h3, h4, fun r hr => (h6 r hr).1, fun r hr => (h6 r hr).2.1, fun r hr => (h6 r hr).2.2.1, fun r hr => (h6 r hr).2.2.2⟩
  · rintro ⟨h1, h2, h3, h4, h5, h6, h7⟩
    refine ⟨⟨h1.1, h1.2, h2⟩, h3, fun r hr => ?_⟩
    unfold rowOk
    rw [Bool.and_eq_true, Bool.and_eq_true, Bool.and_eq_true, decide_eq_true_iff, decide_eq_true_iff, List.all_eq_true]
    exact ⟨h4 r hr, h5 r hr, h6 r hr, h7 r hr⟩

theorem pcmp_ok {a : Fq} {n : Int} (ha : okF a) (hn : -1152921504606846976 ≤ n ∧ n ≤ 1152921504606846976) : program_cmp a n = some (cmpQ (qv a) (n : Rat)) := by
  have h := Cmp_ok ha (okF_int hn.1 hn.2)
  rw [qv_int] at h
  simp only [program_cmp, program_cmp_b, h, obind_some']
theorem sumR_ok {l : List Int} {x : List Fq} : fitsQ ((sumR l x 0).getD 0) := by
  cases h : sumR l x 0 with
  | none => decide
  | some q => exact sumR_fits (by decide) h
theorem of_ok' {l : List Int} {x : List Fq} {e : Int} (hl : l.length ≤ x.length) (h0 : l.length ≤ 1000000) (hc : ∀ n ∈ l, inC n = true) (hx : ∀ a ∈ x, okF a) :
    program_sums_of e l x = some (bif (sumR l x 0).isSome then e else 5, prQ ((sumR l x 0).getD 0)) := by
  rw [of_ok hl h0 (fun n hn => inC_big (hc n hn)) hx]
  cases sumR l x 0 <;> rfl

/-- Whether a row holds at a sum that is above, at, or below its right side. -/
def holdK (k c : Int) : Bool := (decide (k ≠ 1) || decide (c ≤ 0)) && ((decide (k ≠ 2) || decide (c ≥ 0)) && (decide (k ≠ 3) || decide (c = 0)))
noncomputable def holdR (x : List Fq) (r : Rw) : Bool := holdK r.2.1 (cmpQ ((sumR r.1 x 0).getD 0) (r.2.2 : Rat))
noncomputable def feasB (p : Pg) (x : List Fq) : Bool := x.all (fun a => decide (0 ≤ a.1)) && p.2.all (holdR x)
noncomputable def fitsX (p : Pg) (x : List Fq) : Bool := p.2.all fun r => (sumR r.1 x 0).isSome

theorem sfold {x : List Fq} : ∀ {rs : List Rw} {b : Bool} {e : Int}, rs.foldl (fun (s : Bool × Int) (r : Rw) => (s.1 && holdR x r, bif (sumR r.1 x 0).isSome then s.2 else 5)) (b, e) = (b && rs.all (holdR x), bif rs.all (fun r => (sumR r.1 x 0).isSome) then e else 5)
  | [], b, e => by simp
  | r :: rs, b, e => by
    rw [List.foldl_cons, sfold]
    simp only [List.all_cons, Bool.and_assoc]
    congr 1
    cases (sumR r.1 x 0).isSome <;> cases rs.all (fun r => (sumR r.1 x 0).isSome) <;> rfl

theorem sfeas_ok {e : Int} {p : Pg} {x : List Fq} (hv : ValidP p) (hx : ∀ a ∈ x, okF a) (hl : x.length = p.1.length) : program_sums_feasible e p x = some (bif fitsX p x then e else 5, feasB p x) := by
  obtain ⟨c, rs⟩ := p
  unfold program_sums_feasible program_sums_feasible_b
  have hc : slices_ContainsFunc_95 x (fun x => program_sums_feasible_1 x.fst) = some (!x.all fun a => decide (0 ≤ a.1)) := by
    rw [← any_not]
    refine containsF (p := fun a : Fq => !decide (0 ≤ a.1)) (by have := hv.cost.2; simp only at this hl; omega) fun a _ => ?_
    simp only [program_sums_feasible_1, program_sums_feasible_1_b]
    congr 1
    rw [Bool.eq_iff_iff]
    simp
  rw [hc, obN, Bool.not_not]
  have h6 := hv.rows
  simp only at h6
  refine (lpK_int (α := Rw) (σ := Bool × Int) rs rw0 (by omega) (fun i s => (s.1, (i : Int), s.2, PUnit.unit)) (fun r s k => k (s.1 && holdR x r, bif (sumR r.1 x 0).isSome then s.2 else 5)) (fun s => some (s.2, s.1)) ?_ ?_ (_, e)).trans ?_
  · intro again i s hi
    have hw : IntKind.wrap .i64 ((i : Int) + 1) = ((i + 1 : Nat) : Int) := by rw [wrap_id (by omega) (by omega)]; rfl
    have hr : rs.getD i rw0 ∈ rs := by rw [getD_nat hi]; exact List.getElem_mem _
    obtain ⟨is, e0⟩ := s
    have h1 := of_ok' (l := (rs.getD i rw0).1) (x := x) (e := e0) (by rw [hv.len _ hr, hl]; exact Nat.le_refl _) (by rw [hv.len _ hr]; have := hv.cost.2; omega) (hv.coefs _ hr) hx
    have h2 := pcmp_ok (okF_prQ (sumR_ok (l := (rs.getD i rw0).1) (x := x))) (inR_big (hv.right _ hr))
    rw [qv_prQ] at h2
    simp only [inB_nat, decide_eq_true hi, decide_eq_true (show (i : Int) < rs.length by omega), cT, Int.toNat_natCast, hw, h1, h2, obind_some', holdR]
    obtain ⟨cm, hcm⟩ : ∃ cm, cmpQ ((sumR (rs.getD i rw0).1 x 0).getD 0) ((rs.getD i rw0).2.2 : Rat) = cm := ⟨_, rfl⟩
    obtain ⟨kd, hkd⟩ : ∃ kd, (rs.getD i rw0).2.1 = kd := ⟨_, rfl⟩
    simp only [hcm, hkd, holdK]
    by_cases k1 : kd = 1 <;> by_cases k2 : kd = 2 <;> by_cases k3 : kd = 3 <;> by_cases c1 : cm ≤ 0 <;> by_cases c2 : cm ≥ 0 <;> by_cases c3 : cm = 0 <;> cases is <;> first | (exfalso; omega) | simp [k1, k2, k3, c1, c2, c3]
  · intro again s
    simp
  · rw [listF_fold (fun (s : Bool × Int) (r : Rw) => (s.1 && holdR x r, bif (sumR r.1 x 0).isSome then s.2 else 5)) (fun _ _ _ _ => rfl), sfold]
    rfl

end Go.Proofs.Ytnbbackjofgcfaa

namespace Go.Proofs.Ytnbbackjofgcfaa
open Try Dn Dn.Sh

theorem awakeP_ok : law05_awake = some true := by kernel_rfl
def fewB (p : Pg) : Bool := decide (p.1.length ≤ 14 ∧ p.2.length ≤ 8) && p.2.all fun r => decide (r.1.length ≤ 14)
theorem fewP_ok (p : Pg) : law05_few p = some (fewB p) := by
  obtain ⟨c, rs⟩ := p
  simp only [law05_few, law05_few_b, not_or_self', cT, fewB]
  by_cases h1 : (c.length : Int) ≤ 14
  · by_cases h2 : (rs.length : Int) ≤ 8
    · have hc : slices_ContainsFunc_41 rs (fun x => law05_few_1 x.fst) = some (!rs.all fun r => decide (r.1.length ≤ 14)) := by
        rw [← any_not]
        refine containsR (p := fun r : Rw => !decide (r.1.length ≤ 14)) (by omega) fun a _ => ?_
        simp only [law05_few_1, law05_few_1_b]
        congr 1
        rw [Bool.eq_iff_iff]
        simp
        omega
      rw [decide_eq_true h1, decide_eq_true h2, decide_eq_true (show c.length ≤ 14 ∧ rs.length ≤ 8 by omega)]
      simp only [cT, hc, obind_some', Bool.not_not, Bool.true_and]
    · rw [decide_eq_true h1, decide_eq_false h2, decide_eq_false (show ¬ (c.length ≤ 14 ∧ rs.length ≤ 8) by omega)]
      rfl
  · rw [decide_eq_false h1, decide_eq_false (show ¬ (c.length ≤ 14 ∧ rs.length ≤ 8) by omega)]
    rfl
theorem shortP_ok (l : List (List Fq)) (h : l.length ≤ 1000000) : law05_short l = some (l.all fun x => decide (x.length ≤ 20)) := by
  have hc : slices_ContainsFunc_43 l (fun x => law05_short_1 x.fst) = some (!l.all fun x => decide (x.length ≤ 20)) := by
    rw [← any_not]
    refine containsL (p := fun x : List Fq => !decide (x.length ≤ 20)) h fun a _ => ?_
    simp only [law05_short_1, law05_short_1_b]
    congr 1
    rw [Bool.eq_iff_iff]
    simp
    omega
  simp only [law05_short, law05_short_b, hc, obind_some', Bool.not_not]
noncomputable def okL (x : List Fq) : Bool := x.all fun a => decide (okF a)
theorem right_ok {x : List Fq} (h : x.length ≤ 1000000) : program_right x = some (okL x) := by
  have hc : slices_ContainsFunc_95 x (fun x => program_right_1 x.fst) = some (!okL x) := by
    unfold okL
    rw [← any_not]
    refine containsF (p := fun a : Fq => !decide (okF a)) h fun a _ => ?_
    simp only [program_right_1, program_right_1_b, Valid_ok, obind_some']
  simp only [program_right, program_right_b, hc, obind_some', Bool.not_not]
theorem okL_iff {x : List Fq} : okL x = true ↔ ∀ a ∈ x, okF a := by
  unfold okL
  rw [List.all_eq_true]
  exact ⟨fun h a ha => of_decide_eq_true (h a ha), fun h a ha => decide_eq_true (h a ha)⟩

theorem rsign_ok {a : Fq} (ha : okF a) : ref05_sign a = some (cmpQ (qv a) 0) := by
  have h := RCmp_ok ha (okF_int (n := 0) (by omega) (by omega))
  rw [qv_int] at h
  simp only [ref05_sign, ref05_sign_b, rOf_ok, obind_some', h]
  rfl
theorem cmp_nonneg {q : Rat} : decide (cmpQ q 0 ≥ 0) = decide (0 ≤ q) := by
  unfold cmpQ
  rw [Bool.eq_iff_iff, decide_eq_true_iff, decide_eq_true_iff, ← Rat.not_lt]
  split
  · rename_i h; simp [h]
  · rename_i h; split <;> simp [h]
theorem xfold {x : List Fq} : ∀ {b : Bool}, x.foldl (fun (s : Bool) (a : Fq) => s && decide (0 ≤ a.1)) b = (b && x.all fun a => decide (0 ≤ a.1)) := by
  induction x with
  | nil => intro b; simp
  | cons a l ih => intro b; rw [List.foldl_cons, ih, List.all_cons, Bool.and_assoc]
theorem rfold {x : List Fq} : ∀ {rs : List Rw} {b : Bool}, listF (R := Bool × Int × Unit) (fun (r : Rw) (s : Bool) k => bif (sumR r.1 x 0).isSome then k (s && holdR x r) else some (false, 5, ())) (fun s => some (s, 0, ())) rs b =
    bif rs.all (fun r => (sumR r.1 x 0).isSome) then some (b && rs.all (holdR x), 0, ()) else some (false, 5, ())
  | [], b => by simp [listF]
  | r :: rs, b => by
    simp only [listF, List.all_cons]
    cases (sumR r.1 x 0).isSome with
    | false => rfl
    | true =>
      rw [cond_true, rfold, Bool.true_and, Bool.and_assoc]

theorem rfeas_ok {p : Pg} {x : List Fq} (hv : ValidP p) (hx : ∀ a ∈ x, okF a) (hl : x.length = p.1.length) : ref05_Feasible p x = bif fitsX p x then some (feasB p x, 0, ()) else some (false, 5, ()) := by
  obtain ⟨c, rs⟩ := p
  unfold ref05_Feasible ref05_Feasible_b
  have h6 := hv.rows
  have h7 := hv.cost.2
  simp only at h6 h7 hl
  refine (lpK_int (α := Fq) (σ := Bool) x (0, 0) (by omega) (fun i s => (s, (i : Int), PUnit.unit)) (fun a s k => k (s && decide (0 ≤ a.1))) (fun b => bif rs.all (fun r => (sumR r.1 x 0).isSome) then some (b && rs.all (holdR x), 0, ()) else some (false, 5, ())) ?_ ?_ true).trans ?_
  · intro again i s hi
    have hw : IntKind.wrap .i64 ((i : Int) + 1) = ((i + 1 : Nat) : Int) := by rw [wrap_id (by omega) (by omega)]; rfl
    have ha : okF (x.getD i (0, 0)) := by rw [getD_nat hi]; exact hx _ (List.getElem_mem _)
    simp only [inB_nat, decide_eq_true hi, decide_eq_true (show (i : Int) < x.length by omega), cT, Int.toNat_natCast, hw, rsign_ok ha, Bool.or_true, not_or_self', Bool.and_self]
    cases s with
    | false => rfl
    | true => simp only [cT, obind_some', cmp_nonneg, Bool.true_and, decide_eq_decide.2 (okF_nonneg ha)]
  · intro again s
    simp only [decide_eq_false (show ¬ (x.length : Int) < x.length by omega), cF]
    refine (lpK_int (α := Rw) (σ := Bool) rs rw0 (by omega) (fun i s => (s, (i : Int), PUnit.unit)) (fun r s k => bif (sumR r.1 x 0).isSome then k (s && holdR x r) else some (false, 5, ())) (fun s => some (s, 0, ())) ?_ ?_ s).trans rfold
    · intro again i s hi
      have hw : IntKind.wrap .i64 ((i : Int) + 1) = ((i + 1 : Nat) : Int) := by rw [wrap_id (by omega) (by omega)]; rfl
      have hr : rs.getD i rw0 ∈ rs := by rw [getD_nat hi]; exact List.getElem_mem _
      have h1 := rsum_ok (l := (rs.getD i rw0).1) (x := x) (by rw [hv.len _ hr, hl]; exact Nat.le_refl _) (by rw [hv.len _ hr]; simp only; omega) (fun n hn => inC_big (hv.coefs _ hr n hn)) hx
      have h2 := RCmp_ok (okF_prQ (sumR_ok (l := (rs.getD i rw0).1) (x := x))) (okF_int (inR_big (hv.right _ hr)).1 (inR_big (hv.right _ hr)).2)
      rw [qv_prQ, qv_int] at h2
      have hk := hv.kind _ hr
      simp only [inB_nat, decide_eq_true hi, decide_eq_true (show (i : Int) < rs.length by omega), cT, Int.toNat_natCast, hw, h1, rOf_ok, holdR]
      cases hs : sumR (rs.getD i rw0).1 x 0 with
      | none => rfl
      | some q =>
        rw [hs] at h2
        simp only [Option.getD_some] at h2
        simp only [endR, obind_some', h2, Option.getD_some, Option.isSome_some, cT]
        obtain ⟨cm, hcm⟩ : ∃ cm, cmpQ q ((rs.getD i rw0).2.2 : Rat) = cm := ⟨_, rfl⟩
        obtain ⟨kd, hkd⟩ : ∃ kd, (rs.getD i rw0).2.1 = kd := ⟨_, rfl⟩
        rw [hkd] at hk
        simp only [hcm, hkd, holdK]
        by_cases k1 : kd = 1 <;> by_cases k2 : kd = 2 <;> by_cases k3 : kd = 3 <;> by_cases c1 : cm ≤ 0 <;> by_cases c2 : cm ≥ 0 <;> by_cases c3 : cm = 0 <;> by_cases c4 : 0 < cm <;> by_cases c5 : cm < 0 <;> cases s <;> first | (exfalso; omega) | simp [k1, k2, k3, c1, c2, c3, c4, c5]
    · intro again s
      simp
  · rw [listF_fold (fun (s : Bool) (a : Fq) => s && decide (0 ≤ a.1)) (fun _ _ _ _ => rfl), xfold]
    rfl

end Go.Proofs.Ytnbbackjofgcfaa

namespace Go.Proofs.Ytnbbackjofgcfaa
open Try Dn Dn.Sh

theorem feas_ok {p : Pg} {x : List Fq} (h : x.length ≤ 1000000) : program_Feasible p x = some (bif validP p && okL x then bif decide (x.length = p.1.length) then bif fitsX p x then (feasB p x, 0, ()) else (false, 5, ()) else (false, 3, ()) else (false, 1, ())) := by
  simp only [program_Feasible, program_Feasible_b, pValid_ok, right_ok h, obind_some', not_or_self', or_self_not, cT]
  cases hv : validP p with
  | false => rfl
  | true =>
    cases hx : okL x with
    | false => rfl
    | true =>
      simp only [Bool.not_true, Bool.not_false, cT, cF, obind_some', Bool.and_self]
      by_cases hl : x.length = p.1.length
      · simp only [decide_eq_true hl, decide_eq_true (show (x.length : Int) = p.1.length by omega), Bool.not_true, cT, cF, sfeas_ok (validP_iff.1 hv) (okL_iff.1 hx) hl, obind_some']
        cases fitsX p x <;> cases feasB p x <;> rfl
      · simp only [decide_eq_false hl, decide_eq_false (show ¬ (x.length : Int) = p.1.length by omega), Bool.not_false, cT, cF]
theorem value_ok {p : Pg} {x : List Fq} (h : x.length ≤ 1000000) : program_Value p x = bif validP p && okL x then bif decide (x.length = p.1.length) then endR (sumR p.1 x 0) (some ((0, 0), 5, ())) (fun q => some (prQ q, 0, ())) else some ((0, 0), 3, ()) else some ((0, 0), 1, ()) := by
  simp only [program_Value, program_Value_b, pValid_ok, right_ok h, obind_some', not_or_self', or_self_not, cT]
  cases hv : validP p with
  | false => rfl
  | true =>
    cases hx : okL x with
    | false => rfl
    | true =>
      have hV := validP_iff.1 hv
      simp only [Bool.not_true, Bool.not_false, cT, cF, obind_some', Bool.and_self]
      by_cases hl : x.length = p.1.length
      · simp only [decide_eq_true hl, decide_eq_true (show (x.length : Int) = p.1.length by omega), Bool.not_true, cT, cF]
        rw [of_ok (by omega) (by have := hV.cost.2; omega) (fun n hn => inC_big (hV.cs n hn)) (okL_iff.1 hx)]
        cases sumR p.1 x 0 <;> rfl
      · simp only [decide_eq_false hl, decide_eq_false (show ¬ (x.length : Int) = p.1.length by omega), Bool.not_false, cT, cF]

theorem law3p (p : Pg) (x : List Fq) : law05_ProgramForms p x = some true := by
  simp only [law05_ProgramForms, law05_ProgramForms_b, awakeP_ok, fewP_ok, shortP_ok [x] (by simp), pValid_ok, rValid_ok, obind_some', Bool.not_true, cF, not_or_self', or_self_not, Bool.and_self, cT]
  cases hf : fewB p with
  | false => rfl
  | true =>
    simp only [Bool.not_true, Bool.not_false, cT, cF, obind_some']
    by_cases hs : x.length ≤ 20
    · have hs' : x.length ≤ 1000000 := by omega
      simp only [List.all_cons, List.all_nil, decide_eq_true hs, Bool.and_true, Bool.not_true, cF, feas_ok hs', value_ok hs', RAll_ok hs', obind_some']
      rw [show (x.all fun a => decide (okF a)) = okL x from rfl]
      cases hv : validP p with
      | false => rfl
      | true =>
        cases hx : okL x with
        | false => rfl
        | true =>
          have hV := validP_iff.1 hv
          by_cases hl : x.length = p.1.length
          · have hS := rsum_ok (l := p.1) (x := x) (by omega) (by have := hV.cost.2; omega) (fun n hn => inC_big (hV.cs n hn)) (okL_iff.1 hx)
            simp only [decide_eq_true hl, decide_eq_true (show (x.length : Int) = p.1.length by omega), Bool.and_self, Bool.not_true, Bool.not_false, cT, cF, rfeas_ok hV (okL_iff.1 hx) hl, hS, obind_some', decide_true]
            cases fitsX p x <;> cases sumR p.1 x 0 <;> simp [endR, obind_some']
          · simp only [decide_eq_false hl, decide_eq_false (show ¬ (x.length : Int) = p.1.length by omega), Bool.and_self, Bool.not_true, Bool.not_false, cT, cF, obind_some', decide_true]
    · simp only [List.all_cons, List.all_nil, decide_eq_false hs, Bool.and_true, Bool.not_false, cT]

end Go.Proofs.Ytnbbackjofgcfaa
