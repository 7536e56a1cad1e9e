/- Fractions of the reference: numbers of two words, their greatest common divisors and quotients. -/
import Derived.Test.YtghjblbkbelcfaaRt2r18
namespace Go.Proofs.Ytghjblbkbelcfaa
open Try Dn Dn.Sh

theorem fdiv_of {n d : Int} (h : 0 ≤ d) : Int.fdiv n d = n / d := Int.fdiv_eq_ediv_of_nonneg n h

theorem Half_ok {n : Nat} (_ : n < 340282366920938463463374607431768211456) : ref02_Half (hl n) = some (hl (n / 2)) := by
  simp only [ref02_Half, ref02_Half_b, show decide ((0 : Int) ≤ 1) = true from rfl, show decide ((0 : Int) ≤ 63) = true from rfl, cond_true, show (2 : Int) ^ (1 : Nat) = 2 from rfl, show (2 : Int) ^ (63 : Nat) = 9223372036854775808 from rfl, IntKind.wrap_u64, fdiv_of (show (0 : Int) ≤ 2 by omega), hl]
  congr 1
  ext <;> simp only <;> omega

theorem Less_ok {a b : Nat} : ref02_Less (hl a) (hl b) = some (decide (a < b)) := by
  simp only [ref02_Less, ref02_Less_b]
  have e : decide (a < b) = (bif decide ((hl a).1 < (hl b).1) then true else bif decide ((hl a).1 = (hl b).1) then decide ((hl a).2 < (hl b).2) else false) := by
    by_cases c1 : (hl a).1 < (hl b).1
    · simp only [c1, decide_true, cond_true]
      simp only [hl] at c1
      exact decide_eq_true (by omega)
    · by_cases c2 : (hl a).1 = (hl b).1
      · rw [decide_eq_false c1, decide_eq_true c2, cond_true, cond_false]
        have e2 : a < b ↔ (hl a).2 < (hl b).2 := by
          simp only [hl] at c1 c2 ⊢
          omega
        rw [Bool.eq_iff_iff, decide_eq_true_iff, decide_eq_true_iff]
        exact e2
      · simp only [c1, c2, decide_false, cond_false]
        simp only [hl] at c1 c2
        exact decide_eq_false (by omega)
  rw [e]
  cases decide ((hl a).1 < (hl b).1) <;> cases decide ((hl a).1 = (hl b).1) <;> rfl

theorem Minus_ok {a b : Nat} (h : b ≤ a) (ha : a < 340282366920938463463374607431768211456) : ref02_Minus (hl a) (hl b) = some (hl (a - b)) := by
  simp only [ref02_Minus, ref02_Minus_b]
  by_cases hc : (hl a).2 < (hl b).2
  · rw [decide_eq_true hc, cond_true]
    simp only [IntKind.wrap_u64, hl] at hc ⊢
    congr 1
    ext <;> simp only <;> omega
  · rw [decide_eq_false hc, cond_false]
    simp only [IntKind.wrap_u64, hl] at hc ⊢
    congr 1
    ext <;> simp only <;> omega

/-- A difference that lost a bit in front. -/
theorem Minus_over {a b : Nat} (h : b ≤ a) (hb : a - b < 340282366920938463463374607431768211456) (_ : b < 340282366920938463463374607431768211456) : ref02_Minus (hl (a % 340282366920938463463374607431768211456)) (hl b) = some (hl (a - b)) := by
  simp only [ref02_Minus, ref02_Minus_b]
  by_cases hc : (hl (a % 340282366920938463463374607431768211456)).2 < (hl b).2
  · rw [decide_eq_true hc, cond_true]
    simp only [IntKind.wrap_u64, hl] at hc ⊢
    congr 1
    ext <;> simp only <;> omega
  · rw [decide_eq_false hc, cond_false]
    simp only [IntKind.wrap_u64, hl] at hc ⊢
    congr 1
    ext <;> simp only <;> omega

theorem Plus_ok {m n : Nat} (h : m + n < 340282366920938463463374607431768211456) : ref02_Plus (hl m) (hl n) = some (hl (m + n)) := by
  simp only [ref02_Plus, ref02_Plus_b]
  by_cases hc : IntKind.wrap .u64 ((hl m).2 + (hl n).2) < (hl m).2
  · rw [decide_eq_true hc, cond_true]
    simp only [IntKind.wrap_u64, hl] at hc ⊢
    congr 1
    ext <;> simp only <;> omega
  · rw [decide_eq_false hc, cond_false]
    simp only [IntKind.wrap_u64, hl] at hc ⊢
    congr 1
    ext <;> simp only <;> omega

theorem low1 {x : Int} (h1 : 0 ≤ x) (h2 : x < 18446744073709551616) : IntKind.wrap .u64 ((Nat.land (Int.toNat (x % Int.ofNat 18446744073709551616)) (Int.toNat ((1 : Int) % Int.ofNat 18446744073709551616)) : Nat) : Int) = x % 2 := by
  have e1 : x % Int.ofNat 18446744073709551616 = x := Int.emod_eq_of_lt h1 h2
  have e2 : Int.toNat ((1 : Int) % Int.ofNat 18446744073709551616) = 2 ^ 1 - 1 := by decide
  rw [e1, e2]
  have : Nat.land x.toNat (2 ^ 1 - 1) = x.toNat % 2 ^ 1 := Nat.and_two_pow_sub_one_eq_mod x.toNat 1
  rw [this, IntKind.wrap_u64]
  omega
theorem even_hl {n : Nat} : decide (IntKind.wrap .u64 ((Nat.land (Int.toNat ((hl n).2 % Int.ofNat 18446744073709551616)) (Int.toNat ((1 : Int) % Int.ofNat 18446744073709551616)) : Nat) : Int) = 0) = decide (n % 2 = 0) := by
  rw [low1 (by simp only [hl]; omega) (by simp only [hl]; omega)]
  rw [Bool.eq_iff_iff, decide_eq_true_iff, decide_eq_true_iff]
  simp only [hl]
  omega
theorem zero_hl {n : Nat} (h : n < 340282366920938463463374607431768211456) : (decide ((hl n).1 = 0) && (decide ((hl n).2 = 0) && true)) = decide (n = 0) := by
  rw [Bool.and_true, Bool.eq_iff_iff, Bool.and_eq_true, decide_eq_true_iff, decide_eq_true_iff, decide_eq_true_iff]
  simp only [hl]
  omega

/-- The number that two words are. -/
def unhl (p : Int × Int) : Nat := p.1.toNat * 18446744073709551616 + p.2.toNat
theorem unhl_hl {n : Nat} : unhl (hl n) = n := by
  simp only [unhl, hl]; omega

theorem gcd_half {a b : Nat} (ha : a % 2 = 0) (h : Nat.gcd a b % 2 = 1) : Nat.gcd (a / 2) b = Nat.gcd a b := by
  have h2 : a / 2 ∣ a := Nat.div_dvd_of_dvd (Nat.dvd_of_mod_eq_zero ha)
  refine Nat.dvd_antisymm (Nat.dvd_gcd (Nat.dvd_trans (Nat.gcd_dvd_left _ _) h2) (Nat.gcd_dvd_right _ _)) (Nat.dvd_gcd ?_ (Nat.gcd_dvd_right _ _))
  have h3 : Nat.gcd a b ∣ 2 * (a / 2) := by rw [show 2 * (a / 2) = a by omega]; exact Nat.gcd_dvd_left _ _
  refine Nat.Coprime.dvd_of_dvd_mul_left ?_ h3
  show Nat.gcd (Nat.gcd a b) 2 = 1
  rw [Nat.gcd_comm, Nat.gcd_rec, h]
  rfl

theorem log2_half {a : Nat} (h : 2 ≤ a) : Nat.log2 (a / 2) + 1 = Nat.log2 a := by
  conv => rhs; rw [Nat.log2_def]
  rw [if_pos h]
theorem log2_mono {a b : Nat} (h : a ≤ b) : Nat.log2 a ≤ Nat.log2 b := by
  by_cases ha : a = 0
  · subst ha; simp
  · have hb : b ≠ 0 := by omega
    rw [Nat.le_log2 hb]
    exact Nat.le_trans ((Nat.le_log2 ha).1 (Nat.le_refl _)) h
theorem log2_dbl {a b : Nat} (ha : 0 < a) (h : 2 * a ≤ b) : Nat.log2 a + 1 ≤ Nat.log2 b := by
  have h1 := log2_half (a := b) (by omega)
  have := log2_mono (show a ≤ b / 2 by omega)
  omega
theorem log2_128 {a : Nat} (h : a < 340282366920938463463374607431768211456) : Nat.log2 a ≤ 127 := by
  by_cases ha : a = 0
  · subst ha; simp
  · have : Nat.log2 a < 128 := (Nat.log2_lt ha).2 h
    omega

theorem Gcd_ok {A B : Nat} (hA : A < 340282366920938463463374607431768211456) (hB0 : 0 < B) (hB : B < 340282366920938463463374607431768211456) : ref02_Gcd (hl A) (hl B) = some (hl (Nat.gcd A B)) := by
  simp only [ref02_Gcd, ref02_Gcd_b]
  rw [zero_hl hA]
  by_cases hA0 : A = 0
  · rw [decide_eq_true hA0, cond_true, hA0, Nat.gcd_zero_left]
  rw [decide_eq_false hA0, cond_false]
  have hG : Nat.gcd A B ≤ B := Nat.le_of_dvd hB0 (Nat.gcd_dvd_right A B)
  have hGdef : ∃ G, G = Nat.gcd A B := ⟨_, rfl⟩
  obtain ⟨G, hGd⟩ := hGdef
  rw [← hGd]
  refine lpK_loop (g := fun _ => some (hl G)) (I := fun (x : Int × (Int × Int) × (Int × Int) × PUnit) => ∃ t a b : Nat, x = ((t : Int), hl a, hl b, ⟨⟩) ∧ 0 < a ∧ a < 340282366920938463463374607431768211456 ∧ 0 < b ∧ b < 340282366920938463463374607431768211456 ∧ 2 ^ t * Nat.gcd a b = G ∧ t + Nat.log2 a ≤ 127)
    (μ := fun (x : Int × (Int × Int) × (Int × Int) × PUnit) => Nat.log2 (unhl x.2.1)) (x := ((0 : Int), hl A, hl B, PUnit.unit)) ?_ ⟨0, A, B, rfl, by omega, hA, hB0, hB, by rw [hGd]; simp, by have := log2_128 hA; omega⟩ (by simp only [unhl_hl]; have := log2_128 hA; omega)
  rintro _ rec ⟨t, a, b, rfl, a0, a1, b0, b1, hg, ht⟩ hrec
  simp only [even_hl, not_or_self', cond_true]
  by_cases hev : a % 2 = 0 ∧ b % 2 = 0
  · rw [decide_eq_true hev.1, cond_true, decide_eq_true hev.2, cond_true, Half_ok a1, obind_some', Half_ok b1, obind_some', wrap_id (by omega) (by omega)]
    have hl2 := log2_half (a := a) (by omega)
    refine hrec _ ⟨t + 1, a / 2, b / 2, by rfl, by omega, by omega, by omega, by omega, ?_, by omega⟩ (by simp only [unhl_hl]; omega)
    rw [← hg, Nat.pow_succ, Nat.mul_assoc, ← Nat.gcd_mul_left, show 2 * (a / 2) = a by omega, show 2 * (b / 2) = b by omega]
  have hodd : Nat.gcd a b % 2 = 1 := by
    rcases Nat.mod_two_eq_zero_or_one (Nat.gcd a b) with h | h
    · exfalso
      have h2 := Nat.dvd_of_mod_eq_zero h
      exact hev ⟨Nat.mod_eq_zero_of_dvd (Nat.dvd_trans h2 (Nat.gcd_dvd_left a b)), Nat.mod_eq_zero_of_dvd (Nat.dvd_trans h2 (Nat.gcd_dvd_right a b))⟩
    · exact h
  have hcond : (bif decide (a % 2 = 0) then decide (b % 2 = 0) else false) = false := by
    rw [Bool.eq_false_iff]
    intro h
    by_cases h2 : a % 2 = 0
    · rw [decide_eq_true h2, cond_true, decide_eq_true_iff] at h
      exact hev ⟨h2, h⟩
    · rw [decide_eq_false h2, cond_false] at h
      cases h
  rw [hcond, cond_false]
  clear hcond hrec
  generalize hgd : Nat.gcd a b = g at *
  refine lpK_loop (g := fun _ => some (hl G)) (I := fun (x : (Int × Int) × (Int × Int) × PUnit) => ∃ a b : Nat, x = (hl a, hl b, ⟨⟩) ∧ a < 340282366920938463463374607431768211456 ∧ 0 < b ∧ b < 340282366920938463463374607431768211456 ∧ Nat.gcd a b = g)
    (μ := fun (x : (Int × Int) × (Int × Int) × PUnit) => Nat.log2 (unhl x.1) + Nat.log2 (unhl x.2.1) + unhl x.1 % 2) (x := (hl a, hl b, PUnit.unit)) ?_ ⟨a, b, rfl, a1, b0, b1, hgd⟩ (by simp only [unhl_hl]; have := log2_128 a1; have := log2_128 b1; omega)
  clear hgd hev a0 a1 b0 b1
  rintro _ rec ⟨a, b, rfl, a1, b0, b1, hgd⟩ hrec
  simp only [zero_hl a1]
  by_cases ha0 : a = 0
  · rw [decide_eq_true ha0, Bool.not_true, cond_false]
    have hbg : b = g := by rw [← hgd, ha0, Nat.gcd_zero_left]
    refine lpK_loop (g := fun _ => some (hl G)) (I := fun (x : Int × (Int × Int) × PUnit) => ∃ t b : Nat, x = ((t : Int), hl b, ⟨⟩) ∧ 0 < b ∧ 2 ^ t * b = G ∧ t ≤ 127)
      (μ := fun (x : Int × (Int × Int) × PUnit) => x.1.toNat) (x := ((t : Int), hl b, PUnit.unit)) ?_ ⟨t, b, rfl, b0, by rw [hbg]; exact hg, by omega⟩ (by simp only; omega)
    rintro _ rec ⟨t, b, rfl, b0, hg, ht⟩ hrec
    simp only
    by_cases ht0 : t = 0
    · rw [decide_eq_false (by omega), cond_false, ← hg, ht0]; simp
    · rw [decide_eq_true (by omega), cond_true]
      obtain ⟨s, rfl⟩ : ∃ s, t = s + 1 := ⟨t - 1, by omega⟩
      have h2 : 2 ^ s * (b + b) = G := by rw [← hg, Nat.pow_succ, Nat.mul_assoc]; congr 1; omega
      have h3 : b + b ≤ G := by
        rw [← h2]
        exact Nat.le_mul_of_pos_left _ (Nat.pow_pos (by omega))
      rw [Plus_ok (by omega), obind_some', wrap_id (by omega) (by omega)]
      exact hrec _ ⟨s, b + b, by simp only [Prod.mk.injEq, and_true]; omega, by omega, h2, by omega⟩ (by simp only; omega)
  rw [decide_eq_false ha0, Bool.not_false, cond_true]
  refine lpK_loop (g := fun _ => some (hl G)) (I := fun (x : (Int × Int) × PUnit) => ∃ c : Nat, x = (hl c, ⟨⟩) ∧ 0 < c ∧ c < 340282366920938463463374607431768211456 ∧ Nat.gcd c b = g ∧ (c = a ∨ 2 * c ≤ a))
    (μ := fun (x : (Int × Int) × PUnit) => Nat.log2 (unhl x.1)) (x := (hl a, PUnit.unit)) ?_ ⟨a, rfl, by omega, a1, hgd, .inl rfl⟩ (by simp only [unhl_hl]; have := log2_128 a1; omega)
  rintro _ rec3 ⟨c, rfl, c0, c1, hgc, hca⟩ hrec3
  simp only [even_hl]
  by_cases hce : c % 2 = 0
  · rw [decide_eq_true hce, cond_true, Half_ok c1, obind_some']
    have hl2 := log2_half (a := c) (by omega)
    exact hrec3 _ ⟨c / 2, rfl, by omega, by omega, by rw [gcd_half hce (by rw [hgc]; exact hodd), hgc], .inr (by omega)⟩ (by simp only [unhl_hl]; omega)
  rw [decide_eq_false hce, cond_false]
  clear hrec3
  refine lpK_loop (g := fun _ => some (hl G)) (I := fun (x : (Int × Int) × PUnit) => ∃ d : Nat, x = (hl d, ⟨⟩) ∧ 0 < d ∧ d ≤ b ∧ Nat.gcd c d = g)
    (μ := fun (x : (Int × Int) × PUnit) => Nat.log2 (unhl x.1)) (x := (hl b, PUnit.unit)) ?_ ⟨b, rfl, b0, Nat.le_refl _, hgc⟩ (by simp only [unhl_hl]; have := log2_128 b1; omega)
  rintro _ rec4 ⟨d, rfl, d0, d1, hgd'⟩ hrec4
  simp only [even_hl]
  by_cases hde : d % 2 = 0
  · rw [decide_eq_true hde, cond_true, Half_ok (by omega), obind_some']
    have hl2 := log2_half (a := d) (by omega)
    exact hrec4 _ ⟨d / 2, rfl, by omega, by omega, by rw [Nat.gcd_comm, gcd_half hde (by rw [Nat.gcd_comm, hgd']; exact hodd), Nat.gcd_comm, hgd']⟩ (by simp only [unhl_hl]; omega)
  rw [decide_eq_false hde, cond_false, Less_ok, obind_some']
  clear hrec4
  have lb := log2_mono d1
  have la : Nat.log2 c + 1 ≤ Nat.log2 a + a % 2 := by
    rcases hca with rfl | h
    · omega
    · have := log2_dbl c0 h; omega
  by_cases hlt : c < d
  · rw [decide_eq_true hlt, cond_true, Minus_ok (by omega) (by omega), obind_some']
    have l1 := log2_mono (show d - c ≤ d by omega)
    exact hrec _ ⟨d - c, c, rfl, by omega, c0, c1, by rw [Nat.gcd_sub_self_left (by omega), Nat.gcd_comm, hgd']⟩ (by simp only [unhl_hl]; omega)
  · rw [decide_eq_false hlt, cond_false, Minus_ok (by omega) (by omega), obind_some']
    have l1 := log2_mono (show c - d ≤ c by omega)
    exact hrec _ ⟨c - d, d, rfl, by omega, d0, by omega, by rw [Nat.gcd_sub_self_left (by omega), hgd']⟩ (by simp only [unhl_hl]; omega)

end Go.Proofs.Ytghjblbkbelcfaa
