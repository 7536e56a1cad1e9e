/- Fractions of the reference: numbers of two words, their greatest common divisors and quotients. Fractions of the reference: 'Div', 'Made', 'Make', 'Times', 'Floor', 'Ceil'. Numbers of 128 bits: sums, differences, comparisons; the length of a number. The quotient of a number of 128 bits by one of 64. Fractions: 'Add' of package ratio. Names: both programs know the same ones. Points: valid ones, squares of ways, roots. Loops over lists: searches and tests of all elements. Bridles: both programs know the same valid ones; the length of a leg. Bridles: valid ones. Bridles: the pulls. Bridles: both programs find the same pulls. Bridles: the pulls of a valid bridle, by both programs. Bridles: the reference's pulls. Bridles: the reference's pulls of three legs, and of all. Bridles: the spans of tensions. The law's example, and what it leaves out. Lists of pulls. Bridles: what 'Check' answers. Fractions: 'Add', 'Valid', 'All' of the reference. The law BridlePulls: 'Check' of both for any fractions. -/
import Derived.Laws.StructEq
import Derived.Test.YtghjblbkbelcfaaGreatMgH

namespace Go.Proofs.YtghjblbkbelcfaaGreat
open Tryz Dn Dn.Sh

theorem fdiv_of {n d : Int} (h : 0 ≤ d) : Int.fdiv n d = n / d := Int.fdiv_eq_ediv_of_nonneg n h

theorem Half_ok {n : Nat} (_ : n < 340282366920938463463374607431768211456) : ref02_Half (hl n) = some (hl (n / 2)) := by
  simp only [ref02_Half, ref02_Half_b, show decide ((0 : Int) ≤ 1) = true from rfl, show decide ((0 : Int) ≤ 63) = true from rfl, cond_true, show (2 : Int) ^ (1 : Nat) = 2 from rfl, show (2 : Int) ^ (63 : Nat) = 9223372036854775808 from rfl, IntKind.wrap_u64, fdiv_of (show (0 : Int) ≤ 2 by omega), hl]
  congr 1
  ext <;> simp only <;> omega

theorem Less_ok {a b : Nat} : ref02_Less (hl a) (hl b) = some (decide (a < b)) := by
  simp only [ref02_Less, ref02_Less_b]
  have e : decide (a < b) = (bif decide ((hl a).1 < (hl b).1) then true else bif decide ((hl a).1 = (hl b).1) then decide ((hl a).2 < (hl b).2) else false) := by
    by_cases c1 : (hl a).1 < (hl b).1
    · simp only [c1, decide_true, cond_true]
      simp only [hl] at c1
      exact decide_eq_true (by omega)
    · by_cases c2 : (hl a).1 = (hl b).1
      · rw [decide_eq_false c1, decide_eq_true c2, cond_true, cond_false]
        have e2 : a < b ↔ (hl a).2 < (hl b).2 := by
          simp only [hl] at c1 c2 ⊢
          omega
        rw [Bool.eq_iff_iff, decide_eq_true_iff, decide_eq_true_iff]
        exact e2
      · simp only [c1, c2, decide_false, cond_false]
        simp only [hl] at c1 c2
        exact decide_eq_false (by omega)
  rw [e]
  cases decide ((hl a).1 < (hl b).1) <;> cases decide ((hl a).1 = (hl b).1) <;> rfl

theorem Minus_ok {a b : Nat} (h : b ≤ a) (ha : a < 340282366920938463463374607431768211456) : ref02_Minus (hl a) (hl b) = some (hl (a - b)) := by
  simp only [ref02_Minus, ref02_Minus_b]
  by_cases hc : (hl a).2 < (hl b).2
  · rw [decide_eq_true hc, cond_true]
    simp only [IntKind.wrap_u64, hl] at hc ⊢
    congr 1
    ext <;> simp only <;> omega
  · rw [decide_eq_false hc, cond_false]
    simp only [IntKind.wrap_u64, hl] at hc ⊢
    congr 1
    ext <;> simp only <;> omega

/-- A difference that lost a bit in front. -/
theorem Minus_over {a b : Nat} (h : b ≤ a) (hb : a - b < 340282366920938463463374607431768211456) (_ : b < 340282366920938463463374607431768211456) : ref02_Minus (hl (a % 340282366920938463463374607431768211456)) (hl b) = some (hl (a - b)) := by
  simp only [ref02_Minus, ref02_Minus_b]
  by_cases hc : (hl (a % 340282366920938463463374607431768211456)).2 < (hl b).2
  · rw [decide_eq_true hc, cond_true]
    simp only [IntKind.wrap_u64, hl] at hc ⊢
    congr 1
    ext <;> simp only <;> omega
  · rw [decide_eq_false hc, cond_false]
    simp only [IntKind.wrap_u64, hl] at hc ⊢
    congr 1
    ext <;> simp only <;> omega

theorem Plus_ok {m n : Nat} (h : m + n < 340282366920938463463374607431768211456) : ref02_Plus (hl m) (hl n) = some (hl (m + n)) := by
  simp only [ref02_Plus, ref02_Plus_b]
  by_cases hc : IntKind.wrap .u64 ((hl m).2 + (hl n).2) < (hl m).2
  · rw [decide_eq_true hc, cond_true]
    simp only [IntKind.wrap_u64, hl] at hc ⊢
    congr 1
    ext <;> simp only <;> omega
  · rw [decide_eq_false hc, cond_false]
    simp only [IntKind.wrap_u64, hl] at hc ⊢
    congr 1
    ext <;> simp only <;> omega

theorem low1 {x : Int} (h1 : 0 ≤ x) (h2 : x < 18446744073709551616) : IntKind.wrap .u64 ((Nat.land (Int.toNat (x % Int.ofNat 18446744073709551616)) (Int.toNat ((1 : Int) % Int.ofNat 18446744073709551616)) : Nat) : Int) = x % 2 := by
  have e1 : x % Int.ofNat 18446744073709551616 = x := Int.emod_eq_of_lt h1 h2
  have e2 : Int.toNat ((1 : Int) % Int.ofNat 18446744073709551616) = 2 ^ 1 - 1 := by decide
  rw [e1, e2]
  have : Nat.land x.toNat (2 ^ 1 - 1) = x.toNat % 2 ^ 1 := Nat.and_two_pow_sub_one_eq_mod x.toNat 1
  rw [this, IntKind.wrap_u64]
  omega
theorem even_hl {n : Nat} : decide (IntKind.wrap .u64 ((Nat.land (Int.toNat ((hl n).2 % Int.ofNat 18446744073709551616)) (Int.toNat ((1 : Int) % Int.ofNat 18446744073709551616)) : Nat) : Int) = 0) = decide (n % 2 = 0) := by
  rw [low1 (by simp only [hl]; omega) (by simp only [hl]; omega)]
  rw [Bool.eq_iff_iff, decide_eq_true_iff, decide_eq_true_iff]
  simp only [hl]
  omega
theorem zero_hl {n : Nat} (h : n < 340282366920938463463374607431768211456) : (decide ((hl n).1 = 0) && (decide ((hl n).2 = 0) && true)) = decide (n = 0) := by
  rw [Bool.and_true, Bool.eq_iff_iff, Bool.and_eq_true, decide_eq_true_iff, decide_eq_true_iff, decide_eq_true_iff]
  simp only [hl]
  omega

/-- The number that two words are. -/
def unhl (p : Int × Int) : Nat := p.1.toNat * 18446744073709551616 + p.2.toNat
theorem unhl_hl {n : Nat} : unhl (hl n) = n := by
  simp only [unhl, hl]; omega

theorem gcd_half {a b : Nat} (ha : a % 2 = 0) (h : Nat.gcd a b % 2 = 1) : Nat.gcd (a / 2) b = Nat.gcd a b := by
  have h2 : a / 2 ∣ a := Nat.div_dvd_of_dvd (Nat.dvd_of_mod_eq_zero ha)
  refine Nat.dvd_antisymm (Nat.dvd_gcd (Nat.dvd_trans (Nat.gcd_dvd_left _ _) h2) (Nat.gcd_dvd_right _ _)) (Nat.dvd_gcd ?_ (Nat.gcd_dvd_right _ _))
  have h3 : Nat.gcd a b ∣ 2 * (a / 2) := by rw [show 2 * (a / 2) = a by omega]; exact Nat.gcd_dvd_left _ _
  refine Nat.Coprime.dvd_of_dvd_mul_left ?_ h3
  show Nat.gcd (Nat.gcd a b) 2 = 1
  rw [Nat.gcd_comm, Nat.gcd_rec, h]
  rfl

theorem log2_half {a : Nat} (h : 2 ≤ a) : Nat.log2 (a / 2) + 1 = Nat.log2 a := by
  conv => rhs; rw [Nat.log2_def]
  rw [if_pos h]
theorem log2_mono {a b : Nat} (h : a ≤ b) : Nat.log2 a ≤ Nat.log2 b := by
  by_cases ha : a = 0
  · subst ha; simp
  · have hb : b ≠ 0 := by omega
    rw [Nat.le_log2 hb]
    exact Nat.le_trans ((Nat.le_log2 ha).1 (Nat.le_refl _)) h
theorem log2_dbl {a b : Nat} (ha : 0 < a) (h : 2 * a ≤ b) : Nat.log2 a + 1 ≤ Nat.log2 b := by
  have h1 := log2_half (a := b) (by omega)
  have := log2_mono (show a ≤ b / 2 by omega)
  omega
theorem log2_128 {a : Nat} (h : a < 340282366920938463463374607431768211456) : Nat.log2 a ≤ 127 := by
  by_cases ha : a = 0
  · subst ha; simp
  · have : Nat.log2 a < 128 := (Nat.log2_lt ha).2 h
    omega

theorem Gcd_ok {A B : Nat} (hA : A < 340282366920938463463374607431768211456) (hB0 : 0 < B) (hB : B < 340282366920938463463374607431768211456) : ref02_Gcd (hl A) (hl B) = some (hl (Nat.gcd A B)) := by
  simp only [ref02_Gcd, ref02_Gcd_b]
  rw [zero_hl hA]
  by_cases hA0 : A = 0
  · rw [decide_eq_true hA0, cond_true, hA0, Nat.gcd_zero_left]
  rw [decide_eq_false hA0, cond_false]
  have hG : Nat.gcd A B ≤ B := Nat.le_of_dvd hB0 (Nat.gcd_dvd_right A B)
  have hGdef : ∃ G, G = Nat.gcd A B := ⟨_, rfl⟩
  obtain ⟨G, hGd⟩ := hGdef
  rw [← hGd]
  refine lpK_loop (g := fun _ => some (hl G)) (I := fun (x : Int × (Int × Int) × (Int × Int) × PUnit) => ∃ t a b : Nat, x = ((t : Int), hl a, hl b, ⟨⟩) ∧ 0 < a ∧ a < 340282366920938463463374607431768211456 ∧ 0 < b ∧ b < 340282366920938463463374607431768211456 ∧ 2 ^ t * Nat.gcd a b = G ∧ t + Nat.log2 a ≤ 127)
    (μ := fun (x : Int × (Int × Int) × (Int × Int) × PUnit) => Nat.log2 (unhl x.2.1)) (x := ((0 : Int), hl A, hl B, PUnit.unit)) ?_ ⟨0, A, B, rfl, by omega, hA, hB0, hB, by rw [hGd]; simp, by have := log2_128 hA; omega⟩ (by simp only [unhl_hl]; have := log2_128 hA; omega)
  rintro _ rec ⟨t, a, b, rfl, a0, a1, b0, b1, hg, ht⟩ hrec
  simp only [even_hl, not_or_self', cond_true]
  by_cases hev : a % 2 = 0 ∧ b % 2 = 0
  · rw [decide_eq_true hev.1, cond_true, decide_eq_true hev.2, cond_true, Half_ok a1, obind_some', Half_ok b1, obind_some', wrap_id (by omega) (by omega)]
    have hl2 := log2_half (a := a) (by omega)
    refine hrec _ ⟨t + 1, a / 2, b / 2, by rfl, by omega, by omega, by omega, by omega, ?_, by omega⟩ (by simp only [unhl_hl]; omega)
    rw [← hg, Nat.pow_succ, Nat.mul_assoc, ← Nat.gcd_mul_left, show 2 * (a / 2) = a by omega, show 2 * (b / 2) = b by omega]
  have hodd : Nat.gcd a b % 2 = 1 := by
    rcases Nat.mod_two_eq_zero_or_one (Nat.gcd a b) with h | h
    · exfalso
      have h2 := Nat.dvd_of_mod_eq_zero h
      exact hev ⟨Nat.mod_eq_zero_of_dvd (Nat.dvd_trans h2 (Nat.gcd_dvd_left a b)), Nat.mod_eq_zero_of_dvd (Nat.dvd_trans h2 (Nat.gcd_dvd_right a b))⟩
    · exact h
  have hcond : (bif decide (a % 2 = 0) then decide (b % 2 = 0) else false) = false := by
    rw [Bool.eq_false_iff]
    intro h
    by_cases h2 : a % 2 = 0
    · rw [decide_eq_true h2, cond_true, decide_eq_true_iff] at h
      exact hev ⟨h2, h⟩
    · rw [decide_eq_false h2, cond_false] at h
      cases h
  rw [hcond, cond_false]
  clear hcond hrec
  generalize hgd : Nat.gcd a b = g at *
  refine lpK_loop (g := fun _ => some (hl G)) (I := fun (x : (Int × Int) × (Int × Int) × PUnit) => ∃ a b : Nat, x = (hl a, hl b, ⟨⟩) ∧ a < 340282366920938463463374607431768211456 ∧ 0 < b ∧ b < 340282366920938463463374607431768211456 ∧ Nat.gcd a b = g)
    (μ := fun (x : (Int × Int) × (Int × Int) × PUnit) => Nat.log2 (unhl x.1) + Nat.log2 (unhl x.2.1) + unhl x.1 % 2) (x := (hl a, hl b, PUnit.unit)) ?_ ⟨a, b, rfl, a1, b0, b1, hgd⟩ (by simp only [unhl_hl]; have := log2_128 a1; have := log2_128 b1; omega)
  clear hgd hev a0 a1 b0 b1
  rintro _ rec ⟨a, b, rfl, a1, b0, b1, hgd⟩ hrec
  simp only [zero_hl a1]
  by_cases ha0 : a = 0
  · rw [decide_eq_true ha0, Bool.not_true, cond_false]
    have hbg : b = g := by rw [← hgd, ha0, Nat.gcd_zero_left]
    refine lpK_loop (g := fun _ => some (hl G)) (I := fun (x : Int × (Int × Int) × PUnit) => ∃ t b : Nat, x = ((t : Int), hl b, ⟨⟩) ∧ 0 < b ∧ 2 ^ t * b = G ∧ t ≤ 127)
      (μ := fun (x : Int × (Int × Int) × PUnit) => x.1.toNat) (x := ((t : Int), hl b, PUnit.unit)) ?_ ⟨t, b, rfl, b0, by rw [hbg]; exact hg, by omega⟩ (by simp only; omega)
    rintro _ rec ⟨t, b, rfl, b0, hg, ht⟩ hrec
    simp only
    by_cases ht0 : t = 0
    · rw [decide_eq_false (by omega), cond_false, ← hg, ht0]; simp
    · rw [decide_eq_true (by omega), cond_true]
      obtain ⟨s, rfl⟩ : ∃ s, t = s + 1 := ⟨t - 1, by omega⟩
      have h2 : 2 ^ s * (b + b) = G := by rw [← hg, Nat.pow_succ, Nat.mul_assoc]; congr 1; omega
      have h3 : b + b ≤ G := by
        rw [← h2]
        exact Nat.le_mul_of_pos_left _ (Nat.pow_pos (by omega))
      rw [Plus_ok (by omega), obind_some', wrap_id (by omega) (by omega)]
      exact hrec _ ⟨s, b + b, by simp only [Prod.mk.injEq, and_true]; omega, by omega, h2, by omega⟩ (by simp only; omega)
  rw [decide_eq_false ha0, Bool.not_false, cond_true]
  refine lpK_loop (g := fun _ => some (hl G)) (I := fun (x : (Int × Int) × PUnit) => ∃ c : Nat, x = (hl c, ⟨⟩) ∧ 0 < c ∧ c < 340282366920938463463374607431768211456 ∧ Nat.gcd c b = g ∧ (c = a ∨ 2 * c ≤ a))
    (μ := fun (x : (Int × Int) × PUnit) => Nat.log2 (unhl x.1)) (x := (hl a, PUnit.unit)) ?_ ⟨a, rfl, by omega, a1, hgd, .inl rfl⟩ (by simp only [unhl_hl]; have := log2_128 a1; omega)
  rintro _ rec3 ⟨c, rfl, c0, c1, hgc, hca⟩ hrec3
  simp only [even_hl]
  by_cases hce : c % 2 = 0
  · rw [decide_eq_true hce, cond_true, Half_ok c1, obind_some']
    have hl2 := log2_half (a := c) (by omega)
    exact hrec3 _ ⟨c / 2, rfl, by omega, by omega, by rw [gcd_half hce (by rw [hgc]; exact hodd), hgc], .inr (by omega)⟩ (by simp only [unhl_hl]; omega)
  rw [decide_eq_false hce, cond_false]
  clear hrec3
  refine lpK_loop (g := fun _ => some (hl G)) (I := fun (x : (Int × Int) × PUnit) => ∃ d : Nat, x = (hl d, ⟨⟩) ∧ 0 < d ∧ d ≤ b ∧ Nat.gcd c d = g)
    (μ := fun (x : (Int × Int) × PUnit) => Nat.log2 (unhl x.1)) (x := (hl b, PUnit.unit)) ?_ ⟨b, rfl, b0, Nat.le_refl _, hgc⟩ (by simp only [unhl_hl]; have := log2_128 b1; omega)
  rintro _ rec4 ⟨d, rfl, d0, d1, hgd'⟩ hrec4
  simp only [even_hl]
  by_cases hde : d % 2 = 0
  · rw [decide_eq_true hde, cond_true, Half_ok (by omega), obind_some']
    have hl2 := log2_half (a := d) (by omega)
    exact hrec4 _ ⟨d / 2, rfl, by omega, by omega, by rw [Nat.gcd_comm, gcd_half hde (by rw [Nat.gcd_comm, hgd']; exact hodd), Nat.gcd_comm, hgd']⟩ (by simp only [unhl_hl]; omega)
  rw [decide_eq_false hde, cond_false, Less_ok, obind_some']
  clear hrec4
  have lb := log2_mono d1
  have la : Nat.log2 c + 1 ≤ Nat.log2 a + a % 2 := by
    rcases hca with rfl | h
    · omega
    · have := log2_dbl c0 h; omega
  by_cases hlt : c < d
  · rw [decide_eq_true hlt, cond_true, Minus_ok (by omega) (by omega), obind_some']
    have l1 := log2_mono (show d - c ≤ d by omega)
    exact hrec _ ⟨d - c, c, rfl, by omega, c0, c1, by rw [Nat.gcd_sub_self_left (by omega), Nat.gcd_comm, hgd']⟩ (by simp only [unhl_hl]; omega)
  · rw [decide_eq_false hlt, cond_false, Minus_ok (by omega) (by omega), obind_some']
    have l1 := log2_mono (show c - d ≤ c by omega)
    exact hrec _ ⟨c - d, d, rfl, by omega, d0, by omega, by rw [Nat.gcd_sub_self_left (by omega), hgd']⟩ (by simp only [unhl_hl]; omega)

end Go.Proofs.YtghjblbkbelcfaaGreat

namespace Go.Proofs.YtghjblbkbelcfaaGreat
open Tryz Dn Dn.Sh

theorem dbl_hl {n : Nat} : (IntKind.wrap .u64 (IntKind.wrap .u64 ((hl n).1 * 2) + (hl n).2 / 9223372036854775808), IntKind.wrap .u64 ((hl n).2 * 2)) = hl (2 * n % 340282366920938463463374607431768211456) := by
  simp only [IntKind.wrap_u64, hl]
  ext <;> simp only <;> omega
theorem dblb_hl {r a : Nat} (_ : r < 340282366920938463463374607431768211456) (ha : a < 340282366920938463463374607431768211456) : (IntKind.wrap .u64 (IntKind.wrap .u64 ((hl r).1 * 2) + (hl r).2 / 9223372036854775808), IntKind.wrap .u64 (IntKind.wrap .u64 ((hl r).2 * 2) + (hl a).1 / 9223372036854775808)) = hl ((2 * r + 2 * a / 340282366920938463463374607431768211456) % 340282366920938463463374607431768211456) := by
  simp only [IntKind.wrap_u64, hl]
  ext <;> simp only <;> omega
theorem dbl1_hl {q : Nat} (hq : 2 * q + 1 < 340282366920938463463374607431768211456) : (IntKind.wrap .u64 (IntKind.wrap .u64 ((hl q).1 * 2) + (hl q).2 / 9223372036854775808), IntKind.wrap .u64 (IntKind.wrap .u64 ((hl q).2 * 2) + 1)) = hl (2 * q + 1) := by
  simp only [IntKind.wrap_u64, hl]
  ext <;> simp only <;> omega
theorem over_hl {r a : Nat} (hr : r < 340282366920938463463374607431768211456) (ha : a < 340282366920938463463374607431768211456) : decide ((hl r).1 / 9223372036854775808 > 0) = decide (340282366920938463463374607431768211456 ≤ 2 * r + 2 * a / 340282366920938463463374607431768211456) := by
  rw [Bool.eq_iff_iff, decide_eq_true_iff, decide_eq_true_iff]
  simp only [hl]
  omega

theorem divMod_of {t b q r : Nat} (hr : r < b) (h : t = q * b + r) : t / b = q ∧ t % b = r := by
  subst h
  constructor
  · rw [Nat.mul_comm, Nat.mul_add_div (by omega), Nat.div_eq_of_lt hr, Nat.add_zero]
  · rw [Nat.mul_comm, Nat.mul_add_mod, Nat.mod_eq_of_lt hr]

theorem RDiv_ok {A B : Nat} (hA : A < 340282366920938463463374607431768211456) (hB0 : 0 < B) (hB : B < 340282366920938463463374607431768211456) : ref02_Div (hl A) (hl B) = some (hl (A / B), hl (A % B), ()) := by
  simp only [ref02_Div, ref02_Div_b, show decide ((0 : Int) ≤ 1) = true from rfl, show decide ((0 : Int) ≤ 63) = true from rfl, cond_true, not_or_self', show (2 : Int) ^ (1 : Nat) = 2 from rfl, show (2 : Int) ^ (63 : Nat) = 9223372036854775808 from rfl, fdiv_of (show (0 : Int) ≤ 9223372036854775808 by omega), Bool.and_self]
  by_cases hs : A < 18446744073709551616 ∧ B < 18446744073709551616
  · rw [hl_small hs.1, hl_small hs.2]
    have q1 : A / B ≤ A := Nat.div_le_self _ _
    have q2 : A % B ≤ A := Nat.mod_le _ _
    simp only [decide_true, cond_true, nzB_of (show (B : Int) ≠ 0 by omega), tdiv_nat]
    have hq : ((A / B : Nat) : Int) < 18446744073709551616 := by
      generalize A / B = z at *
      omega
    rw [hl_small (show A / B < 18446744073709551616 by omega), hl_small (show A % B < 18446744073709551616 by omega), u_wrap (Int.natCast_nonneg _) hq, Int.tmod_eq_emod_of_nonneg (by omega), Int.natCast_emod]
  · have hc : (bif decide ((hl A).1 = 0) then decide ((hl B).1 = 0) else false) = false := by
      rw [Bool.eq_false_iff]
      intro h
      by_cases h1 : (hl A).1 = 0
      · rw [decide_eq_true h1, cond_true, decide_eq_true_iff] at h
        simp only [hl] at h1 h
        omega
      · rw [decide_eq_false h1, cond_false] at h
        cases h
    rw [hc, cond_false]
    refine lpK_loop (g := fun _ => some (hl (A / B), hl (A % B), ())) (I := fun (x : Int × (Int × Int) × (Int × Int) × (Int × Int) × PUnit) => ∃ i X : Nat, i ≤ 128 ∧ X = A * 2 ^ i ∧ x = ((i : Int), hl (X % 340282366920938463463374607431768211456), hl (X / 340282366920938463463374607431768211456 / B), hl (X / 340282366920938463463374607431768211456 % B), ⟨⟩))
      (μ := fun (x : Int × (Int × Int) × (Int × Int) × (Int × Int) × PUnit) => (128 - x.1).toNat) (x := ((0 : Int), hl A, ((0 : Int), (0 : Int)), ((0 : Int), (0 : Int)), PUnit.unit)) ?_ ⟨0, A, by omega, by simp, by
        rw [Nat.mod_eq_of_lt hA, Nat.div_eq_of_lt hA, Nat.zero_div, Nat.zero_mod]; rfl⟩ (by simp only; omega)
    rintro _ rec ⟨i, X, hi, hX, rfl⟩ hrec
    simp only
    by_cases hlt : i < 128
    · rw [decide_eq_true (show (i : Int) < 128 by omega), cond_true]
      have hX2 : 2 * X = A * 2 ^ (i + 1) := by rw [hX, Nat.pow_succ]; grind
      have hT : 2 * X / 340282366920938463463374607431768211456 ≤ A := by
        have : A * 2 ^ (i + 1) ≤ A * 2 ^ 128 := Nat.mul_le_mul_left _ (Nat.pow_le_pow_right (by omega) (by omega))
        rw [hX2]
        refine Nat.div_le_of_le_mul ?_
        rw [show (2 : Nat) ^ 128 = 340282366920938463463374607431768211456 from rfl, Nat.mul_comm A 340282366920938463463374607431768211456] at this
        exact this
      have ha := Nat.mod_lt X (show 340282366920938463463374607431768211456 > 0 by omega)
      have hr := Nat.mod_lt (X / 340282366920938463463374607431768211456) hB0
      have e1 : 2 * X % 340282366920938463463374607431768211456 = 2 * (X % 340282366920938463463374607431768211456) % 340282366920938463463374607431768211456 := by omega
      have e2 : 2 * X / 340282366920938463463374607431768211456 = 2 * (X / 340282366920938463463374607431768211456) + 2 * (X % 340282366920938463463374607431768211456) / 340282366920938463463374607431768211456 := by omega
      have e3 : X / 340282366920938463463374607431768211456 = X / 340282366920938463463374607431768211456 / B * B + X / 340282366920938463463374607431768211456 % B := by rw [Nat.mul_comm]; exact (Nat.div_add_mod _ _).symm
      have hq : X / 340282366920938463463374607431768211456 / B ≤ X / 340282366920938463463374607431768211456 := Nat.div_le_self _ _
      rw [wrap_id (x := (i : Int) + 1) (by omega) (by omega)]
      have bit : 2 * (X % 340282366920938463463374607431768211456) / 340282366920938463463374607431768211456 ≤ 1 := by omega
      have step : ∀ q r, r < B → 2 * X / 340282366920938463463374607431768211456 = q * B + r → rec ((i : Int) + 1, hl (2 * (X % 340282366920938463463374607431768211456) % 340282366920938463463374607431768211456), hl q, hl r, PUnit.unit) = some (hl (A / B), hl (A % B), ()) := fun q r h1 h2 => by
        obtain ⟨h3, h4⟩ := divMod_of h1 h2
        exact hrec _ ⟨i + 1, 2 * X, by omega, hX2, by rw [h3, h4, e1]; rfl⟩ (by simp only; omega)
      generalize hTd : X / 340282366920938463463374607431768211456 = T at *
      generalize hαd : X % 340282366920938463463374607431768211456 = α at *
      generalize hqd : T / B = q at *
      generalize hrd : T % B = r at *
      have hq2 : 2 * q + 1 < 340282366920938463463374607431768211456 := by
        by_cases hq0 : q = 0
        · omega
        · have h1 : q * 1 ≤ q * B := Nat.mul_le_mul_left _ hB0
          have h2 : A ≤ 340282366920938463463374607431768211455 := by omega
          omega
      rw [over_hl (r := r) (a := α) (by omega) ha, dbl_hl (n := α), dblb_hl (r := r) (a := α) (by omega) ha]
      have hmul2 : 2 * (q * B) = 2 * q * B := by rw [Nat.mul_assoc]
      have hmul3 : (2 * q + 1) * B = 2 * q * B + B := by rw [Nat.add_mul, Nat.one_mul]
      by_cases ho : 340282366920938463463374607431768211456 ≤ 2 * r + 2 * α / 340282366920938463463374607431768211456
      · simp only [decide_eq_true ho, Bool.not_true, Bool.not_false, cond_true, cond_false, Bool.or_self, Bool.and_self, obind_some', Bool.or_true]
        rw [Minus_over (a := 2 * r + 2 * α / 340282366920938463463374607431768211456) (b := B) (by omega) (by omega) hB, obind_some', dbl1_hl hq2]
        exact step _ _ (by omega) (by rw [hmul3]; omega)
      · have hR : (2 * r + 2 * α / 340282366920938463463374607431768211456) % 340282366920938463463374607431768211456 = 2 * r + 2 * α / 340282366920938463463374607431768211456 := Nat.mod_eq_of_lt (by omega)
        simp only [decide_eq_false ho, hR, Bool.not_true, Bool.not_false, cond_true, cond_false, Bool.or_self, Bool.and_self, obind_some', Bool.or_true, Less_ok]
        by_cases hl2 : 2 * r + 2 * α / 340282366920938463463374607431768211456 < B
        · simp only [decide_eq_true hl2, Bool.not_true, cond_false]
          have e := dbl_hl (n := q)
          rw [Nat.mod_eq_of_lt (show 2 * q < 340282366920938463463374607431768211456 by omega)] at e
          rw [e]
          exact step _ _ (by omega) (by omega)
        · simp only [decide_eq_false hl2, Bool.not_false, cond_true]
          rw [Minus_ok (by omega) (by omega), obind_some', dbl1_hl hq2]
          exact step _ _ (by omega) (by rw [hmul3]; omega)
    · have : i = 128 := by omega
      subst this
      have hx : X / 340282366920938463463374607431768211456 = A := by
        rw [hX]
        exact Nat.mul_div_cancel A (by decide)
      rw [decide_eq_false (by omega), cond_false, hx]

theorem RMade_ok {s : Bool} {n d : Nat} (hn : n < 340282366920938463463374607431768211456) (hd0 : 0 < d) (hd : d < 340282366920938463463374607431768211456) : ref02_Made (hl n) s (hl d) = some (fitQ (mkRat (sgn s n) d)) := by
  have hG0 : 0 < Nat.gcd n d := Nat.gcd_pos_of_pos_right _ hd0
  have hG : Nat.gcd n d ≤ d := Nat.le_of_dvd hd0 (Nat.gcd_dvd_right n d)
  simp only [ref02_Made, ref02_Made_b, not_or_self', or_self_not, cond_true]
  rw [zero_hl hd, decide_eq_false (show ¬ d = 0 by omega), cond_false, Gcd_ok hn hd0 hd, obind_some', RDiv_ok hn hG0 (by omega), obind_some', RDiv_ok hd hG0 (by omega), obind_some']
  obtain ⟨m1, m2, m3⟩ := mkQ_div (s := s) (n := n) (d := d) hd0
  rw [m1, fit_low m2 m3]
  have q1 : n / Nat.gcd n d ≤ n := Nat.div_le_self _ _
  have q2 : d / Nat.gcd n d ≤ d := Nat.div_le_self _ _
  generalize n / Nat.gcd n d = p at *
  generalize d / Nat.gcd n d = q at *
  simp only
  have big : ∀ {x : Nat}, x < 340282366920938463463374607431768211456 → (bif decide ((hl x).1 > 0) then true else decide ((hl x).2 > 1152921504606846976)) = decide (¬ x ≤ 1152921504606846976) := fun {x} hx => by
    by_cases h1 : (hl x).1 > 0
    · rw [decide_eq_true h1, cond_true]
      simp only [hl] at h1
      exact (decide_eq_true (by omega)).symm
    · rw [decide_eq_false h1, cond_false, Bool.eq_iff_iff, decide_eq_true_iff, decide_eq_true_iff]
      simp only [hl] at h1 ⊢
      omega
  rw [big (show p < 340282366920938463463374607431768211456 by omega)]
  by_cases hp : p ≤ 1152921504606846976
  · simp only [hp, not_true_eq_false, decide_false, cond_false, true_and]
    rw [big (show q < 340282366920938463463374607431768211456 by omega)]
    by_cases hq : q ≤ 1152921504606846976
    · simp only [hq, not_true_eq_false, decide_false, cond_false, if_true]
      rw [hl_small (show p < 18446744073709551616 by omega), hl_small (show q < 18446744073709551616 by omega)]
      simp only
      rw [wrap_id (x := (p : Int)) (by omega) (by omega), wrap_id (x := (q : Int)) (by omega) (by omega), wrap_id (x := 0 - (p : Int)) (by omega) (by omega)]
      cases s <;> simp [sgn]
    · simp only [hq, not_false_eq_true, decide_true, cond_true, if_false]
  · simp only [hp, not_false_eq_true, decide_true, cond_true, false_and, if_false]

theorem RMade_zero {s : Bool} {n : Int × Int} : ref02_Made n s (0, 0) = some ((0, 0), 16, ()) := by
  simp only [ref02_Made, ref02_Made_b]
  rfl

theorem RSize_ok {x : Int} (h1 : -9223372036854775808 ≤ x) (h2 : x < 9223372036854775808) : ref02_Size x = some (x.natAbs : Int) := by
  simp only [ref02_Size, ref02_Size_b]
  by_cases h : x < 0
  · simp only [h, decide_true, cond_true]
    rw [IntKind.wrap_u64, IntKind.wrap_u64]
    congr 1; omega
  · simp only [h, decide_false, cond_false]
    rw [u_wrap (by omega) (by omega)]
    congr 1; omega

theorem not_dec_eq {a b : Prop} [Decidable a] [Decidable b] : (!decide (decide a = decide b)) = (decide a != decide b) := by
  cases decide a <;> cases decide b <;> rfl

theorem RMake_ok {n d : Int} (h1 : -9223372036854775808 ≤ n) (h2 : n < 9223372036854775808) (h3 : -9223372036854775808 ≤ d) (h4 : d < 9223372036854775808) :
    ref02_Make n d = some (if d = 0 then ((0, 0), 16, ()) else fitQ (divQ n d)) := by
  simp only [ref02_Make, ref02_Make_b]
  rw [RSize_ok h1 h2, obind_some', RSize_ok h3 h4, obind_some', not_dec_eq]
  by_cases hd : d = 0
  · subst hd
    rw [if_pos rfl, show ((0 : Int), (((0 : Int).natAbs : Nat) : Int)) = (0, 0) from rfl, RMade_zero, obind_some']
  · rw [if_neg hd, ← hl_small (show n.natAbs < 18446744073709551616 by omega), ← hl_small (show d.natAbs < 18446744073709551616 by omega), RMade_ok (by omega) (by omega) (by omega), obind_some']
    rfl

theorem RMul_ok {m n : Nat} (hm : m < 18446744073709551616) (hn : n < 18446744073709551616) : ref02_Mul (m : Int) (n : Int) = some (hl (m * n)) := by
  have x0 : 0 ≤ (m : Int) := by omega
  have x1 : (m : Int) < 18446744073709551616 := by omega
  have y0 : 0 ≤ (n : Int) := by omega
  have y1 : (n : Int) < 18446744073709551616 := by omega
  have hmn : ((m * n : Nat) : Int) = (m : Int) * n := Int.natCast_mul m n
  simp only [hl, Int.natCast_ediv, Int.natCast_emod, hmn]
  generalize (m : Int) = x at *
  generalize (n : Int) = y at *
  have p32 : (2 : Int) ^ (32 : Nat) = 4294967296 := by decide
  simp only [ref02_Mul, ref02_Mul_b, p32, show decide ((0 : Int) ≤ 32) = true from rfl, cond_true]
  obtain ⟨a, b, ha, hb, hx⟩ : ∃ a b, a = x / 4294967296 ∧ b = x % 4294967296 ∧ x = a * 4294967296 + b := ⟨_, _, rfl, rfl, by omega⟩
  obtain ⟨c, d, hc, hd, hy⟩ : ∃ c d, c = y / 4294967296 ∧ d = y % 4294967296 ∧ y = c * 4294967296 + d := ⟨_, _, rfl, rfl, by omega⟩
  rw [land32 x0 x1, land32 y0 y1, ← hb, ← hd]
  simp only [fdiv_of (show (0 : Int) ≤ 4294967296 by omega), ← ha, ← hc]
  have a0 : 0 ≤ a ∧ a ≤ 4294967295 := by omega
  have b0 : 0 ≤ b ∧ b ≤ 4294967295 := by omega
  have c0 : 0 ≤ c ∧ c ≤ 4294967295 := by omega
  have d0 : 0 ≤ d ∧ d ≤ 4294967295 := by omega
  have mb : ∀ {m n : Int}, 0 ≤ m ∧ m ≤ 4294967295 → 0 ≤ n ∧ n ≤ 4294967295 → 0 ≤ m * n ∧ m * n ≤ 18446744065119617025 := fun {m n} hm hn => ⟨Int.mul_nonneg hm.1 hn.1, Int.le_trans (Int.mul_le_mul hm.2 hn.2 hn.1 (by omega)) (by decide)⟩
  have e1 := mb a0 c0
  have e2 := mb a0 d0
  have e3 := mb b0 c0
  have e4 := mb b0 d0
  have hxy : x * y = a * c * 18446744073709551616 + (a * d + b * c) * 4294967296 + b * d := by rw [hx, hy]; grind
  rw [hxy]
  rw [u_wrap (x := b) (by omega) (by omega), u_wrap (x := d) (by omega) (by omega)]
  rw [u_wrap (x := b * d) (by omega) (by omega), u_wrap (x := a * d) (by omega) (by omega), u_wrap (x := b * c) (by omega) (by omega), u_wrap (x := a * c) (by omega) (by omega)]
  generalize b * d = bd at *
  generalize a * d = ad at *
  generalize b * c = bc at *
  generalize a * c = ac at *
  rw [u_wrap (x := ad + bd / 4294967296) (by omega) (by omega)]
  generalize ht : ad + bd / 4294967296 = t
  rw [land32 (by omega) (by omega), land32 (by omega) (by omega)]
  rw [u_wrap (x := t % 4294967296) (by omega) (by omega), u_wrap (x := bd % 4294967296) (by omega) (by omega)]
  rw [u_wrap (x := bc + t % 4294967296) (by omega) (by omega), u_wrap (x := ac + t / 4294967296) (by omega) (by omega)]
  rw [u_wrap (x := ac + t / 4294967296 + (bc + t % 4294967296) / 4294967296) (by omega) (by omega)]
  rw [IntKind.wrap_u64 ((bc + t % 4294967296) * 4294967296), IntKind.wrap_u64]
  congr 1
  ext <;> simp only <;> omega

theorem RTimes_ok {a b : Fq} (ha : okF a) (hb : okF b) : ref02_Times a b = some (fitQ (qv a * qv b)) := by
  have ha' := ha
  have hb' := hb
  obtain ⟨⟨a1, a2⟩, ⟨a3, a4⟩, _⟩ := ha'
  obtain ⟨⟨b1, b2⟩, ⟨b3, b4⟩, _⟩ := hb'
  simp only [ref02_Times, ref02_Times_b]
  rw [RSize_ok (by omega) (by omega), obind_some', RSize_ok (by omega) (by omega), obind_some', RMul_ok (by omega) (by omega), obind_some', RSize_ok (by omega) (by omega), obind_some', RSize_ok (by omega) (by omega), obind_some', RMul_ok (by omega) (by omega), obind_some', not_dec_eq]
  have bd : ∀ {x y : Nat}, x ≤ 1152921504606846976 → y ≤ 1152921504606846976 → x * y < 340282366920938463463374607431768211456 := fun {x y} hx hy => Nat.lt_of_le_of_lt (Nat.mul_le_mul hx hy) (by decide)
  rw [RMade_ok (bd (by omega) (by omega)) (Nat.mul_pos (by omega) (by omega)) (bd (by omega) (by omega)), obind_some', okF_mkQ a, okF_mkQ b, mkQ_mul, show a.2.natAbs = a.2.toNat by omega, show b.2.natAbs = b.2.toNat by omega]

end Go.Proofs.YtghjblbkbelcfaaGreat

namespace Go.Proofs.YtghjblbkbelcfaaGreat
open Tryz Dn Dn.Sh

theorem rLess_ok {a b : Nat} : ratio_less (hl a) (hl b) = some (decide (a < b)) := by
  simp only [ratio_less, ratio_less_b]
  have e : decide (a < b) = (bif decide ((hl a).1 < (hl b).1) then true else bif decide ((hl a).1 = (hl b).1) then decide ((hl a).2 < (hl b).2) else false) := by
    by_cases c1 : (hl a).1 < (hl b).1
    · simp only [c1, decide_true, cond_true]
      simp only [hl] at c1
      exact decide_eq_true (by omega)
    · by_cases c2 : (hl a).1 = (hl b).1
      · rw [decide_eq_false c1, decide_eq_true c2, cond_true, cond_false]
        have e2 : a < b ↔ (hl a).2 < (hl b).2 := by
          simp only [hl] at c1 c2 ⊢
          omega
        rw [Bool.eq_iff_iff, decide_eq_true_iff, decide_eq_true_iff]
        exact e2
      · simp only [c1, c2, decide_false, cond_false]
        simp only [hl] at c1 c2
        exact decide_eq_false (by omega)
  rw [e]
  cases decide ((hl a).1 < (hl b).1) <;> cases decide ((hl a).1 = (hl b).1) <;> rfl

theorem addC_hl {m n : Nat} : addC (hl m).2 (hl n).2 0 = (((m % 18446744073709551616 + n % 18446744073709551616) / 18446744073709551616 : Nat) : Int) := by
  simp only [addC, hl, Int.toNat_natCast, Int.toNat_zero, Nat.add_zero]
  rfl
theorem subC_hl {m n : Nat} : subC (hl m).2 (hl n).2 0 = (((if m % 18446744073709551616 < n % 18446744073709551616 then 1 else 0 : Nat) : Nat) : Int) := by
  simp only [subC, hl, Int.toNat_natCast, Int.toNat_zero, Nat.add_zero]
  cases h : Nat.blt (m % 18446744073709551616) (n % 18446744073709551616) with
  | true =>
    have h' : m % 18446744073709551616 < n % 18446744073709551616 := by simpa [Nat.blt_eq] using h
    rw [if_pos h']; rfl
  | false =>
    have h' : ¬ m % 18446744073709551616 < n % 18446744073709551616 := by
      intro h2
      have : Nat.blt (m % 18446744073709551616) (n % 18446744073709551616) = true := by simpa [Nat.blt_eq] using h2
      rw [this] at h; cases h
    rw [if_neg h']; rfl

theorem rPlus_ok {m n : Nat} (h : m + n < 340282366920938463463374607431768211456) : ratio_plus (hl m) (hl n) = some (hl (m + n)) := by
  simp only [ratio_plus, ratio_plus_b, addC_hl]
  have c1 : decide ((0 : Int) ≤ (0 : Int)) = true := rfl
  have c2 : decide ((0 : Int) ≤ (1 : Int)) = true := rfl
  rw [c1, c2, decide_eq_true (show (0 : Int) ≤ (((m % 18446744073709551616 + n % 18446744073709551616) / 18446744073709551616 : Nat) : Int) by omega), decide_eq_true (show (((m % 18446744073709551616 + n % 18446744073709551616) / 18446744073709551616 : Nat) : Int) ≤ 1 by omega)]
  simp only [Bool.and_self, cT, Option.some.injEq, addO, hl, Int.toNat_natCast, Int.toNat_zero, Nat.add_zero, Prod.mk.injEq]
  constructor
  · show ((_ : Nat) : Int) = ((_ : Nat) : Int)
    omega
  · show ((_ : Nat) : Int) = ((_ : Nat) : Int)
    omega
theorem rMinus_ok {m n : Nat} (h : n ≤ m) (hm : m < 340282366920938463463374607431768211456) : ratio_minus (hl m) (hl n) = some (hl (m - n)) := by
  simp only [ratio_minus, ratio_minus_b, subC_hl]
  have c1 : decide ((0 : Int) ≤ (0 : Int)) = true := rfl
  have c2 : decide ((0 : Int) ≤ (1 : Int)) = true := rfl
  have hb : (if m % 18446744073709551616 < n % 18446744073709551616 then 1 else 0 : Nat) ≤ 1 := by split <;> omega
  have hc : (if m % 18446744073709551616 < n % 18446744073709551616 then 1 else 0 : Nat) = 1 ∧ m % 18446744073709551616 < n % 18446744073709551616 ∨ (if m % 18446744073709551616 < n % 18446744073709551616 then 1 else 0 : Nat) = 0 ∧ ¬ m % 18446744073709551616 < n % 18446744073709551616 := by split <;> simp_all
  generalize (if m % 18446744073709551616 < n % 18446744073709551616 then 1 else 0 : Nat) = c at *
  rw [c1, c2, decide_eq_true (show (0 : Int) ≤ (c : Int) by omega), decide_eq_true (show (c : Int) ≤ 1 by omega)]
  simp only [Bool.and_self, cT, Option.some.injEq, subO, hl, Int.toNat_natCast, Int.toNat_zero, Nat.sub_zero, Prod.mk.injEq]
  constructor
  · show ((_ : Nat) : Int) = ((_ : Nat) : Int)
    omega
  · show ((_ : Nat) : Int) = ((_ : Nat) : Int)
    omega

noncomputable def lenT (T : ByteArray) (a b : Int) : Option Int :=
  bif decide (a ≥ (256 : Int)) then bif decide ((0 : Int) ≤ (8 : Int)) then bif inB (IntKind.wrap .u8 (Int.fdiv a ((2 : Int) ^ (8 : Nat)))) (256 : Nat) then
    some (IntKind.wrap .i64 (IntKind.wrap .i64 (b + (8 : Int)) + IntKind.wrap .i64 (byteAt T (Int.toNat (IntKind.wrap .u8 (Int.fdiv a ((2 : Int) ^ (8 : Nat)))))))) else none else none
  else bif inB (IntKind.wrap .u8 a) (256 : Nat) then some (IntKind.wrap .i64 (b + IntKind.wrap .i64 (byteAt T (Int.toNat (IntKind.wrap .u8 a))))) else none
noncomputable def lenU (T : ByteArray) (a b : Int) : Option Int := bif decide (a ≥ (65536 : Int)) then bif decide ((0 : Int) ≤ (16 : Int)) then lenT T (Int.fdiv a ((2 : Int) ^ (16 : Nat))) (IntKind.wrap .i64 (b + (16 : Int))) else none else lenT T a b
theorem len_table : ∃ T : ByteArray, (∀ i, i < 256 → 0 ≤ byteAt T i ∧ byteAt T i ≤ 8 ∧ (0 < i → i < 2 ^ (byteAt T i).toNat ∧ 2 ^ (byteAt T i).toNat ≤ 2 * i)) ∧
    ∀ x, bits_Len64 x = bif decide (x ≥ (4294967296 : Int)) then bif decide ((0 : Int) ≤ (32 : Int)) then lenU T (Int.fdiv x ((2 : Int) ^ (32 : Nat))) 32 else none else lenU T x 0 :=
  ⟨_, by decide +kernel, fun _ => rfl⟩

/-- The length of a number that is not 0. -/
def isLen (n L : Nat) : Prop := n < 2 ^ L ∧ 2 ^ L ≤ 2 * n
theorem isLen_shift {n k L : Nat} (h : isLen (n / 2 ^ k) L) : isLen n (L + k) := by
  obtain ⟨h1, h2⟩ := h
  have hk : 0 < 2 ^ k := Nat.two_pow_pos k
  unfold isLen
  rw [Nat.pow_add]
  constructor
  · exact (Nat.div_lt_iff_lt_mul hk).1 h1
  · have h3 : n / 2 ^ k * 2 ^ k ≤ n := Nat.div_mul_le_self n _
    have h4 := Nat.mul_le_mul_right (2 ^ k) h2
    rw [Nat.mul_assoc] at h4
    omega
theorem u8_wrap {x : Int} (h1 : 0 ≤ x) (h2 : x < 256) : IntKind.wrap .u8 x = x := by
  rw [IntKind.wrap_u8]; omega
theorem Len64_ok {n : Nat} (h0 : 0 < n) (h1 : n < 18446744073709551616) : ∃ L : Nat, bits_Len64 (n : Int) = some (L : Int) ∧ isLen n L ∧ L ≤ 64 := by
  obtain ⟨T, hT, hx⟩ := len_table
  have tab : ∀ i : Nat, 0 < i → i < 256 → ∃ L : Nat, byteAt T i = L ∧ L ≤ 8 ∧ isLen i L := fun i h2 h3 => by
    obtain ⟨a1, a2, a3⟩ := hT i h3
    exact ⟨(byteAt T i).toNat, by omega, by omega, a3 h2⟩
  have p8 : (2 : Int) ^ (8 : Nat) = 256 := by decide
  have p16 : (2 : Int) ^ (16 : Nat) = 65536 := by decide
  have p32 : (2 : Int) ^ (32 : Nat) = 4294967296 := by decide
  have stepT : ∀ a b : Nat, 0 < a → a < 65536 → b ≤ 48 → ∃ L : Nat, lenT T (a : Int) (b : Int) = some ((L + b : Nat) : Int) ∧ isLen a L ∧ L ≤ 16 := fun a b ha hb hb2 => by
    unfold lenT
    by_cases h : a < 256
    · obtain ⟨L, e1, e2, e3⟩ := tab a ha h
      rw [decide_eq_false (show ¬ (a : Int) ≥ 256 by omega), cond_false, u8_wrap (by omega) (by omega), inB_of (by omega) (by omega), cond_true, Int.toNat_natCast, e1, wrap_id (x := (L : Int)) (by omega) (by omega), wrap_id (by omega) (by omega)]
      exact ⟨L, by congr 1; omega, e3, by omega⟩
    · obtain ⟨L, e1, e2, e3⟩ := tab (a / 256) (by omega) (by omega)
      rw [decide_eq_true (show (a : Int) ≥ 256 by omega), cond_true, show decide ((0 : Int) ≤ 8) = true from rfl, cond_true, p8, fdiv_of (by omega), u8_wrap (by omega) (by omega), inB_of (by omega) (by omega), cond_true, show ((a : Int) / 256).toNat = a / 256 by omega, e1, wrap_id (x := (L : Int)) (by omega) (by omega), wrap_id (x := (b : Int) + 8) (by omega) (by omega), wrap_id (by omega) (by omega)]
      exact ⟨L + 8, by congr 1; omega, isLen_shift (k := 8) e3, by omega⟩
  have stepU : ∀ a b : Nat, 0 < a → a < 4294967296 → b ≤ 32 → ∃ L : Nat, lenU T (a : Int) (b : Int) = some ((L + b : Nat) : Int) ∧ isLen a L ∧ L ≤ 32 := fun a b ha hb hb2 => by
    unfold lenU
    by_cases h : a < 65536
    · obtain ⟨L, e1, e2, e3⟩ := stepT a b ha h (by omega)
      rw [decide_eq_false (show ¬ (a : Int) ≥ 65536 by omega), cond_false, e1]
      exact ⟨L, rfl, e2, by omega⟩
    · obtain ⟨L, e1, e2, e3⟩ := stepT (a / 65536) (b + 16) (by omega) (by omega) (by omega)
      rw [decide_eq_true (show (a : Int) ≥ 65536 by omega), cond_true, show decide ((0 : Int) ≤ 16) = true from rfl, cond_true, p16, fdiv_of (by omega), wrap_id (by omega) (by omega), show (a : Int) / 65536 = ((a / 65536 : Nat) : Int) by omega, show (b : Int) + 16 = ((b + 16 : Nat) : Int) by omega, e1]
      exact ⟨L + 16, by congr 1; omega, isLen_shift (k := 16) e2, by omega⟩
  rw [hx]
  by_cases h : n < 4294967296
  · obtain ⟨L, e1, e2, e3⟩ := stepU n 0 h0 h (by omega)
    rw [decide_eq_false (show ¬ (n : Int) ≥ 4294967296 by omega), cond_false]
    exact ⟨L, e1, e2, by omega⟩
  · obtain ⟨L, e1, e2, e3⟩ := stepU (n / 4294967296) 32 (by omega) (by omega) (by omega)
    rw [decide_eq_true (show (n : Int) ≥ 4294967296 by omega), cond_true, show decide ((0 : Int) ≤ 32) = true from rfl, cond_true, p32, fdiv_of (by omega), show (n : Int) / 4294967296 = ((n / 4294967296 : Nat) : Int) by omega]
    exact ⟨L + 32, e1, isLen_shift (k := 32) e2, by omega⟩

end Go.Proofs.YtghjblbkbelcfaaGreat

namespace Go.Proofs.YtghjblbkbelcfaaGreat
open Tryz Dn Dn.Sh

/-- One digit: the guess is not too small; what a round may conclude. -/
theorem digit_stop {q r U u y1 y0 : Int} (hq : q * y1 + r = U) (hu : 0 ≤ u) (hy : 0 < y1 * 4294967296 + y0) (hge : (U * 4294967296 + u) / (y1 * 4294967296 + y0) ≤ q) (ht : q * y0 ≤ 4294967296 * r + u) : q = (U * 4294967296 + u) / (y1 * 4294967296 + y0) := by
  refine Int.le_antisymm (Int.le_ediv_of_mul_le hy ?_) hge
  rw [Int.mul_add, ← Int.mul_assoc]
  omega
theorem digit_less {q r U u y1 y0 : Int} (hq : q * y1 + r = U) (hy : 0 < y1 * 4294967296 + y0) (hU : U * 4294967296 + u < (y1 * 4294967296 + y0) * 4294967296) (ht : q ≥ 4294967296 ∨ q * y0 > 4294967296 * r + u) : (U * 4294967296 + u) / (y1 * 4294967296 + y0) ≤ q - 1 := by
  have : (U * 4294967296 + u) / (y1 * 4294967296 + y0) < q := by
    refine Int.ediv_lt_of_lt_mul hy ?_
    rcases ht with ht | ht
    · exact Int.lt_of_lt_of_le hU (by rw [Int.mul_comm q]; exact Int.mul_le_mul_of_nonneg_left ht (by omega))
    · rw [Int.mul_add, ← Int.mul_assoc]
      omega
  omega
theorem digit_end {q r U u y1 y0 : Int} (hq : q * y1 + r = U) (hu : 0 ≤ u) (hy : 0 < y1 * 4294967296 + y0) (h0 : 0 ≤ y0 ∧ y0 < 4294967296) (hge : (U * 4294967296 + u) / (y1 * 4294967296 + y0) ≤ q - 1) (hr : r + y1 ≥ 4294967296) (hq2 : 1 ≤ q ∧ q ≤ 4294967297) : q - 1 = (U * 4294967296 + u) / (y1 * 4294967296 + y0) := by
  refine Int.le_antisymm (Int.le_ediv_of_mul_le hy ?_) hge
  have e1 : (q - 1) * y0 ≤ 4294967296 * 4294967295 := Int.mul_le_mul (by omega) (by omega) h0.1 (by omega)
  rw [Int.mul_add, ← Int.mul_assoc, Int.sub_mul q 1 y1, Int.one_mul]
  omega

theorem lor_add {s : Nat} {a b : Nat} (h : b < 2 ^ s) : Nat.lor (a * 2 ^ s) b = a * 2 ^ s + b := by
  have := Nat.two_pow_add_eq_or_of_lt h a
  rw [Nat.mul_comm a]
  exact this.symm

theorem digit_loop {α R : Type} {F : (α → Option R) → α → Option R} {J : Int → Option R} {U u y1 y0 : Int} (enc : Int → Int → α) (dec : α → Int) (hdec : ∀ q r, dec (enc q r) = q)
    (hu : 0 ≤ u) (h0 : 0 ≤ y0 ∧ y0 < 4294967296) (h1 : 2147483648 ≤ y1 ∧ y1 < 4294967296) (hU0 : 0 ≤ U) (hU : U * 4294967296 + u < (y1 * 4294967296 + y0) * 4294967296)
    (hF1 : ∀ again q r, 1 ≤ q → q ≤ 4294967297 → 0 ≤ r → r < 4294967296 → (q ≥ 4294967296 ∨ q * y0 > 4294967296 * r + u) → F again (enc q r) = bif decide (r + y1 ≥ 4294967296) then J (q - 1) else again (enc (q - 1) (r + y1)))
    (hF2 : ∀ again q r, 0 ≤ q → q < 4294967296 → 0 ≤ r → r < 4294967296 → ¬ q * y0 > 4294967296 * r + u → F again (enc q r) = J q)
    {q r : Int} (hq : q * y1 + r = U) (hq0 : 0 ≤ q) (hq2 : q ≤ 4294967297) (hr0 : 0 ≤ r) (hr1 : r < 4294967296) (hge : (U * 4294967296 + u) / (y1 * 4294967296 + y0) ≤ q) :
    lpK α R F (enc q r) = J ((U * 4294967296 + u) / (y1 * 4294967296 + y0)) := by
  have hD : 0 ≤ (U * 4294967296 + u) / (y1 * 4294967296 + y0) := Int.ediv_nonneg (by omega) (by omega)
  refine lpK_loop (g := fun _ => J ((U * 4294967296 + u) / (y1 * 4294967296 + y0))) (I := fun x => ∃ q r, x = enc q r ∧ q * y1 + r = U ∧ 0 ≤ q ∧ q ≤ 4294967297 ∧ 0 ≤ r ∧ r < 4294967296 ∧ (U * 4294967296 + u) / (y1 * 4294967296 + y0) ≤ q) (μ := fun x => (dec x).toNat) ?_ ⟨q, r, rfl, hq, hq0, hq2, hr0, hr1, hge⟩ (by rw [hdec]; omega)
  rintro _ rec ⟨q, r, rfl, hq, hq0, hq2, hr0, hr1, hge⟩ hrec
  have hy : 0 < y1 * 4294967296 + y0 := by omega
  by_cases ht : q ≥ 4294967296 ∨ q * y0 > 4294967296 * r + u
  · have hl := digit_less hq hy hU ht
    rw [hF1 _ _ _ (by omega) hq2 hr0 hr1 ht]
    by_cases hr : r + y1 ≥ 4294967296
    · rw [decide_eq_true hr, cond_true, digit_end hq hu hy h0 hl hr ⟨by omega, hq2⟩]
    · rw [decide_eq_false hr, cond_false]
      refine hrec _ ⟨q - 1, r + y1, rfl, ?_, by omega, by omega, by omega, by omega, hl⟩ (by rw [hdec, hdec]; omega)
      rw [Int.sub_mul, Int.one_mul]; omega
  · rw [not_or] at ht
    rw [hF2 _ _ _ hq0 (by omega) hr0 hr1 ht.2, ← digit_stop hq hu hy hge (by omega)]

/-- What the first guess of a digit is. -/
theorem digit_init {U u y1 y0 : Int} (hu : 0 ≤ u ∧ u < 4294967296) (h0 : 0 ≤ y0 ∧ y0 < 4294967296) (h1 : 2147483648 ≤ y1 ∧ y1 < 4294967296) (hU0 : 0 ≤ U) (hU : U < y1 * 4294967296 + y0) :
    (U / y1) * y1 + (U - U / y1 * y1) = U ∧ 0 ≤ U / y1 ∧ U / y1 ≤ 4294967297 ∧ 0 ≤ U - U / y1 * y1 ∧ U - U / y1 * y1 < 4294967296 ∧ (U * 4294967296 + u) / (y1 * 4294967296 + y0) ≤ U / y1 := by
  have e1 := Int.mul_ediv_add_emod U y1
  have e2 := Int.emod_nonneg U (show y1 ≠ 0 by omega)
  have e3 := Int.emod_lt_of_pos U (show 0 < y1 by omega)
  rw [Int.mul_comm] at e1
  refine ⟨by omega, Int.ediv_nonneg hU0 (by omega), ?_, by omega, by omega, ?_⟩
  · have : U / y1 < 4294967298 := Int.ediv_lt_of_lt_mul (by omega) (by omega)
    omega
  · have : (U * 4294967296 + u) / (y1 * 4294967296 + y0) < U / y1 + 1 := by
      refine Int.ediv_lt_of_lt_mul (by omega) ?_
      have hq : 0 ≤ U / y1 := Int.ediv_nonneg hU0 (by omega)
      have e4 : 0 ≤ (U / y1 + 1) * y0 := Int.mul_nonneg (by omega) h0.1
      rw [Int.mul_add, ← Int.mul_assoc, Int.add_mul (U / y1) 1 y1, Int.one_mul]
      omega
    omega

/-- The second loop of 'Div64', and what follows it. -/
noncomputable def dv2E (y1 y0 Y u0 P q1 un : Int) (q : Int) : Option (Int × Int × Unit) := some (IntKind.wrap .u64 (IntKind.wrap .u64 (q1 * 4294967296) + q), Int.fdiv (IntKind.wrap .u64 (IntKind.wrap .u64 (IntKind.wrap .u64 (un * 4294967296) + u0) - IntKind.wrap .u64 (q * Y))) P, ())
noncomputable def dv2 (y1 y0 Y u0 P q1 un : Int) : Option (Int × Int × Unit) := lpK (Int × Int × PUnit) (Int × Int × PUnit) (fun again x => bif (bif decide (x.2.1 ≥ 4294967296) then true else decide (IntKind.wrap .u64 (x.2.1 * y0) > IntKind.wrap .u64 (IntKind.wrap .u64 (4294967296 * x.1) + u0))) then
  (bif decide (IntKind.wrap .u64 (x.1 + y1) ≥ 4294967296) then dv2E y1 y0 Y u0 P q1 un (IntKind.wrap .u64 (x.2.1 - 1)) else again (IntKind.wrap .u64 (x.1 + y1), IntKind.wrap .u64 (x.2.1 - 1), PUnit.unit)) else dv2E y1 y0 Y u0 P q1 un x.2.1)
  (IntKind.wrap .u64 (un - IntKind.wrap .u64 (IntKind.wrap .u64 (Int.tdiv un y1) * y1)), IntKind.wrap .u64 (Int.tdiv un y1), PUnit.unit)
theorem dv2_ok {y1 y0 u0 P q1 un : Int} (hu : 0 ≤ u0 ∧ u0 < 4294967296) (h0 : 0 ≤ y0 ∧ y0 < 4294967296) (h1 : 2147483648 ≤ y1 ∧ y1 < 4294967296) (hU0 : 0 ≤ un) (hU : un < y1 * 4294967296 + y0) :
    dv2 y1 y0 (y1 * 4294967296 + y0) u0 P q1 un = dv2E y1 y0 (y1 * 4294967296 + y0) u0 P q1 un ((un * 4294967296 + u0) / (y1 * 4294967296 + y0)) := by
  obtain ⟨i1, i2, i3, i4, i5, i6⟩ := digit_init (U := un) hu h0 h1 hU0 hU
  unfold dv2
  rw [Int.tdiv_eq_ediv_of_nonneg hU0]
  have hm : un / y1 * y1 ≤ un := by omega
  have hm0 : 0 ≤ un / y1 * y1 := Int.mul_nonneg i2 (by omega)
  rw [u_wrap (x := un / y1) i2 (by omega), u_wrap (x := un / y1 * y1) hm0 (by omega), u_wrap (x := un - un / y1 * y1) (by omega) (by omega)]
  refine digit_loop (α := Int × Int × PUnit) (enc := fun q r => (r, q, PUnit.unit)) (dec := fun x => x.2.1) (fun _ _ => rfl) hu.1 h0 h1 hU0 (by omega) ?_ ?_ i1 i2 i3 i4 i5 i6
  · intro again q r g1 g2 g3 g4 g5
    have e1 : 0 ≤ q * y0 := Int.mul_nonneg (by omega) h0.1
    have e2 : q * y0 ≤ 4294967297 * 4294967295 := Int.mul_le_mul g2 (by omega) h0.1 (by omega)
    simp only
    rw [u_wrap (x := q * y0) e1 (by omega), u_wrap (x := 4294967296 * r) (by omega) (by omega), u_wrap (x := 4294967296 * r + u0) (by omega) (by omega), u_wrap (x := r + y1) (by omega) (by omega), u_wrap (x := q - 1) (by omega) (by omega)]
    have e : (bif decide (q ≥ 4294967296) then true else decide (q * y0 > 4294967296 * r + u0)) = true := by
      rcases g5 with ht | ht
      · rw [decide_eq_true ht]; rfl
      · rw [decide_eq_true ht]; cases decide (q ≥ 4294967296) <;> rfl
    rw [e, cT]
  · intro again q r g1 g2 g3 g4 g5
    have e1 : 0 ≤ q * y0 := Int.mul_nonneg (by omega) h0.1
    have e2 : q * y0 ≤ 4294967297 * 4294967295 := Int.mul_le_mul (by omega) (by omega) h0.1 (by omega)
    simp only
    rw [u_wrap (x := q * y0) e1 (by omega), u_wrap (x := 4294967296 * r) (by omega) (by omega), u_wrap (x := 4294967296 * r + u0) (by omega) (by omega)]
    rw [decide_eq_false (show ¬ q ≥ 4294967296 by omega), decide_eq_false g5, cF, cF]

/-- The first loop of 'Div64', and what follows it. -/
noncomputable def dv1E (y1 y0 Y u1 u0 P U : Int) (q1 : Int) : Option (Int × Int × Unit) := dv2 y1 y0 Y u0 P q1 (IntKind.wrap .u64 (IntKind.wrap .u64 (IntKind.wrap .u64 (U * 4294967296) + u1) - IntKind.wrap .u64 (q1 * Y)))
noncomputable def dv1 (y1 y0 Y u1 u0 P U : Int) : Option (Int × Int × Unit) := lpK (Int × Int × PUnit) (Int × Int × PUnit) (fun again x => bif (bif decide (x.1 ≥ 4294967296) then true else decide (IntKind.wrap .u64 (x.1 * y0) > IntKind.wrap .u64 (IntKind.wrap .u64 (4294967296 * x.2.1) + u1))) then
  (bif decide (IntKind.wrap .u64 (x.2.1 + y1) ≥ 4294967296) then dv1E y1 y0 Y u1 u0 P U (IntKind.wrap .u64 (x.1 - 1)) else again (IntKind.wrap .u64 (x.1 - 1), IntKind.wrap .u64 (x.2.1 + y1), PUnit.unit)) else dv1E y1 y0 Y u1 u0 P U x.1)
  (IntKind.wrap .u64 (Int.tdiv U y1), IntKind.wrap .u64 (U - IntKind.wrap .u64 (IntKind.wrap .u64 (Int.tdiv U y1) * y1)), PUnit.unit)
theorem dv1_ok {y1 y0 u1 u0 P U : Int} (hu : 0 ≤ u1 ∧ u1 < 4294967296) (h0 : 0 ≤ y0 ∧ y0 < 4294967296) (h1 : 2147483648 ≤ y1 ∧ y1 < 4294967296) (hU0 : 0 ≤ U) (hU : U < y1 * 4294967296 + y0) :
    dv1 y1 y0 (y1 * 4294967296 + y0) u1 u0 P U = dv1E y1 y0 (y1 * 4294967296 + y0) u1 u0 P U ((U * 4294967296 + u1) / (y1 * 4294967296 + y0)) := by
  obtain ⟨i1, i2, i3, i4, i5, i6⟩ := digit_init (U := U) hu h0 h1 hU0 hU
  unfold dv1
  rw [Int.tdiv_eq_ediv_of_nonneg hU0]
  have hm : U / y1 * y1 ≤ U := by omega
  have hm0 : 0 ≤ U / y1 * y1 := Int.mul_nonneg i2 (by omega)
  rw [u_wrap (x := U / y1) i2 (by omega), u_wrap (x := U / y1 * y1) hm0 (by omega), u_wrap (x := U - U / y1 * y1) (by omega) (by omega)]
  refine digit_loop (α := Int × Int × PUnit) (enc := fun q r => (q, r, PUnit.unit)) (dec := fun x => x.1) (fun _ _ => rfl) hu.1 h0 h1 hU0 (by omega) ?_ ?_ i1 i2 i3 i4 i5 i6
  · intro again q r g1 g2 g3 g4 g5
    have e1 : 0 ≤ q * y0 := Int.mul_nonneg (by omega) h0.1
    have e2 : q * y0 ≤ 4294967297 * 4294967295 := Int.mul_le_mul g2 (by omega) h0.1 (by omega)
    simp only
    rw [u_wrap (x := q * y0) e1 (by omega), u_wrap (x := 4294967296 * r) (by omega) (by omega), u_wrap (x := 4294967296 * r + u1) (by omega) (by omega), u_wrap (x := r + y1) (by omega) (by omega), u_wrap (x := q - 1) (by omega) (by omega)]
    have e : (bif decide (q ≥ 4294967296) then true else decide (q * y0 > 4294967296 * r + u1)) = true := by
      rcases g5 with ht | ht
      · rw [decide_eq_true ht]; rfl
      · rw [decide_eq_true ht]; cases decide (q ≥ 4294967296) <;> rfl
    rw [e, cT]
  · intro again q r g1 g2 g3 g4 g5
    have e1 : 0 ≤ q * y0 := Int.mul_nonneg (by omega) h0.1
    have e2 : q * y0 ≤ 4294967297 * 4294967295 := Int.mul_le_mul (by omega) (by omega) h0.1 (by omega)
    simp only
    rw [u_wrap (x := q * y0) e1 (by omega), u_wrap (x := 4294967296 * r) (by omega) (by omega), u_wrap (x := 4294967296 * r + u1) (by omega) (by omega)]
    rw [decide_eq_false (show ¬ q ≥ 4294967296 by omega), decide_eq_false g5, cF, cF]

/-- Both digits. -/
theorem dv_ok {U W Y P : Nat} (hY : 9223372036854775808 ≤ Y) (hY2 : Y < 18446744073709551616) (hW : W < 18446744073709551616) (hU : U < Y) :
    dv1 ((Y : Int) / 4294967296) ((Y : Int) % 4294967296) (Y : Int) ((W : Int) / 4294967296) ((W : Int) % 4294967296) (P : Int) (U : Int) = some ((((U * 18446744073709551616 + W) / Y : Nat) : Int), (((U * 18446744073709551616 + W) % Y / P : Nat) : Int), ()) := by
  have eY : (Y : Int) / 4294967296 * 4294967296 + (Y : Int) % 4294967296 = Y := by omega
  have h1 := dv1_ok (y1 := (Y : Int) / 4294967296) (y0 := (Y : Int) % 4294967296) (u1 := (W : Int) / 4294967296) (u0 := (W : Int) % 4294967296) (P := (P : Int)) (U := (U : Int)) (by omega) (by omega) (by omega) (by omega) (by omega)
  rw [eY] at h1
  rw [h1]
  unfold dv1E
  obtain ⟨A, hA⟩ : ∃ A : Nat, A = U * 4294967296 + W / 4294967296 := ⟨_, rfl⟩
  have hAi : (U : Int) * 4294967296 + (W : Int) / 4294967296 = (A : Int) := by omega
  rw [hAi]
  have hq1 : A / Y < 4294967296 := (Nat.div_lt_iff_lt_mul (by omega)).2 (by omega)
  have d1 := Nat.div_add_mod A Y
  have d2 := Nat.mod_lt A (show Y > 0 by omega)
  rw [show (A : Int) / (Y : Int) = ((A / Y : Nat) : Int) from rfl]
  have hun : IntKind.wrap .u64 (IntKind.wrap .u64 (IntKind.wrap .u64 ((U : Int) * 4294967296) + (W : Int) / 4294967296) - IntKind.wrap .u64 (((A / Y : Nat) : Int) * (Y : Int))) = ((A % Y : Nat) : Int) := by
    rw [← Int.natCast_mul, Nat.mul_comm (A / Y)]
    generalize A / Y = q1 at *
    generalize Y * q1 = m at *
    rw [IntKind.wrap_u64, IntKind.wrap_u64, IntKind.wrap_u64, IntKind.wrap_u64]
    omega
  rw [hun]
  have h2 := dv2_ok (y1 := (Y : Int) / 4294967296) (y0 := (Y : Int) % 4294967296) (u0 := (W : Int) % 4294967296) (P := (P : Int)) (q1 := ((A / Y : Nat) : Int)) (un := ((A % Y : Nat) : Int)) (by omega) (by omega) (by omega) (by omega) (by omega)
  rw [eY] at h2
  rw [h2]
  unfold dv2E
  obtain ⟨B, hB⟩ : ∃ B : Nat, B = A % Y * 4294967296 + W % 4294967296 := ⟨_, rfl⟩
  have hBi : ((A % Y : Nat) : Int) * 4294967296 + (W : Int) % 4294967296 = (B : Int) := by omega
  rw [hBi, show (B : Int) / (Y : Int) = ((B / Y : Nat) : Int) from rfl]
  have hq0 : B / Y < 4294967296 := (Nat.div_lt_iff_lt_mul (by omega)).2 (by omega)
  have d3 := Nat.div_add_mod B Y
  have d4 := Nat.mod_lt B (show Y > 0 by omega)
  have hN : U * 18446744073709551616 + W = (A / Y * 4294967296 + B / Y) * Y + B % Y := by
    rw [Nat.add_mul, Nat.mul_right_comm, Nat.mul_comm (A / Y), Nat.mul_comm (B / Y)]
    omega
  obtain ⟨n1, n2⟩ := divMod_of d4 hN
  rw [n1, n2]
  have hrest : IntKind.wrap .u64 (IntKind.wrap .u64 (IntKind.wrap .u64 (((A % Y : Nat) : Int) * 4294967296) + (W : Int) % 4294967296) - IntKind.wrap .u64 (((B / Y : Nat) : Int) * (Y : Int))) = ((B % Y : Nat) : Int) := by
    rw [← Int.natCast_mul, Nat.mul_comm (B / Y)]
    generalize B / Y = q0 at *
    generalize Y * q0 = m at *
    generalize A % Y = r1 at *
    rw [IntKind.wrap_u64, IntKind.wrap_u64, IntKind.wrap_u64, IntKind.wrap_u64]
    omega
  rw [hrest, fdiv_of (by omega)]
  generalize A / Y = q1 at *
  generalize B / Y = q0 at *
  rw [u_wrap (x := (q1 : Int) * 4294967296) (by omega) (by omega), u_wrap (by omega) (by omega)]
  rfl

theorem tmod_nat (m n : Nat) : Int.tmod (m : Int) (n : Int) = ((m % n : Nat) : Int) := by
  rw [Int.tmod_eq_emod_of_nonneg (by omega)]
  rfl

/-- As 'jnK_eq'', but not by computation. -/
theorem jnT {α R : Type} (j : α → Option R) (f : (α → Option R) → Option R) : jnK α R j f = f j := Eq.trans rfl rfl

theorem Div64_ok {h l y : Nat} (hy : h < y) (hy2 : y < 18446744073709551616) (hl0 : l < 18446744073709551616) : bits_Div64 (h : Int) (l : Int) (y : Int) = some ((((h * 18446744073709551616 + l) / y : Nat) : Int), (((h * 18446744073709551616 + l) % y : Nat) : Int), ()) := by
  simp only [bits_Div64, bits_Div64_b, jnT]
  rw [decide_eq_false (show ¬ (y : Int) = 0 by omega), cF, decide_eq_false (show ¬ (y : Int) ≤ (h : Int) by omega), cF]
  have hz : nzB (y : Int) = true := nzB_of (by omega)
  by_cases h0 : h = 0
  · subst h0
    rw [decide_eq_true (show ((0 : Nat) : Int) = 0 from rfl), cT, hz, cT, cT, tdiv_nat, tmod_nat, Nat.zero_mul, Nat.zero_add]
    have := Nat.div_le_self l y
    generalize l / y = d at *
    rw [u_wrap (by omega) (by omega)]
  · rw [decide_eq_false (show ¬ (h : Int) = 0 by omega), cF]
    obtain ⟨L, e1, ⟨e2, e3⟩, e4⟩ := Len64_ok (n := y) (by omega) hy2
    simp only [bits_LeadingZeros64, bits_LeadingZeros64_b, e1, obind_some']
    rw [wrap_id (x := 64 - (L : Int)) (by omega) (by omega)]
    obtain ⟨s, hs⟩ : ∃ s : Nat, L + s = 64 := ⟨64 - L, by omega⟩
    have w1 : IntKind.wrap .u64 (64 - (L : Int)) = (s : Int) := by rw [u_wrap (by omega) (by omega)]; omega
    have w2 : IntKind.wrap .u64 (64 - (s : Int)) = (L : Int) := by rw [u_wrap (by omega) (by omega)]; omega
    have p2 : ∀ k : Nat, (2 : Int) ^ k = ((2 ^ k : Nat) : Int) := fun k => by rw [Int.natCast_pow]; rfl
    have p32 : (2 : Int) ^ (32 : Nat) = 4294967296 := by decide
    simp only [w1, w2, Int.toNat_natCast, Nat.min_eq_left (show s ≤ 64 by omega), Nat.min_eq_left (show L ≤ 64 by omega), p32]
    simp only [p2]
    have hPQ : 2 ^ s * 2 ^ L = 18446744073709551616 := by rw [← Nat.pow_add, show s + L = 64 by omega]
    have hP : 0 < 2 ^ s := Nat.two_pow_pos s
    have hQ : 0 < 2 ^ L := Nat.two_pow_pos L
    have hYlt : y * 2 ^ s < 18446744073709551616 := by rw [← hPQ, Nat.mul_comm (2 ^ s)]; exact Nat.mul_lt_mul_of_pos_right e2 hP
    have hYge : 9223372036854775808 ≤ y * 2 ^ s := by
      have := Nat.mul_le_mul_right (2 ^ s) e3
      rw [Nat.mul_comm (2 ^ L), hPQ, Nat.mul_assoc] at this
      omega
    have hhP : h * 2 ^ s + 2 ^ s ≤ y * 2 ^ s := by rw [← Nat.succ_mul]; exact Nat.mul_le_mul_right _ hy
    have hlQ : l / 2 ^ L < 2 ^ s := by rw [Nat.div_lt_iff_lt_mul hQ, hPQ]; exact hl0
    have hlor : IntKind.wrap .u64 ((Nat.lor (Int.toNat (IntKind.wrap .u64 ((h : Int) * ((2 ^ s : Nat) : Int)) % Int.ofNat 18446744073709551616)) (Int.toNat (Int.fdiv (l : Int) ((2 ^ L : Nat) : Int) % Int.ofNat 18446744073709551616)) : Nat) : Int) = ((h * 2 ^ s + l / 2 ^ L : Nat) : Int) := by
      have a1 : IntKind.wrap .u64 ((h : Int) * ((2 ^ s : Nat) : Int)) = ((h * 2 ^ s : Nat) : Int) := by rw [← Int.natCast_mul, u_wrap (by omega) (by omega)]
      have a2 : Int.fdiv (l : Int) ((2 ^ L : Nat) : Int) = ((l / 2 ^ L : Nat) : Int) := by rw [fdiv_of (by omega)]; rfl
      have a3 : ∀ n : Nat, n < 18446744073709551616 → Int.toNat ((n : Int) % Int.ofNat 18446744073709551616) = n := fun n hn => by
        rw [show Int.ofNat 18446744073709551616 = (18446744073709551616 : Int) from rfl]; omega
      rw [a1, a2, a3 (h * 2 ^ s) (by omega), a3 (l / 2 ^ L) (by omega), lor_add hlQ]
      exact u_wrap (Int.natCast_nonneg _) (by
        have h5 : h * 2 ^ s + l / 2 ^ L < 18446744073709551616 := by omega
        exact Int.ofNat_lt.2 h5)
    have hlo : IntKind.wrap .u64 ((l : Int) * ((2 ^ s : Nat) : Int)) = ((l % 2 ^ L * 2 ^ s : Nat) : Int) := by
      rw [← Int.natCast_mul, IntKind.wrap_u64]
      have a1 : l * 2 ^ s = (l / 2 ^ L) * 18446744073709551616 + l % 2 ^ L * 2 ^ s := by
        rw [← hPQ, Nat.mul_comm (2 ^ s), ← Nat.mul_assoc, ← Nat.add_mul, Nat.mul_comm (l / 2 ^ L), Nat.div_add_mod]
      have a2 : l % 2 ^ L * 2 ^ s < 18446744073709551616 := by rw [← hPQ, Nat.mul_comm (2 ^ s)]; exact Nat.mul_lt_mul_of_pos_right (Nat.mod_lt _ hQ) hP
      rw [a1]
      generalize l / 2 ^ L = A at *
      generalize l % 2 ^ L * 2 ^ s = B at *
      omega
    have hlolt : l % 2 ^ L * 2 ^ s < 18446744073709551616 := by rw [← hPQ, Nat.mul_comm (2 ^ s)]; exact Nat.mul_lt_mul_of_pos_right (Nat.mod_lt _ hQ) hP
    have hN : (h * 18446744073709551616 + l) * 2 ^ s = (h * 2 ^ s + l / 2 ^ L) * 18446744073709551616 + l % 2 ^ L * 2 ^ s := by
      have a1 : l * 2 ^ s = (l / 2 ^ L) * 18446744073709551616 + l % 2 ^ L * 2 ^ s := by
        rw [← hPQ, Nat.mul_comm (2 ^ s), ← Nat.mul_assoc, ← Nat.add_mul, Nat.mul_comm (l / 2 ^ L), Nat.div_add_mod]
      rw [Nat.add_mul, a1, Nat.add_mul, Nat.mul_right_comm]
      omega
    have hY : IntKind.wrap .u64 ((y : Int) * ((2 ^ s : Nat) : Int)) = ((y * 2 ^ s : Nat) : Int) := by rw [← Int.natCast_mul, u_wrap (by omega) (by omega)]
    have hdiv : (h * 18446744073709551616 + l) / y = ((h * 2 ^ s + l / 2 ^ L) * 18446744073709551616 + l % 2 ^ L * 2 ^ s) / (y * 2 ^ s) := by rw [← hN, Nat.mul_div_mul_right _ _ hP]
    have hmod : ((h * 18446744073709551616 + l) % y) * 2 ^ s = ((h * 2 ^ s + l / 2 ^ L) * 18446744073709551616 + l % 2 ^ L * 2 ^ s) % (y * 2 ^ s) := by rw [← hN, Nat.mul_mod_mul_right]
    rw [hlor, hlo, hY]
    have hU : h * 2 ^ s + l / 2 ^ L < y * 2 ^ s := by omega
    have hm : (h * 18446744073709551616 + l) % y = ((h * 2 ^ s + l / 2 ^ L) * 18446744073709551616 + l % 2 ^ L * 2 ^ s) % (y * 2 ^ s) / 2 ^ s := by rw [← hmod, Nat.mul_div_cancel _ hP]
    rw [hdiv, hm]
    generalize h * 2 ^ s + l / 2 ^ L = U at *
    generalize l % 2 ^ L * 2 ^ s = W at *
    generalize y * 2 ^ s = Y at *
    generalize 2 ^ s = P at *
    clear e2 e3 e1 hlor hlo hN hdiv hmod hm hlQ hPQ hhP hY
    have hdv := dv_ok (P := P) hYge hYlt hlolt hU
    rw [← hdv]
    have c1 : decide ((0 : Int) ≤ (s : Int)) = true := decide_eq_true (by omega)
    have c2 : decide ((0 : Int) ≤ (L : Int)) = true := decide_eq_true (by omega)
    have c3 : decide ((0 : Int) ≤ (32 : Int)) = true := rfl
    have c4 : nzB ((Y : Int) / 4294967296) = true := nzB_of (by omega)
    have m1 : ∀ n : Nat, n < 18446744073709551616 → IntKind.wrap .u64 ((Nat.land (Int.toNat ((n : Int) % Int.ofNat 18446744073709551616)) (Int.toNat ((4294967295 : Int) % Int.ofNat 18446744073709551616)) : Nat) : Int) = (n : Int) % 4294967296 := fun n hn => by
      rw [land32 (by omega) (by omega), u_wrap (by omega) (by omega)]
    simp only [fdiv_of (show (0 : Int) ≤ 4294967296 by omega), c1, c2, c3, c4, m1 Y hYlt, m1 W hlolt, not_or_self', or_self_not, Bool.not_not, Bool.and_self, cT]
    rfl

end Go.Proofs.YtghjblbkbelcfaaGreat

namespace Go.Proofs.YtghjblbkbelcfaaGreat
open Tryz Dn Dn.Sh

theorem over_ok {n b : Nat} (hb0 : 0 < b) (hb : b < 18446744073709551616) (hn : n < 340282366920938463463374607431768211456) : ratio_over (hl n) (b : Int) = some (hl (n / b), ((n % b : Nat) : Int), ()) := by
  have hz : nzB (b : Int) = true := nzB_of (by omega)
  obtain ⟨h, l, hh, hl', hnn⟩ : ∃ h l : Nat, h = n / 18446744073709551616 ∧ l = n % 18446744073709551616 ∧ n = h * 18446744073709551616 + l := ⟨_, _, rfl, rfl, by omega⟩
  have e : hl n = ((h : Int), (l : Int)) := by unfold hl; rw [hh, hl']
  rw [e]
  simp only [ratio_over, ratio_over_b]
  rw [hz, tmod_nat, Div64_ok (Nat.mod_lt h hb0) hb (by omega), obind_some']
  have d1 := Nat.div_add_mod h b
  have d2 := Nat.mod_lt h hb0
  obtain ⟨A, hA⟩ : ∃ A, A = h % b * 18446744073709551616 + l := ⟨_, rfl⟩
  rw [← hA]
  have d3 := Nat.div_add_mod A b
  have d4 := Nat.mod_lt A hb0
  have d5 : A / b < 18446744073709551616 := (Nat.div_lt_iff_lt_mul hb0).2 (by
    have : (h % b + 1) * 18446744073709551616 ≤ b * 18446744073709551616 := Nat.mul_le_mul_right _ d2
    rw [Nat.mul_comm 18446744073709551616 b]
    omega)
  have hN : n = (h / b * 18446744073709551616 + A / b) * b + A % b := by
    have e1 : (h / b * 18446744073709551616 + A / b) * b = b * (h / b) * 18446744073709551616 + b * (A / b) := by grind
    rw [e1, hnn]
    generalize b * (h / b) = x at *
    generalize b * (A / b) = y at *
    generalize A % b = r at *
    generalize h % b = r1 at *
    clear e hz hb0 hb hn hh hl' hnn d5 e1
    omega
  obtain ⟨n1, n2⟩ := divMod_of d4 hN
  rw [n1, n2, tdiv_nat]
  have d6 : h / b < 18446744073709551616 := Nat.lt_of_le_of_lt (Nat.div_le_self h b) (by omega)
  generalize h / b = x at *
  generalize A / b = y at *
  rw [u_wrap (x := (x : Int)) (by omega) (by omega)]
  unfold hl
  rw [show (x * 18446744073709551616 + y) / 18446744073709551616 = x by omega, show (x * 18446744073709551616 + y) % 18446744073709551616 = y by omega]
  rfl

theorem sum_cop {na nb : Int} {da A B : Nat} (ha : Nat.gcd na.natAbs da = 1) (hA : A ∣ da) (hAB : Nat.gcd A B = 1) : Nat.gcd (na * B + nb * A).natAbs A = 1 := by
  have d1 := Nat.gcd_dvd_left (na * B + nb * A).natAbs A
  have d2 := Nat.gcd_dvd_right (na * B + nb * A).natAbs A
  generalize Nat.gcd (na * B + nb * A).natAbs A = d at *
  have e1 : (d : Int) ∣ na * B + nb * A := Int.ofNat_dvd_left.2 d1
  have e2 : (d : Int) ∣ nb * A := Int.dvd_mul_of_dvd_right (Int.ofNat_dvd.2 d2)
  have e3 : (d : Int) ∣ na * B := (Int.dvd_iff_dvd_of_dvd_add e1).2 e2
  have e4 : d ∣ na.natAbs * B := by
    have := Int.ofNat_dvd_left.1 e3
    rwa [Int.natAbs_mul, Int.natAbs_natCast] at this
  have e5 : Nat.Coprime d na.natAbs := (Nat.Coprime.coprime_dvd_right (Nat.dvd_trans d2 hA) ha).symm
  have e6 : d ∣ B := Nat.Coprime.dvd_of_dvd_mul_left e5 e4
  have e7 := Nat.dvd_gcd d2 e6
  rw [hAB] at e7
  exact Nat.dvd_one.1 e7

theorem sum_plain {na nb : Int} {da db g A B : Nat} (ha : Nat.gcd na.natAbs da = 1) (hb : Nat.gcd nb.natAbs db = 1) (h1 : da = A * g) (h2 : db = B * g) (hAB : Nat.gcd A B = 1) (hg : 0 < g) (hA : 0 < A) (hB : 0 < B) {c : Nat} (hc : c = Nat.gcd g (na * B + nb * A).natAbs) :
    mkRat na da + mkRat nb db = mkRat (na * B + nb * A) (A * db) ∧ Nat.gcd ((na * B + nb * A).natAbs / c) (A * (db / c)) = 1 ∧ 0 < c ∧ c ∣ (na * B + nb * A).natAbs ∧ c ∣ db := by
  have hc0 : 0 < c := by rw [hc]; exact Nat.gcd_pos_of_pos_left _ hg
  have k1 : Nat.gcd (na * B + nb * A).natAbs A = 1 := sum_cop ha ⟨g, h1⟩ hAB
  have k2 : Nat.gcd (na * B + nb * A).natAbs B = 1 := by
    rw [Int.add_comm]
    exact sum_cop hb ⟨g, h2⟩ (by rw [Nat.gcd_comm]; exact hAB)
  have c1 : c ∣ (na * B + nb * A).natAbs := by rw [hc]; exact Nat.gcd_dvd_right _ _
  have c2 : c ∣ g := by rw [hc]; exact Nat.gcd_dvd_left _ _
  refine ⟨?_, ?_, hc0, c1, by rw [h2]; exact Nat.dvd_trans c2 (Nat.dvd_mul_left g B)⟩
  · have p1 : 0 < A * g := Nat.mul_pos hA hg
    have p2 : 0 < B * g := Nat.mul_pos hB hg
    have p3 : 0 < A * (B * g) := Nat.mul_pos hA p2
    rw [Rat.mkRat_add_mkRat _ _ (by omega) (by omega), h1, h2, Rat.mkRat_eq_iff (Nat.ne_of_gt (Nat.mul_pos p1 p2)) (by omega)]
    simp only [Int.natCast_mul]
    grind
  · have c3 : Nat.gcd ((na * B + nb * A).natAbs / c) (g / c) = 1 := by
      rw [hc, Nat.gcd_comm]
      exact Nat.gcd_div_gcd_div_gcd_of_pos_left hg
    have hdb : db / c = B * (g / c) := by rw [h2, Nat.mul_div_assoc _ c2]
    have dv : (na * B + nb * A).natAbs / c ∣ (na * B + nb * A).natAbs := Nat.div_dvd_of_dvd c1
    rw [hdb]
    exact Nat.Coprime.mul_right (Nat.Coprime.coprime_dvd_left dv k1) (Nat.Coprime.mul_right (Nat.Coprime.coprime_dvd_left dv k2) c3)

theorem zero_hl' {n : Nat} (h : n < 340282366920938463463374607431768211456) : (decide ((hl n).1 = 0) && (decide ((hl n).2 = 0) && true)) = decide (n = 0) := zero_hl h

theorem Add_ok {a b : Fq} (ha : okF a) (hb : okF b) : ratio_Add a b = some (fitQ (qv a + qv b)) := by
  obtain ⟨na, da'⟩ := a
  obtain ⟨nb, db'⟩ := b
  have ha' := ha
  have hb' := hb
  unfold okF at ha' hb'
  simp only at ha' hb'
  obtain ⟨⟨a1, a2⟩, ⟨a3, a4⟩, a5⟩ := ha'
  obtain ⟨⟨b1, b2⟩, ⟨b3, b4⟩, b5⟩ := hb'
  obtain ⟨da, rfl⟩ : ∃ da : Nat, da' = da := ⟨da'.toNat, by omega⟩
  obtain ⟨db, rfl⟩ : ∃ db : Nat, db' = db := ⟨db'.toNat, by omega⟩
  rw [Int.natAbs_natCast] at a5 b5
  simp only [ratio_Add, ratio_Add_b, Valid_ok, decide_eq_true ha, decide_eq_true hb, obind_some', Bool.not_true, Bool.not_false, Bool.or_false, Bool.or_true, Bool.false_or, Bool.true_or, cT, cF, jnT]
  rw [u_wrap (x := (da : Int)) (by omega) (by omega), u_wrap (x := (db : Int)) (by omega) (by omega), gcd_ok _ _ (by omega), obind_some', size_ok (by omega) (by omega), obind_some', size_ok (by omega) (by omega)]
  have hg : 0 < Nat.gcd da db := Nat.gcd_pos_of_pos_left _ (by omega)
  have hgl : Nat.gcd da db ≤ da := Nat.gcd_le_left _ (by omega)
  obtain ⟨A, hA⟩ : ∃ A, A = da / Nat.gcd da db := ⟨_, rfl⟩
  obtain ⟨B, hB⟩ : ∃ B, B = db / Nat.gcd da db := ⟨_, rfl⟩
  have hAg : da = A * Nat.gcd da db := by rw [hA, Nat.div_mul_cancel (Nat.gcd_dvd_left _ _)]
  have hBg : db = B * Nat.gcd da db := by rw [hB, Nat.div_mul_cancel (Nat.gcd_dvd_right _ _)]
  have hAB : Nat.gcd A B = 1 := by rw [hA, hB]; exact Nat.gcd_div_gcd_div_gcd_of_pos_left (by omega)
  have hA0 : 0 < A := by rw [hA]; exact Nat.div_pos (Nat.gcd_le_left _ (by omega)) hg
  have hB0 : 0 < B := by rw [hB]; exact Nat.div_pos (Nat.gcd_le_right _ (by omega)) hg
  have hAl : A ≤ da := by rw [hA]; exact Nat.div_le_self _ _
  have hBl : B ≤ db := by rw [hB]; exact Nat.div_le_self _ _
  have hz : nzB ((Nat.gcd da db : Nat) : Int) = true := nzB_of (by omega)
  rw [hz, cT, tdiv_nat, tdiv_nat, ← hA, ← hB, u_wrap (x := (A : Int)) (by omega) (by omega), u_wrap (x := (B : Int)) (by omega) (by omega)]
  have x1 : na.natAbs * B ≤ 1152921504606846976 * 1152921504606846976 := Nat.mul_le_mul (by omega) (by omega)
  have y1 : nb.natAbs * A ≤ 1152921504606846976 * 1152921504606846976 := Nat.mul_le_mul (by omega) (by omega)
  rw [product_ok (by omega) (by omega), obind_some', obind_some', cT, product_ok (by omega) (by omega), obind_some']
  have hsum := sum_plain (na := na) (nb := nb) a5 b5 hAg hBg hAB hg hA0 hB0 rfl
  generalize Nat.gcd da db = g at *
  have hv : qv (na, (da : Int)) + qv (nb, (db : Int)) = mkRat na da + mkRat nb db := rfl
  rw [hv, hsum.1]
  simp only [not_or_self', or_self_not, Bool.not_not, cT]
  have tail : ∀ (s : Bool) (N : Nat), N ≤ 2658455991569831745807614120560689152 → sgn s N = na * B + nb * A → (bif decide ((hl N).1 = 0) && (decide ((hl N).2 = 0) && true) then some (((0 : Int), (1 : Int)), (0 : Int), PUnit.unit) else
      obind (ratio_over (hl N) (g : Int)) fun t_5 => obind (ratio_gcd (g : Int) t_5.2.1) fun t_1 => obind (ratio_over (hl N) t_1) fun t_6 => bif nzB t_1 then obind (ratio_product (A : Int) (IntKind.wrap .u64 (Int.tdiv (db : Int) t_1))) fun t =>
        bif bif decide (t_6.1.1 > 0) then true else decide (t.1 > 0) then some (((0 : Int), (0 : Int)), (5 : Int), PUnit.unit) else obind (ratio_signed s t_6.1.2 t.2) fun t => some (t.1, t.2.1, PUnit.unit) else none) = some (fitQ (mkRat (na * B + nb * A) (A * db))) := by
    intro s N hN hs
    have hNT : (na * B + nb * A).natAbs = N := by rw [← hs]; unfold sgn; split <;> simp
    rw [hNT] at hsum
    rw [zero_hl (by omega)]
    by_cases h0 : N = 0
    · rw [decide_eq_true h0, cT, ← hs, h0, show sgn s 0 = 0 by unfold sgn; cases s <;> rfl, Rat.zero_mkRat]
      rfl
    · obtain ⟨c, hc⟩ : ∃ c, c = Nat.gcd g N := ⟨_, rfl⟩
      rw [← hc] at hsum
      obtain ⟨_, s2, s3, s4, s5⟩ := hsum
      have hcg : c ≤ g := by rw [hc]; exact Nat.gcd_le_left _ hg
      rw [decide_eq_false h0, cF, over_ok hg (by omega) (by omega), obind_some', gcd_ok _ _ (by have := Nat.mod_lt N hg; generalize N % g = w at *; omega), obind_some', Nat.gcd_comm, ← Nat.gcd_rec, ← hc, over_ok s3 (by omega) (by omega), obind_some', nzB_of (by omega), cT, tdiv_nat]
      have hdc : db / c ≤ db := Nat.div_le_self _ _
      have hdc0 : 0 < db / c := Nat.div_pos (Nat.le_of_dvd (by omega) s5) s3
      rw [u_wrap (by omega) (by generalize db / c = w at *; omega), product_ok (by omega) (by generalize db / c = w at *; omega), obind_some']
      have hNc : N / c ≤ N := Nat.div_le_self _ _
      have hval : mkRat (na * B + nb * A) (A * db) = mkRat (sgn s (N / c)) (A * (db / c)) := by
        rw [← hs]
        refine mkQ_congr (Nat.mul_pos hA0 (by omega)) (Nat.mul_pos hA0 hdc0) ?_
        obtain ⟨x, rfl⟩ := s4
        obtain ⟨y, rfl⟩ := s5
        rw [Nat.mul_div_cancel_left _ s3, Nat.mul_div_cancel_left _ s3]
        grind
      rw [hval, fit_low (Nat.mul_pos hA0 hdc0) s2]
      have hden : A * (db / c) ≤ 1152921504606846976 * 1152921504606846976 := Nat.mul_le_mul (by omega) (by omega)
      generalize N / c = n at *
      generalize A * (db / c) = d at *
      by_cases hn : n < 18446744073709551616
      · by_cases hd : d < 18446744073709551616
        · rw [hl_small hn, hl_small hd]
          simp only
          rw [show decide ((0 : Int) > 0) = false from rfl, cF, cF, signed_ok _ _ _ hn hd, obind_some']
        · rw [hl_small hn]
          simp only
          rw [show decide ((0 : Int) > 0) = false from rfl, decide_eq_true (hl_big hd), cF, cT, if_neg (by omega)]
      · rw [decide_eq_true (hl_big hn), cT, cT, if_neg (by omega)]
  have sx : ∀ {n : Int} {s : Bool}, s = decide (n < 0) → n = sgn s n.natAbs := fun {n s} h => by rw [h]; exact size_sgn n
  by_cases hsg : decide (na < 0) = decide (nb < 0)
  · rw [decide_eq_true hsg, cT, rPlus_ok (by omega), obind_some']
    refine tail _ _ (by omega) ?_
    have e1 : na = sgn (decide (na < 0)) na.natAbs := size_sgn na
    have e2 : nb = sgn (decide (na < 0)) nb.natAbs := by rw [hsg]; exact size_sgn nb
    generalize na.natAbs = m at *
    generalize nb.natAbs = n at *
    generalize decide (na < 0) = s at *
    rw [e1, e2]
    unfold sgn
    cases s
    · simp only [Bool.false_eq_true, if_false]
      rw [Int.natCast_add, Int.natCast_mul, Int.natCast_mul]
    · simp only [if_true]
      rw [Int.natCast_add, Int.natCast_mul, Int.natCast_mul]
      grind
  · have e1 : na = sgn (decide (na < 0)) na.natAbs := size_sgn na
    have e2 : nb = sgn (!decide (na < 0)) nb.natAbs := by
      have : (!decide (na < 0)) = decide (nb < 0) := by
        clear tail sx hsum hv ha hb
        revert hsg
        cases decide (na < 0) <;> cases decide (nb < 0) <;> simp
      rw [this]; exact size_sgn nb
    rw [decide_eq_false hsg, cF, rLess_ok, obind_some']
    by_cases hlt : na.natAbs * B < nb.natAbs * A
    · rw [decide_eq_true hlt, cT, rMinus_ok (by omega) (by omega), obind_some']
      refine tail _ _ (by omega) ?_
      generalize na.natAbs = m at *
      generalize nb.natAbs = n at *
      generalize decide (na < 0) = s at *
      rw [e1, e2]
      have e3 : (((n * A - m * B : Nat)) : Int) = (n : Int) * A - (m : Int) * B := by rw [Int.ofNat_sub (Nat.le_of_lt hlt), Int.natCast_mul, Int.natCast_mul]
      unfold sgn
      cases s
      · simp only [Bool.false_eq_true, if_false, Bool.not_false, if_true]
        grind
      · simp only [if_true, Bool.not_true, Bool.false_eq_true, if_false]
        grind
    · rw [decide_eq_false hlt, cF, rMinus_ok (by omega) (by omega), obind_some']
      refine tail _ _ (by omega) ?_
      generalize na.natAbs = m at *
      generalize nb.natAbs = n at *
      generalize decide (na < 0) = s at *
      rw [e1, e2]
      have e3 : (((m * B - n * A : Nat)) : Int) = (m : Int) * B - (n : Int) * A := by rw [Int.ofNat_sub (Nat.not_lt.1 hlt), Int.natCast_mul, Int.natCast_mul]
      unfold sgn
      cases s
      · simp only [Bool.false_eq_true, if_false, Bool.not_false, if_true]
        grind
      · simp only [if_true, Bool.not_true, Bool.false_eq_true, if_false]
        grind

end Go.Proofs.YtghjblbkbelcfaaGreat

namespace Go.Proofs.YtghjblbkbelcfaaGreat
open Tryz Dn Dn.Sh

theorem str_beq (a b : ByteArray) : List.beq (ByteArray.toList a) (ByteArray.toList b) = decide (a = b) := by
  show (a.toList == b.toList) = _
  rw [ByteArray.toList_eq, ByteArray.toList_eq, Bool.eq_iff_iff, decide_eq_true_iff, beq_iff_eq]
  exact ⟨fun h => ByteArray.ext (Array.toList_inj.mp h), fun h => by rw [h]⟩

theorem lpK_some {α R : Type} {F : (α → Option R) → α → Option R} (I : α → Prop) (μ : α → Nat) (h : ∀ x rec, I x → (∀ y, I y → μ y < μ x → (rec y).isSome = true) → (F rec x).isSome = true) {x : α} (hx : I x) (hn : μ x < 1180591620717411303424) : (lpK α R F x).isSome = true := by
  have key : ∀ n x, I x → μ x < n → (loopF F n x).isSome = true := by
    intro n
    induction n with
    | zero => intro x _ h; omega
    | succ n ih =>
      intro x hx hn
      rw [loopF_succ]
      exact h x _ hx fun y hy hlt => ih y hy (by omega)
  exact key _ x hx hn

theorem letter_same : decimal_letter = ref01_Letter := by
  funext c
  rfl
theorem digit_same : decimal_digit = ref01_Digit := by
  funext c
  rfl
theorem letter_some (c : Int) : ∃ b, decimal_letter c = some b := by
  simp only [decimal_letter, decimal_letter_b, not_or_self', or_self_not, cond_true]
  cases decide (c ≥ 97) <;> cases decide (c ≤ 122) <;> cases decide (c ≥ 65) <;> exact ⟨_, rfl⟩
theorem digit_some (c : Int) : ∃ b, decimal_digit c = some b := by
  simp only [decimal_digit, decimal_digit_b, not_or_self', cond_true]
  exact ⟨_, rfl⟩

theorem word_some {s : ByteArray} (h : s.size ≤ 1000000) : ∃ n, decimal_word s = some n := by
  rw [← Option.isSome_iff_exists]
  simp only [decimal_word, decimal_word_b]
  refine lpK_some (I := fun (x : Int × PUnit) => 0 ≤ x.1 ∧ x.1 ≤ s.size) (μ := fun (x : Int × PUnit) => ((s.size : Int) - x.1).toNat) (x := ((0 : Int), PUnit.unit)) ?_ ⟨Int.le_refl _, by simp only; omega⟩ (by simp only; omega)
  rintro ⟨i, _⟩ rec ⟨h0, h1⟩ hrec
  simp only at h0 h1 ⊢
  by_cases hi : i < s.size
  · rw [inB_of h0 hi, decide_eq_true hi]
    obtain ⟨b, hb⟩ := letter_some (byteAt s i.toNat)
    obtain ⟨c, hc⟩ := digit_some (byteAt s i.toNat)
    have hw : IntKind.wrap .i64 (i + 1) = i + 1 := wrap_id (by omega) (by omega)
    have hr := hrec (i + 1, PUnit.unit) ⟨by simp only; omega, by simp only; omega⟩ (by simp only; omega)
    simp only [hb, hc, hw]
    cases b <;> cases c <;> cases decide (byteAt s i.toNat = 95) <;> simp [obind_some', hr]
  · rw [decide_eq_false hi]
    simp [obind_some']

theorem word_same (s : ByteArray) : ref01_word s 0 = decimal_word s := by
  simp only [ref01_word, ref01_word_b, decimal_word, decimal_word_b, letter_same, digit_same]

/-- Whether a string is a name. -/
noncomputable def nameB (s : ByteArray) : Bool := decide (0 < s.size) && (decide (s.size ≤ 20) && ((decimal_letter (byteAt s 0)).getD false && decide ((decimal_word s).getD 0 = (s.size : Int))))

theorem empty_iff (s : ByteArray) : s = { data := #[] } ↔ s.size = 0 := by
  constructor
  · intro h; rw [h]; rfl
  · intro h
    apply ByteArray.ext
    exact Array.eq_empty_of_size_eq_zero h

theorem isName_ok (s : ByteArray) : decimal_IsName s = some (nameB s) := by
  simp only [decimal_IsName, decimal_IsName_b, str_beq, not_or_self', Bool.and_self, cond_true]
  unfold nameB
  by_cases h0 : s.size = 0
  · have e : decide (s = { data := #[] }) = true := decide_eq_true ((empty_iff s).2 h0)
    simp [e, h0, obind_some']
  · have e : decide (s = { data := #[] }) = false := decide_eq_false fun h => h0 ((empty_iff s).1 h)
    by_cases h1 : s.size ≤ 20
    · obtain ⟨b, hb⟩ := letter_some (byteAt s 0)
      obtain ⟨n, hn⟩ := word_some (s := s) (by omega)
      have h2 : decide ((s.size : Int) ≤ 20) = true := decide_eq_true (by omega)
      rw [inB_of (show (0 : Int) ≤ 0 by omega) (show (0 : Int) < s.size by omega)]
      simp only [e, h2, hb, hn]
      cases b <;> simp [obind_some', h1, show 0 < s.size by omega]
    · have h2 : decide ((s.size : Int) ≤ 20) = false := decide_eq_false (by omega)
      simp [e, h2, h1, obind_some']

theorem refIsName_ok (s : ByteArray) : ref01_IsName s = some (nameB s) := by
  simp only [ref01_IsName, ref01_IsName_b, not_or_self', or_self_not, cond_true]
  unfold nameB
  by_cases h0 : s.size = 0
  · simp [h0, obind_some']
  · have e : decide ((s.size : Int) = 0) = false := decide_eq_false (by omega)
    by_cases h1 : s.size ≤ 20
    · obtain ⟨b, hb⟩ := letter_some (byteAt s 0)
      obtain ⟨n, hn⟩ := word_some (s := s) (by omega)
      have h2 : decide ((s.size : Int) > 20) = false := decide_eq_false (by omega)
      rw [inB_of (show (0 : Int) ≤ 0 by omega) (show (0 : Int) < s.size by omega), word_same]
      simp only [e, h2, ← letter_same, hb, hn]
      cases b <;> simp [obind_some', h1, show 0 < s.size by omega]
    · have h2 : decide ((s.size : Int) > 20) = true := decide_eq_true (by omega)
      simp [e, h2, h1, obind_some']

end Go.Proofs.YtghjblbkbelcfaaGreat

namespace Go.Proofs.YtghjblbkbelcfaaGreat
open Tryz Dn Dn.Sh

abbrev P3 := Int × Int × Int
def inP (p : P3) : Prop := (-1048576 ≤ p.1 ∧ p.1 ≤ 1048576) ∧ (-1048576 ≤ p.2.1 ∧ p.2.1 ≤ 1048576) ∧ (-1048576 ≤ p.2.2 ∧ p.2.2 ≤ 1048576)
instance (p : P3) : Decidable (inP p) := by unfold inP; infer_instance
def dec (p : P3) : Bool := decide (inP p)
theorem dec_iff {p : P3} : dec p = true ↔ inP p := by simp [dec]

theorem valid_eq (p : P3) : points_Valid p = some (dec p) := by
  simp only [points_Valid, points_Valid_b, not_or_self', Bool.and_self, cond_true]
  congr 1
  rw [Bool.eq_iff_iff]
  simp only [dec, bif_false', Bool.and_eq_true, decide_eq_true_eq]
  unfold inP
  simp only [ite_max, ite_min, Int.max_le, Int.le_min, ge_iff_le]
  omega
theorem within1_eq (n : Int) : ref09_within n = some (decide (-1048576 ≤ n ∧ n ≤ 1048576)) := by
  simp only [ref09_within, ref09_within_b, not_or_self', cond_true, bif_false', ge_iff_le, Bool.decide_and]
theorem refValidP_eq (p : P3) : ref09_Valid p = some (dec p) := by
  simp only [ref09_Valid, ref09_Valid_b, within1_eq, obind_some', not_or_self', cond_true, bif_false']
  unfold dec inP
  by_cases h1 : -1048576 ≤ p.1 ∧ p.1 ≤ 1048576
  · by_cases h2 : -1048576 ≤ p.2.1 ∧ p.2.1 ≤ 1048576
    · simp [h1, h2, obind_some']
    · simp [h1, h2, obind_some']
  · simp [h1, obind_some']

/-- The way from a to b. -/
def sub (a b : P3) : P3 := (b.1 - a.1, b.2.1 - a.2.1, b.2.2 - a.2.2)
theorem to_eq {a b : P3} (ha : inP a) (hb : inP b) : points_to a b = some (sub a b) := by
  unfold inP at ha hb
  simp only [points_to, points_to_b, sub]
  rw [wrap_id (by omega) (by omega), wrap_id (by omega) (by omega), wrap_id (by omega) (by omega)]

theorem mul_bound {a b m n : Int} (h1 : -m ≤ a) (h2 : a ≤ m) (h3 : -n ≤ b) (h4 : b ≤ n) : -(m * n) ≤ a * b ∧ a * b ≤ m * n := by
  have e : (a * b).natAbs ≤ m.natAbs * n.natAbs := by
    rw [Int.natAbs_mul]
    exact Nat.mul_le_mul (by omega) (by omega)
  have e2 : ((m.natAbs * n.natAbs : Nat) : Int) = m * n := by
    rw [Int.natCast_mul, Int.natAbs_of_nonneg (by omega), Int.natAbs_of_nonneg (by omega)]
  omega
theorem sq_bound {a m : Int} (h1 : -m ≤ a) (h2 : a ≤ m) : 0 ≤ a * a ∧ a * a ≤ m * m := by
  have := mul_bound h1 h2 h1 h2
  refine ⟨?_, this.2⟩
  rcases Int.le_total 0 a with h | h
  · exact Int.mul_nonneg h h
  · exact Int.mul_nonneg_of_nonpos_of_nonpos h h

/-- The square of a way. -/
def nsq (p : P3) : Int := p.1 * p.1 + p.2.1 * p.2.1 + p.2.2 * p.2.2

theorem all2_eq {a b : P3} : points_all [a, b] = some (dec a && dec b) := by
  simp only [points_all, points_all_b, slices_ContainsFunc_103, slices_ContainsFunc_103_b, slices_IndexFunc_106, slices_IndexFunc_106_b, lpK_eq]
  have h : ∀ p : P3, points_all_1 p = some (!dec p) := fun p => by
    simp only [points_all_1, points_all_1_b, valid_eq, obind_some']
  rw [loopF_K0]
  simp only [show decide ((0 : Int) < (([a, b] : List P3).length : Int)) = true from rfl, show inB 0 ([a, b] : List P3).length = true from rfl, cond_true, show IntKind.wrap .i64 (0 + 1) = 1 from rfl, show Int.toNat 0 = 0 from rfl, List.getD_cons_zero, h, obind_some']
  cases dec a with
  | false => rfl
  | true =>
    simp only [Bool.not_true, cond_false]
    rw [loopF_K1]
    simp only [show decide ((1 : Int) < (([a, b] : List P3).length : Int)) = true from rfl, show inB 1 ([a, b] : List P3).length = true from rfl, cond_true, show IntKind.wrap .i64 (1 + 1) = 2 from rfl, show Int.toNat 1 = 1 from rfl, List.getD_cons_zero, List.getD_cons_succ, h, obind_some']
    cases dec b with
    | false => rfl
    | true =>
      simp only [Bool.not_true, cond_false]
      rw [loopF_K2]
      rfl

theorem square_ok {a b : P3} (ha : inP a) (hb : inP b) : points_Square a b = some (nsq (sub a b), 0, ()) := by
  simp only [points_Square, points_Square_b, all2_eq, dec_iff.2 ha, dec_iff.2 hb, Bool.and_self, Bool.not_true, cond_false, obind_some', to_eq ha hb]
  unfold inP at ha hb
  have e1 := sq_bound (a := b.1 - a.1) (m := 2097152) (by omega) (by omega)
  have e2 := sq_bound (a := b.2.1 - a.2.1) (m := 2097152) (by omega) (by omega)
  have e3 := sq_bound (a := b.2.2 - a.2.2) (m := 2097152) (by omega) (by omega)
  simp (disch := omega) only [sub, nsq, wrap_id]

/-! ### Roots -/

def isq : Nat → Nat
  | 0 => 0
  | n + 1 => if (isq n + 1) * (isq n + 1) ≤ n + 1 then isq n + 1 else isq n
theorem isq_spec : ∀ n, isq n * isq n ≤ n ∧ n < (isq n + 1) * (isq n + 1)
  | 0 => by simp [isq]
  | n + 1 => by
    obtain ⟨h1, h2⟩ := isq_spec n
    simp only [isq]
    split
    · rename_i h
      refine ⟨h, ?_⟩
      have : (isq n + 1 + 1) * (isq n + 1 + 1) = (isq n + 1) * (isq n + 1) + 2 * (isq n + 1) + 1 := by grind
      omega
    · omega
theorem isq_uniq {n r : Nat} (h1 : r * r ≤ n) (h2 : n < (r + 1) * (r + 1)) : r = isq n := by
  obtain ⟨h3, h4⟩ := isq_spec n
  rcases Nat.lt_trichotomy r (isq n) with h | h | h
  · exfalso
    have : (r + 1) * (r + 1) ≤ isq n * isq n := Nat.mul_le_mul h h
    omega
  · exact h
  · exfalso
    have : (isq n + 1) * (isq n + 1) ≤ r * r := Nat.mul_le_mul h h
    omega

/-- The least span of the root of a number. -/
def rootS (n : Int) : Int × Int := ((isq n.toNat : Int), if (isq n.toNat * isq n.toNat : Nat) = n.toNat then (isq n.toNat : Int) else (isq n.toNat : Int) + 1)

theorem rootS_of {n r : Int} (hr : 0 ≤ r) (h1 : r * r ≤ n) (h2 : n < (r + 1) * (r + 1)) : rootS n = (r, if r * r = n then r else r + 1) := by
  have hn : 0 ≤ n := Int.le_trans (Int.mul_nonneg hr hr) h1
  obtain ⟨m, rfl⟩ : ∃ m : Nat, r = m := ⟨r.toNat, by omega⟩
  obtain ⟨k, rfl⟩ : ∃ k : Nat, n = k := ⟨n.toNat, by omega⟩
  have h1' : m * m ≤ k := by rw [← Int.natCast_mul] at h1; omega
  have h2' : k < (m + 1) * (m + 1) := by
    have : ((m : Int) + 1) * ((m : Int) + 1) = (((m + 1) * (m + 1) : Nat) : Int) := by rw [Int.natCast_mul]; rfl
    omega
  have e := isq_uniq h1' h2'
  unfold rootS
  rw [Int.toNat_natCast, ← e]
  congr 1
  rw [← Int.natCast_mul]
  by_cases h : m * m = k
  · rw [if_pos h, if_pos (by omega)]
  · rw [if_neg h, if_neg (by omega)]

theorem sq_lt {a b : Int} (h0 : 0 ≤ a) (h : a < b) : a * a < b * b := by
  have h1 : a * a ≤ a * b := Int.mul_le_mul_of_nonneg_left (by omega) h0
  have h2 : a * b < b * b := Int.mul_lt_mul_of_pos_right h (by omega)
  omega

theorem root_ok {n : Int} (h0 : 0 ≤ n) (h1 : n ≤ 1152921504606846976) : points_Root n = some (rootS n, 0, ()) := by
  simp only [points_Root, points_Root_b, not_or_self', or_self_not, cond_true]
  rw [decide_eq_false (show ¬ n < 0 by omega), cond_false, decide_eq_false (show ¬ n > 1152921504606846976 by omega), cond_false]
  refine lpK_loop (g := fun _ => some (rootS n, 0, ())) (I := fun (x : Int × Int × PUnit) => 0 ≤ x.1 ∧ x.1 * x.1 ≤ n ∧ ((x.2.1 = 0 ∧ x.1 ≤ 2147483648 ∧ n < (x.1 + 1) * (x.1 + 1)) ∨ ∃ k : Nat, x.2.1 = (2 ^ k : Nat) ∧ x.1 + 2 * x.2.1 ≤ 2147483648 ∧ n < (x.1 + 2 * x.2.1) * (x.1 + 2 * x.2.1)))
    (μ := fun (x : Int × Int × PUnit) => x.2.1.toNat) (x := ((0 : Int), (1073741824 : Int), PUnit.unit)) ?_ ⟨by simp, by simpa using h0, .inr ⟨30, by decide, by simp, by simp only; omega⟩⟩ (by simp)
  rintro ⟨r, b, _⟩ rec ⟨i0, i1, i2⟩ hrec
  simp only at i0 i1 i2 ⊢
  rcases i2 with ⟨rfl, i3, i4⟩ | ⟨k, hk, i3, i4⟩
  · have hb := sq_bound (a := r) (m := 2147483648) (by omega) (by omega)
    rw [decide_eq_false (show ¬ (0 : Int) > 0 by omega), cond_false, wrap_id (x := r * r) (by omega) (by omega), rootS_of i0 i1 i4]
    by_cases he : r * r < n
    · rw [decide_eq_true he, cond_true, wrap_id (x := r + 1) (by omega) (by omega), if_neg (by omega)]
    · rw [decide_eq_false he, cond_false, if_pos (by omega)]
  · have hpos : 0 < b := by rw [hk]; exact Int.natCast_pos.2 (Nat.pow_pos (by omega))
    have ht : Int.tdiv b 2 = b / 2 := Int.tdiv_eq_ediv_of_nonneg (by omega)
    have hb := sq_bound (a := r + b) (m := 2147483648) (by omega) (by omega)
    rw [decide_eq_true hpos, cond_true, wrap_id (x := r + b) (by omega) (by omega), wrap_id (x := (r + b) * (r + b)) (by omega) (by omega), ht, wrap_id (x := b / 2) (by omega) (by omega)]
    have next : ∀ r', (r' + b) * (r' + b) = (r' + b) * (r' + b) → r' + b ≤ 2147483648 → n < (r' + b) * (r' + b) → (b / 2 = 0 ∧ r' ≤ 2147483648 ∧ n < (r' + 1) * (r' + 1)) ∨ ∃ k : Nat, b / 2 = (2 ^ k : Nat) ∧ r' + 2 * (b / 2) ≤ 2147483648 ∧ n < (r' + 2 * (b / 2)) * (r' + 2 * (b / 2)) := fun r' _ hle hlt => by
      cases k with
      | zero =>
        have hb1 : b = 1 := by rw [hk]; rfl
        subst hb1
        exact .inl ⟨rfl, by omega, hlt⟩
      | succ k =>
        have h2 : b = 2 * ((2 ^ k : Nat) : Int) := by rw [hk, Nat.pow_succ, Int.natCast_mul]; omega
        have h3 : b / 2 = ((2 ^ k : Nat) : Int) := by omega
        have h4 : 2 * (b / 2) = b := by omega
        exact .inr ⟨k, h3, by rw [h4]; exact hle, by rw [h4]; exact hlt⟩
    by_cases hm : (r + b) * (r + b) ≤ n
    · rw [decide_eq_true hm, cond_true]
      refine hrec _ ⟨by simp only; omega, hm, next (r + b) rfl (by omega) ?_⟩ (by simp only; omega)
      rw [show r + b + b = r + 2 * b by omega]
      exact i4
    · rw [decide_eq_false hm, cond_false]
      exact hrec _ ⟨i0, i1, next r rfl (by omega) (by omega)⟩ (by simp only; omega)

end Go.Proofs.YtghjblbkbelcfaaGreat

namespace Go.Proofs.YtghjblbkbelcfaaGreat
namespace Dn

theorem lpK_up {σ α R : Type} {F : (α → Option R) → α → Option R} (n : Nat) (hn : n ≤ 1180591620717411303423) (enc : Nat → σ → α) (b : Nat → σ → (σ → Option R) → Option R) (f : σ → Option R)
    (hb : ∀ again (i : Nat) s, i < n → F again (enc i s) = b i s (fun s' => again (enc (i + 1) s'))) (hf : ∀ again s, F again (enc n s) = f s) (s : σ) :
    lpK α R F (enc 0 s) = upF b f n 0 s := loopF_up n hn enc b f hb hf s

/-- The first place, from i on, of an element that p takes; -1 if none. -/
def idxI {α : Type} (p : α → Bool) : List α → Int → Int
  | [], _ => -1
  | a :: l, i => bif p a then i else idxI p l (i + 1)

theorem idxI_neg {α : Type} {p : α → Bool} : ∀ {l : List α} {i : Int}, 0 ≤ i → (idxI p l i < 0 ↔ ∀ a ∈ l, p a = false)
  | [], i, h => by simp [idxI]
  | a :: l, i, h => by
    unfold idxI
    cases hp : p a with
    | true => simp only [cond_true, List.mem_cons, forall_eq_or_imp, hp]; simp; omega
    | false => simp only [cond_false, List.mem_cons, forall_eq_or_imp, hp, true_and]; exact idxI_neg (by omega)

theorem idxI_drop {α : Type} {p : α → Bool} {l : List α} {d : α} {i : Nat} (h : i < l.length) : idxI p (l.drop i) i = bif p (l.getD i d) then (i : Int) else idxI p (l.drop (i + 1)) ((i : Int) + 1) := by
  rw [List.drop_eq_getElem_cons h, getD_nat h]
  rfl

theorem idxI_at {α : Type} {p : α → Bool} {d : α} : ∀ {l : List α} {i : Int}, 0 ≤ i → 0 ≤ idxI p l i → i ≤ idxI p l i ∧ idxI p l i < i + l.length ∧ p (l.getD (idxI p l i - i).toNat d) = true
  | [], i, _, h => by simp [idxI] at h
  | a :: l, i, hi, h => by
    unfold idxI at h ⊢
    cases hp : p a with
    | true => simp [hp]; omega
    | false =>
      rw [hp, cond_false] at h
      obtain ⟨h1, h2, h3⟩ := idxI_at (d := d) (show 0 ≤ i + 1 by omega) h
      rw [cond_false]
      refine ⟨by omega, by simp only [List.length_cons]; omega, ?_⟩
      have e : (idxI p l (i + 1) - i).toNat = (idxI p l (i + 1) - (i + 1)).toNat + 1 := by omega
      rw [e, List.getD_cons_succ]
      exact h3

/-- The walk of slices.IndexFunc. -/
theorem index_loop {α : Type} {f : (α × Unit) → Option Bool} {d : α} {p : α → Bool} {l : List α} (hl : l.length ≤ 1000000) (h : ∀ a, a ∈ l → f (a, ()) = some (p a)) :
    lpK (Int × PUnit) Int (fun (again : Int × PUnit → Option Int) (x : Int × PUnit) => bif decide (x.fst < (↑(List.length l) : Int)) then bif inB x.fst (List.length l) then obind (f
      (List.getD l (Int.toNat x.fst) d, PUnit.unit)) fun (t : Bool) => bif t then some x.fst else again
      (IntKind.wrap IntKind.i64 (x.fst + (1 : Int)), PUnit.unit) else none else some (-1 : Int)) ((0 : Int), PUnit.unit) = some (idxI p l 0) := by
  refine lpK_loop (g := fun _ => some (idxI p l 0)) (I := fun (x : Int × PUnit) => 0 ≤ x.1 ∧ x.1 ≤ l.length ∧ idxI p (l.drop x.1.toNat) x.1 = idxI p l 0) (μ := fun (x : Int × PUnit) => ((l.length : Int) - x.1).toNat) ?_ ⟨by simp, by simp only; omega, rfl⟩ (by simp only; omega)
  rintro ⟨i, _⟩ rec ⟨h0, h1, h2⟩ hrec
  simp only at h0 h1 h2 ⊢
  by_cases hi : i < l.length
  · obtain ⟨n, rfl⟩ : ∃ n : Nat, i = n := ⟨i.toNat, by omega⟩
    rw [decide_eq_true hi, cond_true, inB_of h0 hi, cond_true, Int.toNat_natCast, h _ (by rw [getD_nat (by omega)]; exact List.getElem_mem (by omega)), obind_some', wrap_id (by omega) (by omega)]
    rw [Int.toNat_natCast, idxI_drop (d := d) (by omega)] at h2
    cases hp : p (l.getD n d) with
    | true => rw [hp, cond_true] at h2; rw [cond_true, h2]
    | false => rw [hp, cond_false] at h2; rw [cond_false]; exact hrec _ ⟨by simp only; omega, by simp only; omega, h2⟩ (by simp only; omega)
  · rw [decide_eq_false hi, cond_false]
    have e : i.toNat = l.length := by omega
    rw [e, List.drop_length] at h2
    rw [← h2]
    rfl

theorem find_loop {α : Type} {p : α → Bool} {d : α} {l : List α} (hl : l.length ≤ 1000000) :
    lpK (Int × PUnit) Int (fun (again : Int × PUnit → Option Int) (x : Int × PUnit) => bif decide (x.fst < (↑(List.length l) : Int)) then bif inB x.fst (List.length l) then bif p
      (List.getD l (Int.toNat x.fst) d) then some x.fst else again
      (IntKind.wrap IntKind.i64 (x.fst + (1 : Int)), PUnit.unit) else none else some (-1 : Int)) ((0 : Int), PUnit.unit) = some (idxI p l 0) :=
  index_loop (f := fun a => some (p a.1)) hl fun _ _ => rfl

theorem upF_all {R σ : Type} {b : Nat → σ → (σ → Option R) → Option R} {f : σ → Option R} {p : Nat → Bool} {r : Option R} {s : σ} (n : Nat) (hb : ∀ i (k : σ → Option R), i < n → b i s k = bif p i then k s else r) :
    ∀ (k i : Nat), i + k ≤ n → upF b f k i s = bif (List.range' i k).all p then f s else r
  | 0, i, _ => rfl
  | k + 1, i, h => by
    simp only [upF, hb i _ (by omega), List.range'_succ, List.all_cons]
    cases hp : p i with
    | true => exact upF_all n hb k (i + 1) (by omega)
    | false => rfl

end Dn
end Go.Proofs.YtghjblbkbelcfaaGreat

namespace Go.Proofs.YtghjblbkbelcfaaGreat
open Tryz Dn Dn.Sh

abbrev Leg := ByteArray × P3 × Int
abbrev Brd := P3 × Int × List Leg
abbrev leg0 : Leg := ({ data := { toList := [] } }, ((0 : Int), (0 : Int), (0 : Int)), (0 : Int))
noncomputable def legAt (b : Brd) (i : Nat) : Leg := b.2.2.getD i leg0
noncomputable def findB (b : Brd) (s : ByteArray) : Int := idxI (fun l => decide (l.1 = s)) b.2.2 0
noncomputable def armB (b : Brd) (i : Nat) : P3 := sub b.1 (legAt b i).2.1
def near1 (n : Int) : Bool := decide (-32768 ≤ n ∧ n ≤ 32768)
def nearB (p : P3) : Bool := near1 p.1 && (near1 p.2.1 && near1 p.2.2)
def weightB (n : Int) : Bool := decide (0 ≤ n ∧ n ≤ 67108864)
noncomputable def legB (b : Brd) (i : Nat) : Bool := nameB (legAt b i).1 && (decide (findB b (legAt b i).1 = i) && (dec (legAt b i).2.1 && (decide (armB b i ≠ (0, 0, 0)) && (nearB (armB b i) && weightB (legAt b i).2.2))))
noncomputable def validB (b : Brd) : Bool := dec b.1 && (weightB b.2.1 && (decide (1 ≤ b.2.2.length ∧ b.2.2.length ≤ 3) && (List.range' 0 b.2.2.length).all (legB b)))

theorem index76 {f : (Leg × Unit) → Option Bool} {p : Leg → Bool} {l : List Leg} (hl : l.length ≤ 1000000) (h : ∀ a, a ∈ l → f (a, ()) = some (p a)) : slices_IndexFunc_44 l f = some (idxI p l 0) := by
  unfold slices_IndexFunc_44 slices_IndexFunc_44_b
  exact index_loop (f := f) (d := leg0) hl h
theorem find_ok {b : Brd} (h : b.2.2.length ≤ 1000000) (s : ByteArray) : bridle_find b s = some (findB b s) := by
  unfold bridle_find bridle_find_b
  rw [index76 (p := fun l => decide (l.1 = s)) h (fun a _ => by simp only [bridle_find_1, bridle_find_1_b, str_beq])]
  rfl
theorem refFind_ok {b : Brd} (h : b.2.2.length ≤ 1000000) (s : ByteArray) : ref18_Find b s = some (findB b s) := by
  simp only [ref18_Find, ref18_Find_b, str_beq]
  exact find_loop (p := fun l => decide (l.1 = s)) h

theorem weight_ok (n : Int) : bridle_weight n = some (weightB n) := by
  simp only [bridle_weight, bridle_weight_b, not_or_self', cond_true, bif_false', ge_iff_le, weightB, Bool.decide_and]
theorem short_ok (n : Int) : ref18_short n = some (near1 n) := by
  simp only [ref18_short, ref18_short_b, not_or_self', cond_true, bif_false', ge_iff_le, near1, Bool.decide_and]
theorem near_ok {p : P3} (h1 : -4194304 ≤ p.1 ∧ p.1 ≤ 4194304) (h2 : -4194304 ≤ p.2.1 ∧ p.2.1 ≤ 4194304) (h3 : -4194304 ≤ p.2.2 ∧ p.2.2 ≤ 4194304) : bridle_near p = some (nearB p) := by
  simp only [bridle_near, bridle_near_b, ite_max]
  rw [wrap_id (x := 0 - p.1) (by omega) (by omega), wrap_id (x := 0 - p.2.1) (by omega) (by omega), wrap_id (x := 0 - p.2.2) (by omega) (by omega)]
  congr 1
  rw [Bool.eq_iff_iff]
  simp only [nearB, near1, Bool.and_eq_true, decide_eq_true_eq]
  omega

theorem sub_bound {a b : P3} (ha : inP a) (hb : inP b) : (-2097152 ≤ (sub a b).1 ∧ (sub a b).1 ≤ 2097152) ∧ (-2097152 ≤ (sub a b).2.1 ∧ (sub a b).2.1 ≤ 2097152) ∧ (-2097152 ≤ (sub a b).2.2 ∧ (sub a b).2.2 ≤ 2097152) := by
  unfold inP at ha hb
  simp only [sub]
  omega
theorem minus_ok {a b : P3} (ha : inP a) (hb : inP b) : bridle_minus b a = some (sub a b) := by
  unfold inP at ha hb
  simp only [bridle_minus, bridle_minus_b, sub]
  rw [wrap_id (by omega) (by omega), wrap_id (by omega) (by omega), wrap_id (by omega) (by omega)]
theorem arm_ok {b : Brd} {i : Nat} (hi : i < b.2.2.length) (ha : inP b.1) (hb : inP (legAt b i).2.1) : bridle_arm b i = some (armB b i) := by
  simp only [bridle_arm, bridle_arm_b, inB_nat, decide_eq_true hi, cond_true, Int.toNat_natCast]
  rw [show List.getD b.2.2 i leg0 = legAt b i from rfl, minus_ok ha hb]
  rfl
theorem refArm_ok {b : Brd} {i : Nat} (hi : i < b.2.2.length) (ha : inP b.1) (hb : inP (legAt b i).2.1) : ref18_Arm b i = some (armB b i) := by
  simp only [ref18_Arm, ref18_Arm_b, inB_nat, decide_eq_true hi, cond_true, Int.toNat_natCast]
  rw [show List.getD b.2.2 i leg0 = legAt b i from rfl]
  unfold inP at ha hb
  rw [wrap_id (by omega) (by omega), wrap_id (by omega) (by omega), wrap_id (by omega) (by omega)]
  rfl
theorem sub_zero_iff {a b : P3} : sub a b = (0, 0, 0) ↔ b = a := by
  obtain ⟨a1, a2, a3⟩ := a
  obtain ⟨b1, b2, b3⟩ := b
  simp only [sub, Prod.mk.injEq]
  omega
theorem p3_eq {a b : P3} : (decide (a.1 = b.1) && (decide (a.2.1 = b.2.1) && (decide (a.2.2 = b.2.2) && true))) = decide (a = b) := by
  obtain ⟨a1, a2, a3⟩ := a
  obtain ⟨b1, b2, b3⟩ := b
  simp only [Prod.mk.injEq, Bool.decide_and, Bool.and_true]

end Go.Proofs.YtghjblbkbelcfaaGreat

namespace Go.Proofs.YtghjblbkbelcfaaGreat
open Tryz Dn Dn.Sh

theorem weightB_iff {n : Int} : weightB n = true ↔ 0 ≤ n ∧ n ≤ 67108864 := by simp [weightB]
theorem near1_iff {n : Int} : near1 n = true ↔ -32768 ≤ n ∧ n ≤ 32768 := by simp [near1]

theorem bValid_ok (b : Brd) : bridle_Valid b = some (validB b) := by
  simp only [bridle_Valid, bridle_Valid_b, valid_eq, obind_some', weight_ok, not_or_self', or_self_not, Bool.and_self, cond_true, validB, isName_ok, p3_eq]
  cases h1 : dec b.1 with
  | false => simp [obind_some']
  | true =>
    cases h2 : weightB b.2.1 with
    | false => simp [obind_some']
    | true =>
      simp only [Bool.not_true, Bool.not_false, cond_true, cond_false, obind_some', Bool.false_or, Bool.true_or, Bool.or_true, Bool.true_and]
      by_cases h3 : b.2.2.length < 1
      · rw [decide_eq_true (show (b.2.2.length : Int) < 1 by omega), decide_eq_false (show ¬ (1 ≤ b.2.2.length ∧ b.2.2.length ≤ 3) by omega)]
        rfl
      · rw [decide_eq_false (show ¬ (b.2.2.length : Int) < 1 by omega)]
        by_cases h4 : b.2.2.length > 3
        · rw [decide_eq_true (show (b.2.2.length : Int) > 3 by omega), decide_eq_false (show ¬ (1 ≤ b.2.2.length ∧ b.2.2.length ≤ 3) by omega)]
          rfl
        · rw [decide_eq_false (show ¬ (b.2.2.length : Int) > 3 by omega), decide_eq_true (show (1 ≤ b.2.2.length ∧ b.2.2.length ≤ 3) by omega)]
          simp only [Bool.not_true, Bool.not_false, cond_true, cond_false, Bool.false_or, Bool.true_or, Bool.or_true, Bool.true_and]
          refine (lpK_up (α := Int × PUnit) b.2.2.length (by omega) (fun i (_ : Unit) => ((i : Int), PUnit.unit)) (fun i s k => bif legB b i then k s else some false) (fun _ => some true) ?_ ?_ ()).trans ?_
          · intro again i _ hi
            have hw : IntKind.wrap .i64 ((i : Int) + 1) = ((i + 1 : Nat) : Int) := by rw [wrap_id (by omega) (by omega)]; rfl
            simp only [inB_nat, decide_eq_true hi, decide_eq_true (show (i : Int) < b.2.2.length by omega), cond_true, Int.toNat_natCast, hw]
            simp only [show List.getD b.2.2 i leg0 = legAt b i from rfl, find_ok (b := b) (by omega)]
            unfold legB
            cases g1 : nameB (legAt b i).1 with
            | false => simp [obind_some']
            | true =>
              by_cases g2 : findB b (legAt b i).1 = i
              · cases g3 : dec (legAt b i).2.1 with
                | false => simp [obind_some', g2]
                | true =>
                  by_cases g4 : (legAt b i).2.1 = b.1
                  · simp [obind_some', g2, g4, armB, sub_zero_iff]
                  · have g5 := sub_bound (dec_iff.1 h1) (dec_iff.1 g3)
                    have g6 : bridle_near (armB b i) = some (nearB (armB b i)) := near_ok (by unfold armB; omega) (by unfold armB; omega) (by unfold armB; omega)
                    have g7 : armB b i ≠ (0, 0, 0) := fun e => g4 (sub_zero_iff.1 e)
                    simp only [Bool.not_true, Bool.not_false, cond_true, cond_false, obind_some', Bool.false_or, Bool.true_or, Bool.or_true, Bool.true_and, g2, g4, g7, decide_true, decide_false, ne_eq, not_false_eq_true, arm_ok hi (dec_iff.1 h1) (dec_iff.1 g3), g6]
                    cases nearB (armB b i) <;> cases weightB (legAt b i).2.2 <;> rfl
              · simp [obind_some', g2]
          · intro again _
            simp
          · exact upF_all b.2.2.length (fun i k _ => rfl) b.2.2.length 0 (by omega) |>.trans (by cases (List.range' 0 b.2.2.length).all (legB b) <;> rfl)

theorem refValid_ok (b : Brd) : ref18_Valid b = some (validB b) := by
  simp only [ref18_Valid, ref18_Valid_b, refValidP_eq, obind_some', not_or_self', or_self_not, Bool.and_self, cond_true, validB, refIsName_ok]
  cases h1 : dec b.1 with
  | false => rfl
  | true =>
    by_cases h2 : b.2.1 < 0
    · have e : weightB b.2.1 = false := by unfold weightB; exact decide_eq_false (by omega)
      rw [decide_eq_true h2, e]
      rfl
    · by_cases h2' : b.2.1 > 67108864
      · have e : weightB b.2.1 = false := by unfold weightB; exact decide_eq_false (by omega)
        rw [decide_eq_false h2, decide_eq_true h2', e]
        rfl
      · have e : weightB b.2.1 = true := by unfold weightB; exact decide_eq_true (by omega)
        rw [decide_eq_false h2, decide_eq_false h2', e]
        simp only [Bool.not_true, Bool.not_false, cond_true, cond_false, obind_some', Bool.false_or, Bool.true_or, Bool.or_true, Bool.true_and]
        by_cases h3 : b.2.2.length < 1
        · rw [decide_eq_true (show (b.2.2.length : Int) < 1 by omega), decide_eq_false (show ¬ (1 ≤ b.2.2.length ∧ b.2.2.length ≤ 3) by omega)]
          rfl
        · rw [decide_eq_false (show ¬ (b.2.2.length : Int) < 1 by omega)]
          by_cases h4 : b.2.2.length > 3
          · rw [decide_eq_true (show (b.2.2.length : Int) > 3 by omega), decide_eq_false (show ¬ (1 ≤ b.2.2.length ∧ b.2.2.length ≤ 3) by omega)]
            rfl
          · rw [decide_eq_false (show ¬ (b.2.2.length : Int) > 3 by omega), decide_eq_true (show (1 ≤ b.2.2.length ∧ b.2.2.length ≤ 3) by omega)]
            simp only [Bool.not_true, Bool.not_false, cond_true, cond_false, Bool.false_or, Bool.true_or, Bool.or_true, Bool.true_and]
            refine (lpK_up (α := Int × PUnit) b.2.2.length (by omega) (fun i (_ : Unit) => ((i : Int), PUnit.unit)) (fun i s k => bif legB b i then k s else some false) (fun _ => some true) ?_ ?_ ()).trans ?_
            · intro again i _ hi
              have hw : IntKind.wrap .i64 ((i : Int) + 1) = ((i + 1 : Nat) : Int) := by rw [wrap_id (by omega) (by omega)]; rfl
              simp only [inB_nat, decide_eq_true hi, decide_eq_true (show (i : Int) < b.2.2.length by omega), cond_true, Int.toNat_natCast, hw]
              simp only [show List.getD b.2.2 i leg0 = legAt b i from rfl, refFind_ok (b := b) (by omega)]
              unfold legB
              cases g1 : nameB (legAt b i).1 with
              | false => rfl
              | true =>
                by_cases g2 : findB b (legAt b i).1 = i
                · cases g3 : dec (legAt b i).2.1 with
                  | false => simp [obind_some', g2]
                  | true =>
                    simp only [Bool.not_true, Bool.not_false, cond_true, cond_false, obind_some', Bool.false_or, Bool.true_or, Bool.or_true, Bool.true_and, g2, decide_true, ne_eq, refArm_ok hi (dec_iff.1 h1) (dec_iff.1 g3), short_ok]
                    have g4 : (decide ((armB b i).1 = 0) && (decide ((armB b i).2.1 = 0) && (decide ((armB b i).2.2 = 0) && true))) = decide (armB b i = (0, 0, 0)) := p3_eq (a := armB b i) (b := (0, 0, 0))
                    rw [g4]
                    unfold nearB
                    by_cases k1 : (legAt b i).2.2 < 0
                    · have e : weightB (legAt b i).2.2 = false := by unfold weightB; exact decide_eq_false (by omega)
                      rw [decide_eq_true k1, e]
                      simp
                    · by_cases k2 : (legAt b i).2.2 > 67108864
                      · have e : weightB (legAt b i).2.2 = false := by unfold weightB; exact decide_eq_false (by omega)
                        rw [decide_eq_false k1, decide_eq_true k2, e]
                        simp
                      · have e : weightB (legAt b i).2.2 = true := by unfold weightB; exact decide_eq_true (by omega)
                        rw [decide_eq_false k1, decide_eq_false k2, e]
                        by_cases k3 : armB b i = (0, 0, 0)
                        · simp only [k3, decide_true, not_true_eq_false, decide_false]
                          rfl
                        · simp only [k3, decide_true, not_false_eq_true, decide_false]
                          cases near1 (armB b i).1 <;> cases near1 (armB b i).2.1 <;> cases near1 (armB b i).2.2 <;> rfl
                · simp [obind_some', g2]
            · intro again _
              simp
            · exact upF_all b.2.2.length (fun i k _ => rfl) b.2.2.length 0 (by omega) |>.trans (by cases (List.range' 0 b.2.2.length).all (legB b) <;> rfl)

/-- What a valid bridle is. -/
theorem validB_iff {b : Brd} : validB b = true ↔ inP b.1 ∧ (0 ≤ b.2.1 ∧ b.2.1 ≤ 67108864) ∧ (1 ≤ b.2.2.length ∧ b.2.2.length ≤ 3) ∧ ∀ i, i < b.2.2.length → legB b i = true := by
  simp only [validB, Bool.and_eq_true, dec_iff, weightB_iff, decide_eq_true_eq, List.all_eq_true, List.mem_range']
  constructor
  · rintro ⟨h1, h2, h3, h4⟩
    exact ⟨h1, h2, h3, fun i hi => h4 i ⟨i, hi, by omega⟩⟩
  · rintro ⟨h1, h2, h3, h4⟩
    exact ⟨h1, h2, h3, fun i ⟨j, hj, e⟩ => h4 i (by omega)⟩
theorem legB_iff {b : Brd} {i : Nat} : legB b i = true ↔ nameB (legAt b i).1 = true ∧ findB b (legAt b i).1 = i ∧ inP (legAt b i).2.1 ∧ armB b i ≠ (0, 0, 0) ∧ ((-32768 ≤ (armB b i).1 ∧ (armB b i).1 ≤ 32768) ∧ (-32768 ≤ (armB b i).2.1 ∧ (armB b i).2.1 ≤ 32768) ∧ (-32768 ≤ (armB b i).2.2 ∧ (armB b i).2.2 ≤ 32768)) ∧ 0 ≤ (legAt b i).2.2 ∧ (legAt b i).2.2 ≤ 67108864 := by
  simp only [legB, nearB, Bool.and_eq_true, dec_iff, weightB_iff, decide_eq_true_eq, near1_iff]

theorem find_range {b : Brd} {s : ByteArray} (h : 0 ≤ findB b s) : ∃ i : Nat, findB b s = i ∧ i < b.2.2.length ∧ (legAt b i).1 = s := by
  obtain ⟨h1, h2, h3⟩ := idxI_at (d := leg0) (Int.le_refl 0) h
  refine ⟨(findB b s).toNat, by omega, by unfold findB; omega, ?_⟩
  have := of_decide_eq_true h3
  rw [Int.sub_zero] at this
  exact this

/-- The length of a leg. -/
def lenS (a : P3) : Int × Int := rootS (1000000 * nsq a)
theorem nsq_bound {a : P3} (h : (-32768 ≤ a.1 ∧ a.1 ≤ 32768) ∧ (-32768 ≤ a.2.1 ∧ a.2.1 ≤ 32768) ∧ (-32768 ≤ a.2.2 ∧ a.2.2 ≤ 32768)) : 0 ≤ nsq a ∧ nsq a ≤ 3221225472 := by
  have e1 := sq_bound h.1.1 h.1.2
  have e2 := sq_bound h.2.1.1 h.2.1.2
  have e3 := sq_bound h.2.2.1 h.2.2.2
  unfold nsq
  omega
theorem length_ok {b : Brd} {i : Nat} (h : validB b = true) (hi : i < b.2.2.length) : bridle_length b i = some (lenS (armB b i), 0, ()) := by
  obtain ⟨h1, _, _, h4⟩ := validB_iff.1 h
  obtain ⟨_, _, g3, _, g5, _⟩ := legB_iff.1 (h4 i hi)
  obtain ⟨n1, n2⟩ := nsq_bound g5
  simp only [bridle_length, bridle_length_b, inB_nat, decide_eq_true hi, cond_true, Int.toNat_natCast]
  rw [show List.getD b.2.2 i leg0 = legAt b i from rfl, square_ok h1 g3, obind_some']
  simp only [decide_true, Bool.not_true, cond_false]
  rw [show nsq (sub b.1 (legAt b i).2.1) = nsq (armB b i) from rfl, wrap_id (by omega) (by omega), root_ok (by omega) (by omega)]
  rfl
theorem dot_ok {a c : P3} (h : (-32768 ≤ a.1 ∧ a.1 ≤ 32768) ∧ (-32768 ≤ a.2.1 ∧ a.2.1 ≤ 32768) ∧ (-32768 ≤ a.2.2 ∧ a.2.2 ≤ 32768)) (h' : (-32768 ≤ c.1 ∧ c.1 ≤ 32768) ∧ (-32768 ≤ c.2.1 ∧ c.2.1 ≤ 32768) ∧ (-32768 ≤ c.2.2 ∧ c.2.2 ≤ 32768)) : ref18_dot a c = some (a.1 * c.1 + a.2.1 * c.2.1 + a.2.2 * c.2.2) := by
  have e1 := mul_bound h.1.1 h.1.2 h'.1.1 h'.1.2
  have e2 := mul_bound h.2.1.1 h.2.1.2 h'.2.1.1 h'.2.1.2
  have e3 := mul_bound h.2.2.1 h.2.2.2 h'.2.2.1 h'.2.2.2
  simp (disch := omega) only [ref18_dot, ref18_dot_b, wrap_id]
end Go.Proofs.YtghjblbkbelcfaaGreat

namespace Go.Proofs.YtghjblbkbelcfaaGreat
open Tryz Dn Dn.Sh

theorem fits_div {n d : Int} (hd : d ≠ 0) (hn : n.natAbs ≤ 1152921504606846976) (hd2 : d.natAbs ≤ 1152921504606846976) : fitQ (divQ n d) = (prQ ((n : Rat) / d), 0, ()) := by
  obtain ⟨m1, m2, m3⟩ := mkQ_div (s := decide (n < 0) != decide (d < 0)) (n := n.natAbs) (d := d.natAbs) (by omega)
  obtain ⟨m4, m5⟩ := mkQ_low (s := decide (n < 0) != decide (d < 0)) m2 m3
  have hf : fitsQ (divQ n d) := by
    unfold fitsQ divQ
    rw [m1, m4, m5]
    have a1 : n.natAbs / Nat.gcd n.natAbs d.natAbs ≤ n.natAbs := Nat.div_le_self _ _
    have a2 : d.natAbs / Nat.gcd n.natAbs d.natAbs ≤ d.natAbs := Nat.div_le_self _ _
    refine ⟨?_, by rw [← m5] at *; omega⟩
    unfold sgn
    generalize n.natAbs / Nat.gcd n.natAbs d.natAbs = p at *
    split <;> omega
  unfold fitQ
  rw [if_pos hf, divQ_eq hd]

/-- What a bridle program answers for pulls. -/
def outP : Except Int (List Rat) → List Fq × Int × Unit
  | .ok l => (l.map prQ, 0, ())
  | .error e => ([], e, ())

theorem quotients_ok {d : Int} (hd : d ≠ 0) (hd2 : d.natAbs ≤ 1152921504606846976) {l : List Int} (hl : ∀ n ∈ l, n.natAbs ≤ 1152921504606846976) (hlen : l.length ≤ 1000) : bridle_quotients d l = some (outP (.ok (l.map fun (n : Int) => (n : Rat) / d))) := by
  unfold bridle_quotients bridle_quotients_b
  refine lpK_loop (g := fun _ => some (outP (.ok (l.map fun (n : Int) => (n : Rat) / d)))) (I := fun (x : List Fq × Int × PUnit) => 0 ≤ x.2.1 ∧ x.2.1 ≤ l.length ∧ x.1 = (l.take x.2.1.toNat).map fun (n : Int) => prQ ((n : Rat) / d)) (μ := fun (x : List Fq × Int × PUnit) => ((l.length : Int) - x.2.1).toNat) ?_ ⟨by simp, by simp only; omega, by simp⟩ (by simp only; omega)
  rintro ⟨out, i, _⟩ rec ⟨h0, h1, h2⟩ hrec
  simp only at h0 h1 h2 ⊢
  by_cases hi : i < l.length
  · obtain ⟨k, rfl⟩ : ∃ k : Nat, i = k := ⟨i.toNat, by omega⟩
    have hk : k < l.length := by omega
    have hb := hl l[k] (List.getElem_mem hk)
    rw [decide_eq_true hi, cond_true, inB_of h0 hi, cond_true, Int.toNat_natCast, getD_nat hk, Make_ok (by omega) (by omega) (by omega) (by omega), if_neg hd, fits_div hd hb hd2]
    simp only [obind_some', decide_true, Bool.not_true, cond_false]
    have hlen2 : out.length ≤ 1000 := by rw [h2, List.length_map, List.length_take]; omega
    rw [fitB_of (by omega), cond_true, wrap_id (by omega) (by omega)]
    refine hrec _ ⟨by simp only; omega, by simp only; omega, ?_⟩ (by simp only; omega)
    simp only
    rw [h2, show ((k : Int) + 1).toNat = k + 1 by omega, List.take_succ_eq_append_getElem hk, List.map_append]
    rfl
  · rw [decide_eq_false hi, cond_false]
    have : i.toNat = l.length := by omega
    rw [h2, this, List.take_length]
    simp only [outP, List.map_map]
    rfl

theorem quotient_ok {w n d : Int} (h : (w * n).natAbs ≤ 1152921504606846976) (hd : d ≠ 0) (hd2 : d.natAbs ≤ 1152921504606846976) : ref18_quotient w n d = some (prQ (((w * n : Int) : Rat) / d)) := by
  simp only [ref18_quotient, ref18_quotient_b]
  rw [wrap_id (by omega) (by omega), RMake_ok (by omega) (by omega) (by omega) (by omega), if_neg hd, fits_div hd h hd2]
  rfl

/-! ### Vectors -/
def crs (a b : P3) : P3 := (a.2.1 * b.2.2 - a.2.2 * b.2.1, a.2.2 * b.1 - a.1 * b.2.2, a.1 * b.2.1 - a.2.1 * b.1)
def dt (a b : P3) : Int := a.1 * b.1 + a.2.1 * b.2.1 + a.2.2 * b.2.2
def box (m : Int) (a : P3) : Prop := (-m ≤ a.1 ∧ a.1 ≤ m) ∧ (-m ≤ a.2.1 ∧ a.2.1 ≤ m) ∧ (-m ≤ a.2.2 ∧ a.2.2 ≤ m)

theorem cross_ok {a b : P3} (ha : box 67108864 a) (hb : box 67108864 b) : bridle_cross a b = some (crs a b) := by
  obtain ⟨⟨a1, a2⟩, ⟨a3, a4⟩, ⟨a5, a6⟩⟩ := ha
  obtain ⟨⟨b1, b2⟩, ⟨b3, b4⟩, ⟨b5, b6⟩⟩ := hb
  have e1 := mul_bound a3 a4 b5 b6
  have e2 := mul_bound a5 a6 b3 b4
  have e3 := mul_bound a5 a6 b1 b2
  have e4 := mul_bound a1 a2 b5 b6
  have e5 := mul_bound a1 a2 b3 b4
  have e6 := mul_bound a3 a4 b1 b2
  simp (disch := omega) only [bridle_cross, bridle_cross_b, wrap_id]
  rfl
theorem refCross_ok {a b : P3} (ha : box 67108864 a) (hb : box 67108864 b) : ref18_Cross a b = some (crs a b) := by
  rw [← cross_ok ha hb]; rfl
theorem crs_box {a b : P3} (ha : box 32768 a) (hb : box 32768 b) : box 2147483648 (crs a b) := by
  obtain ⟨⟨a1, a2⟩, ⟨a3, a4⟩, ⟨a5, a6⟩⟩ := ha
  obtain ⟨⟨b1, b2⟩, ⟨b3, b4⟩, ⟨b5, b6⟩⟩ := hb
  have e1 := mul_bound a3 a4 b5 b6
  have e2 := mul_bound a5 a6 b3 b4
  have e3 := mul_bound a5 a6 b1 b2
  have e4 := mul_bound a1 a2 b5 b6
  have e5 := mul_bound a1 a2 b3 b4
  have e6 := mul_bound a3 a4 b1 b2
  simp only [box, crs]
  omega
theorem dt_ok {a c : P3} (ha : box 32768 a) (hc : box 2147483648 c) : bridle_dot a c = some (dt a c) ∧ (dt a c).natAbs ≤ 211106232532992 := by
  obtain ⟨⟨a1, a2⟩, ⟨a3, a4⟩, ⟨a5, a6⟩⟩ := ha
  obtain ⟨⟨b1, b2⟩, ⟨b3, b4⟩, ⟨b5, b6⟩⟩ := hc
  have e1 := mul_bound a1 a2 b1 b2
  have e2 := mul_bound a3 a4 b3 b4
  have e3 := mul_bound a5 a6 b5 b6
  refine ⟨by simp (disch := omega) only [bridle_dot, bridle_dot_b, wrap_id, dt], by simp only [dt]; omega⟩
theorem refDt_ok {a c : P3} (ha : box 32768 a) (hc : box 2147483648 c) : ref18_dot a c = some (dt a c) := (dt_ok ha hc).1

theorem box_mono {m n : Int} {a : P3} (h : box m a) (hm : m ≤ n) : box n a := by
  unfold box at h ⊢
  omega
theorem zero_eq {a : P3} : (decide (a.1 = 0) && (decide (a.2.1 = 0) && (decide (a.2.2 = 0) && true))) = decide (a = (0, 0, 0)) := p3_eq (a := a) (b := (0, 0, 0))

end Go.Proofs.YtghjblbkbelcfaaGreat

namespace Go.Proofs.YtghjblbkbelcfaaGreat
open Tryz Dn Dn.Sh

def nzP (a : P3) (b : P3) : P3 := if b = (0, 0, 0) then a else b
/-- Whether the normal, or the first arm, lets pull upwards. -/
def uprN (n a : P3) : Bool := if n = (0, 0, 0) then decide (a.1 = 0 ∧ a.2.1 = 0) else decide (n.2.2 = 0)

theorem upright_gen {l : List P3} (hl : 0 < l.length) (hl2 : l.length ≤ 1000) (hb : ∀ i, i < l.length → box 67108864 (l.getD i (0, 0, 0))) :
    bridle_upright l = upF (fun i (s : P3) k => upF (fun j (s : P3) k2 => k2 (nzP s (crs (l.getD j (0, 0, 0)) (l.getD i (0, 0, 0))))) k i 0 s) (fun s => some (uprN s (l.getD 0 (0, 0, 0)))) l.length 0 (0, 0, 0) := by
  simp only [bridle_upright, bridle_upright_b, not_or_self', or_self_not, Bool.and_self, cond_true, zero_eq]
  refine lpK_up (α := Int × P3 × PUnit) l.length (by omega) (fun i (s : P3) => ((i : Int), s, PUnit.unit)) _ _ ?_ ?_ (0, 0, 0)
  · intro again i s hi
    simp only
    rw [decide_eq_true (show (i : Int) < l.length by omega), cond_true]
    have hw : IntKind.wrap .i64 ((i : Int) + 1) = ((i + 1 : Nat) : Int) := by rw [wrap_id (by omega) (by omega)]; rfl
    refine lpK_up (α := Int × P3 × PUnit) i (by omega) (fun i (s : P3) => ((i : Int), s, PUnit.unit)) _ _ ?_ ?_ s
    · intro again' j s' hj
      simp only
      have hw' : IntKind.wrap .i64 ((j : Int) + 1) = ((j + 1 : Nat) : Int) := by rw [wrap_id (by omega) (by omega)]; rfl
      rw [decide_eq_true (show (j : Int) < i by omega), cond_true, inB_of (by omega) (by omega), cond_true, inB_of (by omega) (by omega), cond_true]
      simp only [Int.toNat_natCast]
      rw [cross_ok (hb j (by omega)) (hb i hi), obind_some', hw']
      unfold nzP
      by_cases hz : crs (l.getD j (0, 0, 0)) (l.getD i (0, 0, 0)) = (0, 0, 0)
      · rw [if_pos hz, hz]; rfl
      · rw [if_neg hz, decide_eq_false hz]; rfl
    · intro again' s'
      simp only
      rw [decide_eq_false (by omega), cond_false, hw]
  · intro again s
    simp only
    rw [decide_eq_false (by omega), cond_false, inB_of (by omega) (by omega), cond_true]
    unfold uprN
    by_cases hz : s = (0, 0, 0)
    · rw [if_pos hz, decide_eq_true hz]
      simp only [Bool.not_true, cond_false, Bool.or_true, Bool.and_true, not_or_self', or_self_not, cond_true, bif_false', Bool.decide_and]
    · rw [if_neg hz, decide_eq_false hz]
      rfl

theorem upright2 {a b : P3} (ha : box 67108864 a) (hb : box 67108864 b) : bridle_upright [a, b] = some (uprN (nzP (0, 0, 0) (crs a b)) a) := by
  rw [upright_gen (by simp) (by simp) (fun i hi => ?_)]
  · rfl
  · rcases i with _ | _ | i
    · exact ha
    · exact hb
    · exact absurd hi (by simp)
theorem upright3 {a b c : P3} (ha : box 67108864 a) (hb : box 67108864 b) (hc : box 67108864 c) : bridle_upright [a, b, c] = some (uprN (nzP (nzP (nzP (0, 0, 0) (crs a b)) (crs a c)) (crs b c)) a) := by
  rw [upright_gen (by simp) (by simp) (fun i hi => ?_)]
  · rfl
  · rcases i with _ | _ | _ | i
    · exact ha
    · exact hb
    · exact hc
    · exact absurd hi (by simp)

def solve1 (w : Int) (a : P3) : Except Int (List Rat) := if w = 0 then .ok [0] else if a.1 ≠ 0 ∨ a.2.1 ≠ 0 then .error 22 else .ok [(w : Rat) / a.2.2]
def solve2 (w : Int) (a b : P3) : Except Int (List Rat) :=
  if crs a b = (0, 0, 0) then .error (if w = 0 ∨ (a.1 = 0 ∧ a.2.1 = 0) then 21 else 22)
  else if w ≠ 0 ∧ (crs a b).2.2 ≠ 0 then .error 22
  else if (crs a b).1 ≠ 0 then .ok [((crs (0, 0, w) b).1 : Rat) / (crs a b).1, ((crs a (0, 0, w)).1 : Rat) / (crs a b).1]
  else if (crs a b).2.1 ≠ 0 then .ok [((crs (0, 0, w) b).2.1 : Rat) / (crs a b).2.1, ((crs a (0, 0, w)).2.1 : Rat) / (crs a b).2.1]
  else .ok [((crs (0, 0, w) b).2.2 : Rat) / (crs a b).2.2, ((crs a (0, 0, w)).2.2 : Rat) / (crs a b).2.2]
def solve3 (w : Int) (a b c : P3) : Except Int (List Rat) :=
  if dt a (crs b c) = 0 then .error (if w = 0 ∨ uprN (nzP (nzP (nzP (0, 0, 0) (crs a b)) (crs a c)) (crs b c)) a = true then 21 else 22)
  else .ok [((w * (crs b c).2.2 : Int) : Rat) / dt a (crs b c), ((w * (crs c a).2.2 : Int) : Rat) / dt a (crs b c), ((w * (crs a b).2.2 : Int) : Rat) / dt a (crs b c)]

theorem single_ok {w : Int} {a : P3} (hw : 0 ≤ w ∧ w ≤ 67108864) (ha : box 32768 a) (h0 : a ≠ (0, 0, 0)) : bridle_single a w = some (outP (solve1 w a)) := by
  simp only [bridle_single, bridle_single_b, not_or_self', or_self_not, cond_true]
  unfold solve1
  by_cases h : w = 0
  · rw [decide_eq_true h, if_pos h, cond_true, quotients_ok (by omega) (by omega) (by simp) (by simp), obind_some']
    have : ((0 : Int) : Rat) / ((1 : Int) : Rat) = 0 := by rw [Rat.intCast_zero, Rat.div_def, Rat.zero_mul]
    simp only [outP, List.map_cons, List.map_nil, this]
  · rw [decide_eq_false h, if_neg h, cond_false]
    by_cases h1 : a.1 = 0
    · by_cases h2 : a.2.1 = 0
      · have h3 : a.2.2 ≠ 0 := fun h3 => h0 (by obtain ⟨x, y, z⟩ := a; simp only at h1 h2 h3; rw [h1, h2, h3])
        have hz := ha.2.2
        rw [if_neg (by omega), decide_eq_true h1, decide_eq_true h2]
        simp only [Bool.not_true, cond_false]
        rw [quotients_ok h3 (by omega) (by simp; omega) (by simp), obind_some']
        rfl
      · rw [if_pos (by omega), decide_eq_true h1, decide_eq_false h2]; rfl
    · rw [if_pos (by omega), decide_eq_false h1]; rfl

theorem dependent_ok {w : Int} {l : List P3} {u : Bool} (h : bridle_upright l = some u) : bridle_dependent l w = some (if w = 0 ∨ u = true then 21 else 22) := by
  simp only [bridle_dependent, bridle_dependent_b, not_or_self', or_self_not, cond_true, h]
  by_cases hw : w = 0
  · rw [decide_eq_true hw, if_pos (.inl hw)]; rfl
  · rw [decide_eq_false hw]
    cases u <;> simp [hw, obind_some']

theorem natAbs_of {n m : Int} {k : Nat} (h1 : -m ≤ n) (h2 : n ≤ m) (hk : m ≤ k) : n.natAbs ≤ k := by omega

theorem double_ok {w : Int} {a b : P3} (hw : 0 ≤ w ∧ w ≤ 67108864) (ha : box 32768 a) (hb : box 32768 b) : bridle_double a b w = some (outP (solve2 w a b)) := by
  have ha' := box_mono ha (show (32768 : Int) ≤ 67108864 by omega)
  have hb' := box_mono hb (show (32768 : Int) ≤ 67108864 by omega)
  have hc := crs_box ha hb
  have hl : box 67108864 ((0, 0, w) : P3) := by unfold box; simp only; omega
  have hp : box 2199023255552 (crs (0, 0, w) b) := by
    obtain ⟨⟨b1, b2⟩, ⟨b3, b4⟩, ⟨b5, b6⟩⟩ := hb
    have e1 := mul_bound (a := w) (m := 67108864) (by omega) (by omega) b1 b2
    have e2 := mul_bound (a := w) (m := 67108864) (by omega) (by omega) b3 b4
    simp only [box, crs, Int.zero_mul]
    omega
  have hq : box 2199023255552 (crs a (0, 0, w)) := by
    obtain ⟨⟨b1, b2⟩, ⟨b3, b4⟩, ⟨b5, b6⟩⟩ := ha
    have e1 := mul_bound b1 b2 (b := w) (n := 67108864) (by omega) (by omega)
    have e2 := mul_bound b3 b4 (b := w) (n := 67108864) (by omega) (by omega)
    simp only [box, crs, Int.mul_zero]
    omega
  simp only [bridle_double, bridle_double_b, not_or_self', cond_true, cross_ok ha' hb', obind_some', zero_eq]
  unfold solve2
  by_cases h0 : crs a b = (0, 0, 0)
  · rw [decide_eq_true h0, if_pos h0, cond_true, dependent_ok (upright2 ha' hb'), obind_some', h0]
    simp only [nzP, uprN, if_true, outP, decide_eq_true_eq]
  · rw [decide_eq_false h0, if_neg h0, cond_false, bif_false']
    by_cases h1 : w ≠ 0 ∧ (crs a b).2.2 ≠ 0
    · rw [if_pos h1, show (!decide (w = 0) && !decide ((crs a b).2.2 = 0)) = true by simp [h1.1, h1.2]]; rfl
    · rw [if_neg h1, show (!decide (w = 0) && !decide ((crs a b).2.2 = 0)) = false by rw [Bool.eq_false_iff]; intro h; apply h1; simpa using h]
      rw [cond_false, cross_ok hl hb', obind_some', cross_ok ha' hl, obind_some']
      obtain ⟨c1, c2, c3⟩ := hc
      obtain ⟨p1, p2, p3⟩ := hp
      obtain ⟨q1, q2, q3⟩ := hq
      by_cases h2 : (crs a b).1 = 0
      · rw [decide_eq_true h2, if_neg (by omega), Bool.not_true, cond_false]
        by_cases h3 : (crs a b).2.1 = 0
        · have h4 : (crs a b).2.2 ≠ 0 := fun h4 => h0 (by
            generalize crs a b = c at h2 h3 h4
            obtain ⟨x, y, z⟩ := c; simp only at h2 h3 h4; rw [h2, h3, h4])
          rw [decide_eq_true h3, if_neg (by omega), Bool.not_true, cond_false, quotients_ok h4 (by omega) (by intro n hn; simp only [List.mem_cons, List.not_mem_nil, or_false] at hn; rcases hn with rfl | rfl <;> omega) (by simp), obind_some']
          rfl
        · rw [decide_eq_false h3, if_pos h3, Bool.not_false, cond_true, quotients_ok h3 (by omega) (by intro n hn; simp only [List.mem_cons, List.not_mem_nil, or_false] at hn; rcases hn with rfl | rfl <;> omega) (by simp), obind_some']
          rfl
      · rw [decide_eq_false h2, if_pos h2, Bool.not_false, cond_true, quotients_ok h2 (by omega) (by intro n hn; simp only [List.mem_cons, List.not_mem_nil, or_false] at hn; rcases hn with rfl | rfl <;> omega) (by simp), obind_some']
        rfl

end Go.Proofs.YtghjblbkbelcfaaGreat

namespace Go.Proofs.YtghjblbkbelcfaaGreat
open Tryz Dn Dn.Sh

/-- The pulls of a bridle, or the number of an error. -/
noncomputable def pullsE (b : Brd) : Except Int (List Rat) :=
  if b.2.2.length = 1 then solve1 b.2.1 (armB b 0) else if b.2.2.length = 2 then solve2 b.2.1 (armB b 0) (armB b 1) else solve3 b.2.1 (armB b 0) (armB b 1) (armB b 2)

theorem valid_arm {b : Brd} (h : validB b = true) {i : Nat} (hi : i < b.2.2.length) : box 32768 (armB b i) ∧ armB b i ≠ (0, 0, 0) ∧ inP b.1 ∧ inP (legAt b i).2.1 := by
  obtain ⟨h1, _, _, h4⟩ := validB_iff.1 h
  obtain ⟨_, _, g3, g4, g5, _⟩ := legB_iff.1 (h4 i hi)
  exact ⟨g5, g4, h1, g3⟩

theorem solve_ok {b : Brd} (h : validB b = true) : bridle_solve b = some (outP (pullsE b)) := by
  obtain ⟨v1, v2, v3, _⟩ := validB_iff.1 h
  unfold bridle_solve bridle_solve_b
  refine lpK_loop (g := fun _ => some (outP (pullsE b))) (I := fun (x : List P3 × Int × PUnit) => 0 ≤ x.2.1 ∧ x.2.1 ≤ b.2.2.length ∧ x.1 = (List.range' 0 x.2.1.toNat).map (armB b)) (μ := fun (x : List P3 × Int × PUnit) => ((b.2.2.length : Int) - x.2.1).toNat) ?_ ⟨by simp, by simp only; omega, by simp⟩ (by simp only; omega)
  rintro ⟨out, i, _⟩ rec ⟨h0, h1, h2⟩ hrec
  simp only at h0 h1 h2 ⊢
  by_cases hi : i < b.2.2.length
  · obtain ⟨k, rfl⟩ : ∃ k : Nat, i = k := ⟨i.toNat, by omega⟩
    have hk : k < b.2.2.length := by omega
    obtain ⟨_, _, g1, g2⟩ := valid_arm h hk
    have hl : out.length ≤ 3 := by rw [h2, List.length_map, List.length_range']; omega
    rw [decide_eq_true hi, cond_true, arm_ok hk g1 g2, obind_some', fitB_of (by omega), cond_true, wrap_id (by omega) (by omega)]
    refine hrec _ ⟨by simp only; omega, by simp only; omega, ?_⟩ (by simp only; omega)
    simp only
    rw [h2, show ((k : Int) + 1).toNat = k + 1 by omega, show ((k : Int)).toNat = k by omega, List.range'_1_concat, List.map_append]
    simp
  · rw [decide_eq_false hi, cond_false]
    have e : i.toNat = b.2.2.length := by omega
    rw [e] at h2
    have a0 := valid_arm h (i := 0) (by omega)
    have hn : b.2.2.length = 1 ∨ b.2.2.length = 2 ∨ b.2.2.length = 3 := by omega
    rcases hn with hn | hn | hn
    · rw [hn] at h2
      have h2' : out = [armB b 0] := h2
      subst h2'
      simp only [show decide ((([armB b 0] : List P3).length : Int) = 1) = true from rfl, show inB 0 ([armB b 0] : List P3).length = true from rfl, show Nat.ble 1 ([armB b 0] : List P3).length = true from rfl, cT, List.getD_cons_zero]
      rw [single_ok v2 a0.1 a0.2.1, obind_some']
      unfold pullsE
      rw [if_pos hn]
    · rw [hn] at h2
      have h2' : out = [armB b 0, armB b 1] := h2
      subst h2'
      have a1 := valid_arm h (i := 1) (by omega)
      simp only [show decide ((([armB b 0, armB b 1] : List P3).length : Int) = 1) = false from rfl, show decide ((([armB b 0, armB b 1] : List P3).length : Int) = 2) = true from rfl, show inB 0 ([armB b 0, armB b 1] : List P3).length = true from rfl, show Nat.ble 1 ([armB b 0, armB b 1] : List P3).length = true from rfl, show inB 1 ([armB b 0, armB b 1] : List P3).length = true from rfl, show Nat.ble 2 ([armB b 0, armB b 1] : List P3).length = true from rfl, cT, cF, List.getD_cons_zero, List.getD_cons_succ]
      rw [double_ok v2 a0.1 a1.1, obind_some']
      unfold pullsE
      rw [if_neg (by omega), if_pos hn]
    · rw [hn] at h2
      have h2' : out = [armB b 0, armB b 1, armB b 2] := h2
      subst h2'
      have a1 := valid_arm h (i := 1) (by omega)
      have a2 := valid_arm h (i := 2) (by omega)
      unfold pullsE
      rw [if_neg (by omega), if_neg (by omega)]
      generalize armB b 0 = p at *
      generalize armB b 1 = q at *
      generalize armB b 2 = r at *
      have p' := box_mono a0.1 (show (32768 : Int) ≤ 67108864 by omega)
      have q' := box_mono a1.1 (show (32768 : Int) ≤ 67108864 by omega)
      have r' := box_mono a2.1 (show (32768 : Int) ≤ 67108864 by omega)
      obtain ⟨d1, d2⟩ := dt_ok a0.1 (crs_box a1.1 a2.1)
      simp only [show decide ((([p, q, r] : List P3).length : Int) = 1) = false from rfl, show decide ((([p, q, r] : List P3).length : Int) = 2) = false from rfl, show inB 0 ([p, q, r] : List P3).length = true from rfl, show Nat.ble 1 ([p, q, r] : List P3).length = true from rfl, show inB 1 ([p, q, r] : List P3).length = true from rfl, show Nat.ble 2 ([p, q, r] : List P3).length = true from rfl, show inB 2 ([p, q, r] : List P3).length = true from rfl, show Nat.ble 3 ([p, q, r] : List P3).length = true from rfl, cT, cF, List.getD_cons_zero, List.getD_cons_succ, cross_ok q' r', cross_ok r' p', cross_ok p' q', obind_some', d1]
      unfold solve3
      by_cases hd : dt p (crs q r) = 0
      · rw [decide_eq_true hd, if_pos hd, cond_true, dependent_ok (upright3 p' q' r'), obind_some']
        rfl
      · rw [decide_eq_false hd, if_neg hd, cond_false]
        have e1 := mul_bound (a := b.2.1) (m := 67108864) (by omega) (by omega) (crs_box a1.1 a2.1).2.2.1 (crs_box a1.1 a2.1).2.2.2
        have e2 := mul_bound (a := b.2.1) (m := 67108864) (by omega) (by omega) (crs_box a2.1 a0.1).2.2.1 (crs_box a2.1 a0.1).2.2.2
        have e3 := mul_bound (a := b.2.1) (m := 67108864) (by omega) (by omega) (crs_box a0.1 a1.1).2.2.1 (crs_box a0.1 a1.1).2.2.2
        rw [wrap_id (by omega) (by omega), wrap_id (by omega) (by omega), wrap_id (by omega) (by omega), quotients_ok hd (by omega) (by intro n hn; simp only [List.mem_cons, List.not_mem_nil, or_false] at hn; rcases hn with rfl | rfl | rfl <;> omega) (by simp), obind_some']
        rfl

theorem pulls_ok (b : Brd) : bridle_Pulls b = some (if validB b = true then outP (pullsE b) else ([], 1, ())) := by
  simp only [bridle_Pulls, bridle_Pulls_b, bValid_ok, obind_some']
  cases h : validB b with
  | true => rw [Bool.not_true, cond_false, solve_ok h, obind_some', if_pos rfl]
  | false => rfl

end Go.Proofs.YtghjblbkbelcfaaGreat

namespace Go.Proofs.YtghjblbkbelcfaaGreat
open Tryz Dn Dn.Sh

theorem div_eq {n d m e : Int} (hd : d ≠ 0) (he : e ≠ 0) (h : n * e = m * d) : (n : Rat) / d = (m : Rat) / e := by
  rw [← Rat.divInt_eq_div, ← Rat.divInt_eq_div, Rat.divInt_eq_divInt_iff hd he]
  exact h
theorem zero_div {n d : Int} (h : n = 0) : (n : Rat) / d = 0 := by rw [h, Rat.intCast_zero, Rat.div_def, Rat.zero_mul]

theorem one_ok {w : Int} {a : P3} (hw : 0 ≤ w ∧ w ≤ 67108864) (ha : box 32768 a) (h0 : a ≠ (0, 0, 0)) : ref18_one w a = some (outP (solve1 w a)) := by
  simp only [ref18_one, ref18_one_b, not_or_self', or_self_not, cond_true]
  unfold solve1
  by_cases h : w = 0
  · rw [decide_eq_true h, if_pos h]; rfl
  · rw [decide_eq_false h, if_neg h, cond_false]
    by_cases h1 : a.1 = 0
    · by_cases h2 : a.2.1 = 0
      · have h3 : a.2.2 ≠ 0 := fun h3 => h0 (by obtain ⟨x, y, z⟩ := a; simp only at h1 h2 h3; rw [h1, h2, h3])
        have hz := ha.2.2
        rw [if_neg (by omega), decide_eq_true h1, decide_eq_true h2]
        simp only [Bool.not_true, cond_false]
        rw [quotient_ok (by omega) h3 (by omega), obind_some', Int.mul_one]
        rfl
      · rw [if_pos (by omega), decide_eq_true h1, decide_eq_false h2]; rfl
    · rw [if_pos (by omega), decide_eq_false h1]; rfl

theorem refUpright_ok (a : P3) : ref18_upright a = some (decide (a.1 = 0 ∧ a.2.1 = 0)) := by
  simp only [ref18_upright, ref18_upright_b, not_or_self', cond_true, bif_false', Bool.decide_and]

theorem two_ok {w : Int} {a b : P3} (hw : 0 ≤ w ∧ w ≤ 67108864) (ha : box 32768 a) (hb : box 32768 b) : ref18_two w a b = some (outP (solve2 w a b)) := by
  have ha' := box_mono ha (show (32768 : Int) ≤ 67108864 by omega)
  have hb' := box_mono hb (show (32768 : Int) ≤ 67108864 by omega)
  have hc := crs_box ha hb
  simp only [ref18_two, ref18_two_b, not_or_self', or_self_not, cT, refCross_ok ha' hb', obind_some', zero_eq, refUpright_ok]
  unfold solve2
  by_cases h0 : crs a b = (0, 0, 0)
  · rw [decide_eq_true h0, if_pos h0, cond_true]
    by_cases hz : w = 0
    · rw [decide_eq_true hz, if_pos (.inl hz)]; rfl
    · rw [decide_eq_false hz]
      by_cases hu : a.1 = 0 ∧ a.2.1 = 0
      · rw [if_pos (.inr hu), decide_eq_true hu]; rfl
      · rw [if_neg (by omega), decide_eq_false hu]; rfl
  · rw [decide_eq_false h0, if_neg h0, cond_false]
    by_cases hz : w = 0
    · rw [decide_eq_true hz, if_neg (by omega), cond_true]
      subst hz
      have z1 : (crs (0, 0, 0) b) = (0, 0, 0) := by simp [crs]
      have z2 : (crs a (0, 0, 0)) = (0, 0, 0) := by simp [crs]
      rw [z1, z2]
      simp only [zero_div, ite_self]
      rfl
    · rw [decide_eq_false hz, cond_false]
      by_cases h1 : (crs a b).2.2 = 0
      · rw [decide_eq_true h1, if_neg (by omega), Bool.not_true, cond_false]
        by_cases h2 : (crs a b).2.1 = 0
        · by_cases h3 : (crs a b).1 = 0
          · exact absurd (show crs a b = (0, 0, 0) by
              generalize crs a b = c at h1 h2 h3
              obtain ⟨x, y, z⟩ := c
              simp only at h1 h2 h3
              rw [h1, h2, h3]) h0
          · rw [decide_eq_true h2, if_pos h3, Bool.not_true, cond_false]
            obtain ⟨a1, a2, a3⟩ := a
            obtain ⟨b1, b2, b3⟩ := b
            obtain ⟨⟨x1, x2⟩, ⟨x3, x4⟩, ⟨x5, x6⟩⟩ := ha
            obtain ⟨⟨y1, y2⟩, ⟨y3, y4⟩, ⟨y5, y6⟩⟩ := hb
            obtain ⟨c1, c2, c3⟩ := hc
            simp only [crs] at *
            have e1 := mul_bound x1 x2 y5 y6
            have e2 := mul_bound x5 x6 y1 y2
            have e3 := mul_bound x3 x4 y5 y6
            have e4 := mul_bound x5 x6 y3 y4
            have f1 := mul_bound (a := w) (m := 67108864) (by omega) (by omega) (show -32768 ≤ 0 - b1 by omega) (show 0 - b1 ≤ 32768 by omega)
            have f2 := mul_bound (a := w) (m := 67108864) (by omega) (by omega) (show -32768 ≤ 0 - b2 by omega) (show 0 - b2 ≤ 32768 by omega)
            have f3 := mul_bound (a := w) (m := 67108864) (by omega) (by omega) x1 x2
            have f4 := mul_bound (a := w) (m := 67108864) (by omega) (by omega) x3 x4
            rw [wrap_id (x := 0 - b2) (by omega) (by omega), wrap_id (x := a2 * b3) (by omega) (by omega), wrap_id (x := a3 * b2) (by omega) (by omega), wrap_id (x := a2 * b3 - a3 * b2) (by omega) (by omega)]
            rw [quotient_ok (by omega) h3 (by omega), obind_some', quotient_ok (by omega) h3 (by omega), obind_some']
            rw [div_eq (n := w * (0 - b2)) (m := 0 * b3 - w * b2) h3 h3 (by grind), div_eq (n := w * a2) (m := a2 * w - a3 * 0) h3 h3 (by grind)]
            rfl
        · rw [decide_eq_false h2, Bool.not_false, cond_true]
          by_cases h3 : (crs a b).1 = 0
          · rw [if_neg (by omega), if_pos h2]
            obtain ⟨a1, a2, a3⟩ := a
            obtain ⟨b1, b2, b3⟩ := b
            obtain ⟨⟨x1, x2⟩, ⟨x3, x4⟩, ⟨x5, x6⟩⟩ := ha
            obtain ⟨⟨y1, y2⟩, ⟨y3, y4⟩, ⟨y5, y6⟩⟩ := hb
            obtain ⟨c1, c2, c3⟩ := hc
            simp only [crs] at *
            have e1 := mul_bound x1 x2 y5 y6
            have e2 := mul_bound x5 x6 y1 y2
            have e3 := mul_bound x3 x4 y5 y6
            have e4 := mul_bound x5 x6 y3 y4
            have f1 := mul_bound (a := w) (m := 67108864) (by omega) (by omega) (show -32768 ≤ 0 - b1 by omega) (show 0 - b1 ≤ 32768 by omega)
            have f2 := mul_bound (a := w) (m := 67108864) (by omega) (by omega) (show -32768 ≤ 0 - b2 by omega) (show 0 - b2 ≤ 32768 by omega)
            have f3 := mul_bound (a := w) (m := 67108864) (by omega) (by omega) x1 x2
            have f4 := mul_bound (a := w) (m := 67108864) (by omega) (by omega) x3 x4
            rw [wrap_id (x := 0 - b1) (by omega) (by omega), wrap_id (x := a1 * b3) (by omega) (by omega), wrap_id (x := a3 * b1) (by omega) (by omega), wrap_id (x := a1 * b3 - a3 * b1) (by omega) (by omega)]
            rw [quotient_ok (by omega) (show a1 * b3 - a3 * b1 ≠ 0 by omega) (by omega), obind_some', quotient_ok (by omega) (show a1 * b3 - a3 * b1 ≠ 0 by omega) (by omega), obind_some']
            rw [div_eq (n := w * (0 - b1)) (m := w * b1 - 0 * b3) (show a1 * b3 - a3 * b1 ≠ 0 by omega) h2 (by grind), div_eq (n := w * a1) (m := a3 * 0 - a1 * w) (show a1 * b3 - a3 * b1 ≠ 0 by omega) h2 (by grind)]
            rfl
          · rw [if_pos h3]
            obtain ⟨a1, a2, a3⟩ := a
            obtain ⟨b1, b2, b3⟩ := b
            obtain ⟨⟨x1, x2⟩, ⟨x3, x4⟩, ⟨x5, x6⟩⟩ := ha
            obtain ⟨⟨y1, y2⟩, ⟨y3, y4⟩, ⟨y5, y6⟩⟩ := hb
            obtain ⟨c1, c2, c3⟩ := hc
            simp only [crs] at *
            have e1 := mul_bound x1 x2 y5 y6
            have e2 := mul_bound x5 x6 y1 y2
            have e3 := mul_bound x3 x4 y5 y6
            have e4 := mul_bound x5 x6 y3 y4
            have f1 := mul_bound (a := w) (m := 67108864) (by omega) (by omega) (show -32768 ≤ 0 - b1 by omega) (show 0 - b1 ≤ 32768 by omega)
            have f2 := mul_bound (a := w) (m := 67108864) (by omega) (by omega) (show -32768 ≤ 0 - b2 by omega) (show 0 - b2 ≤ 32768 by omega)
            have f3 := mul_bound (a := w) (m := 67108864) (by omega) (by omega) x1 x2
            have f4 := mul_bound (a := w) (m := 67108864) (by omega) (by omega) x3 x4
            rw [wrap_id (x := 0 - b1) (by omega) (by omega), wrap_id (x := a1 * b3) (by omega) (by omega), wrap_id (x := a3 * b1) (by omega) (by omega), wrap_id (x := a1 * b3 - a3 * b1) (by omega) (by omega)]
            rw [quotient_ok (by omega) (show a1 * b3 - a3 * b1 ≠ 0 by omega) (by omega), obind_some', quotient_ok (by omega) (show a1 * b3 - a3 * b1 ≠ 0 by omega) (by omega), obind_some']
            rw [div_eq (n := w * (0 - b1)) (m := 0 * b3 - w * b2) (show a1 * b3 - a3 * b1 ≠ 0 by omega) h3 (by grind), div_eq (n := w * a1) (m := a2 * w - a3 * 0) (show a1 * b3 - a3 * b1 ≠ 0 by omega) h3 (by grind)]
            rfl
      · rw [decide_eq_false h1, if_pos ⟨hz, h1⟩]; rfl

end Go.Proofs.YtghjblbkbelcfaaGreat

namespace Go.Proofs.YtghjblbkbelcfaaGreat
open Tryz Dn Dn.Sh

theorem par_z {n m : P3} (h1 : n.1 * m.2.2 = n.2.2 * m.1) (h2 : n.2.1 * m.2.2 = n.2.2 * m.2.1) (hn : n ≠ (0, 0, 0)) (hz : n.2.2 = 0) : m.2.2 = 0 := by
  rw [hz, Int.zero_mul] at h1 h2
  rcases Int.mul_eq_zero.1 h1 with h1 | h1
  · rcases Int.mul_eq_zero.1 h2 with h2 | h2
    · exact absurd (show n = (0, 0, 0) by obtain ⟨x, y, z⟩ := n; simp only at h1 h2 hz; rw [h1, h2, hz]) hn
    · exact h2
  · exact h1

theorem crs_neg {a b : P3} : crs b a = (-(crs a b).1, -(crs a b).2.1, -(crs a b).2.2) := by
  simp only [crs, Prod.mk.injEq]
  grind
theorem crs_zero_symm {a b : P3} : crs b a = (0, 0, 0) ↔ crs a b = (0, 0, 0) := by
  rw [crs_neg (a := a) (b := b)]
  generalize crs a b = c
  obtain ⟨x, y, z⟩ := c
  simp only [Prod.mk.injEq]
  omega

theorem upr3 {a b c : P3} (hd : dt a (crs b c) = 0) :
    uprN (nzP (nzP (nzP (0, 0, 0) (crs a b)) (crs a c)) (crs b c)) a = true ↔
      if crs b c = (0, 0, 0) ∧ crs c a = (0, 0, 0) ∧ crs a b = (0, 0, 0) then a.1 = 0 ∧ a.2.1 = 0 else (crs b c).2.2 = 0 ∧ (crs c a).2.2 = 0 ∧ (crs a b).2.2 = 0 := by
  have hca : (crs c a).2.2 = -(crs a c).2.2 := by rw [crs_neg (a := a) (b := c)]
  simp only [crs_zero_symm (a := a) (b := c), hca]
  have p1 : (crs b c).1 * (crs a c).2.2 = (crs b c).2.2 * (crs a c).1 := by simp only [dt, crs] at hd ⊢; grind
  have p2 : (crs b c).2.1 * (crs a c).2.2 = (crs b c).2.2 * (crs a c).2.1 := by simp only [dt, crs] at hd ⊢; grind
  have p3 : (crs b c).1 * (crs a b).2.2 = (crs b c).2.2 * (crs a b).1 := by simp only [dt, crs] at hd ⊢; grind
  have p4 : (crs b c).2.1 * (crs a b).2.2 = (crs b c).2.2 * (crs a b).2.1 := by simp only [dt, crs] at hd ⊢; grind
  have p5 : (crs a c).1 * (crs a b).2.2 = (crs a c).2.2 * (crs a b).1 := by simp only [dt, crs] at hd ⊢; grind
  have p6 : (crs a c).2.1 * (crs a b).2.2 = (crs a c).2.2 * (crs a b).2.1 := by simp only [dt, crs] at hd ⊢; grind
  clear hd hca
  generalize crs a b = x at *
  generalize crs a c = y at *
  generalize crs b c = z at *
  unfold nzP
  by_cases hz : z = (0, 0, 0)
  · rw [if_pos hz]
    by_cases hy : y = (0, 0, 0)
    · rw [if_pos hy]
      by_cases hx : x = (0, 0, 0)
      · rw [if_pos hx, if_pos ⟨hz, hy, hx⟩]
        simp [uprN]
      · rw [if_neg hx, if_neg (fun h => hx h.2.2)]
        simp [uprN, hx, hy, hz]
    · rw [if_neg hy, if_neg (fun h => hy h.2.1)]
      simp only [uprN, hy, if_false, decide_eq_true_eq, hz, true_and]
      exact ⟨fun h => ⟨by omega, par_z p5 p6 hy h⟩, fun h => by omega⟩
  · rw [if_neg hz, if_neg (fun h => hz h.1)]
    simp only [uprN, hz, if_false, decide_eq_true_eq]
    exact ⟨fun h => ⟨h, by rw [par_z p1 p2 hz h]; rfl, par_z p3 p4 hz h⟩, fun h => h.1⟩

theorem three_ok {w : Int} {a b c : P3} (hw : 0 ≤ w ∧ w ≤ 67108864) (ha : box 32768 a) (hb : box 32768 b) (hc : box 32768 c) : ref18_three w a b c = some (outP (solve3 w a b c)) := by
  have ha' := box_mono ha (show (32768 : Int) ≤ 67108864 by omega)
  have hb' := box_mono hb (show (32768 : Int) ≤ 67108864 by omega)
  have hc' := box_mono hc (show (32768 : Int) ≤ 67108864 by omega)
  obtain ⟨d1, d2⟩ := dt_ok ha (crs_box hb hc)
  have d1' : ref18_dot a (crs b c) = some (dt a (crs b c)) := d1
  simp only [ref18_three, ref18_three_b, not_or_self', or_self_not, cT, Bool.and_self, refCross_ok ha' hb', refCross_ok hb' hc', refCross_ok hc' ha', obind_some', zero_eq, refUpright_ok, d1', bif_false', bif_true']
  unfold solve3
  by_cases hd : dt a (crs b c) = 0
  · rw [decide_eq_true hd, if_pos hd, Bool.not_true, cond_false]
    by_cases hz : w = 0
    · rw [decide_eq_true hz, if_pos (.inl hz)]; rfl
    · rw [decide_eq_false hz, cond_false]
      have hu := upr3 hd
      by_cases h1 : crs b c = (0, 0, 0)
      · by_cases h2 : crs c a = (0, 0, 0)
        · by_cases h3 : crs a b = (0, 0, 0)
          · rw [if_pos ⟨h1, h2, h3⟩] at hu
            rw [decide_eq_true h1, decide_eq_true h2, decide_eq_true h3, Bool.and_self, Bool.and_self, cond_true]
            by_cases h4 : a.1 = 0 ∧ a.2.1 = 0
            · rw [if_pos (.inr (hu.2 h4)), decide_eq_true h4]; rfl
            · rw [if_neg (fun h => h.elim hz fun h => h4 (hu.1 h)), decide_eq_false h4]; rfl
          · rw [if_neg (fun h => h3 h.2.2)] at hu
            rw [decide_eq_false h3, Bool.and_false, cond_false]
            by_cases h4 : (crs b c).2.2 = 0 ∧ (crs c a).2.2 = 0 ∧ (crs a b).2.2 = 0
            · rw [if_pos (.inr (hu.2 h4)), decide_eq_true h4.1, decide_eq_true h4.2.1, decide_eq_true h4.2.2]; rfl
            · rw [if_neg (fun h => h.elim hz fun h => h4 (hu.1 h))]
              have : (!decide ((crs b c).2.2 = 0) || !decide ((crs c a).2.2 = 0) || !decide ((crs a b).2.2 = 0)) = true := by
                simp only [Bool.or_eq_true, Bool.not_eq_true', decide_eq_false_iff_not]; omega
              rw [this]; rfl
        · rw [if_neg (fun h => h2 h.2.1)] at hu
          rw [decide_eq_false h2, Bool.and_false, Bool.false_and, cond_false]
          by_cases h4 : (crs b c).2.2 = 0 ∧ (crs c a).2.2 = 0 ∧ (crs a b).2.2 = 0
          · rw [if_pos (.inr (hu.2 h4)), decide_eq_true h4.1, decide_eq_true h4.2.1, decide_eq_true h4.2.2]; rfl
          · rw [if_neg (fun h => h.elim hz fun h => h4 (hu.1 h))]
            have : (!decide ((crs b c).2.2 = 0) || !decide ((crs c a).2.2 = 0) || !decide ((crs a b).2.2 = 0)) = true := by
              simp only [Bool.or_eq_true, Bool.not_eq_true', decide_eq_false_iff_not]; omega
            rw [this]; rfl
      · rw [if_neg (fun h => h1 h.1)] at hu
        rw [decide_eq_false h1, Bool.false_and, Bool.false_and, cond_false]
        by_cases h4 : (crs b c).2.2 = 0 ∧ (crs c a).2.2 = 0 ∧ (crs a b).2.2 = 0
        · rw [if_pos (.inr (hu.2 h4)), decide_eq_true h4.1, decide_eq_true h4.2.1, decide_eq_true h4.2.2]; rfl
        · rw [if_neg (fun h => h.elim hz fun h => h4 (hu.1 h))]
          have : (!decide ((crs b c).2.2 = 0) || !decide ((crs c a).2.2 = 0) || !decide ((crs a b).2.2 = 0)) = true := by
            simp only [Bool.or_eq_true, Bool.not_eq_true', decide_eq_false_iff_not]; omega
          rw [this]; rfl
  · rw [decide_eq_false hd, if_neg hd, Bool.not_false, cond_true]
    have e1 := mul_bound (a := w) (m := 67108864) (by omega) (by omega) (crs_box hb hc).2.2.1 (crs_box hb hc).2.2.2
    have e2 := mul_bound (a := w) (m := 67108864) (by omega) (by omega) (crs_box hc ha).2.2.1 (crs_box hc ha).2.2.2
    have e3 := mul_bound (a := w) (m := 67108864) (by omega) (by omega) (crs_box ha hb).2.2.1 (crs_box ha hb).2.2.2
    rw [quotient_ok (by omega) hd (by omega), obind_some', quotient_ok (by omega) hd (by omega), obind_some', quotient_ok (by omega) hd (by omega), obind_some']
    rfl

theorem refPulls_ok {b : Brd} (h : validB b = true) : ref18_Pulls b = some (outP (pullsE b)) := by
  obtain ⟨v1, v2, v3, _⟩ := validB_iff.1 h
  have a0 := valid_arm h (i := 0) (by omega)
  have r0 : ref18_Arm b 0 = some (armB b 0) := refArm_ok (i := 0) (by omega) a0.2.2.1 a0.2.2.2
  simp only [ref18_Pulls, ref18_Pulls_b, r0, obind_some']
  unfold pullsE
  have hn : b.2.2.length = 1 ∨ b.2.2.length = 2 ∨ b.2.2.length = 3 := by omega
  rcases hn with hn | hn | hn
  · rw [decide_eq_true (show (b.2.2.length : Int) = 1 by omega), cond_true, if_pos hn, one_ok v2 a0.1 a0.2.1, obind_some']
  · have a1 := valid_arm h (i := 1) (by omega)
    have r1 : ref18_Arm b 1 = some (armB b 1) := refArm_ok (i := 1) (by omega) a1.2.2.1 a1.2.2.2
    rw [decide_eq_false (show ¬ (b.2.2.length : Int) = 1 by omega), cond_false, if_neg (by omega), decide_eq_true (show (b.2.2.length : Int) = 2 by omega), cond_true, if_pos hn, r1, obind_some', two_ok v2 a0.1 a1.1, obind_some']
  · have a1 := valid_arm h (i := 1) (by omega)
    have r1 : ref18_Arm b 1 = some (armB b 1) := refArm_ok (i := 1) (by omega) a1.2.2.1 a1.2.2.2
    have a2 := valid_arm h (i := 2) (by omega)
    have r2 : ref18_Arm b 2 = some (armB b 2) := refArm_ok (i := 2) (by omega) a2.2.2.1 a2.2.2.2
    rw [decide_eq_false (show ¬ (b.2.2.length : Int) = 1 by omega), cond_false, if_neg (by omega), decide_eq_false (show ¬ (b.2.2.length : Int) = 2 by omega), cond_false, if_neg (by omega), r1, obind_some', r2, obind_some', three_ok v2 a0.1 a1.1 a2.1, obind_some']

end Go.Proofs.YtghjblbkbelcfaaGreat

namespace Go.Proofs.YtghjblbkbelcfaaGreat
open Tryz Dn Dn.Sh

theorem fitsQ_div {n d : Int} (hd : d ≠ 0) (hn : n.natAbs ≤ 1152921504606846976) (hd2 : d.natAbs ≤ 1152921504606846976) : fitsQ ((n : Rat) / d) := by
  have h := fits_div hd hn hd2
  rw [divQ_eq hd] at h
  rcases fitQ_cases ((n : Rat) / d) with ⟨h1, _⟩ | ⟨_, h2⟩
  · exact h1
  · rw [h2] at h
    exact absurd (show (5 : Int) = 0 from congrArg (fun x : Fq × Int × Unit => x.2.1) h) (by decide)
theorem fitsQ_zero : fitsQ 0 := by unfold fitsQ; decide

theorem solve1_fits {w : Int} {a : P3} (hw : 0 ≤ w ∧ w ≤ 67108864) (ha : box 32768 a) (h0 : a ≠ (0, 0, 0)) {qs : List Rat} (h : solve1 w a = .ok qs) : qs.length = 1 ∧ ∀ q ∈ qs, fitsQ q := by
  unfold solve1 at h
  split at h
  · cases h; exact ⟨rfl, by simp [fitsQ_zero]⟩
  · split at h
    · cases h
    · rename_i h1 h2
      have h3 : a.2.2 ≠ 0 := fun h3 => h0 (by obtain ⟨x, y, z⟩ := a; simp only at h2 h3; rw [h3, show x = 0 by omega, show y = 0 by omega])
      have hz := ha.2.2
      cases h
      refine ⟨rfl, fun q hq => ?_⟩
      rw [List.mem_singleton.1 hq]
      exact fitsQ_div h3 (by omega) (by omega)
theorem solve2_fits {w : Int} {a b : P3} (hw : 0 ≤ w ∧ w ≤ 67108864) (ha : box 32768 a) (hb : box 32768 b) {qs : List Rat} (h : solve2 w a b = .ok qs) : qs.length = 2 ∧ ∀ q ∈ qs, fitsQ q := by
  obtain ⟨c1, c2, c3⟩ := crs_box ha hb
  have hp : box 2199023255552 (crs (0, 0, w) b) := by
    obtain ⟨⟨b1, b2⟩, ⟨b3, b4⟩, ⟨b5, b6⟩⟩ := hb
    have e1 := mul_bound (a := w) (m := 67108864) (by omega) (by omega) b1 b2
    have e2 := mul_bound (a := w) (m := 67108864) (by omega) (by omega) b3 b4
    simp only [box, crs, Int.zero_mul]
    omega
  have hq : box 2199023255552 (crs a (0, 0, w)) := by
    obtain ⟨⟨b1, b2⟩, ⟨b3, b4⟩, ⟨b5, b6⟩⟩ := ha
    have e1 := mul_bound b1 b2 (b := w) (n := 67108864) (by omega) (by omega)
    have e2 := mul_bound b3 b4 (b := w) (n := 67108864) (by omega) (by omega)
    simp only [box, crs, Int.mul_zero]
    omega
  obtain ⟨p1, p2, p3⟩ := hp
  obtain ⟨q1, q2, q3⟩ := hq
  unfold solve2 at h
  split at h
  · cases h
  · rename_i h0
    split at h
    · cases h
    · split at h
      · rename_i h1
        cases h
        refine ⟨rfl, fun q hq => ?_⟩
        simp only [List.mem_cons, List.not_mem_nil, or_false] at hq
        rcases hq with rfl | rfl <;> exact fitsQ_div h1 (by omega) (by omega)
      · split at h
        · rename_i h1
          cases h
          refine ⟨rfl, fun q hq => ?_⟩
          simp only [List.mem_cons, List.not_mem_nil, or_false] at hq
          rcases hq with rfl | rfl <;> exact fitsQ_div h1 (by omega) (by omega)
        · rename_i h2 h3
          have h1 : (crs a b).2.2 ≠ 0 := fun h4 => h0 (by
            generalize crs a b = c at h2 h3 h4
            obtain ⟨x, y, z⟩ := c; simp only at h2 h3 h4; rw [h4, show x = 0 by omega, show y = 0 by omega])
          cases h
          refine ⟨rfl, fun q hq => ?_⟩
          simp only [List.mem_cons, List.not_mem_nil, or_false] at hq
          rcases hq with rfl | rfl <;> exact fitsQ_div h1 (by omega) (by omega)
theorem solve3_fits {w : Int} {a b c : P3} (hw : 0 ≤ w ∧ w ≤ 67108864) (ha : box 32768 a) (hb : box 32768 b) (hc : box 32768 c) {qs : List Rat} (h : solve3 w a b c = .ok qs) : qs.length = 3 ∧ ∀ q ∈ qs, fitsQ q := by
  have hd2 := (dt_ok ha (crs_box hb hc)).2
  have e1 := mul_bound (a := w) (m := 67108864) (by omega) (by omega) (crs_box hb hc).2.2.1 (crs_box hb hc).2.2.2
  have e2 := mul_bound (a := w) (m := 67108864) (by omega) (by omega) (crs_box hc ha).2.2.1 (crs_box hc ha).2.2.2
  have e3 := mul_bound (a := w) (m := 67108864) (by omega) (by omega) (crs_box ha hb).2.2.1 (crs_box ha hb).2.2.2
  unfold solve3 at h
  split at h
  · cases h
  · rename_i hd
    cases h
    refine ⟨rfl, fun q hq => ?_⟩
    simp only [List.mem_cons, List.not_mem_nil, or_false] at hq
    rcases hq with rfl | rfl | rfl <;> exact fitsQ_div hd (by omega) (by omega)

theorem pullsE_fits {b : Brd} (h : validB b = true) {qs : List Rat} (he : pullsE b = .ok qs) : qs.length = b.2.2.length ∧ ∀ q ∈ qs, fitsQ q := by
  obtain ⟨v1, v2, v3, _⟩ := validB_iff.1 h
  have a0 := valid_arm h (i := 0) (by omega)
  unfold pullsE at he
  split at he
  · rename_i hn
    rw [hn]
    exact solve1_fits v2 a0.1 a0.2.1 he
  · have a1 := valid_arm h (i := 1) (by omega)
    split at he
    · rename_i hn
      rw [hn]
      exact solve2_fits v2 a0.1 a1.1 he
    · have a2 := valid_arm h (i := 2) (by omega)
      rw [show b.2.2.length = 3 by omega]
      exact solve3_fits v2 a0.1 a1.1 a2.1 he
theorem pullsE_err {b : Brd} {e : Int} (he : pullsE b = .error e) : e = 21 ∨ e = 22 := by
  unfold pullsE solve1 solve2 solve3 at he
  repeat' split at he
  all_goals first
    | (cases he; done)
    | (cases he; simp; done)
    | (cases he; split <;> simp)

theorem lenS_bound {a : P3} (h : box 32768 a) : 0 ≤ (lenS a).1 ∧ (lenS a).1 ≤ (lenS a).2 ∧ (lenS a).2 ≤ 1152921504606846976 := by
  obtain ⟨n1, n2⟩ := nsq_bound h
  obtain ⟨h1, h2⟩ := isq_spec (1000000 * nsq a).toNat
  have h3 : isq (1000000 * nsq a).toNat ≤ 2147483648 := by
    rcases Nat.lt_or_ge 2147483648 (isq (1000000 * nsq a).toNat) with h | h
    · have := Nat.mul_le_mul h h
      omega
    · exact h
  unfold lenS rootS
  simp only
  split <;> omega

/-- What the span of a tension is for a pull and a length. -/
def spanE (q : Rat) (l : Int × Int) : (Int × Int) × Int × Unit :=
  if fitsQ (q * ((l.1 : Rat) / (1000 : Int))) ∧ fitsQ (q * ((l.2 : Rat) / (1000 : Int))) then (((q * ((l.1 : Rat) / (1000 : Int))).floor, (q * ((l.2 : Rat) / (1000 : Int))).ceil), 0, ()) else ((0, 0), 5, ())

theorem times_ok {q : Rat} {n : Int} (hq : fitsQ q) (h0 : 0 ≤ n) (h1 : n ≤ 1152921504606846976) : bridle_times (prQ q) n = some (fitQ (q * ((n : Rat) / (1000 : Int)))) := by
  have hf := fitsQ_div (n := n) (d := 1000) (by omega) (by omega) (by omega)
  simp only [bridle_times, bridle_times_b]
  rw [Make_ok (by omega) (by omega) (by omega) (by omega), if_neg (by omega), fits_div (by omega) (by omega) (by omega), obind_some']
  simp only [decide_true, Bool.not_true, cond_false]
  rw [Mul_ok (okF_prQ hq) (okF_prQ hf), obind_some', qv_prQ, qv_prQ]
theorem tension_ok {b : Brd} {i : Nat} {q : Rat} (h : validB b = true) (hi : i < b.2.2.length) (hq : fitsQ q) : bridle_tension b i (prQ q) = some (spanE q (lenS (armB b i))) := by
  obtain ⟨l0, l1, l2⟩ := lenS_bound (valid_arm h hi).1
  simp only [bridle_tension, bridle_tension_b, length_ok h hi, obind_some', decide_true, Bool.not_true, cond_false]
  rw [times_ok hq l0 (by omega), obind_some', times_ok hq (by omega) l2, obind_some']
  unfold spanE
  rcases fitQ_cases (q * (((lenS (armB b i)).1 : Rat) / (1000 : Int))) with ⟨f1, f2⟩ | ⟨f1, f2⟩
  · rw [f2]
    simp only [decide_true, Bool.not_true, cond_false]
    rcases fitQ_cases (q * (((lenS (armB b i)).2 : Rat) / (1000 : Int))) with ⟨g1, g2⟩ | ⟨g1, g2⟩
    · rw [g2, if_pos ⟨f1, g1⟩]
      simp only [decide_true, Bool.not_true, cond_false]
      rw [Floor_ok (okF_prQ f1), obind_some', Ceil_ok (okF_prQ g1), obind_some', qv_prQ, qv_prQ]
      rfl
    · rw [g2, if_neg (fun h => g1 h.2)]
      rfl
  · rw [f2, if_neg (fun h => f1 h.1)]
    rfl
end Go.Proofs.YtghjblbkbelcfaaGreat

namespace Go.Proofs.YtghjblbkbelcfaaGreat
open Tryz Dn Dn.Sh

theorem awake_ok : law18_awake = some true := by kernel_rfl

theorem long_ok (b : Brd) : law18_long b = some (decide (10 < b.2.2.length) || decide (0 ≤ idxI (fun l : Leg => decide ((l.1.size : Int) > 100)) b.2.2 0)) := by
  simp only [law18_long, law18_long_b, not_or_self', or_self_not, cond_true]
  by_cases h : 10 < b.2.2.length
  · rw [decide_eq_true (show (b.2.2.length : Int) > 10 by omega), decide_eq_true h]
    rfl
  · rw [decide_eq_false (show ¬ (b.2.2.length : Int) > 10 by omega), decide_eq_false h]
    simp only [Bool.not_false, cond_true, slices_ContainsFunc_16, slices_ContainsFunc_16_b]
    rw [index76 (p := fun l : Leg => decide ((l.1.size : Int) > 100)) (by omega) (fun a _ => by simp only [law18_long_1, law18_long_1_b])]
    rfl
/-- What the laws leave out. -/
noncomputable def longB (b : Brd) : Bool := decide (10 < b.2.2.length) || decide (0 ≤ idxI (fun l : Leg => decide ((l.1.size : Int) > 100)) b.2.2 0)
theorem longB_len {b : Brd} (h : longB b = false) : b.2.2.length ≤ 10 := by
  unfold longB at h
  rw [Bool.or_eq_false_iff, decide_eq_false_iff_not] at h
  omega

end Go.Proofs.YtghjblbkbelcfaaGreat

namespace Go.Proofs.YtghjblbkbelcfaaGreat
open Tryz Dn Dn.Sh

theorem outP_ok {l : List Rat} : outP (.ok l) = (l.map prQ, 0, ()) := rfl
theorem outP_err {e : Int} : outP (.error e) = ([], e, ()) := rfl
theorem getD_map {l : List Rat} {i : Nat} (h : i < l.length) : (l.map prQ).getD i (0, 0) = prQ (l.getD i 0) := by
  rw [getD_nat (by rw [List.length_map]; exact h), getD_nat h, List.getElem_map]
theorem getD_mem {l : List Rat} {i : Nat} (h : i < l.length) : l.getD i 0 ∈ l := by
  rw [getD_nat h]; exact List.getElem_mem h
theorem index93 {f : (Fq × Unit) → Option Bool} {p : Fq → Bool} {l : List Fq} (hl : l.length ≤ 1000000) (h : ∀ a, a ∈ l → f (a, ()) = some (p a)) : slices_IndexFunc_55 l f = some (idxI p l 0) := by
  unfold slices_IndexFunc_55 slices_IndexFunc_55_b
  exact index_loop (f := f) (d := (0, 0)) hl h


end Go.Proofs.YtghjblbkbelcfaaGreat

namespace Go.Proofs.YtghjblbkbelcfaaGreat
open Tryz Dn Dn.Sh

/-- The coordinate of an arm. -/
def axC (a : P3) (k : Nat) : Int := if k = 0 then a.1 else if k = 1 then a.2.1 else a.2.2
theorem axC_okF {a : P3} {k : Nat} (h : box 32768 a) : okF (axC a k, 1) := by
  unfold box at h
  unfold axC
  split
  · exact okF_int (by omega) (by omega)
  · split
    · exact okF_int (by omega) (by omega)
    · exact okF_int (by omega) (by omega)
theorem fitsQ0 : fitsQ 0 := by unfold fitsQ; decide

open Classical in
/-- A sum of terms, one after the other; none where one does not fit. -/
noncomputable def accE : List Rat → Rat → Option Rat
  | [], s => some s
  | x :: r, s => if fitsQ x ∧ fitsQ (s + x) then accE r (s + x) else none

noncomputable def termsE (b : Brd) (qs : List Rat) (k : Nat) : List Rat := (List.range qs.length).map fun i => qs.getD i 0 * (axC (armB b i) k : Rat)
noncomputable def axisE (b : Brd) (qs : List Rat) (k : Nat) : Option Rat := accE (termsE b qs k) 0
def wantE (b : Brd) (k : Nat) : Int := if k = 2 then b.2.1 else 0
noncomputable def axB (b : Brd) (qs : List Rat) (k : Nat) (s : Bool) (K : Bool → Option (Bool × Int × Unit)) : Option (Bool × Int × Unit) := match axisE b qs k with
  | none => some (false, 5, ())
  | some t => K (s && decide (t = (wantE b k : Rat)))
/-- What 'Check' answers for a valid bridle and as many valid fractions. -/
noncomputable def checkE (b : Brd) (qs : List Rat) : Option (Bool × Int × Unit) := upF (axB b qs) (fun s => some (s, 0, ())) 3 0 true

theorem checkE_eq {b : Brd} {qs : List Rat} : checkE b qs = match axisE b qs 0, axisE b qs 1, axisE b qs 2 with
    | some x, some y, some z => some (decide (x = 0) && (decide (y = 0) && decide (z = (b.2.1 : Rat))), 0, ())
    | _, _, _ => some (false, 5, ()) := by
  unfold checkE
  simp only [upF, axB]
  cases axisE b qs 0 with
  | none => rfl
  | some x =>
    cases axisE b qs 1 with
    | none => rfl
    | some y =>
      cases axisE b qs 2 with
      | none => rfl
      | some z => simp [wantE, Bool.and_assoc]

theorem prQ_is {t : Rat} {n : Int} : (decide ((prQ t).1 = n) && (decide ((prQ t).2 = 1) && true)) = decide (t = (n : Rat)) := by
  rw [Bool.and_true, Bool.eq_iff_iff, Bool.and_eq_true, decide_eq_true_eq, decide_eq_true_eq, decide_eq_true_eq]
  constructor
  · rintro ⟨h1, h2⟩
    have h1' : t.num = n := h1
    have h2' : (t.den : Int) = 1 := h2
    have h3 : t.den = 1 := by omega
    rw [← Rat.mkRat_self t, h1', h3, Rat.mkRat_one]
  · rintro rfl
    exact ⟨rfl, rfl⟩

theorem acc_step {b : Brd} {qs : List Rat} {k i : Nat} (h : i < qs.length) {s : Rat} : accE ((termsE b qs k).drop i) s = if fitsQ (qs.getD i 0 * (axC (armB b i) k : Rat)) ∧ fitsQ (s + qs.getD i 0 * (axC (armB b i) k : Rat)) then accE ((termsE b qs k).drop (i + 1)) (s + qs.getD i 0 * (axC (armB b i) k : Rat)) else none := by
  have hl : i < (termsE b qs k).length := by unfold termsE; simpa using h
  rw [List.drop_eq_getElem_cons hl]
  have e : (termsE b qs k)[i] = qs.getD i 0 * (axC (armB b i) k : Rat) := by unfold termsE; simp
  rw [e]
  rfl

theorem terms_end {b : Brd} {qs : List Rat} {k : Nat} {s : Rat} : accE ((termsE b qs k).drop qs.length) s = some s := by
  rw [List.drop_eq_nil_of_le (by unfold termsE; simp)]
  rfl

theorem accE_loop {b : Brd} {qs : List Rat} {k : Nat} (hk : k < 3) (hv : validB b = true) (hlen : qs.length = b.2.2.length) (hq : ∀ q ∈ qs, fitsQ q) {F : (Int × Fq × PUnit → Option (Bool × Int × Unit)) → Int × Fq × PUnit → Option (Bool × Int × Unit)} {K : Rat → Option (Bool × Int × Unit)}
    (h1 : ∀ again (i : Nat) (s : Rat), i < qs.length → fitsQ s → F again ((i : Int), prQ s, PUnit.unit) = bif !decide ((fitQ (qs.getD i 0 * (axC (armB b i) k : Rat))).2.1 = 0) then some (false, (fitQ (qs.getD i 0 * (axC (armB b i) k : Rat))).2.1, ()) else
      obind (ratio_Add (prQ s) (fitQ (qs.getD i 0 * (axC (armB b i) k : Rat))).1) fun t => bif !decide (t.2.1 = 0) then some (false, t.2.1, ()) else again ((i : Int) + 1, t.1, PUnit.unit))
    (h2 : ∀ again (s : Rat), fitsQ s → F again ((qs.length : Int), prQ s, PUnit.unit) = K s) :
    lpK (Int × Fq × PUnit) (Bool × Int × Unit) F (0, (0, 1), PUnit.unit) = match axisE b qs k with
      | none => some (false, 5, ())
      | some t => K t := by
  obtain ⟨v1, v2, v3, v4⟩ := validB_iff.1 hv
  refine lpK_loop (g := fun _ => match axisE b qs k with | none => some (false, 5, ()) | some t => K t) (I := fun (x : Int × Fq × PUnit) => ∃ (i : Nat) (s : Rat), x = ((i : Int), prQ s, PUnit.unit) ∧ i ≤ qs.length ∧ fitsQ s ∧ accE ((termsE b qs k).drop i) s = axisE b qs k) (μ := fun (x : Int × Fq × PUnit) => ((qs.length : Int) - x.1).toNat) ?_ ⟨0, 0, rfl, by omega, fitsQ0, rfl⟩ (by simp only; omega)
  rintro _ rec ⟨i, s, rfl, hi, hs, hacc⟩ hrec
  by_cases hi2 : i < qs.length
  · rw [h1 _ _ _ hi2 hs]
    rw [acc_step hi2] at hacc
    have hfq := hq _ (getD_mem (l := qs) (i := i) hi2)
    rcases fitQ_cases (qs.getD i 0 * (axC (armB b i) k : Rat)) with ⟨f1, f2⟩ | ⟨f1, f2⟩
    · rw [f2]
      simp only [decide_true, Bool.not_true, cF]
      rw [Add_ok (okF_prQ hs) (okF_prQ f1), obind_some', qv_prQ, qv_prQ]
      rcases fitQ_cases (s + qs.getD i 0 * (axC (armB b i) k : Rat)) with ⟨g1, g2⟩ | ⟨g1, g2⟩
      · rw [g2]
        simp only [decide_true, Bool.not_true, cF]
        rw [if_pos ⟨f1, g1⟩] at hacc
        exact hrec _ ⟨i + 1, _, rfl, by omega, g1, hacc⟩ (by simp only; omega)
      · rw [g2, if_neg (fun h => g1 h.2)] at *
        rw [← hacc]
        rfl
    · rw [if_neg (fun h => f1 h.1)] at hacc
      rw [f2, ← hacc]
      rfl
  · have e : i = qs.length := by omega
    subst e
    rw [terms_end] at hacc
    rw [h2 _ _ hs, ← hacc]

theorem bCheck_ok {b : Brd} {qs : List Rat} (hv : validB b = true) (hlen : qs.length = b.2.2.length) (hq : ∀ q ∈ qs, fitsQ q) : bridle_Check b (qs.map prQ) = checkE b qs := by
  obtain ⟨v1, v2, v3, v4⟩ := validB_iff.1 hv
  simp only [bridle_Check, bridle_Check_b, bValid_ok, hv, obind_some', Bool.not_true, Bool.not_false, Bool.or_false, Bool.or_true, Bool.false_or, Bool.true_or, cT, cF]
  have hall : slices_ContainsFunc_20 (qs.map prQ) (fun (x : (Int × Int) × PUnit) => bridle_Check_1 x.fst) = some false := by
    simp only [slices_ContainsFunc_20, slices_ContainsFunc_20_b]
    rw [index93 (p := fun a => !decide (okF a)) (by rw [List.length_map]; omega) (fun a _ => by simp only [bridle_Check_1, bridle_Check_1_b, Valid_ok, obind_some'])]
    have : idxI (fun a => !decide (okF a)) (qs.map prQ) 0 < 0 := by
      rw [idxI_neg (Int.le_refl 0)]
      intro a ha
      obtain ⟨q, hq', rfl⟩ := List.mem_map.1 ha
      simp [okF_prQ (hq q hq')]
    rw [obind_some', decide_eq_false (by omega)]
  rw [hall, obind_some', cF, List.length_map, decide_eq_true (by omega), Bool.not_true, cF]
  refine lpK_up (α := Bool × Int × PUnit) 3 (by omega) (fun i (s : Bool) => (s, (i : Int), PUnit.unit)) (axB b qs) _ ?_ ?_ true
  · intro again k s hk
    have hw : IntKind.wrap .i64 ((k : Int) + 1) = ((k + 1 : Nat) : Int) := by rw [wrap_id (by omega) (by omega)]; rfl
    simp only
    rw [decide_eq_true (show (k : Int) < 3 by omega), cT, inB_of (by omega) (by omega), cT]
    refine accE_loop (K := fun t => again ((s && decide (t = (wantE b k : Rat))), ((k + 1 : Nat) : Int), PUnit.unit)) hk hv hlen hq ?_ ?_
    · intro again1 i t hi ht
      have hib : i < b.2.2.length := by omega
      obtain ⟨a1, a2, a3, a4⟩ := valid_arm hv hib
      have hg : List.getD [(armB b i).1, (armB b i).2.1, (armB b i).2.2] k 0 = axC (armB b i) k := by
        match k, hk with
        | 0, _ => rfl
        | 1, _ => rfl
        | 2, _ => rfl
      simp only
      rw [decide_eq_true (show (i : Int) < qs.length by omega), cT, inB_of (by omega) (by omega), cT, arm_ok hib a3 a4, obind_some', cT]
      simp only [Int.toNat_natCast]
      rw [hg, getD_map hi, Mul_ok (okF_prQ (hq _ (getD_mem hi))) (axC_okF a1), obind_some', qv_prQ, qv_int, wrap_id (by omega) (by omega)]
    · intro again1 t ht
      have hg : List.getD [(0 : Int), 0, b.2.1] k 0 = wantE b k := by
        match k, hk with
        | 0, _ => rfl
        | 1, _ => rfl
        | 2, _ => rfl
      simp only
      rw [decide_eq_false (by omega), cF]
      simp only [not_or_self', Bool.and_self, cT, Int.toNat_natCast, hg, hw, prQ_is]
      cases s <;> rfl
  · intro again s
    simp only
    rw [decide_eq_false (by omega), cF]

end Go.Proofs.YtghjblbkbelcfaaGreat

namespace Go.Proofs.YtghjblbkbelcfaaGreat
open Tryz Dn Dn.Sh

theorem sgn_same {na nb : Int} {A B : Nat} (h : decide (na < 0) = decide (nb < 0)) : sgn (decide (na < 0)) (na.natAbs * B + nb.natAbs * A) = na * B + nb * A := by
  have e1 : na = sgn (decide (na < 0)) na.natAbs := size_sgn na
  have e2 : nb = sgn (decide (na < 0)) nb.natAbs := by rw [h]; exact size_sgn nb
  generalize na.natAbs = m at *
  generalize nb.natAbs = n at *
  generalize decide (na < 0) = s at *
  rw [e1, e2]
  unfold sgn
  cases s
  · simp only [Bool.false_eq_true, if_false]
    rw [Int.natCast_add, Int.natCast_mul, Int.natCast_mul]
  · simp only [if_true]
    rw [Int.natCast_add, Int.natCast_mul, Int.natCast_mul]
    grind
theorem not_same {na nb : Int} (h : ¬ decide (na < 0) = decide (nb < 0)) : nb = sgn (!decide (na < 0)) nb.natAbs := by
  have : (!decide (na < 0)) = decide (nb < 0) := by
    revert h
    cases decide (na < 0) <;> cases decide (nb < 0) <;> simp
  rw [this]; exact size_sgn nb
theorem sgn_less {na nb : Int} {A B : Nat} (h : ¬ decide (na < 0) = decide (nb < 0)) (hlt : na.natAbs * B < nb.natAbs * A) : sgn (!decide (na < 0)) (nb.natAbs * A - na.natAbs * B) = na * B + nb * A := by
  have e1 : na = sgn (decide (na < 0)) na.natAbs := size_sgn na
  have e2 := not_same h
  generalize na.natAbs = m at *
  generalize nb.natAbs = n at *
  generalize decide (na < 0) = s at *
  rw [e1, e2]
  have e3 : (((n * A - m * B : Nat)) : Int) = (n : Int) * A - (m : Int) * B := by rw [Int.ofNat_sub (Nat.le_of_lt hlt), Int.natCast_mul, Int.natCast_mul]
  unfold sgn
  cases s
  · simp only [Bool.false_eq_true, if_false, Bool.not_false, if_true]
    grind
  · simp only [if_true, Bool.not_true, Bool.false_eq_true, if_false]
    grind
theorem sgn_more {na nb : Int} {A B : Nat} (h : ¬ decide (na < 0) = decide (nb < 0)) (hlt : ¬ na.natAbs * B < nb.natAbs * A) : sgn (decide (na < 0)) (na.natAbs * B - nb.natAbs * A) = na * B + nb * A := by
  have e1 : na = sgn (decide (na < 0)) na.natAbs := size_sgn na
  have e2 := not_same h
  generalize na.natAbs = m at *
  generalize nb.natAbs = n at *
  generalize decide (na < 0) = s at *
  rw [e1, e2]
  have e3 : (((m * B - n * A : Nat)) : Int) = (m : Int) * B - (n : Int) * A := by rw [Int.ofNat_sub (Nat.not_lt.1 hlt), Int.natCast_mul, Int.natCast_mul]
  unfold sgn
  cases s
  · simp only [Bool.false_eq_true, if_false, Bool.not_false, if_true]
    grind
  · simp only [if_true, Bool.not_true, Bool.false_eq_true, if_false]
    grind

theorem RAdd_ok {a b : Fq} (ha : okF a) (hb : okF b) : ref02_Add a b = some (fitQ (qv a + qv b)) := by
  obtain ⟨na, da'⟩ := a
  obtain ⟨nb, db'⟩ := b
  have ha' := ha
  have hb' := hb
  unfold okF at ha' hb'
  simp only at ha' hb'
  obtain ⟨⟨a1, a2⟩, ⟨a3, a4⟩, a5⟩ := ha'
  obtain ⟨⟨b1, b2⟩, ⟨b3, b4⟩, b5⟩ := hb'
  obtain ⟨da, rfl⟩ : ∃ da : Nat, da' = da := ⟨da'.toNat, by omega⟩
  obtain ⟨db, rfl⟩ : ∃ db : Nat, db' = db := ⟨db'.toNat, by omega⟩
  simp only [ref02_Add, ref02_Add_b]
  rw [RSize_ok (by omega) (by omega), obind_some', RSize_ok (by omega) (by omega), obind_some', Int.natAbs_natCast, RMul_ok (by omega) (by omega), obind_some', RSize_ok (by omega) (by omega), obind_some', RSize_ok (by omega) (by omega), obind_some', Int.natAbs_natCast, RMul_ok (by omega) (by omega), obind_some', obind_some', obind_some', RMul_ok (by omega) (by omega), obind_some']
  have x1 : na.natAbs * db ≤ 1152921504606846976 * 1152921504606846976 := Nat.mul_le_mul (by omega) (by omega)
  have y1 : nb.natAbs * da ≤ 1152921504606846976 * 1152921504606846976 := Nat.mul_le_mul (by omega) (by omega)
  have d1 : da * db ≤ 1152921504606846976 * 1152921504606846976 := Nat.mul_le_mul (by omega) (by omega)
  have d0 : 0 < da * db := Nat.mul_pos (by omega) (by omega)
  have hv : qv (na, (da : Int)) + qv (nb, (db : Int)) = mkRat (na * db + nb * da) (da * db) := Rat.mkRat_add_mkRat _ _ (by omega) (by omega)
  rw [hv]
  by_cases hs : decide (na < 0) = decide (nb < 0)
  · rw [decide_eq_true hs, cT, Plus_ok (by omega), obind_some', RMade_ok (by omega) d0 (by omega), obind_some', sgn_same hs]
  · rw [decide_eq_false hs, cF, Less_ok, obind_some']
    by_cases hlt : na.natAbs * db < nb.natAbs * da
    · have e2 : decide (nb < 0) = !decide (na < 0) := by
        clear ha hb hv
        revert hs
        cases decide (na < 0) <;> cases decide (nb < 0) <;> simp
      rw [decide_eq_true hlt, cT, Minus_ok (by omega) (by omega), obind_some', RMade_ok (by omega) d0 (by omega), obind_some', e2, sgn_less hs hlt]
    · rw [decide_eq_false hlt, cF, Minus_ok (by omega) (by omega), obind_some', RMade_ok (by omega) d0 (by omega), obind_some', sgn_more hs hlt]

theorem one_hl {n : Nat} (h : n < 18446744073709551616) : (decide ((hl n).1 = 0) && (decide ((hl n).2 = 1) && true)) = decide (n = 1) := by
  rw [hl_small h]
  simp only [decide_true, Bool.true_and, Bool.and_true]
  rw [Bool.eq_iff_iff, decide_eq_true_eq, decide_eq_true_eq]
  omega

theorem RValid_ok {a : Fq} : ref02_Valid a = some (decide (okF a)) := by
  simp only [ref02_Valid, ref02_Valid_b, not_or_self', or_self_not, cT]
  by_cases h1 : a.2 < 1
  · rw [decide_eq_true h1]
    simp only [cT]
    rw [decide_eq_false (by unfold okF; omega)]
  · rw [decide_eq_false h1]
    by_cases h2 : a.2 > 1152921504606846976
    · rw [decide_eq_true h2]
      simp only [cT, cF]
      rw [decide_eq_false (by unfold okF; omega)]
    · rw [decide_eq_false h2]
      by_cases h3 : a.1 < -1152921504606846976
      · rw [decide_eq_true h3]
        simp only [cT, cF]
        rw [decide_eq_false (by unfold okF; omega)]
      · rw [decide_eq_false h3]
        by_cases h4 : a.1 > 1152921504606846976
        · rw [decide_eq_true h4]
          simp only [cT, cF]
          rw [decide_eq_false (by unfold okF; omega)]
        · rw [decide_eq_false h4]
          simp only [cT, cF]
          have hg : Nat.gcd a.1.natAbs a.2.natAbs ≤ a.2.natAbs := Nat.gcd_le_right _ (by omega)
          rw [RSize_ok (by omega) (by omega), obind_some', RSize_ok (by omega) (by omega), obind_some', ← hl_small (show a.1.natAbs < 18446744073709551616 by omega), ← hl_small (show a.2.natAbs < 18446744073709551616 by omega), Gcd_ok (by omega) (by omega) (by omega), obind_some', one_hl (by generalize Nat.gcd a.1.natAbs a.2.natAbs = g at *; omega)]
          congr 1
          rw [Bool.eq_iff_iff, decide_eq_true_eq, decide_eq_true_eq]
          unfold okF
          generalize Nat.gcd a.1.natAbs a.2.natAbs = g at *
          omega

theorem RAll_ok {l : List Fq} (h : l.length ≤ 1000000) : ref02_All l = some (l.all fun a => decide (okF a)) := by
  simp only [ref02_All, ref02_All_b]
  refine (lpK_up (α := Int × PUnit) (σ := Unit) l.length (by omega) (fun i _ => ((i : Int), PUnit.unit)) (fun i _ K => bif decide (okF (l.getD i (0, 0))) then K () else some false) (fun _ => some true) ?_ ?_ ()).trans ?_
  · intro again i s hi
    simp only
    rw [decide_eq_true (show (i : Int) < l.length by omega), cT, inB_of (by omega) (by omega), cT, Int.toNat_natCast, RValid_ok, obind_some', wrap_id (by omega) (by omega)]
    cases decide (okF (l.getD i (0, 0))) <;> rfl
  · intro again s
    simp only
    rw [decide_eq_false (by omega), cF]
  · rw [upF_all (p := fun i => decide (okF (l.getD i (0, 0)))) (r := some false) l.length (fun i k hi => rfl) l.length 0 (by omega)]
    have : ((List.range' 0 l.length).all fun i => decide (okF (l.getD i (0, 0)))) = l.all fun a => decide (okF a) := by
      rw [Bool.eq_iff_iff, List.all_eq_true, List.all_eq_true]
      constructor
      · intro hh a ha
        obtain ⟨i, hi, rfl⟩ := List.mem_iff_getElem.1 ha
        have := hh i (List.mem_range'.2 ⟨i, hi, by omega⟩)
        rwa [getD_nat hi] at this
      · intro hh i hi
        obtain ⟨k, hk, rfl⟩ := List.mem_range'.1 hi
        refine hh _ ?_
        rw [getD_nat (by omega)]
        exact List.getElem_mem _
    rw [this]
    cases l.all fun a => decide (okF a) <;> rfl

end Go.Proofs.YtghjblbkbelcfaaGreat

namespace Go.Proofs.YtghjblbkbelcfaaGreat
open Tryz Dn Dn.Sh

/-- What 'Check' answers for any fractions. -/
noncomputable def checkA (b : Brd) (l : List Fq) : Option (Bool × Int × Unit) :=
  if validB b = false ∨ (l.all fun a => decide (okF a)) = false then some (false, 1, ()) else if l.length ≠ b.2.2.length then some (false, 3, ()) else checkE b (l.map qv)

theorem all_prQ {l : List Fq} (h : (l.all fun a => decide (okF a)) = true) : (l.map qv).map prQ = l ∧ ∀ q ∈ l.map qv, fitsQ q := by
  rw [List.all_eq_true] at h
  constructor
  · rw [List.map_map]
    conv => rhs; rw [← List.map_id l]
    exact List.map_congr_left fun a ha => prQ_qv (of_decide_eq_true (h a ha))
  · intro q hq
    obtain ⟨a, ha, rfl⟩ := List.mem_map.1 hq
    exact fitsQ_qv (of_decide_eq_true (h a ha))

theorem bCheckA_ok {b : Brd} {l : List Fq} (hl : l.length ≤ 1000000) : bridle_Check b l = checkA b l := by
  unfold checkA
  cases hv : validB b with
  | false =>
    rw [if_pos (.inl rfl)]
    simp only [bridle_Check, bridle_Check_b, bValid_ok, hv, obind_some']
    rfl
  | true =>
    have hall : slices_ContainsFunc_20 l (fun (x : (Int × Int) × PUnit) => bridle_Check_1 x.fst) = some (!l.all fun a => decide (okF a)) := by
      simp only [slices_ContainsFunc_20, slices_ContainsFunc_20_b]
      rw [index93 (p := fun a => !decide (okF a)) hl (fun a _ => by simp only [bridle_Check_1, bridle_Check_1_b, Valid_ok, obind_some']), obind_some']
      congr 1
      rw [Bool.eq_iff_iff, decide_eq_true_eq, Bool.not_eq_true', ← Bool.not_eq_true, List.all_eq_true]
      show 0 ≤ _ ↔ _
      rw [← Int.not_lt, idxI_neg (Int.le_refl 0)]
      simp
    cases ha : l.all fun a => decide (okF a) with
    | false =>
      rw [if_pos (.inr rfl)]
      simp only [bridle_Check, bridle_Check_b, bValid_ok, hv, hall, ha, obind_some']
      rfl
    | true =>
      rw [if_neg (by simp)]
      by_cases hn : l.length = b.2.2.length
      · rw [if_neg (fun h => h hn)]
        obtain ⟨p1, p2⟩ := all_prQ ha
        have h := bCheck_ok hv (by rw [List.length_map]; exact hn) p2
        rw [p1] at h
        exact h
      · rw [if_pos hn]
        simp only [bridle_Check, bridle_Check_b, bValid_ok, hv, hall, ha, obind_some', Bool.not_true, Bool.not_false, Bool.or_false, Bool.or_true, Bool.false_or, Bool.true_or, cT, cF]
        rw [decide_eq_false (by omega), Bool.not_false, cT]

theorem refAlong_ok {a : P3} {k : Nat} (hk : k < 3) : ref18_along a (k : Int) = some (axC a k) := by
  match k, hk with
  | 0, _ => rfl
  | 1, _ => rfl
  | 2, _ => rfl

theorem refAccE_loop {b : Brd} {qs : List Rat} {k : Nat} (hv : validB b = true) (hlen : qs.length = b.2.2.length) (hq : ∀ q ∈ qs, fitsQ q) {F : (Int × Fq × PUnit → Option (Bool × Int × Unit)) → Int × Fq × PUnit → Option (Bool × Int × Unit)} {K : Rat → Option (Bool × Int × Unit)}
    (h1 : ∀ again (i : Nat) (s : Rat), i < qs.length → fitsQ s → F again ((i : Int), prQ s, PUnit.unit) = bif !decide ((fitQ (qs.getD i 0 * (axC (armB b i) k : Rat))).2.1 = 0) then some (false, (fitQ (qs.getD i 0 * (axC (armB b i) k : Rat))).2.1, ()) else
      obind (ref02_Add (prQ s) (fitQ (qs.getD i 0 * (axC (armB b i) k : Rat))).1) fun t => bif !decide (t.2.1 = 0) then some (false, t.2.1, ()) else again ((i : Int) + 1, t.1, PUnit.unit))
    (h2 : ∀ again (s : Rat), fitsQ s → F again ((qs.length : Int), prQ s, PUnit.unit) = K s) :
    lpK (Int × Fq × PUnit) (Bool × Int × Unit) F (0, (0, 1), PUnit.unit) = match axisE b qs k with
      | none => some (false, 5, ())
      | some t => K t := by
  obtain ⟨v1, v2, v3, v4⟩ := validB_iff.1 hv
  refine lpK_loop (g := fun _ => match axisE b qs k with | none => some (false, 5, ()) | some t => K t) (I := fun (x : Int × Fq × PUnit) => ∃ (i : Nat) (s : Rat), x = ((i : Int), prQ s, PUnit.unit) ∧ i ≤ qs.length ∧ fitsQ s ∧ accE ((termsE b qs k).drop i) s = axisE b qs k) (μ := fun (x : Int × Fq × PUnit) => ((qs.length : Int) - x.1).toNat) ?_ ⟨0, 0, rfl, by omega, fitsQ0, rfl⟩ (by simp only; omega)
  rintro _ rec ⟨i, s, rfl, hi, hs, hacc⟩ hrec
  by_cases hi2 : i < qs.length
  · rw [h1 _ _ _ hi2 hs]
    rw [acc_step hi2] at hacc
    rcases fitQ_cases (qs.getD i 0 * (axC (armB b i) k : Rat)) with ⟨f1, f2⟩ | ⟨f1, f2⟩
    · rw [f2]
      simp only [decide_true, Bool.not_true, cF]
      rw [RAdd_ok (okF_prQ hs) (okF_prQ f1), obind_some', qv_prQ, qv_prQ]
      rcases fitQ_cases (s + qs.getD i 0 * (axC (armB b i) k : Rat)) with ⟨g1, g2⟩ | ⟨g1, g2⟩
      · rw [g2]
        simp only [decide_true, Bool.not_true, cF]
        rw [if_pos ⟨f1, g1⟩] at hacc
        exact hrec _ ⟨i + 1, _, rfl, by omega, g1, hacc⟩ (by simp only; omega)
      · rw [g2, if_neg (fun h => g1 h.2)] at *
        rw [← hacc]
        rfl
    · rw [if_neg (fun h => f1 h.1)] at hacc
      rw [f2, ← hacc]
      rfl
  · have e : i = qs.length := by omega
    subst e
    rw [terms_end] at hacc
    rw [h2 _ _ hs, ← hacc]

theorem of_ok (n : Int) : ref02_Of n = some (n, 1) := rfl

theorem refCheck_ok {b : Brd} {qs : List Rat} (hv : validB b = true) (hlen : qs.length = b.2.2.length) (hq : ∀ q ∈ qs, fitsQ q) (hall : ((qs.map prQ).all fun a => decide (okF a)) = true) : ref18_Check b (qs.map prQ) = checkE b qs := by
  obtain ⟨v1, v2, v3, v4⟩ := validB_iff.1 hv
  simp only [ref18_Check, ref18_Check_b, refValid_ok, hv, obind_some', Bool.not_true, Bool.not_false, Bool.or_false, Bool.or_true, Bool.false_or, Bool.true_or, cT, cF]
  rw [RAll_ok (by rw [List.length_map]; omega), hall, obind_some', Bool.not_true, cF, List.length_map, decide_eq_true (by omega), Bool.not_true, cF]
  refine lpK_up (α := Bool × Int × PUnit) 3 (by omega) (fun i (s : Bool) => (s, (i : Int), PUnit.unit)) (axB b qs) _ ?_ ?_ true
  · intro again k s hk
    have hw : IntKind.wrap .i64 ((k : Int) + 1) = ((k + 1 : Nat) : Int) := by rw [wrap_id (by omega) (by omega)]; rfl
    simp only
    rw [decide_eq_true (show (k : Int) < 3 by omega), cT, of_ok, obind_some']
    refine refAccE_loop (k := k) (K := fun t => again ((s && decide (t = (wantE b k : Rat))), ((k + 1 : Nat) : Int), PUnit.unit)) hv hlen hq ?_ ?_
    · intro again1 i t hi ht
      have hib : i < b.2.2.length := by omega
      obtain ⟨a1, a2, a3, a4⟩ := valid_arm hv hib
      simp only
      rw [decide_eq_true (show (i : Int) < qs.length by omega), cT, inB_of (by omega) (by omega), cT, refArm_ok hib a3 a4, obind_some', refAlong_ok hk, obind_some', of_ok, obind_some']
      simp only [Int.toNat_natCast]
      rw [getD_map hi, RTimes_ok (okF_prQ (hq _ (getD_mem hi))) (axC_okF a1), obind_some', qv_prQ, qv_int, wrap_id (by omega) (by omega)]
    · intro again1 t ht
      have hg : (bif decide ((k : Int) = 2) then b.2.1 else 0) = wantE b k := by
        match k, hk with
        | 0, _ => rfl
        | 1, _ => rfl
        | 2, _ => rfl
      simp only
      rw [decide_eq_false (by omega), cF]
      simp only [not_or_self', Bool.and_self, cT, hw, jnT, of_ok]
      by_cases hk2 : (k : Int) = 2
      · rw [decide_eq_true hk2, cT] at hg ⊢
        rw [hg]
        cases s
        · simp only [cF, obind_some', Bool.false_and]
        · simp only [cT, obind_some', Bool.true_and, prQ_is]
      · rw [decide_eq_false hk2, cF] at hg ⊢
        rw [hg]
        cases s
        · simp only [cF, obind_some', Bool.false_and]
        · simp only [cT, obind_some', Bool.true_and, prQ_is]
  · intro again s
    simp only
    rw [decide_eq_false (by omega), cF]

theorem refCheckA_ok {b : Brd} {l : List Fq} (hl : l.length ≤ 1000000) : ref18_Check b l = checkA b l := by
  unfold checkA
  cases hv : validB b with
  | false =>
    rw [if_pos (.inl rfl)]
    simp only [ref18_Check, ref18_Check_b, refValid_ok, hv, obind_some', Bool.not_true, Bool.not_false, Bool.or_false, Bool.or_true, Bool.false_or, Bool.true_or, cT, cF]
  | true =>
    cases ha : l.all fun a => decide (okF a) with
    | false =>
      rw [if_pos (.inr rfl)]
      simp only [ref18_Check, ref18_Check_b, refValid_ok, hv, RAll_ok hl, ha, obind_some', Bool.not_true, Bool.not_false, Bool.or_false, Bool.or_true, Bool.false_or, Bool.true_or, cT, cF]
    | true =>
      rw [if_neg (by simp)]
      by_cases hn : l.length = b.2.2.length
      · rw [if_neg (fun h => h hn)]
        obtain ⟨p1, p2⟩ := all_prQ ha
        have h := refCheck_ok hv (by rw [List.length_map]; exact hn) p2 (by rw [p1]; exact ha)
        rw [p1] at h
        exact h
      · rw [if_pos hn]
        have hd : (!decide ((l.length : Int) = (b.2.2.length : Int))) = true := by
          rw [decide_eq_false (by omega)]; rfl
        simp only [ref18_Check, ref18_Check_b, refValid_ok, hv, RAll_ok hl, ha, hd, obind_some', Bool.not_true, Bool.not_false, Bool.or_false, Bool.or_true, Bool.false_or, Bool.true_or, cT, cF]

theorem checkA_some (b : Brd) (l : List Fq) : ∃ r, checkA b l = some r := by
  unfold checkA
  split
  · exact ⟨_, rfl⟩
  · split
    · exact ⟨_, rfl⟩
    · rw [checkE_eq]
      split
      · exact ⟨_, rfl⟩
      · exact ⟨_, rfl⟩

theorem equal11 {l : List Fq} (h : l.length ≤ 1000000) : slices_Equal_11 l l = some true := by
  simp only [slices_Equal_11, slices_Equal_11_b, decide_true, Bool.not_true, cF, Bool.and_self]
  refine lpK_loop (g := fun _ => some true) (I := fun (x : Int × PUnit) => 0 ≤ x.1 ∧ x.1 ≤ l.length) (μ := fun (x : Int × PUnit) => ((l.length : Int) - x.1).toNat) ?_ ⟨by simp, by simp only; omega⟩ (by simp only; omega)
  rintro ⟨i, _⟩ rec ⟨h0, h1⟩ hrec
  simp only at h0 h1 ⊢
  by_cases hi : i < l.length
  · rw [decide_eq_true hi, inB_of h0 hi, wrap_id (by omega) (by omega)]
    simp only [cT]
    exact hrec _ ⟨by simp only; omega, by simp only; omega⟩ (by simp only; omega)
  · rw [decide_eq_false hi, cF]

theorem law3z : ∀ x : TsS [T26, .sl T41], wfs [T26, .sl T41] x → law18_BridlePulls x.1 x.2.1 = some true := by
  intro x _
  obtain ⟨b, l, _⟩ := x
  show law18_BridlePulls b l = some true
  simp only [law18_BridlePulls, law18_BridlePulls_b, awake_ok, long_ok, obind_some', not_or_self', or_self_not, Bool.and_self, cT, Bool.not_true, cF]
  rw [show (decide (10 < b.2.2.length) || decide (0 ≤ idxI (fun l : Leg => decide ((l.1.size : Int) > 100)) b.2.2 0)) = longB b from rfl]
  cases hl : longB b with
  | true => rfl
  | false =>
    simp only [cF, Bool.not_false, Bool.or_true, Bool.true_or, Bool.false_or, cT]
    by_cases hs : (l.length : Int) > 10
    · rw [decide_eq_true hs]; rfl
    · rw [decide_eq_false hs, cF]
      obtain ⟨r, hr⟩ := checkA_some b l
      rw [pulls_ok, obind_some', bCheckA_ok (by omega), refCheckA_ok (by omega), hr, obind_some', obind_some']
      simp only [decide_true, Bool.not_true, cF, Bool.not_false, Bool.or_true, Bool.true_or, Bool.false_or, cT]
      rw [refValid_ok, obind_some']
      cases hv : validB b with
      | false => rfl
      | true =>
        have hlen : (outP (pullsE b)).1.length ≤ 1000000 := by
          cases hp : pullsE b with
          | error e => rw [outP_err]; simp
          | ok qs =>
            rw [outP_ok, List.length_map, (pullsE_fits hv hp).1]
            obtain ⟨_, _, v3, _⟩ := validB_iff.1 hv
            omega
        simp only [Bool.not_true, cF, if_true]
        rw [refPulls_ok hv, obind_some', equal11 hlen, obind_some']
        simp only [decide_true, Bool.not_true, Bool.false_or, Bool.and_self, cT]

end Go.Proofs.YtghjblbkbelcfaaGreat
