/- Fractions: products of two words, 'Mul', 'Floor', 'Ceil' of package ratio. -/
import Derived.Test.YtghjblbkbelcfaaRt1r18
namespace Go.Proofs.Ytghjblbkbelcfaa
open Try Dn Dn.Sh

theorem land32 {x : Int} (h1 : 0 ≤ x) (h2 : x < 18446744073709551616) : ((Nat.land (Int.toNat (x % Int.ofNat 18446744073709551616)) (Int.toNat ((4294967295 : Int) % Int.ofNat 18446744073709551616)) : Nat) : Int) = x % 4294967296 := by
  have e1 : x % Int.ofNat 18446744073709551616 = x := Int.emod_eq_of_lt h1 h2
  have e2 : Int.toNat ((4294967295 : Int) % Int.ofNat 18446744073709551616) = 2 ^ 32 - 1 := by decide
  rw [e1, e2]
  have : Nat.land x.toNat (2 ^ 32 - 1) = x.toNat % 2 ^ 32 := Nat.and_two_pow_sub_one_eq_mod x.toNat 32
  rw [this]
  omega

/-- A number of two words. -/
def hl (n : Nat) : Int × Int := (((n / 18446744073709551616 : Nat) : Int), ((n % 18446744073709551616 : Nat) : Int))

theorem mulW {x y : Int} (x0 : 0 ≤ x) (x1 : x < 18446744073709551616) (y0 : 0 ≤ y) (y1 : y < 18446744073709551616) : bits_Mul64 x y = some (x * y / 18446744073709551616, x * y % 18446744073709551616, ()) := by
  have p32 : (2 : Int) ^ (32 : Nat) = 4294967296 := by decide
  simp only [bits_Mul64, bits_Mul64_b, p32, show decide ((0 : Int) ≤ 32) = true from rfl, cond_true]
  obtain ⟨a, b, ha, hb, hx⟩ : ∃ a b, a = x / 4294967296 ∧ b = x % 4294967296 ∧ x = a * 4294967296 + b := ⟨_, _, rfl, rfl, by omega⟩
  obtain ⟨c, d, hc, hd, hy⟩ : ∃ c d, c = y / 4294967296 ∧ d = y % 4294967296 ∧ y = c * 4294967296 + d := ⟨_, _, rfl, rfl, by omega⟩
  have fd : ∀ n : Int, Int.fdiv n 4294967296 = n / 4294967296 := fun n => Int.fdiv_eq_ediv_of_nonneg n (by omega)
  rw [land32 x0 x1, land32 y0 y1, ← hb, ← hd]
  simp only [fd, ← ha, ← hc]
  have a0 : 0 ≤ a ∧ a ≤ 4294967295 := by omega
  have b0 : 0 ≤ b ∧ b ≤ 4294967295 := by omega
  have c0 : 0 ≤ c ∧ c ≤ 4294967295 := by omega
  have d0 : 0 ≤ d ∧ d ≤ 4294967295 := by omega
  have mb : ∀ {m n : Int}, 0 ≤ m ∧ m ≤ 4294967295 → 0 ≤ n ∧ n ≤ 4294967295 → 0 ≤ m * n ∧ m * n ≤ 18446744065119617025 := fun {m n} hm hn => ⟨Int.mul_nonneg hm.1 hn.1, Int.le_trans (Int.mul_le_mul hm.2 hn.2 hn.1 (by omega)) (by decide)⟩
  have e1 := mb a0 c0
  have e2 := mb a0 d0
  have e3 := mb b0 c0
  have e4 := mb b0 d0
  have hxy : x * y = a * c * 18446744073709551616 + (a * d + b * c) * 4294967296 + b * d := by rw [hx, hy]; grind
  rw [IntKind.wrap_u64 (x * y)]
  rw [hxy]
  rw [u_wrap (x := b) (by omega) (by omega), u_wrap (x := d) (by omega) (by omega)]
  rw [u_wrap (x := b * d) (by omega) (by omega), u_wrap (x := a * d) (by omega) (by omega), u_wrap (x := b * c) (by omega) (by omega), u_wrap (x := a * c) (by omega) (by omega)]
  generalize b * d = bd at *
  generalize a * d = ad at *
  generalize b * c = bc at *
  generalize a * c = ac at *
  rw [u_wrap (x := ad + bd / 4294967296) (by omega) (by omega)]
  generalize ht : ad + bd / 4294967296 = t
  rw [land32 (by omega) (by omega)]
  rw [u_wrap (x := t % 4294967296) (by omega) (by omega)]
  rw [u_wrap (x := t % 4294967296 + bc) (by omega) (by omega), u_wrap (x := ac + t / 4294967296) (by omega) (by omega)]
  rw [u_wrap (x := ac + t / 4294967296 + (t % 4294967296 + bc) / 4294967296) (by omega) (by omega)]
  congr 1
  ext
  · simp only; omega
  · rfl

theorem product_ok {m n : Nat} (hm : m < 18446744073709551616) (hn : n < 18446744073709551616) : ratio_product (m : Int) (n : Int) = some (hl (m * n)) := by
  simp only [ratio_product, ratio_product_b]
  rw [mulW (by omega) (by omega) (by omega) (by omega), obind_some', ← Int.natCast_mul]
  rfl

theorem hl_small {n : Nat} (h : n < 18446744073709551616) : hl n = (0, (n : Int)) := by
  unfold hl
  rw [Nat.div_eq_of_lt h, Nat.mod_eq_of_lt h]
  rfl
theorem hl_big {n : Nat} (h : ¬ n < 18446744073709551616) : (hl n).1 > 0 := by
  unfold hl
  simp only
  omega

theorem Mul_ok {a b : Fq} (ha : okF a) (hb : okF b) : ratio_Mul a b = some (fitQ (qv a * qv b)) := by
  simp only [ratio_Mul, ratio_Mul_b, Valid_ok, ha, hb, decide_true, obind_some', Bool.not_true, Bool.not_false, Bool.and_self, cond_true, cond_false, not_or_self', or_self_not]
  have ha' := ha
  have hb' := hb
  obtain ⟨⟨a1, a2⟩, ⟨a3, a4⟩, a5⟩ := ha'
  obtain ⟨⟨b1, b2⟩, ⟨b3, b4⟩, b5⟩ := hb'
  rw [okF_mkQ a, okF_mkQ b, mkQ_mul]
  obtain ⟨d, hd⟩ : ∃ d : Nat, a.2 = (d : Int) := ⟨a.2.toNat, by omega⟩
  obtain ⟨e, he⟩ : ∃ e : Nat, b.2 = (e : Int) := ⟨b.2.toNat, by omega⟩
  rw [size_ok (by omega) (by omega), size_ok (by omega) (by omega)]
  simp only [obind_some', hd, he, Int.toNat_natCast] at *
  rw [u_wrap (x := (d : Int)) (by omega) (by omega), u_wrap (x := (e : Int)) (by omega) (by omega), gcd_ok _ _ (by omega), obind_some', gcd_ok _ _ (by omega), obind_some']
  have sa : a.1.natAbs ≤ 1152921504606846976 := by omega
  have sb : b.1.natAbs ≤ 1152921504606846976 := by omega
  have za : a.1 = 0 ↔ a.1.natAbs = 0 := by omega
  have zb : b.1 = 0 ↔ b.1.natAbs = 0 := by omega
  have hlt : decide (a.1 < 0) = true → a.1.natAbs ≠ 0 := fun h => by have := of_decide_eq_true h; omega
  rw [Int.natAbs_natCast] at a5 b5
  generalize a.1.natAbs = m at *
  generalize b.1.natAbs = n at *
  generalize decide (a.1 < 0) = s at *
  generalize decide (b.1 < 0) = t at *
  have hd0 : 0 < d := by omega
  have he0 : 0 < e := by omega
  have hg : 0 < Nat.gcd m e := Nat.gcd_pos_of_pos_right _ he0
  have hh : 0 < Nat.gcd n d := Nat.gcd_pos_of_pos_right _ hd0
  rw [nzB_of (show ((Nat.gcd m e : Nat) : Int) ≠ 0 by omega), nzB_of (show ((Nat.gcd n d : Nat) : Int) ≠ 0 by omega)]
  simp only [cond_true, tdiv_nat]
  have m1 : m / Nat.gcd m e * Nat.gcd m e = m := Nat.div_mul_cancel (Nat.gcd_dvd_left m e)
  have e1 : e / Nat.gcd m e * Nat.gcd m e = e := Nat.div_mul_cancel (Nat.gcd_dvd_right m e)
  have n1 : n / Nat.gcd n d * Nat.gcd n d = n := Nat.div_mul_cancel (Nat.gcd_dvd_left n d)
  have d1 : d / Nat.gcd n d * Nat.gcd n d = d := Nat.div_mul_cancel (Nat.gcd_dvd_right n d)
  have c1 : Nat.Coprime (m / Nat.gcd m e) (e / Nat.gcd m e) := Nat.coprime_div_gcd_div_gcd hg
  have c2 : Nat.Coprime (n / Nat.gcd n d) (d / Nat.gcd n d) := Nat.coprime_div_gcd_div_gcd hh
  have q1 : m / Nat.gcd m e ≤ m := Nat.div_le_self _ _
  have q2 : e / Nat.gcd m e ≤ e := Nat.div_le_self _ _
  have q3 : n / Nat.gcd n d ≤ n := Nat.div_le_self _ _
  have q4 : d / Nat.gcd n d ≤ d := Nat.div_le_self _ _
  have p2 : 0 < e / Nat.gcd m e := Nat.div_pos (Nat.le_of_dvd he0 (Nat.gcd_dvd_right m e)) hg
  have p4 : 0 < d / Nat.gcd n d := Nat.div_pos (Nat.le_of_dvd hd0 (Nat.gcd_dvd_right n d)) hh
  have x1 : m / Nat.gcd m e ∣ m := Nat.div_dvd_of_dvd (Nat.gcd_dvd_left m e)
  have x2 : e / Nat.gcd m e ∣ e := Nat.div_dvd_of_dvd (Nat.gcd_dvd_right m e)
  have x3 : n / Nat.gcd n d ∣ n := Nat.div_dvd_of_dvd (Nat.gcd_dvd_left n d)
  have x4 : d / Nat.gcd n d ∣ d := Nat.div_dvd_of_dvd (Nat.gcd_dvd_right n d)
  generalize Nat.gcd m e = g at *
  generalize Nat.gcd n d = h at *
  generalize m / g = m' at *
  generalize e / g = e' at *
  generalize n / h = n' at *
  generalize d / h = d' at *
  have cop : Nat.gcd (m' * n') (d' * e') = 1 := by
    refine Nat.Coprime.mul_left (Nat.Coprime.mul_right ?_ c1) (Nat.Coprime.mul_right c2 ?_)
    · exact Nat.Coprime.coprime_dvd_left x1 (Nat.Coprime.coprime_dvd_right x4 a5)
    · exact Nat.Coprime.coprime_dvd_left x3 (Nat.Coprime.coprime_dvd_right x2 b5)
  have hq : mkRat (sgn (s != t) (m * n)) (d * e) = mkRat (sgn (s != t) (m' * n')) (d' * e') := by
    refine mkQ_congr (Nat.mul_pos hd0 he0) (Nat.mul_pos p4 p2) ?_
    rw [← m1, ← n1, ← d1, ← e1]
    grind
  rw [hq, fit_low (Nat.mul_pos p4 p2) cop]
  rw [u_wrap (by omega) (by omega), u_wrap (by omega) (by omega), product_ok (by omega) (by omega), obind_some', u_wrap (by omega) (by omega), u_wrap (by omega) (by omega), product_ok (by omega) (by omega), obind_some']
  by_cases hN : m' * n' < 18446744073709551616
  · rw [hl_small hN]
    by_cases hD : d' * e' < 18446744073709551616
    · rw [hl_small hD]
      simp only [show decide ((0 : Int) > 0) = false from rfl, cond_false]
      rw [signed_ok _ _ _ hN hD, obind_some']
      have hs : sgn (bif decide (((m' * n' : Nat) : Int) > 0) then !decide (s = t) else false) (m' * n') = sgn (s != t) (m' * n') := by
        by_cases h0 : m' * n' = 0
        · rw [h0]; exact sgn_zero _ _
        · rw [decide_eq_true (show ((m' * n' : Nat) : Int) > 0 by omega)]
          cases s <;> cases t <;> rfl
      rw [hs]
    · have := hl_big hD
      simp only [show decide ((0 : Int) > 0) = false from rfl, cond_false, decide_eq_true this, cond_true]
      rw [if_neg (by omega)]
  · have := hl_big hN
    simp only [decide_eq_true this, cond_true]
    rw [if_neg (by omega)]

theorem Mul_bad {a b : Fq} (h : ¬ (okF a ∧ okF b)) : ratio_Mul a b = some ((0, 0), 1, ()) := by
  simp only [ratio_Mul, ratio_Mul_b, Valid_ok, obind_some', not_or_self', or_self_not, cond_true]
  by_cases ha : okF a
  · have hb : ¬ okF b := fun hb => h ⟨ha, hb⟩
    simp [ha, hb, obind_some']
  · simp [ha, obind_some']

theorem floor_ok {n d : Int} (h1 : -9223372036854775807 ≤ n) (h2 : n < 9223372036854775808) (hd : 0 < d) : ratio_floor n d = some (n / d) := by
  simp only [ratio_floor, ratio_floor_b, nzB_of (show d ≠ 0 by omega), cond_true]
  have hq : -9223372036854775807 ≤ Int.tdiv n d ∧ Int.tdiv n d < 9223372036854775808 := by
    rcases Int.le_total 0 n with h | h
    · rw [Int.tdiv_eq_ediv_of_nonneg h]
      have := Int.ediv_le_self d h
      have := Int.ediv_nonneg h (show 0 ≤ d by omega)
      omega
    · obtain ⟨m, rfl⟩ : ∃ m, n = -m := ⟨-n, by omega⟩
      rw [Int.neg_tdiv, Int.tdiv_eq_ediv_of_nonneg (by omega)]
      have := Int.ediv_le_self d (show 0 ≤ m by omega)
      have := Int.ediv_nonneg (show 0 ≤ m by omega) (show 0 ≤ d by omega)
      omega
  rw [wrap_id (x := Int.tdiv n d) (by omega) (by omega)]
  have e1 := Int.mul_tdiv_add_tmod n d
  have e2 := Int.mul_ediv_add_emod n d
  have b1 := Int.emod_nonneg n (show d ≠ 0 by omega)
  have b2 := Int.emod_lt_of_pos n hd
  have b3 : -d < Int.tmod n d ∧ Int.tmod n d < d := by
    rcases Int.le_total 0 n with h | h
    · rw [Int.tmod_eq_emod_of_nonneg h]; omega
    · obtain ⟨m, rfl⟩ : ∃ m, n = -m := ⟨-n, by omega⟩
      rw [Int.neg_tmod, Int.tmod_eq_emod_of_nonneg (by omega)]
      have := Int.emod_nonneg m (show d ≠ 0 by omega)
      have := Int.emod_lt_of_pos m hd
      omega
  have hb : -9223372036854775808 ≤ n / d ∧ n / d < 9223372036854775808 := by
    constructor
    · rw [Int.le_ediv_iff_mul_le hd]
      have := Int.mul_le_mul_of_nonneg_left (show 1 ≤ d by omega) (show (0 : Int) ≤ 9223372036854775808 by omega)
      omega
    · rw [Int.ediv_lt_iff_lt_mul hd]
      have := Int.mul_le_mul_of_nonneg_left (show 1 ≤ d by omega) (show (0 : Int) ≤ 9223372036854775808 by omega)
      omega
  obtain ⟨hb1, hb2⟩ := hb
  generalize Int.tdiv n d = q at *
  generalize Int.tmod n d = r at *
  generalize n / d = q' at *
  generalize n % d = r' at *
  have key : d * (q - q') = r' - r := by rw [Int.mul_sub]; omega
  by_cases hr : r < 0
  · have h3 : q - q' = 1 := by
      have l1 : d * 0 < d * (q - q') := by omega
      have l2 : d * (q - q') < d * 2 := by omega
      have := Int.lt_of_mul_lt_mul_left l1 (show 0 ≤ d by omega)
      have := Int.lt_of_mul_lt_mul_left l2 (show 0 ≤ d by omega)
      omega
    have hq2 : q - 1 = q' := by omega
    rw [decide_eq_true hr, cond_true, hq2, wrap_id (x := q') hb1 hb2]
  · rw [decide_eq_false hr, cond_false]
    have h3 : q - q' = 0 := by
      have l1 : d * (-1) < d * (q - q') := by omega
      have l2 : d * (q - q') < d * 1 := by omega
      have := Int.lt_of_mul_lt_mul_left l1 (show 0 ≤ d by omega)
      have := Int.lt_of_mul_lt_mul_left l2 (show 0 ≤ d by omega)
      omega
    congr 1; omega

theorem Floor_ok {a : Fq} (ha : okF a) : ratio_Floor a = some ((qv a).floor, 0, ()) := by
  simp only [ratio_Floor, ratio_Floor_b, Valid_ok, ha, decide_true, obind_some', Bool.not_true, cond_false]
  have e1 := okF_num ha
  have e2 := okF_den ha
  obtain ⟨⟨a1, a2⟩, ⟨a3, a4⟩, _⟩ := ha
  rw [floor_ok (by omega) (by omega) (by omega), obind_some', Rat.floor_def, e1, e2]

theorem Ceil_ok {a : Fq} (ha : okF a) : ratio_Ceil a = some ((qv a).ceil, 0, ()) := by
  simp only [ratio_Ceil, ratio_Ceil_b, Valid_ok, ha, decide_true, obind_some', Bool.not_true, cond_false]
  have e1 := okF_num ha
  have e2 := okF_den ha
  obtain ⟨⟨a1, a2⟩, ⟨a3, a4⟩, _⟩ := ha
  rw [wrap_id (x := 0 - a.1) (by omega) (by omega), Int.zero_sub, floor_ok (by omega) (by omega) (by omega), obind_some', Rat.ceil_eq_neg_floor_neg, Rat.floor_def, Rat.neg_num, Rat.neg_den, e1, e2]
  have h1 : -1152921504606846976 ≤ -a.1 / a.2 ∧ -a.1 / a.2 ≤ 1152921504606846976 := by
    constructor
    · rw [Int.le_ediv_iff_mul_le (by omega)]
      have := Int.mul_le_mul_of_nonneg_left (show 1 ≤ a.2 by omega) (show (0 : Int) ≤ 1152921504606846976 by omega)
      omega
    · rw [← Int.lt_add_one_iff, Int.ediv_lt_iff_lt_mul (by omega)]
      have := Int.mul_le_mul_of_nonneg_left (show 1 ≤ a.2 by omega) (show (0 : Int) ≤ 1152921504606846977 by omega)
      omega
  rw [wrap_id (by omega) (by omega), Int.zero_sub]

end Go.Proofs.Ytghjblbkbelcfaa
