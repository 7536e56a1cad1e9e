/- Fractions of the reference: 'Div', 'Made', 'Make', 'Times', 'Floor', 'Ceil'. -/
import Derived.Test.YtghjblbkbelcfaaRt3r18
namespace Go.Proofs.Ytghjblbkbelcfaa
open Try Dn Dn.Sh

theorem dbl_hl {n : Nat} : (IntKind.wrap .u64 (IntKind.wrap .u64 ((hl n).1 * 2) + (hl n).2 / 9223372036854775808), IntKind.wrap .u64 ((hl n).2 * 2)) = hl (2 * n % 340282366920938463463374607431768211456) := by
  simp only [IntKind.wrap_u64, hl]
  ext <;> simp only <;> omega
theorem dblb_hl {r a : Nat} (_ : r < 340282366920938463463374607431768211456) (ha : a < 340282366920938463463374607431768211456) : (IntKind.wrap .u64 (IntKind.wrap .u64 ((hl r).1 * 2) + (hl r).2 / 9223372036854775808), IntKind.wrap .u64 (IntKind.wrap .u64 ((hl r).2 * 2) + (hl a).1 / 9223372036854775808)) = hl ((2 * r + 2 * a / 340282366920938463463374607431768211456) % 340282366920938463463374607431768211456) := by
  simp only [IntKind.wrap_u64, hl]
  ext <;> simp only <;> omega
theorem dbl1_hl {q : Nat} (hq : 2 * q + 1 < 340282366920938463463374607431768211456) : (IntKind.wrap .u64 (IntKind.wrap .u64 ((hl q).1 * 2) + (hl q).2 / 9223372036854775808), IntKind.wrap .u64 (IntKind.wrap .u64 ((hl q).2 * 2) + 1)) = hl (2 * q + 1) := by
  simp only [IntKind.wrap_u64, hl]
  ext <;> simp only <;> omega
theorem over_hl {r a : Nat} (hr : r < 340282366920938463463374607431768211456) (ha : a < 340282366920938463463374607431768211456) : decide ((hl r).1 / 9223372036854775808 > 0) = decide (340282366920938463463374607431768211456 ≤ 2 * r + 2 * a / 340282366920938463463374607431768211456) := by
  rw [Bool.eq_iff_iff, decide_eq_true_iff, decide_eq_true_iff]
  simp only [hl]
  omega

theorem divMod_of {t b q r : Nat} (hr : r < b) (h : t = q * b + r) : t / b = q ∧ t % b = r := by
  subst h
  constructor
  · rw [Nat.mul_comm, Nat.mul_add_div (by omega), Nat.div_eq_of_lt hr, Nat.add_zero]
  · rw [Nat.mul_comm, Nat.mul_add_mod, Nat.mod_eq_of_lt hr]

theorem RDiv_ok {A B : Nat} (hA : A < 340282366920938463463374607431768211456) (hB0 : 0 < B) (hB : B < 340282366920938463463374607431768211456) : ref02_Div (hl A) (hl B) = some (hl (A / B), hl (A % B), ()) := by
  simp only [ref02_Div, ref02_Div_b, show decide ((0 : Int) ≤ 1) = true from rfl, show decide ((0 : Int) ≤ 63) = true from rfl, cond_true, not_or_self', show (2 : Int) ^ (1 : Nat) = 2 from rfl, show (2 : Int) ^ (63 : Nat) = 9223372036854775808 from rfl, fdiv_of (show (0 : Int) ≤ 9223372036854775808 by omega), Bool.and_self]
  by_cases hs : A < 18446744073709551616 ∧ B < 18446744073709551616
  · rw [hl_small hs.1, hl_small hs.2]
    have q1 : A / B ≤ A := Nat.div_le_self _ _
    have q2 : A % B ≤ A := Nat.mod_le _ _
    simp only [decide_true, cond_true, nzB_of (show (B : Int) ≠ 0 by omega), tdiv_nat]
    have hq : ((A / B : Nat) : Int) < 18446744073709551616 := by
      generalize A / B = z at *
      omega
    rw [hl_small (show A / B < 18446744073709551616 by omega), hl_small (show A % B < 18446744073709551616 by omega), u_wrap (Int.natCast_nonneg _) hq, Int.tmod_eq_emod_of_nonneg (by omega), Int.natCast_emod]
  · have hc : (bif decide ((hl A).1 = 0) then decide ((hl B).1 = 0) else false) = false := by
      rw [Bool.eq_false_iff]
      intro h
      by_cases h1 : (hl A).1 = 0
      · rw [decide_eq_true h1, cond_true, decide_eq_true_iff] at h
        simp only [hl] at h1 h
        omega
      · rw [decide_eq_false h1, cond_false] at h
        cases h
    rw [hc, cond_false]
    refine lpK_loop (g := fun _ => some (hl (A / B), hl (A % B), ())) (I := fun (x : Int × (Int × Int) × (Int × Int) × (Int × Int) × PUnit) => ∃ i X : Nat, i ≤ 128 ∧ X = A * 2 ^ i ∧ x = ((i : Int), hl (X % 340282366920938463463374607431768211456), hl (X / 340282366920938463463374607431768211456 / B), hl (X / 340282366920938463463374607431768211456 % B), ⟨⟩))
      (μ := fun (x : Int × (Int × Int) × (Int × Int) × (Int × Int) × PUnit) => (128 - x.1).toNat) (x := ((0 : Int), hl A, ((0 : Int), (0 : Int)), ((0 : Int), (0 : Int)), PUnit.unit)) ?_ ⟨0, A, by omega, by simp, by
        rw [Nat.mod_eq_of_lt hA, Nat.div_eq_of_lt hA, Nat.zero_div, Nat.zero_mod]; rfl⟩ (by simp only; omega)
    rintro _ rec ⟨i, X, hi, hX, rfl⟩ hrec
    simp only
    by_cases hlt : i < 128
    · rw [decide_eq_true (show (i : Int) < 128 by omega), cond_true]
      have hX2 : 2 * X = A * 2 ^ (i + 1) := by rw [hX, Nat.pow_succ]; grind
      have hT : 2 * X / 340282366920938463463374607431768211456 ≤ A := by
        have : A * 2 ^ (i + 1) ≤ A * 2 ^ 128 := Nat.mul_le_mul_left _ (Nat.pow_le_pow_right (by omega) (by omega))
        rw [hX2]
        refine Nat.div_le_of_le_mul ?_
        rw [show (2 : Nat) ^ 128 = 340282366920938463463374607431768211456 from rfl, Nat.mul_comm A 340282366920938463463374607431768211456] at this
        exact this
      have ha := Nat.mod_lt X (show 340282366920938463463374607431768211456 > 0 by omega)
      have hr := Nat.mod_lt (X / 340282366920938463463374607431768211456) hB0
      have e1 : 2 * X % 340282366920938463463374607431768211456 = 2 * (X % 340282366920938463463374607431768211456) % 340282366920938463463374607431768211456 := by omega
      have e2 : 2 * X / 340282366920938463463374607431768211456 = 2 * (X / 340282366920938463463374607431768211456) + 2 * (X % 340282366920938463463374607431768211456) / 340282366920938463463374607431768211456 := by omega
      have e3 : X / 340282366920938463463374607431768211456 = X / 340282366920938463463374607431768211456 / B * B + X / 340282366920938463463374607431768211456 % B := by rw [Nat.mul_comm]; exact (Nat.div_add_mod _ _).symm
      have hq : X / 340282366920938463463374607431768211456 / B ≤ X / 340282366920938463463374607431768211456 := Nat.div_le_self _ _
      rw [wrap_id (x := (i : Int) + 1) (by omega) (by omega)]
      have bit : 2 * (X % 340282366920938463463374607431768211456) / 340282366920938463463374607431768211456 ≤ 1 := by omega
      have step : ∀ q r, r < B → 2 * X / 340282366920938463463374607431768211456 = q * B + r → rec ((i : Int) + 1, hl (2 * (X % 340282366920938463463374607431768211456) % 340282366920938463463374607431768211456), hl q, hl r, PUnit.unit) = some (hl (A / B), hl (A % B), ()) := fun q r h1 h2 => by
        obtain ⟨h3, h4⟩ := divMod_of h1 h2
        exact hrec _ ⟨i + 1, 2 * X, by omega, hX2, by rw [h3, h4, e1]; rfl⟩ (by simp only; omega)
      generalize hTd : X / 340282366920938463463374607431768211456 = T at *
      generalize hαd : X % 340282366920938463463374607431768211456 = α at *
      generalize hqd : T / B = q at *
      generalize hrd : T % B = r at *
      have hq2 : 2 * q + 1 < 340282366920938463463374607431768211456 := by
        by_cases hq0 : q = 0
        · omega
        · have h1 : q * 1 ≤ q * B := Nat.mul_le_mul_left _ hB0
          have h2 : A ≤ 340282366920938463463374607431768211455 := by omega
          omega
      rw [over_hl (r := r) (a := α) (by omega) ha, dbl_hl (n := α), dblb_hl (r := r) (a := α) (by omega) ha]
      have hmul2 : 2 * (q * B) = 2 * q * B := by rw [Nat.mul_assoc]
      have hmul3 : (2 * q + 1) * B = 2 * q * B + B := by rw [Nat.add_mul, Nat.one_mul]
      by_cases ho : 340282366920938463463374607431768211456 ≤ 2 * r + 2 * α / 340282366920938463463374607431768211456
      · simp only [decide_eq_true ho, Bool.not_true, Bool.not_false, cond_true, cond_false, Bool.or_self, Bool.and_self, obind_some', Bool.or_true]
        rw [Minus_over (a := 2 * r + 2 * α / 340282366920938463463374607431768211456) (b := B) (by omega) (by omega) hB, obind_some', dbl1_hl hq2]
        exact step _ _ (by omega) (by rw [hmul3]; omega)
      · have hR : (2 * r + 2 * α / 340282366920938463463374607431768211456) % 340282366920938463463374607431768211456 = 2 * r + 2 * α / 340282366920938463463374607431768211456 := Nat.mod_eq_of_lt (by omega)
        simp only [decide_eq_false ho, hR, Bool.not_true, Bool.not_false, cond_true, cond_false, Bool.or_self, Bool.and_self, obind_some', Bool.or_true, Less_ok]
        by_cases hl2 : 2 * r + 2 * α / 340282366920938463463374607431768211456 < B
        · simp only [decide_eq_true hl2, Bool.not_true, cond_false]
          have e := dbl_hl (n := q)
          rw [Nat.mod_eq_of_lt (show 2 * q < 340282366920938463463374607431768211456 by omega)] at e
          rw [e]
          exact step _ _ (by omega) (by omega)
        · simp only [decide_eq_false hl2, Bool.not_false, cond_true]
          rw [Minus_ok (by omega) (by omega), obind_some', dbl1_hl hq2]
          exact step _ _ (by omega) (by rw [hmul3]; omega)
    · have : i = 128 := by omega
      subst this
      have hx : X / 340282366920938463463374607431768211456 = A := by
        rw [hX]
        exact Nat.mul_div_cancel A (by decide)
      rw [decide_eq_false (by omega), cond_false, hx]

theorem RMade_ok {s : Bool} {n d : Nat} (hn : n < 340282366920938463463374607431768211456) (hd0 : 0 < d) (hd : d < 340282366920938463463374607431768211456) : ref02_Made (hl n) s (hl d) = some (fitQ (mkRat (sgn s n) d)) := by
  have hG0 : 0 < Nat.gcd n d := Nat.gcd_pos_of_pos_right _ hd0
  have hG : Nat.gcd n d ≤ d := Nat.le_of_dvd hd0 (Nat.gcd_dvd_right n d)
  simp only [ref02_Made, ref02_Made_b, not_or_self', or_self_not, cond_true]
  rw [zero_hl hd, decide_eq_false (show ¬ d = 0 by omega), cond_false, Gcd_ok hn hd0 hd, obind_some', RDiv_ok hn hG0 (by omega), obind_some', RDiv_ok hd hG0 (by omega), obind_some']
  obtain ⟨m1, m2, m3⟩ := mkQ_div (s := s) (n := n) (d := d) hd0
  rw [m1, fit_low m2 m3]
  have q1 : n / Nat.gcd n d ≤ n := Nat.div_le_self _ _
  have q2 : d / Nat.gcd n d ≤ d := Nat.div_le_self _ _
  generalize n / Nat.gcd n d = p at *
  generalize d / Nat.gcd n d = q at *
  simp only
  have big : ∀ {x : Nat}, x < 340282366920938463463374607431768211456 → (bif decide ((hl x).1 > 0) then true else decide ((hl x).2 > 1152921504606846976)) = decide (¬ x ≤ 1152921504606846976) := fun {x} hx => by
    by_cases h1 : (hl x).1 > 0
    · rw [decide_eq_true h1, cond_true]
      simp only [hl] at h1
      exact (decide_eq_true (by omega)).symm
    · rw [decide_eq_false h1, cond_false, Bool.eq_iff_iff, decide_eq_true_iff, decide_eq_true_iff]
      simp only [hl] at h1 ⊢
      omega
  rw [big (show p < 340282366920938463463374607431768211456 by omega)]
  by_cases hp : p ≤ 1152921504606846976
  · simp only [hp, not_true_eq_false, decide_false, cond_false, true_and]
    rw [big (show q < 340282366920938463463374607431768211456 by omega)]
    by_cases hq : q ≤ 1152921504606846976
    · simp only [hq, not_true_eq_false, decide_false, cond_false, if_true]
      rw [hl_small (show p < 18446744073709551616 by omega), hl_small (show q < 18446744073709551616 by omega)]
      simp only
      rw [wrap_id (x := (p : Int)) (by omega) (by omega), wrap_id (x := (q : Int)) (by omega) (by omega), wrap_id (x := 0 - (p : Int)) (by omega) (by omega)]
      cases s <;> simp [sgn]
    · simp only [hq, not_false_eq_true, decide_true, cond_true, if_false]
  · simp only [hp, not_false_eq_true, decide_true, cond_true, false_and, if_false]

theorem RMade_zero {s : Bool} {n : Int × Int} : ref02_Made n s (0, 0) = some ((0, 0), 16, ()) := by
  simp only [ref02_Made, ref02_Made_b]
  rfl

theorem RSize_ok {x : Int} (h1 : -9223372036854775808 ≤ x) (h2 : x < 9223372036854775808) : ref02_Size x = some (x.natAbs : Int) := by
  simp only [ref02_Size, ref02_Size_b]
  by_cases h : x < 0
  · simp only [h, decide_true, cond_true]
    rw [IntKind.wrap_u64, IntKind.wrap_u64]
    congr 1; omega
  · simp only [h, decide_false, cond_false]
    rw [u_wrap (by omega) (by omega)]
    congr 1; omega

theorem not_dec_eq {a b : Prop} [Decidable a] [Decidable b] : (!decide (decide a = decide b)) = (decide a != decide b) := by
  cases decide a <;> cases decide b <;> rfl

theorem RMake_ok {n d : Int} (h1 : -9223372036854775808 ≤ n) (h2 : n < 9223372036854775808) (h3 : -9223372036854775808 ≤ d) (h4 : d < 9223372036854775808) :
    ref02_Make n d = some (if d = 0 then ((0, 0), 16, ()) else fitQ (divQ n d)) := by
  simp only [ref02_Make, ref02_Make_b]
  rw [RSize_ok h1 h2, obind_some', RSize_ok h3 h4, obind_some', not_dec_eq]
  by_cases hd : d = 0
  · subst hd
    rw [if_pos rfl, show ((0 : Int), (((0 : Int).natAbs : Nat) : Int)) = (0, 0) from rfl, RMade_zero, obind_some']
  · rw [if_neg hd, ← hl_small (show n.natAbs < 18446744073709551616 by omega), ← hl_small (show d.natAbs < 18446744073709551616 by omega), RMade_ok (by omega) (by omega) (by omega), obind_some']
    rfl

theorem RMul_ok {m n : Nat} (hm : m < 18446744073709551616) (hn : n < 18446744073709551616) : ref02_Mul (m : Int) (n : Int) = some (hl (m * n)) := by
  have x0 : 0 ≤ (m : Int) := by omega
  have x1 : (m : Int) < 18446744073709551616 := by omega
  have y0 : 0 ≤ (n : Int) := by omega
  have y1 : (n : Int) < 18446744073709551616 := by omega
  have hmn : ((m * n : Nat) : Int) = (m : Int) * n := Int.natCast_mul m n
  simp only [hl, Int.natCast_ediv, Int.natCast_emod, hmn]
  generalize (m : Int) = x at *
  generalize (n : Int) = y at *
  have p32 : (2 : Int) ^ (32 : Nat) = 4294967296 := by decide
  simp only [ref02_Mul, ref02_Mul_b, p32, show decide ((0 : Int) ≤ 32) = true from rfl, cond_true]
  obtain ⟨a, b, ha, hb, hx⟩ : ∃ a b, a = x / 4294967296 ∧ b = x % 4294967296 ∧ x = a * 4294967296 + b := ⟨_, _, rfl, rfl, by omega⟩
  obtain ⟨c, d, hc, hd, hy⟩ : ∃ c d, c = y / 4294967296 ∧ d = y % 4294967296 ∧ y = c * 4294967296 + d := ⟨_, _, rfl, rfl, by omega⟩
  rw [land32 x0 x1, land32 y0 y1, ← hb, ← hd]
  simp only [fdiv_of (show (0 : Int) ≤ 4294967296 by omega), ← ha, ← hc]
  have a0 : 0 ≤ a ∧ a ≤ 4294967295 := by omega
  have b0 : 0 ≤ b ∧ b ≤ 4294967295 := by omega
  have c0 : 0 ≤ c ∧ c ≤ 4294967295 := by omega
  have d0 : 0 ≤ d ∧ d ≤ 4294967295 := by omega
  have mb : ∀ {m n : Int}, 0 ≤ m ∧ m ≤ 4294967295 → 0 ≤ n ∧ n ≤ 4294967295 → 0 ≤ m * n ∧ m * n ≤ 18446744065119617025 := fun {m n} hm hn => ⟨Int.mul_nonneg hm.1 hn.1, Int.le_trans (Int.mul_le_mul hm.2 hn.2 hn.1 (by omega)) (by decide)⟩
  have e1 := mb a0 c0
  have e2 := mb a0 d0
  have e3 := mb b0 c0
  have e4 := mb b0 d0
  have hxy : x * y = a * c * 18446744073709551616 + (a * d + b * c) * 4294967296 + b * d := by rw [hx, hy]; grind
  rw [hxy]
  rw [u_wrap (x := b) (by omega) (by omega), u_wrap (x := d) (by omega) (by omega)]
  rw [u_wrap (x := b * d) (by omega) (by omega), u_wrap (x := a * d) (by omega) (by omega), u_wrap (x := b * c) (by omega) (by omega), u_wrap (x := a * c) (by omega) (by omega)]
  generalize b * d = bd at *
  generalize a * d = ad at *
  generalize b * c = bc at *
  generalize a * c = ac at *
  rw [u_wrap (x := ad + bd / 4294967296) (by omega) (by omega)]
  generalize ht : ad + bd / 4294967296 = t
  rw [land32 (by omega) (by omega), land32 (by omega) (by omega)]
  rw [u_wrap (x := t % 4294967296) (by omega) (by omega), u_wrap (x := bd % 4294967296) (by omega) (by omega)]
  rw [u_wrap (x := bc + t % 4294967296) (by omega) (by omega), u_wrap (x := ac + t / 4294967296) (by omega) (by omega)]
  rw [u_wrap (x := ac + t / 4294967296 + (bc + t % 4294967296) / 4294967296) (by omega) (by omega)]
  rw [IntKind.wrap_u64 ((bc + t % 4294967296) * 4294967296), IntKind.wrap_u64]
  congr 1
  ext <;> simp only <;> omega

theorem RTimes_ok {a b : Fq} (ha : okF a) (hb : okF b) : ref02_Times a b = some (fitQ (qv a * qv b)) := by
  have ha' := ha
  have hb' := hb
  obtain ⟨⟨a1, a2⟩, ⟨a3, a4⟩, _⟩ := ha'
  obtain ⟨⟨b1, b2⟩, ⟨b3, b4⟩, _⟩ := hb'
  simp only [ref02_Times, ref02_Times_b]
  rw [RSize_ok (by omega) (by omega), obind_some', RSize_ok (by omega) (by omega), obind_some', RMul_ok (by omega) (by omega), obind_some', RSize_ok (by omega) (by omega), obind_some', RSize_ok (by omega) (by omega), obind_some', RMul_ok (by omega) (by omega), obind_some', not_dec_eq]
  have bd : ∀ {x y : Nat}, x ≤ 1152921504606846976 → y ≤ 1152921504606846976 → x * y < 340282366920938463463374607431768211456 := fun {x y} hx hy => Nat.lt_of_le_of_lt (Nat.mul_le_mul hx hy) (by decide)
  rw [RMade_ok (bd (by omega) (by omega)) (Nat.mul_pos (by omega) (by omega)) (bd (by omega) (by omega)), obind_some', okF_mkQ a, okF_mkQ b, mkQ_mul, show a.2.natAbs = a.2.toNat by omega, show b.2.natAbs = b.2.toNat by omega]

theorem RFloor_ok {a : Fq} (ha : okF a) : ref02_Floor a = some (qv a).floor := by
  have e1 := okF_num ha
  have e2 := okF_den ha
  obtain ⟨⟨a1, a2⟩, ⟨a3, a4⟩, _⟩ := ha
  have hf := floor_ok (n := a.1) (d := a.2) (by omega) (by omega) (by omega)
  simp only [ratio_floor, ratio_floor_b, nzB_of (show a.2 ≠ 0 by omega), cond_true] at hf
  rw [Rat.floor_def, e1, e2, ← hf]
  simp only [ref02_Floor, ref02_Floor_b, nzB_of (show a.2 ≠ 0 by omega), cond_true]
  have h1 := Int.mul_tdiv_add_tmod a.1 a.2
  have hq : -9223372036854775807 ≤ Int.tdiv a.1 a.2 ∧ Int.tdiv a.1 a.2 < 9223372036854775808 := by
    rcases Int.le_total 0 a.1 with h | h
    · rw [Int.tdiv_eq_ediv_of_nonneg h]
      have := Int.ediv_le_self a.2 h
      have := Int.ediv_nonneg h (show 0 ≤ a.2 by omega)
      omega
    · obtain ⟨m, hm⟩ : ∃ m, a.1 = -m := ⟨-a.1, by omega⟩
      rw [hm, Int.neg_tdiv, Int.tdiv_eq_ediv_of_nonneg (by omega)]
      have := Int.ediv_le_self a.2 (show 0 ≤ m by omega)
      have := Int.ediv_nonneg (show 0 ≤ m by omega) (show 0 ≤ a.2 by omega)
      omega
  have b3 : -a.2 < Int.tmod a.1 a.2 ∧ Int.tmod a.1 a.2 < a.2 := by
    rcases Int.le_total 0 a.1 with h | h
    · rw [Int.tmod_eq_emod_of_nonneg h]
      have := Int.emod_nonneg a.1 (show a.2 ≠ 0 by omega)
      have := Int.emod_lt_of_pos a.1 (show 0 < a.2 by omega)
      omega
    · obtain ⟨m, hm⟩ : ∃ m, a.1 = -m := ⟨-a.1, by omega⟩
      rw [hm, Int.neg_tmod, Int.tmod_eq_emod_of_nonneg (by omega)]
      have := Int.emod_nonneg m (show a.2 ≠ 0 by omega)
      have := Int.emod_lt_of_pos m (show 0 < a.2 by omega)
      omega
  rw [wrap_id (x := Int.tdiv a.1 a.2) (by omega) (by omega), Int.mul_comm (Int.tdiv a.1 a.2) a.2, wrap_id (x := a.2 * Int.tdiv a.1 a.2) (by omega) (by omega)]
  have e : decide (a.2 * Int.tdiv a.1 a.2 > a.1) = decide (Int.tmod a.1 a.2 < 0) := by
    rw [Bool.eq_iff_iff, decide_eq_true_iff, decide_eq_true_iff]; omega
  rw [e]

theorem RNeg_ok {a : Fq} (ha : okF a) : ref02_Neg a = some (-a.1, a.2) ∧ okF (-a.1, a.2) ∧ qv (-a.1, a.2) = - qv a := by
  obtain ⟨⟨a1, a2⟩, ⟨a3, a4⟩, a5⟩ := ha
  refine ⟨?_, ⟨⟨a1, a2⟩, ⟨by simp only; omega, by simp only; omega⟩, by simpa using a5⟩, ?_⟩
  · simp only [ref02_Neg, ref02_Neg_b]
    rw [wrap_id (by omega) (by omega), Int.zero_sub]
  · simp only [qv]
    rw [Rat.neg_mkRat]

theorem RCeil_ok {a : Fq} (ha : okF a) : ref02_Ceil a = some (qv a).ceil := by
  obtain ⟨h1, h2, h3⟩ := RNeg_ok ha
  simp only [ref02_Ceil, ref02_Ceil_b]
  have hc := Ceil_ok ha
  rw [h1, obind_some', RFloor_ok h2, obind_some', h3, Rat.ceil_eq_neg_floor_neg]
  have e1 := okF_num ha
  have e2 := okF_den ha
  obtain ⟨⟨a1, a2⟩, ⟨a3, a4⟩, _⟩ := ha
  have hb : -1152921504606846976 ≤ (-qv a).floor ∧ (-qv a).floor ≤ 1152921504606846976 := by
    rw [Rat.floor_def, Rat.neg_num, Rat.neg_den, e1, e2]
    constructor
    · rw [Int.le_ediv_iff_mul_le (by omega)]
      have := Int.mul_le_mul_of_nonneg_left (show 1 ≤ a.2 by omega) (show (0 : Int) ≤ 1152921504606846976 by omega)
      omega
    · rw [← Int.lt_add_one_iff, Int.ediv_lt_iff_lt_mul (by omega)]
      have := Int.mul_le_mul_of_nonneg_left (show 1 ≤ a.2 by omega) (show (0 : Int) ≤ 1152921504606846977 by omega)
      omega
  rw [wrap_id (by omega) (by omega), Int.zero_sub]

end Go.Proofs.Ytghjblbkbelcfaa
