/- Fractions: what 'Make', 'Valid', 'Mul', 'Floor', 'Ceil' of package ratio answer. -/
import Derived.Test.YtghjblbkbelcfaaEr18
import Derived.Test.YtghjblbkbelcfaaDnQ
namespace Go.Proofs.Ytghjblbkbelcfaa
open Try Dn Dn.Sh

theorem u_wrap {x : Int} (h1 : 0 ≤ x) (h2 : x < 18446744073709551616) : IntKind.wrap .u64 x = x := by
  rw [IntKind.wrap_u64]; omega

theorem size_ok {x : Int} (h1 : -9223372036854775808 ≤ x) (h2 : x < 9223372036854775808) : ratio_size x = some (x.natAbs : Int) := by
  simp only [ratio_size, ratio_size_b]
  by_cases h : x < 0
  · simp only [h, decide_true, cond_true]
    rw [IntKind.wrap_u64, IntKind.wrap_u64]
    congr 1; omega
  · simp only [h, decide_false, cond_false]
    rw [u_wrap (by omega) (by omega)]
    congr 1; omega

theorem gcd_ok (m n : Nat) (hn : n < 18446744073709551616) : ratio_gcd (m : Int) (n : Int) = some ((Nat.gcd m n : Nat) : Int) := by
  simp only [ratio_gcd, ratio_gcd_b]
  refine lpK_loop (g := fun x => some ((Nat.gcd x.1.toNat x.2.1.toNat : Nat) : Int)) (I := fun (x : Int × Int × PUnit) => 0 ≤ x.1 ∧ 0 ≤ x.2.1) (μ := fun (x : Int × Int × PUnit) => x.2.1.toNat) (x := ((m : Int), (n : Int), PUnit.unit)) ?_ ⟨Int.natCast_nonneg _, Int.natCast_nonneg _⟩ (by simp only; omega)
  rintro ⟨a, b, _⟩ rec ⟨h1, h2⟩ hrec
  simp only at h1 h2 ⊢
  by_cases hb : b = 0
  · subst hb
    simp only [decide_true, Bool.not_true, cond_false, Int.toNat_zero, Nat.gcd_zero_right]
    congr 1; omega
  · rw [decide_eq_false hb, nzB_of hb, Int.tmod_eq_emod_of_nonneg h1]
    simp only [Bool.not_false, cT]
    have h3 : 0 ≤ a % b := Int.emod_nonneg _ hb
    have h4 : a % b < b := Int.emod_lt_of_pos _ (by omega)
    rw [hrec _ ⟨by simp only; omega, by simp only; omega⟩ (by simp only; omega)]
    simp only
    congr 2
    rw [Int.toNat_emod h1 h2, Nat.gcd_comm a.toNat, Nat.gcd_rec b.toNat a.toNat, Nat.gcd_comm]

theorem signed_ok (s : Bool) (n d : Nat) (h1 : n < 18446744073709551616) (h2 : d < 18446744073709551616) :
    ratio_signed s (n : Int) (d : Int) = some (if n ≤ 1152921504606846976 ∧ d ≤ 1152921504606846976 then ((sgn s n, (d : Int)), 0, ()) else ((0, 0), 5, ())) := by
  simp only [ratio_signed, ratio_signed_b, not_or_self', or_self_not, cond_true]
  by_cases hn : n ≤ 1152921504606846976
  · by_cases hd : d ≤ 1152921504606846976
    · have e1 : decide ((n : Int) > 1152921504606846976) = false := decide_eq_false (by omega)
      have e2 : decide ((d : Int) > 1152921504606846976) = false := decide_eq_false (by omega)
      rw [wrap_id (x := (n : Int)) (by omega) (by omega), wrap_id (x := (d : Int)) (by omega) (by omega), wrap_id (x := 0 - (n : Int)) (by omega) (by omega)]
      simp only [e1, e2, cond_false, hn, hd, and_self, if_true]
      cases s <;> simp [sgn]
    · have e2 : decide ((d : Int) > 1152921504606846976) = true := decide_eq_true (by omega)
      simp only [e2, bif_true', Bool.or_true, cond_true, hd, and_false, if_false]
  · have e1 : decide ((n : Int) > 1152921504606846976) = true := decide_eq_true (by omega)
    simp only [e1, cond_true, hn, false_and, if_false]

/-- The quotient of two numbers. -/
def divQ (n d : Int) : Rat := mkRat (sgn (decide (n < 0) != decide (d < 0)) n.natAbs) d.natAbs

theorem divQ_eq {n d : Int} (hd : d ≠ 0) : divQ n d = (n : Rat) / d := by
  unfold divQ
  rw [← Rat.divInt_eq_div, show mkRat (sgn (decide (n < 0) != decide (d < 0)) n.natAbs) d.natAbs = Rat.divInt (sgn (decide (n < 0) != decide (d < 0)) n.natAbs) (d.natAbs : Int) from (Rat.divInt_ofNat _ _).symm]
  rw [Rat.divInt_eq_divInt_iff (by omega) hd]
  unfold sgn
  by_cases h1 : n < 0 <;> by_cases h2 : d < 0
  · rw [show ((n.natAbs : Nat) : Int) = -n by omega, show ((d.natAbs : Nat) : Int) = -d by omega]
    simp [h1, h2, Int.neg_mul, Int.mul_neg]
  · rw [show ((n.natAbs : Nat) : Int) = -n by omega, show ((d.natAbs : Nat) : Int) = d by omega]
    simp [h1, h2]
  · rw [show ((n.natAbs : Nat) : Int) = n by omega, show ((d.natAbs : Nat) : Int) = -d by omega]
    simp [h1, h2, Int.neg_mul, Int.mul_neg]
  · rw [show ((n.natAbs : Nat) : Int) = n by omega, show ((d.natAbs : Nat) : Int) = d by omega]
    simp [h1, h2]

theorem tdiv_nat (m n : Nat) : Int.tdiv (m : Int) (n : Int) = ((m / n : Nat) : Int) := by
  rw [Int.tdiv_eq_ediv_of_nonneg (by omega)]
  rfl

theorem Make_ok {n d : Int} (h1 : -9223372036854775808 ≤ n) (h2 : n < 9223372036854775808) (h3 : -9223372036854775808 ≤ d) (h4 : d < 9223372036854775808) :
    ratio_Make n d = some (if d = 0 then ((0, 0), 16, ()) else fitQ (divQ n d)) := by
  simp only [ratio_Make, ratio_Make_b, not_or_self', Bool.and_self, cond_true]
  by_cases hd : d = 0
  · simp only [hd, decide_true, cond_true, if_true]
  · simp only [hd, decide_false, cond_false, if_false]
    rw [size_ok h1 h2, obind_some', size_ok h3 h4, obind_some', gcd_ok _ _ (by omega), obind_some']
    have hg : 0 < Nat.gcd n.natAbs d.natAbs := Nat.gcd_pos_of_pos_right _ (by omega)
    have a1 : n.natAbs / Nat.gcd n.natAbs d.natAbs ≤ n.natAbs := Nat.div_le_self _ _
    have a2 : d.natAbs / Nat.gcd n.natAbs d.natAbs ≤ d.natAbs := Nat.div_le_self _ _
    have hz : nzB ((Nat.gcd n.natAbs d.natAbs : Nat) : Int) = true := nzB_of (by omega)
    obtain ⟨m1, m2, m3⟩ := mkQ_div (s := decide (n < 0) != decide (d < 0)) (n := n.natAbs) (d := d.natAbs) (by omega)
    have hs : n = 0 → n.natAbs / Nat.gcd n.natAbs d.natAbs = 0 := fun h => by subst h; simp
    rw [hz, cond_true, cond_true, tdiv_nat, tdiv_nat]
    unfold divQ
    rw [m1]
    generalize n.natAbs / Nat.gcd n.natAbs d.natAbs = p at *
    generalize d.natAbs / Nat.gcd n.natAbs d.natAbs = q at *
    rw [u_wrap (by omega) (by omega), u_wrap (by omega) (by omega), signed_ok _ _ _ (by omega) (by omega), obind_some', fit_low m2 m3]
    have hs : sgn (bif !decide (n = 0) then !decide (decide (n < 0) = decide (d < 0)) else false) p = sgn (decide (n < 0) != decide (d < 0)) p := by
      by_cases h0 : n = 0
      · rw [hs h0]
        exact sgn_zero _ _
      · simp only [h0, decide_false, Bool.not_false, cond_true]
        cases decide (n < 0) <;> cases decide (d < 0) <;> rfl
    rw [hs]

theorem Valid_ok {a : Fq} : ratio_Valid a = some (decide (okF a)) := by
  simp only [ratio_Valid, ratio_Valid_b, not_or_self', Bool.and_self, cond_true, bif_false']
  unfold okF
  by_cases h1 : 1 ≤ a.2
  · by_cases h2 : a.2 ≤ 1152921504606846976
    · by_cases h3 : -1152921504606846976 ≤ a.1
      · by_cases h4 : a.1 ≤ 1152921504606846976
        · have e : IntKind.wrap .u64 a.2 = ((a.2.natAbs : Nat) : Int) := by rw [u_wrap (by omega) (by omega)]; omega
          simp only [ge_iff_le, h1, h2, h3, h4, decide_true, Bool.and_self, cond_true]
          rw [size_ok (by omega) (by omega), obind_some', e, gcd_ok _ _ (by omega), obind_some']
          congr 1
          rw [Bool.eq_iff_iff]
          simp only [Bool.true_and, decide_eq_true_eq, true_and]
          generalize Nat.gcd a.1.natAbs a.2.natAbs = g
          omega
        · simp [obind_some', h4]
      · simp [obind_some', h3]
    · simp [obind_some', h2]
  · simp [obind_some', h1]

end Go.Proofs.Ytghjblbkbelcfaa
