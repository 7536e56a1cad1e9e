/- Fractions: rational numbers, and the pairs of numbers that stand for them. -/
import Derived.Test.YtghjblbkbelcfaaDnX
namespace Go.Proofs.Ytghjblbkbelcfaa
namespace Dn

abbrev Fq := Int × Int

/-- A pair in lowest terms that fits. -/
def okF (a : Fq) : Prop := (1 ≤ a.2 ∧ a.2 ≤ 1152921504606846976) ∧ (-1152921504606846976 ≤ a.1 ∧ a.1 ≤ 1152921504606846976) ∧ Nat.gcd a.1.natAbs a.2.natAbs = 1
instance (a : Fq) : Decidable (okF a) := by unfold okF; infer_instance

def qv (a : Fq) : Rat := mkRat a.1 a.2.toNat
def fitsQ (q : Rat) : Prop := q.num.natAbs ≤ 1152921504606846976 ∧ q.den ≤ 1152921504606846976
instance (q : Rat) : Decidable (fitsQ q) := by unfold fitsQ; infer_instance
def prQ (q : Rat) : Fq := (q.num, (q.den : Int))
/-- What an operation with the result 'q' answers. -/
def fitQ (q : Rat) : Fq × Int × Unit := if fitsQ q then (prQ q, 0, ()) else ((0, 0), 5, ())

theorem okF_num {a : Fq} (h : okF a) : (qv a).num = a.1 := by
  obtain ⟨⟨h1, h2⟩, _, h3⟩ := h
  have h0 : a.2.toNat ≠ 0 := by omega
  have h4 : Nat.gcd a.2.toNat a.1.natAbs = 1 := by rw [Nat.gcd_comm, show a.2.toNat = a.2.natAbs by omega]; exact h3
  rw [qv, Rat.num_mkRat, if_neg h0, h4]
  simp
theorem okF_den {a : Fq} (h : okF a) : ((qv a).den : Int) = a.2 := by
  obtain ⟨⟨h1, h2⟩, _, h3⟩ := h
  have h0 : a.2.toNat ≠ 0 := by omega
  have h4 : Nat.gcd a.2.toNat a.1.natAbs = 1 := by rw [Nat.gcd_comm, show a.2.toNat = a.2.natAbs by omega]; exact h3
  rw [qv, Rat.den_mkRat, if_neg h0, h4]
  simp; omega
theorem prQ_qv {a : Fq} (h : okF a) : prQ (qv a) = a := by
  unfold prQ
  rw [okF_num h, okF_den h]
theorem qv_prQ (q : Rat) : qv (prQ q) = q := by
  unfold qv prQ
  simp only [Int.toNat_natCast]
  exact Rat.mkRat_self q
theorem okF_prQ {q : Rat} (h : fitsQ q) : okF (prQ q) := by
  obtain ⟨h1, h2⟩ := h
  have := q.den_pos
  refine ⟨⟨?_, ?_⟩, ⟨?_, ?_⟩, ?_⟩
  · simp only [prQ]; omega
  · simp only [prQ]; omega
  · simp only [prQ]; omega
  · simp only [prQ]; omega
  · simp only [prQ]
    rw [Int.natAbs_natCast]
    exact q.reduced
theorem fitsQ_qv {a : Fq} (h : okF a) : fitsQ (qv a) := by
  unfold fitsQ
  have h1 := okF_num h
  have h2 := okF_den h
  obtain ⟨⟨_, _⟩, ⟨_, _⟩, _⟩ := h
  rw [h1]
  omega
theorem fitQ_qv {a : Fq} (h : okF a) : fitQ (qv a) = (a, 0, ()) := by
  unfold fitQ
  rw [if_pos (fitsQ_qv h), prQ_qv h]
theorem qv_inj {a b : Fq} (ha : okF a) (hb : okF b) (h : qv a = qv b) : a = b := by
  rw [← prQ_qv ha, ← prQ_qv hb, h]
theorem qv_iff {a b : Fq} (ha : okF a) (hb : okF b) : qv a = qv b ↔ a = b := ⟨qv_inj ha hb, fun h => by rw [h]⟩
theorem fitQ_cases (q : Rat) : (fitsQ q ∧ fitQ q = (prQ q, 0, ())) ∨ (¬ fitsQ q ∧ fitQ q = ((0, 0), 5, ())) := by
  unfold fitQ
  by_cases h : fitsQ q
  · exact .inl ⟨h, by rw [if_pos h]⟩
  · exact .inr ⟨h, by rw [if_neg h]⟩

theorem qv_int (n : Int) : qv (n, 1) = (n : Rat) := by
  show mkRat n 1 = (n : Rat)
  rw [Rat.mkRat_eq_div]
  show (n : Rat) / ((1 : Nat) : Rat) = n
  rw [show ((1 : Nat) : Rat) = 1 from rfl]
  grind
theorem okF_int {n : Int} (h1 : -1152921504606846976 ≤ n) (h2 : n ≤ 1152921504606846976) : okF (n, 1) := ⟨⟨by simp, by simp⟩, ⟨h1, h2⟩, by simp⟩
theorem prQ_int (n : Int) : prQ (n : Rat) = (n, 1) := rfl

theorem okF_nonneg {a : Fq} (h : okF a) : 0 ≤ qv a ↔ 0 ≤ a.1 := by rw [← Rat.num_nonneg, okF_num h]
theorem okF_zero {a : Fq} (h : okF a) : qv a = 0 ↔ a.1 = 0 := by rw [← Rat.num_eq_zero, okF_num h]
theorem okF_neg {a : Fq} (h : okF a) : qv a < 0 ↔ a.1 < 0 := by
  rw [← Rat.not_le, okF_nonneg h]; omega
theorem okF_le {a b : Fq} (ha : okF a) (hb : okF b) : qv a ≤ qv b ↔ a.1 * b.2 ≤ b.1 * a.2 := by
  rw [Rat.le_iff, okF_num ha, okF_num hb, okF_den ha, okF_den hb]
theorem okF_lt {a b : Fq} (ha : okF a) (hb : okF b) : qv a < qv b ↔ a.1 * b.2 < b.1 * a.2 := by
  rw [Rat.lt_iff, okF_num ha, okF_num hb, okF_den ha, okF_den hb]

/-! ### Numbers by their size and their sign -/

/-- A number with a sign. -/
def sgn (s : Bool) (n : Nat) : Int := if s then -(n : Int) else n

/-- A quotient in lowest terms is the rational number. -/
theorem mkQ_low {s : Bool} {n d : Nat} (hd : 0 < d) (hc : Nat.gcd n d = 1) : (mkRat (sgn s n) d).num = sgn s n ∧ (mkRat (sgn s n) d).den = d := by
  have h0 : d ≠ 0 := by omega
  have ha : (sgn s n).natAbs = n := by unfold sgn; split <;> simp
  have hg : Nat.gcd d (sgn s n).natAbs = 1 := by rw [ha, Nat.gcd_comm]; exact hc
  rw [Rat.num_mkRat, Rat.den_mkRat, if_neg h0, if_neg h0, hg]
  simp

theorem mkQ_div {s : Bool} {n d : Nat} (hd : 0 < d) : mkRat (sgn s n) d = mkRat (sgn s (n / Nat.gcd n d)) (d / Nat.gcd n d) ∧ 0 < d / Nat.gcd n d ∧ Nat.gcd (n / Nat.gcd n d) (d / Nat.gcd n d) = 1 := by
  have hg : 0 < Nat.gcd n d := Nat.gcd_pos_of_pos_right _ hd
  have h1 : n / Nat.gcd n d * Nat.gcd n d = n := Nat.div_mul_cancel (Nat.gcd_dvd_left n d)
  have h2 : d / Nat.gcd n d * Nat.gcd n d = d := Nat.div_mul_cancel (Nat.gcd_dvd_right n d)
  refine ⟨?_, Nat.div_pos (Nat.le_of_dvd hd (Nat.gcd_dvd_right n d)) hg, Nat.gcd_div_gcd_div_gcd_of_pos_right hd⟩
  have h3 : sgn s n = sgn s (n / Nat.gcd n d) * (Nat.gcd n d : Int) := by
    unfold sgn
    split
    · rw [Int.neg_mul, ← Int.natCast_mul, h1]
    · rw [← Int.natCast_mul, h1]
  have h4 : mkRat (sgn s n) d = mkRat (sgn s (n / Nat.gcd n d) * (Nat.gcd n d : Int)) (d / Nat.gcd n d * Nat.gcd n d) := by rw [← h3, h2]
  rw [h4]
  exact Rat.mkRat_mul_right (by omega)

theorem mkQ_congr {s : Bool} {n d m e : Nat} (hd : 0 < d) (he : 0 < e) (h : n * e = m * d) : mkRat (sgn s n) d = mkRat (sgn s m) e := by
  rw [Rat.mkRat_eq_iff (by omega) (by omega)]
  unfold sgn
  split
  · rw [Int.neg_mul, Int.neg_mul, ← Int.natCast_mul, ← Int.natCast_mul, h]
  · rw [← Int.natCast_mul, ← Int.natCast_mul, h]

/-- What the two sizes in lowest terms answer. -/
theorem fit_low {s : Bool} {n d : Nat} (hd : 0 < d) (hc : Nat.gcd n d = 1) : fitQ (mkRat (sgn s n) d) = if n ≤ 1152921504606846976 ∧ d ≤ 1152921504606846976 then ((sgn s n, (d : Int)), 0, ()) else ((0, 0), 5, ()) := by
  obtain ⟨h1, h2⟩ := mkQ_low (s := s) hd hc
  have ha : (sgn s n).natAbs = n := by unfold sgn; split <;> simp
  unfold fitQ
  have e : fitsQ (mkRat (sgn s n) d) ↔ n ≤ 1152921504606846976 ∧ d ≤ 1152921504606846976 := by unfold fitsQ; rw [h1, h2, ha]
  have e2 : prQ (mkRat (sgn s n) d) = (sgn s n, (d : Int)) := by unfold prQ; rw [h1, h2]
  rw [e2]
  by_cases h : n ≤ 1152921504606846976 ∧ d ≤ 1152921504606846976
  · rw [if_pos h, if_pos (e.2 h)]
  · rw [if_neg h, if_neg (fun hh => h (e.1 hh))]

theorem size_sgn (n : Int) : n = sgn (decide (n < 0)) n.natAbs := by
  unfold sgn
  by_cases h : n < 0
  · simp [h]; omega
  · simp [h]; omega

theorem okF_mkQ (a : Fq) : qv a = mkRat (sgn (decide (a.1 < 0)) a.1.natAbs) a.2.toNat := by
  unfold qv
  rw [← size_sgn]

theorem mul_sgn {s t : Bool} {m n : Nat} : sgn s m * sgn t n = sgn (s != t) (m * n) := by
  unfold sgn
  cases s <;> cases t <;> simp [Int.neg_mul, Int.mul_neg]

/-- A product of two quotients. -/
theorem mkQ_mul {s t : Bool} {m n d e : Nat} : mkRat (sgn s m) d * mkRat (sgn t n) e = mkRat (sgn (s != t) (m * n)) (d * e) := by
  rw [Rat.mkRat_mul_mkRat, mul_sgn]

theorem sgn_zero (s t : Bool) : sgn s 0 = sgn t 0 := by unfold sgn; cases s <;> cases t <;> rfl

end Dn
end Go.Proofs.Ytghjblbkbelcfaa
