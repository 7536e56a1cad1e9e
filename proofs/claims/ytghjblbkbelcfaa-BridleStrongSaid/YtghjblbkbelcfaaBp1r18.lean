/- Bridles: the pulls. -/
import Derived.Test.YtghjblbkbelcfaaBr2r18
import Derived.Test.YtghjblbkbelcfaaRt4r18
namespace Go.Proofs.Ytghjblbkbelcfaa
open Try Dn Dn.Sh

theorem fits_div {n d : Int} (hd : d ≠ 0) (hn : n.natAbs ≤ 1152921504606846976) (hd2 : d.natAbs ≤ 1152921504606846976) : fitQ (divQ n d) = (prQ ((n : Rat) / d), 0, ()) := by
  obtain ⟨m1, m2, m3⟩ := mkQ_div (s := decide (n < 0) != decide (d < 0)) (n := n.natAbs) (d := d.natAbs) (by omega)
  obtain ⟨m4, m5⟩ := mkQ_low (s := decide (n < 0) != decide (d < 0)) m2 m3
  have hf : fitsQ (divQ n d) := by
    unfold fitsQ divQ
    rw [m1, m4, m5]
    have a1 : n.natAbs / Nat.gcd n.natAbs d.natAbs ≤ n.natAbs := Nat.div_le_self _ _
    have a2 : d.natAbs / Nat.gcd n.natAbs d.natAbs ≤ d.natAbs := Nat.div_le_self _ _
    refine ⟨?_, by rw [← m5] at *; omega⟩
    unfold sgn
    generalize n.natAbs / Nat.gcd n.natAbs d.natAbs = p at *
    split <;> omega
  unfold fitQ
  rw [if_pos hf, divQ_eq hd]

/-- What a bridle program answers for pulls. -/
def outP : Except Int (List Rat) → List Fq × Int × Unit
  | .ok l => (l.map prQ, 0, ())
  | .error e => ([], e, ())

theorem quotients_ok {d : Int} (hd : d ≠ 0) (hd2 : d.natAbs ≤ 1152921504606846976) {l : List Int} (hl : ∀ n ∈ l, n.natAbs ≤ 1152921504606846976) (hlen : l.length ≤ 1000) : bridle_quotients d l = some (outP (.ok (l.map fun (n : Int) => (n : Rat) / d))) := by
  unfold bridle_quotients bridle_quotients_b
  refine lpK_loop (g := fun _ => some (outP (.ok (l.map fun (n : Int) => (n : Rat) / d)))) (I := fun (x : List Fq × Int × PUnit) => 0 ≤ x.2.1 ∧ x.2.1 ≤ l.length ∧ x.1 = (l.take x.2.1.toNat).map fun (n : Int) => prQ ((n : Rat) / d)) (μ := fun (x : List Fq × Int × PUnit) => ((l.length : Int) - x.2.1).toNat) ?_ ⟨by simp, by simp only; omega, by simp⟩ (by simp only; omega)
  rintro ⟨out, i, _⟩ rec ⟨h0, h1, h2⟩ hrec
  simp only at h0 h1 h2 ⊢
  by_cases hi : i < l.length
  · obtain ⟨k, rfl⟩ : ∃ k : Nat, i = k := ⟨i.toNat, by omega⟩
    have hk : k < l.length := by omega
    have hb := hl l[k] (List.getElem_mem hk)
    rw [decide_eq_true hi, cond_true, inB_of h0 hi, cond_true, Int.toNat_natCast, getD_nat hk, Make_ok (by omega) (by omega) (by omega) (by omega), if_neg hd, fits_div hd hb hd2]
    simp only [obind_some', decide_true, Bool.not_true, cond_false]
    have hlen2 : out.length ≤ 1000 := by rw [h2, List.length_map, List.length_take]; omega
    rw [fitB_of (by omega), cond_true, wrap_id (by omega) (by omega)]
    refine hrec _ ⟨by simp only; omega, by simp only; omega, ?_⟩ (by simp only; omega)
    simp only
    rw [h2, show ((k : Int) + 1).toNat = k + 1 by omega, List.take_succ_eq_append_getElem hk, List.map_append]
    rfl
  · rw [decide_eq_false hi, cond_false]
    have : i.toNat = l.length := by omega
    rw [h2, this, List.take_length]
    simp only [outP, List.map_map]
    rfl

theorem quotient_ok {w n d : Int} (h : (w * n).natAbs ≤ 1152921504606846976) (hd : d ≠ 0) (hd2 : d.natAbs ≤ 1152921504606846976) : ref18_quotient w n d = some (prQ (((w * n : Int) : Rat) / d)) := by
  simp only [ref18_quotient, ref18_quotient_b]
  rw [wrap_id (by omega) (by omega), RMake_ok (by omega) (by omega) (by omega) (by omega), if_neg hd, fits_div hd h hd2]
  rfl

/-! ### Vectors -/
def crs (a b : P3) : P3 := (a.2.1 * b.2.2 - a.2.2 * b.2.1, a.2.2 * b.1 - a.1 * b.2.2, a.1 * b.2.1 - a.2.1 * b.1)
def dt (a b : P3) : Int := a.1 * b.1 + a.2.1 * b.2.1 + a.2.2 * b.2.2
def box (m : Int) (a : P3) : Prop := (-m ≤ a.1 ∧ a.1 ≤ m) ∧ (-m ≤ a.2.1 ∧ a.2.1 ≤ m) ∧ (-m ≤ a.2.2 ∧ a.2.2 ≤ m)

theorem cross_ok {a b : P3} (ha : box 67108864 a) (hb : box 67108864 b) : bridle_cross a b = some (crs a b) := by
  obtain ⟨⟨a1, a2⟩, ⟨a3, a4⟩, ⟨a5, a6⟩⟩ := ha
  obtain ⟨⟨b1, b2⟩, ⟨b3, b4⟩, ⟨b5, b6⟩⟩ := hb
  have e1 := mul_bound a3 a4 b5 b6
  have e2 := mul_bound a5 a6 b3 b4
  have e3 := mul_bound a5 a6 b1 b2
  have e4 := mul_bound a1 a2 b5 b6
  have e5 := mul_bound a1 a2 b3 b4
  have e6 := mul_bound a3 a4 b1 b2
  simp (disch := omega) only [bridle_cross, bridle_cross_b, wrap_id]
  rfl
theorem refCross_ok {a b : P3} (ha : box 67108864 a) (hb : box 67108864 b) : ref18_Cross a b = some (crs a b) := by
  rw [← cross_ok ha hb]; rfl
theorem crs_box {a b : P3} (ha : box 32768 a) (hb : box 32768 b) : box 2147483648 (crs a b) := by
  obtain ⟨⟨a1, a2⟩, ⟨a3, a4⟩, ⟨a5, a6⟩⟩ := ha
  obtain ⟨⟨b1, b2⟩, ⟨b3, b4⟩, ⟨b5, b6⟩⟩ := hb
  have e1 := mul_bound a3 a4 b5 b6
  have e2 := mul_bound a5 a6 b3 b4
  have e3 := mul_bound a5 a6 b1 b2
  have e4 := mul_bound a1 a2 b5 b6
  have e5 := mul_bound a1 a2 b3 b4
  have e6 := mul_bound a3 a4 b1 b2
  simp only [box, crs]
  omega
theorem dt_ok {a c : P3} (ha : box 32768 a) (hc : box 2147483648 c) : bridle_dot a c = some (dt a c) ∧ (dt a c).natAbs ≤ 211106232532992 := by
  obtain ⟨⟨a1, a2⟩, ⟨a3, a4⟩, ⟨a5, a6⟩⟩ := ha
  obtain ⟨⟨b1, b2⟩, ⟨b3, b4⟩, ⟨b5, b6⟩⟩ := hc
  have e1 := mul_bound a1 a2 b1 b2
  have e2 := mul_bound a3 a4 b3 b4
  have e3 := mul_bound a5 a6 b5 b6
  refine ⟨by simp (disch := omega) only [bridle_dot, bridle_dot_b, wrap_id, dt], by simp only [dt]; omega⟩
theorem refDt_ok {a c : P3} (ha : box 32768 a) (hc : box 2147483648 c) : ref18_dot a c = some (dt a c) := (dt_ok ha hc).1

theorem box_mono {m n : Int} {a : P3} (h : box m a) (hm : m ≤ n) : box n a := by
  unfold box at h ⊢
  omega
theorem zero_eq {a : P3} : (decide (a.1 = 0) && (decide (a.2.1 = 0) && (decide (a.2.2 = 0) && true))) = decide (a = (0, 0, 0)) := p3_eq (a := a) (b := (0, 0, 0))

end Go.Proofs.Ytghjblbkbelcfaa
