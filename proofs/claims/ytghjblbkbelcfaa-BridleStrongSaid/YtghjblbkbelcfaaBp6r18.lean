/- Bridles: the spans of tensions. -/
import Derived.Test.YtghjblbkbelcfaaBp5r18
namespace Go.Proofs.Ytghjblbkbelcfaa
open Try Dn Dn.Sh

theorem fitsQ_div {n d : Int} (hd : d ≠ 0) (hn : n.natAbs ≤ 1152921504606846976) (hd2 : d.natAbs ≤ 1152921504606846976) : fitsQ ((n : Rat) / d) := by
  have h := fits_div hd hn hd2
  rw [divQ_eq hd] at h
  rcases fitQ_cases ((n : Rat) / d) with ⟨h1, _⟩ | ⟨_, h2⟩
  · exact h1
  · rw [h2] at h
    exact absurd (show (5 : Int) = 0 from congrArg (fun x : Fq × Int × Unit => x.2.1) h) (by decide)
theorem fitsQ_zero : fitsQ 0 := by unfold fitsQ; decide

theorem solve1_fits {w : Int} {a : P3} (hw : 0 ≤ w ∧ w ≤ 67108864) (ha : box 32768 a) (h0 : a ≠ (0, 0, 0)) {qs : List Rat} (h : solve1 w a = .ok qs) : qs.length = 1 ∧ ∀ q ∈ qs, fitsQ q := by
  unfold solve1 at h
  split at h
  · cases h; exact ⟨rfl, by simp [fitsQ_zero]⟩
  · split at h
    · cases h
    · rename_i h1 h2
      have h3 : a.2.2 ≠ 0 := fun h3 => h0 (by obtain ⟨x, y, z⟩ := a; simp only at h2 h3; rw [h3, show x = 0 by omega, show y = 0 by omega])
      have hz := ha.2.2
      cases h
      refine ⟨rfl, fun q hq => ?_⟩
      rw [List.mem_singleton.1 hq]
      exact fitsQ_div h3 (by omega) (by omega)
theorem solve2_fits {w : Int} {a b : P3} (hw : 0 ≤ w ∧ w ≤ 67108864) (ha : box 32768 a) (hb : box 32768 b) {qs : List Rat} (h : solve2 w a b = .ok qs) : qs.length = 2 ∧ ∀ q ∈ qs, fitsQ q := by
  obtain ⟨c1, c2, c3⟩ := crs_box ha hb
  have hp : box 2199023255552 (crs (0, 0, w) b) := by
    obtain ⟨⟨b1, b2⟩, ⟨b3, b4⟩, ⟨b5, b6⟩⟩ := hb
    have e1 := mul_bound (a := w) (m := 67108864) (by omega) (by omega) b1 b2
    have e2 := mul_bound (a := w) (m := 67108864) (by omega) (by omega) b3 b4
    simp only [box, crs, Int.zero_mul]
    omega
  have hq : box 2199023255552 (crs a (0, 0, w)) := by
    obtain ⟨⟨b1, b2⟩, ⟨b3, b4⟩, ⟨b5, b6⟩⟩ := ha
    have e1 := mul_bound b1 b2 (b := w) (n := 67108864) (by omega) (by omega)
    have e2 := mul_bound b3 b4 (b := w) (n := 67108864) (by omega) (by omega)
    simp only [box, crs, Int.mul_zero]
    omega
  obtain ⟨p1, p2, p3⟩ := hp
  obtain ⟨q1, q2, q3⟩ := hq
  unfold solve2 at h
  split at h
  · cases h
  · rename_i h0
    split at h
    · cases h
    · split at h
      · rename_i h1
        cases h
        refine ⟨rfl, fun q hq => ?_⟩
        simp only [List.mem_cons, List.not_mem_nil, or_false] at hq
        rcases hq with rfl | rfl <;> exact fitsQ_div h1 (by omega) (by omega)
      · split at h
        · rename_i h1
          cases h
          refine ⟨rfl, fun q hq => ?_⟩
          simp only [List.mem_cons, List.not_mem_nil, or_false] at hq
          rcases hq with rfl | rfl <;> exact fitsQ_div h1 (by omega) (by omega)
        · rename_i h2 h3
          have h1 : (crs a b).2.2 ≠ 0 := fun h4 => h0 (by
            generalize crs a b = c at h2 h3 h4
            obtain ⟨x, y, z⟩ := c; simp only at h2 h3 h4; rw [h4, show x = 0 by omega, show y = 0 by omega])
          cases h
          refine ⟨rfl, fun q hq => ?_⟩
          simp only [List.mem_cons, List.not_mem_nil, or_false] at hq
          rcases hq with rfl | rfl <;> exact fitsQ_div h1 (by omega) (by omega)
theorem solve3_fits {w : Int} {a b c : P3} (hw : 0 ≤ w ∧ w ≤ 67108864) (ha : box 32768 a) (hb : box 32768 b) (hc : box 32768 c) {qs : List Rat} (h : solve3 w a b c = .ok qs) : qs.length = 3 ∧ ∀ q ∈ qs, fitsQ q := by
  have hd2 := (dt_ok ha (crs_box hb hc)).2
  have e1 := mul_bound (a := w) (m := 67108864) (by omega) (by omega) (crs_box hb hc).2.2.1 (crs_box hb hc).2.2.2
  have e2 := mul_bound (a := w) (m := 67108864) (by omega) (by omega) (crs_box hc ha).2.2.1 (crs_box hc ha).2.2.2
  have e3 := mul_bound (a := w) (m := 67108864) (by omega) (by omega) (crs_box ha hb).2.2.1 (crs_box ha hb).2.2.2
  unfold solve3 at h
  split at h
  · cases h
  · rename_i hd
    cases h
    refine ⟨rfl, fun q hq => ?_⟩
    simp only [List.mem_cons, List.not_mem_nil, or_false] at hq
    rcases hq with rfl | rfl | rfl <;> exact fitsQ_div hd (by omega) (by omega)

theorem pullsE_fits {b : Brd} (h : validB b = true) {qs : List Rat} (he : pullsE b = .ok qs) : qs.length = b.2.2.length ∧ ∀ q ∈ qs, fitsQ q := by
  obtain ⟨v1, v2, v3, _⟩ := validB_iff.1 h
  have a0 := valid_arm h (i := 0) (by omega)
  unfold pullsE at he
  split at he
  · rename_i hn
    rw [hn]
    exact solve1_fits v2 a0.1 a0.2.1 he
  · have a1 := valid_arm h (i := 1) (by omega)
    split at he
    · rename_i hn
      rw [hn]
      exact solve2_fits v2 a0.1 a1.1 he
    · have a2 := valid_arm h (i := 2) (by omega)
      rw [show b.2.2.length = 3 by omega]
      exact solve3_fits v2 a0.1 a1.1 a2.1 he
theorem pullsE_err {b : Brd} {e : Int} (he : pullsE b = .error e) : e = 21 ∨ e = 22 := by
  unfold pullsE solve1 solve2 solve3 at he
  repeat' split at he
  all_goals first
    | (cases he; done)
    | (cases he; simp; done)
    | (cases he; split <;> simp)

theorem lenS_bound {a : P3} (h : box 32768 a) : 0 ≤ (lenS a).1 ∧ (lenS a).1 ≤ (lenS a).2 ∧ (lenS a).2 ≤ 1152921504606846976 := by
  obtain ⟨n1, n2⟩ := nsq_bound h
  obtain ⟨h1, h2⟩ := isq_spec (1000000 * nsq a).toNat
  have h3 : isq (1000000 * nsq a).toNat ≤ 2147483648 := by
    rcases Nat.lt_or_ge 2147483648 (isq (1000000 * nsq a).toNat) with h | h
    · have := Nat.mul_le_mul h h
      omega
    · exact h
  unfold lenS rootS
  simp only
  split <;> omega

/-- What the span of a tension is for a pull and a length. -/
def spanE (q : Rat) (l : Int × Int) : (Int × Int) × Int × Unit :=
  if fitsQ (q * ((l.1 : Rat) / (1000 : Int))) ∧ fitsQ (q * ((l.2 : Rat) / (1000 : Int))) then (((q * ((l.1 : Rat) / (1000 : Int))).floor, (q * ((l.2 : Rat) / (1000 : Int))).ceil), 0, ()) else ((0, 0), 5, ())

theorem times_ok {q : Rat} {n : Int} (hq : fitsQ q) (h0 : 0 ≤ n) (h1 : n ≤ 1152921504606846976) : bridle_times (prQ q) n = some (fitQ (q * ((n : Rat) / (1000 : Int)))) := by
  have hf := fitsQ_div (n := n) (d := 1000) (by omega) (by omega) (by omega)
  simp only [bridle_times, bridle_times_b]
  rw [Make_ok (by omega) (by omega) (by omega) (by omega), if_neg (by omega), fits_div (by omega) (by omega) (by omega), obind_some']
  simp only [decide_true, Bool.not_true, cond_false]
  rw [Mul_ok (okF_prQ hq) (okF_prQ hf), obind_some', qv_prQ, qv_prQ]
theorem refTimes_ok {q : Rat} {n : Int} (hq : fitsQ q) (h0 : 0 ≤ n) (h1 : n ≤ 1152921504606846976) : ref18_times (prQ q) n = some (fitQ (q * ((n : Rat) / (1000 : Int)))) := by
  have hf := fitsQ_div (n := n) (d := 1000) (by omega) (by omega) (by omega)
  simp only [ref18_times, ref18_times_b]
  rw [RMake_ok (by omega) (by omega) (by omega) (by omega), if_neg (by omega), fits_div (by omega) (by omega) (by omega), obind_some']
  rw [RTimes_ok (okF_prQ hq) (okF_prQ hf), obind_some', qv_prQ, qv_prQ]

theorem tension_ok {b : Brd} {i : Nat} {q : Rat} (h : validB b = true) (hi : i < b.2.2.length) (hq : fitsQ q) : bridle_tension b i (prQ q) = some (spanE q (lenS (armB b i))) := by
  obtain ⟨l0, l1, l2⟩ := lenS_bound (valid_arm h hi).1
  simp only [bridle_tension, bridle_tension_b, length_ok h hi, obind_some', decide_true, Bool.not_true, cond_false]
  rw [times_ok hq l0 (by omega), obind_some', times_ok hq (by omega) l2, obind_some']
  unfold spanE
  rcases fitQ_cases (q * (((lenS (armB b i)).1 : Rat) / (1000 : Int))) with ⟨f1, f2⟩ | ⟨f1, f2⟩
  · rw [f2]
    simp only [decide_true, Bool.not_true, cond_false]
    rcases fitQ_cases (q * (((lenS (armB b i)).2 : Rat) / (1000 : Int))) with ⟨g1, g2⟩ | ⟨g1, g2⟩
    · rw [g2, if_pos ⟨f1, g1⟩]
      simp only [decide_true, Bool.not_true, cond_false]
      rw [Floor_ok (okF_prQ f1), obind_some', Ceil_ok (okF_prQ g1), obind_some', qv_prQ, qv_prQ]
      rfl
    · rw [g2, if_neg (fun h => g1 h.2)]
      rfl
  · rw [f2, if_neg (fun h => f1 h.1)]
    rfl
theorem refSpan_ok {b : Brd} {i : Nat} {q : Rat} (h : validB b = true) (hi : i < b.2.2.length) (hq : fitsQ q) : ref18_Span b i (prQ q) = some (spanE q (lenS (armB b i))) := by
  obtain ⟨l0, l1, l2⟩ := lenS_bound (valid_arm h hi).1
  simp only [ref18_Span, ref18_Span_b, refLength_ok h hi, obind_some']
  rw [refTimes_ok hq l0 (by omega), obind_some', refTimes_ok hq (by omega) l2, obind_some']
  unfold spanE
  rcases fitQ_cases (q * (((lenS (armB b i)).1 : Rat) / (1000 : Int))) with ⟨f1, f2⟩ | ⟨f1, f2⟩
  · rw [f2]
    simp only [decide_true, Bool.not_true, cond_false]
    rcases fitQ_cases (q * (((lenS (armB b i)).2 : Rat) / (1000 : Int))) with ⟨g1, g2⟩ | ⟨g1, g2⟩
    · rw [g2, if_pos ⟨f1, g1⟩]
      simp only [decide_true, Bool.not_true, cond_false]
      rw [RFloor_ok (okF_prQ f1), obind_some', RCeil_ok (okF_prQ g1), obind_some', qv_prQ, qv_prQ]
    · rw [g2, if_neg (fun h => g1 h.2)]
      rfl
  · rw [f2, if_neg (fun h => f1 h.1)]
    rfl

end Go.Proofs.Ytghjblbkbelcfaa
