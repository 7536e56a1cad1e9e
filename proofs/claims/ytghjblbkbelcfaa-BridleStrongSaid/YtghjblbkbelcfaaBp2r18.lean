/- Bridles: both programs find the same pulls. -/
import Derived.Test.YtghjblbkbelcfaaBp1r18
namespace Go.Proofs.Ytghjblbkbelcfaa
open Try Dn Dn.Sh

def nzP (a : P3) (b : P3) : P3 := if b = (0, 0, 0) then a else b
/-- Whether the normal, or the first arm, lets pull upwards. -/
def uprN (n a : P3) : Bool := if n = (0, 0, 0) then decide (a.1 = 0 ∧ a.2.1 = 0) else decide (n.2.2 = 0)

theorem upright_gen {l : List P3} (hl : 0 < l.length) (hl2 : l.length ≤ 1000) (hb : ∀ i, i < l.length → box 67108864 (l.getD i (0, 0, 0))) :
    bridle_upright l = upF (fun i (s : P3) k => upF (fun j (s : P3) k2 => k2 (nzP s (crs (l.getD j (0, 0, 0)) (l.getD i (0, 0, 0))))) k i 0 s) (fun s => some (uprN s (l.getD 0 (0, 0, 0)))) l.length 0 (0, 0, 0) := by
  simp only [bridle_upright, bridle_upright_b, not_or_self', or_self_not, Bool.and_self, cond_true, zero_eq]
  refine lpK_up (α := Int × P3 × PUnit) l.length (by omega) (fun i (s : P3) => ((i : Int), s, PUnit.unit)) _ _ ?_ ?_ (0, 0, 0)
  · intro again i s hi
    simp only
    rw [decide_eq_true (show (i : Int) < l.length by omega), cond_true]
    have hw : IntKind.wrap .i64 ((i : Int) + 1) = ((i + 1 : Nat) : Int) := by rw [wrap_id (by omega) (by omega)]; rfl
    refine lpK_up (α := Int × P3 × PUnit) i (by omega) (fun i (s : P3) => ((i : Int), s, PUnit.unit)) _ _ ?_ ?_ s
    · intro again' j s' hj
      simp only
      have hw' : IntKind.wrap .i64 ((j : Int) + 1) = ((j + 1 : Nat) : Int) := by rw [wrap_id (by omega) (by omega)]; rfl
      rw [decide_eq_true (show (j : Int) < i by omega), cond_true, inB_of (by omega) (by omega), cond_true, inB_of (by omega) (by omega), cond_true]
      simp only [Int.toNat_natCast]
      rw [cross_ok (hb j (by omega)) (hb i hi), obind_some', hw']
      unfold nzP
      by_cases hz : crs (l.getD j (0, 0, 0)) (l.getD i (0, 0, 0)) = (0, 0, 0)
      · rw [if_pos hz, hz]; rfl
      · rw [if_neg hz, decide_eq_false hz]; rfl
    · intro again' s'
      simp only
      rw [decide_eq_false (by omega), cond_false, hw]
  · intro again s
    simp only
    rw [decide_eq_false (by omega), cond_false, inB_of (by omega) (by omega), cond_true]
    unfold uprN
    by_cases hz : s = (0, 0, 0)
    · rw [if_pos hz, decide_eq_true hz]
      simp only [Bool.not_true, cond_false, Bool.or_true, Bool.and_true, not_or_self', or_self_not, cond_true, bif_false', Bool.decide_and]
    · rw [if_neg hz, decide_eq_false hz]
      rfl

theorem upright2 {a b : P3} (ha : box 67108864 a) (hb : box 67108864 b) : bridle_upright [a, b] = some (uprN (nzP (0, 0, 0) (crs a b)) a) := by
  rw [upright_gen (by simp) (by simp) (fun i hi => ?_)]
  · rfl
  · rcases i with _ | _ | i
    · exact ha
    · exact hb
    · exact absurd hi (by simp)
theorem upright3 {a b c : P3} (ha : box 67108864 a) (hb : box 67108864 b) (hc : box 67108864 c) : bridle_upright [a, b, c] = some (uprN (nzP (nzP (nzP (0, 0, 0) (crs a b)) (crs a c)) (crs b c)) a) := by
  rw [upright_gen (by simp) (by simp) (fun i hi => ?_)]
  · rfl
  · rcases i with _ | _ | _ | i
    · exact ha
    · exact hb
    · exact hc
    · exact absurd hi (by simp)

def solve1 (w : Int) (a : P3) : Except Int (List Rat) := if w = 0 then .ok [0] else if a.1 ≠ 0 ∨ a.2.1 ≠ 0 then .error 22 else .ok [(w : Rat) / a.2.2]
def solve2 (w : Int) (a b : P3) : Except Int (List Rat) :=
  if crs a b = (0, 0, 0) then .error (if w = 0 ∨ (a.1 = 0 ∧ a.2.1 = 0) then 21 else 22)
  else if w ≠ 0 ∧ (crs a b).2.2 ≠ 0 then .error 22
  else if (crs a b).1 ≠ 0 then .ok [((crs (0, 0, w) b).1 : Rat) / (crs a b).1, ((crs a (0, 0, w)).1 : Rat) / (crs a b).1]
  else if (crs a b).2.1 ≠ 0 then .ok [((crs (0, 0, w) b).2.1 : Rat) / (crs a b).2.1, ((crs a (0, 0, w)).2.1 : Rat) / (crs a b).2.1]
  else .ok [((crs (0, 0, w) b).2.2 : Rat) / (crs a b).2.2, ((crs a (0, 0, w)).2.2 : Rat) / (crs a b).2.2]
def solve3 (w : Int) (a b c : P3) : Except Int (List Rat) :=
  if dt a (crs b c) = 0 then .error (if w = 0 ∨ uprN (nzP (nzP (nzP (0, 0, 0) (crs a b)) (crs a c)) (crs b c)) a = true then 21 else 22)
  else .ok [((w * (crs b c).2.2 : Int) : Rat) / dt a (crs b c), ((w * (crs c a).2.2 : Int) : Rat) / dt a (crs b c), ((w * (crs a b).2.2 : Int) : Rat) / dt a (crs b c)]

theorem single_ok {w : Int} {a : P3} (hw : 0 ≤ w ∧ w ≤ 67108864) (ha : box 32768 a) (h0 : a ≠ (0, 0, 0)) : bridle_single a w = some (outP (solve1 w a)) := by
  simp only [bridle_single, bridle_single_b, not_or_self', or_self_not, cond_true]
  unfold solve1
  by_cases h : w = 0
  · rw [decide_eq_true h, if_pos h, cond_true, quotients_ok (by omega) (by omega) (by simp) (by simp), obind_some']
    have : ((0 : Int) : Rat) / ((1 : Int) : Rat) = 0 := by rw [Rat.intCast_zero, Rat.div_def, Rat.zero_mul]
    simp only [outP, List.map_cons, List.map_nil, this]
  · rw [decide_eq_false h, if_neg h, cond_false]
    by_cases h1 : a.1 = 0
    · by_cases h2 : a.2.1 = 0
      · have h3 : a.2.2 ≠ 0 := fun h3 => h0 (by obtain ⟨x, y, z⟩ := a; simp only at h1 h2 h3; rw [h1, h2, h3])
        have hz := ha.2.2
        rw [if_neg (by omega), decide_eq_true h1, decide_eq_true h2]
        simp only [Bool.not_true, cond_false]
        rw [quotients_ok h3 (by omega) (by simp; omega) (by simp), obind_some']
        rfl
      · rw [if_pos (by omega), decide_eq_true h1, decide_eq_false h2]; rfl
    · rw [if_pos (by omega), decide_eq_false h1]; rfl

theorem dependent_ok {w : Int} {l : List P3} {u : Bool} (h : bridle_upright l = some u) : bridle_dependent l w = some (if w = 0 ∨ u = true then 21 else 22) := by
  simp only [bridle_dependent, bridle_dependent_b, not_or_self', or_self_not, cond_true, h]
  by_cases hw : w = 0
  · rw [decide_eq_true hw, if_pos (.inl hw)]; rfl
  · rw [decide_eq_false hw]
    cases u <;> simp [hw, obind_some']

theorem natAbs_of {n m : Int} {k : Nat} (h1 : -m ≤ n) (h2 : n ≤ m) (hk : m ≤ k) : n.natAbs ≤ k := by omega

theorem double_ok {w : Int} {a b : P3} (hw : 0 ≤ w ∧ w ≤ 67108864) (ha : box 32768 a) (hb : box 32768 b) : bridle_double a b w = some (outP (solve2 w a b)) := by
  have ha' := box_mono ha (show (32768 : Int) ≤ 67108864 by omega)
  have hb' := box_mono hb (show (32768 : Int) ≤ 67108864 by omega)
  have hc := crs_box ha hb
  have hl : box 67108864 ((0, 0, w) : P3) := by unfold box; simp only; omega
  have hp : box 2199023255552 (crs (0, 0, w) b) := by
    obtain ⟨⟨b1, b2⟩, ⟨b3, b4⟩, ⟨b5, b6⟩⟩ := hb
    have e1 := mul_bound (a := w) (m := 67108864) (by omega) (by omega) b1 b2
    have e2 := mul_bound (a := w) (m := 67108864) (by omega) (by omega) b3 b4
    simp only [box, crs, Int.zero_mul]
    omega
  have hq : box 2199023255552 (crs a (0, 0, w)) := by
    obtain ⟨⟨b1, b2⟩, ⟨b3, b4⟩, ⟨b5, b6⟩⟩ := ha
    have e1 := mul_bound b1 b2 (b := w) (n := 67108864) (by omega) (by omega)
    have e2 := mul_bound b3 b4 (b := w) (n := 67108864) (by omega) (by omega)
    simp only [box, crs, Int.mul_zero]
    omega
  simp only [bridle_double, bridle_double_b, not_or_self', cond_true, cross_ok ha' hb', obind_some', zero_eq]
  unfold solve2
  by_cases h0 : crs a b = (0, 0, 0)
  · rw [decide_eq_true h0, if_pos h0, cond_true, dependent_ok (upright2 ha' hb'), obind_some', h0]
    simp only [nzP, uprN, if_true, outP, decide_eq_true_eq]
  · rw [decide_eq_false h0, if_neg h0, cond_false, bif_false']
    by_cases h1 : w ≠ 0 ∧ (crs a b).2.2 ≠ 0
    · rw [if_pos h1, show (!decide (w = 0) && !decide ((crs a b).2.2 = 0)) = true by simp [h1.1, h1.2]]; rfl
    · rw [if_neg h1, show (!decide (w = 0) && !decide ((crs a b).2.2 = 0)) = false by rw [Bool.eq_false_iff]; intro h; apply h1; simpa using h]
      rw [cond_false, cross_ok hl hb', obind_some', cross_ok ha' hl, obind_some']
      obtain ⟨c1, c2, c3⟩ := hc
      obtain ⟨p1, p2, p3⟩ := hp
      obtain ⟨q1, q2, q3⟩ := hq
      by_cases h2 : (crs a b).1 = 0
      · rw [decide_eq_true h2, if_neg (by omega), Bool.not_true, cond_false]
        by_cases h3 : (crs a b).2.1 = 0
        · have h4 : (crs a b).2.2 ≠ 0 := fun h4 => h0 (by
            generalize crs a b = c at h2 h3 h4
            obtain ⟨x, y, z⟩ := c; simp only at h2 h3 h4; rw [h2, h3, h4])
          rw [decide_eq_true h3, if_neg (by omega), Bool.not_true, cond_false, quotients_ok h4 (by omega) (by intro n hn; simp only [List.mem_cons, List.not_mem_nil, or_false] at hn; rcases hn with rfl | rfl <;> omega) (by simp), obind_some']
          rfl
        · rw [decide_eq_false h3, if_pos h3, Bool.not_false, cond_true, quotients_ok h3 (by omega) (by intro n hn; simp only [List.mem_cons, List.not_mem_nil, or_false] at hn; rcases hn with rfl | rfl <;> omega) (by simp), obind_some']
          rfl
      · rw [decide_eq_false h2, if_pos h2, Bool.not_false, cond_true, quotients_ok h2 (by omega) (by intro n hn; simp only [List.mem_cons, List.not_mem_nil, or_false] at hn; rcases hn with rfl | rfl <;> omega) (by simp), obind_some']
        rfl

end Go.Proofs.Ytghjblbkbelcfaa
