/- Bridles: valid ones. -/
import Derived.Test.YtghjblbkbelcfaaBr1r18
namespace Go.Proofs.Ytghjblbkbelcfaa
open Try Dn Dn.Sh

theorem weightB_iff {n : Int} : weightB n = true ↔ 0 ≤ n ∧ n ≤ 67108864 := by simp [weightB]
theorem near1_iff {n : Int} : near1 n = true ↔ -32768 ≤ n ∧ n ≤ 32768 := by simp [near1]

theorem bValid_ok (b : Brd) : bridle_Valid b = some (validB b) := by
  simp only [bridle_Valid, bridle_Valid_b, valid_eq, obind_some', weight_ok, not_or_self', or_self_not, Bool.and_self, cond_true, validB, isName_ok, p3_eq]
  cases h1 : dec b.1 with
  | false => simp [obind_some']
  | true =>
    cases h2 : weightB b.2.1 with
    | false => simp [obind_some']
    | true =>
      simp only [Bool.not_true, Bool.not_false, cond_true, cond_false, obind_some', Bool.false_or, Bool.true_or, Bool.or_true, Bool.true_and]
      by_cases h3 : b.2.2.length < 1
      · rw [decide_eq_true (show (b.2.2.length : Int) < 1 by omega), decide_eq_false (show ¬ (1 ≤ b.2.2.length ∧ b.2.2.length ≤ 3) by omega)]
        rfl
      · rw [decide_eq_false (show ¬ (b.2.2.length : Int) < 1 by omega)]
        by_cases h4 : b.2.2.length > 3
        · rw [decide_eq_true (show (b.2.2.length : Int) > 3 by omega), decide_eq_false (show ¬ (1 ≤ b.2.2.length ∧ b.2.2.length ≤ 3) by omega)]
          rfl
        · rw [decide_eq_false (show ¬ (b.2.2.length : Int) > 3 by omega), decide_eq_true (show (1 ≤ b.2.2.length ∧ b.2.2.length ≤ 3) by omega)]
          simp only [Bool.not_true, Bool.not_false, cond_true, cond_false, Bool.false_or, Bool.true_or, Bool.or_true, Bool.true_and]
          refine (lpK_up (α := Int × PUnit) b.2.2.length (by omega) (fun i (_ : Unit) => ((i : Int), PUnit.unit)) (fun i s k => bif legB b i then k s else some false) (fun _ => some true) ?_ ?_ ()).trans ?_
          · intro again i _ hi
            have hw : IntKind.wrap .i64 ((i : Int) + 1) = ((i + 1 : Nat) : Int) := by rw [wrap_id (by omega) (by omega)]; rfl
            simp only [inB_nat, decide_eq_true hi, decide_eq_true (show (i : Int) < b.2.2.length by omega), cond_true, Int.toNat_natCast, hw]
            simp only [show List.getD b.2.2 i leg0 = legAt b i from rfl, find_ok (b := b) (by omega)]
            unfold legB
            cases g1 : nameB (legAt b i).1 with
            | false => simp [obind_some']
            | true =>
              by_cases g2 : findB b (legAt b i).1 = i
              · cases g3 : dec (legAt b i).2.1 with
                | false => simp [obind_some', g2]
                | true =>
                  by_cases g4 : (legAt b i).2.1 = b.1
                  · simp [obind_some', g2, g4, armB, sub_zero_iff]
                  · have g5 := sub_bound (dec_iff.1 h1) (dec_iff.1 g3)
                    have g6 : bridle_near (armB b i) = some (nearB (armB b i)) := near_ok (by unfold armB; omega) (by unfold armB; omega) (by unfold armB; omega)
                    have g7 : armB b i ≠ (0, 0, 0) := fun e => g4 (sub_zero_iff.1 e)
                    simp only [Bool.not_true, Bool.not_false, cond_true, cond_false, obind_some', Bool.false_or, Bool.true_or, Bool.or_true, Bool.true_and, g2, g4, g7, decide_true, decide_false, ne_eq, not_false_eq_true, arm_ok hi (dec_iff.1 h1) (dec_iff.1 g3), g6]
                    cases nearB (armB b i) <;> cases weightB (legAt b i).2.2 <;> rfl
              · simp [obind_some', g2]
          · intro again _
            simp
          · exact upF_all b.2.2.length (fun i k _ => rfl) b.2.2.length 0 (by omega) |>.trans (by cases (List.range' 0 b.2.2.length).all (legB b) <;> rfl)

theorem refValid_ok (b : Brd) : ref18_Valid b = some (validB b) := by
  simp only [ref18_Valid, ref18_Valid_b, refValidP_eq, obind_some', not_or_self', or_self_not, Bool.and_self, cond_true, validB, refIsName_ok]
  cases h1 : dec b.1 with
  | false => rfl
  | true =>
    by_cases h2 : b.2.1 < 0
    · have e : weightB b.2.1 = false := by unfold weightB; exact decide_eq_false (by omega)
      rw [decide_eq_true h2, e]
      rfl
    · by_cases h2' : b.2.1 > 67108864
      · have e : weightB b.2.1 = false := by unfold weightB; exact decide_eq_false (by omega)
        rw [decide_eq_false h2, decide_eq_true h2', e]
        rfl
      · have e : weightB b.2.1 = true := by unfold weightB; exact decide_eq_true (by omega)
        rw [decide_eq_false h2, decide_eq_false h2', e]
        simp only [Bool.not_true, Bool.not_false, cond_true, cond_false, obind_some', Bool.false_or, Bool.true_or, Bool.or_true, Bool.true_and]
        by_cases h3 : b.2.2.length < 1
        · rw [decide_eq_true (show (b.2.2.length : Int) < 1 by omega), decide_eq_false (show ¬ (1 ≤ b.2.2.length ∧ b.2.2.length ≤ 3) by omega)]
          rfl
        · rw [decide_eq_false (show ¬ (b.2.2.length : Int) < 1 by omega)]
          by_cases h4 : b.2.2.length > 3
          · rw [decide_eq_true (show (b.2.2.length : Int) > 3 by omega), decide_eq_false (show ¬ (1 ≤ b.2.2.length ∧ b.2.2.length ≤ 3) by omega)]
            rfl
          · rw [decide_eq_false (show ¬ (b.2.2.length : Int) > 3 by omega), decide_eq_true (show (1 ≤ b.2.2.length ∧ b.2.2.length ≤ 3) by omega)]
            simp only [Bool.not_true, Bool.not_false, cond_true, cond_false, Bool.false_or, Bool.true_or, Bool.or_true, Bool.true_and]
            refine (lpK_up (α := Int × PUnit) b.2.2.length (by omega) (fun i (_ : Unit) => ((i : Int), PUnit.unit)) (fun i s k => bif legB b i then k s else some false) (fun _ => some true) ?_ ?_ ()).trans ?_
            · intro again i _ hi
              have hw : IntKind.wrap .i64 ((i : Int) + 1) = ((i + 1 : Nat) : Int) := by rw [wrap_id (by omega) (by omega)]; rfl
              simp only [inB_nat, decide_eq_true hi, decide_eq_true (show (i : Int) < b.2.2.length by omega), cond_true, Int.toNat_natCast, hw]
              simp only [show List.getD b.2.2 i leg0 = legAt b i from rfl, refFind_ok (b := b) (by omega)]
              unfold legB
              cases g1 : nameB (legAt b i).1 with
              | false => rfl
              | true =>
                by_cases g2 : findB b (legAt b i).1 = i
                · cases g3 : dec (legAt b i).2.1 with
                  | false => simp [obind_some', g2]
                  | true =>
                    simp only [Bool.not_true, Bool.not_false, cond_true, cond_false, obind_some', Bool.false_or, Bool.true_or, Bool.or_true, Bool.true_and, g2, decide_true, ne_eq, refArm_ok hi (dec_iff.1 h1) (dec_iff.1 g3), short_ok]
                    have g4 : (decide ((armB b i).1 = 0) && (decide ((armB b i).2.1 = 0) && (decide ((armB b i).2.2 = 0) && true))) = decide (armB b i = (0, 0, 0)) := p3_eq (a := armB b i) (b := (0, 0, 0))
                    rw [g4]
                    unfold nearB
                    by_cases k1 : (legAt b i).2.2 < 0
                    · have e : weightB (legAt b i).2.2 = false := by unfold weightB; exact decide_eq_false (by omega)
                      rw [decide_eq_true k1, e]
                      simp
                    · by_cases k2 : (legAt b i).2.2 > 67108864
                      · have e : weightB (legAt b i).2.2 = false := by unfold weightB; exact decide_eq_false (by omega)
                        rw [decide_eq_false k1, decide_eq_true k2, e]
                        simp
                      · have e : weightB (legAt b i).2.2 = true := by unfold weightB; exact decide_eq_true (by omega)
                        rw [decide_eq_false k1, decide_eq_false k2, e]
                        by_cases k3 : armB b i = (0, 0, 0)
                        · simp only [k3, decide_true, not_true_eq_false, decide_false]
                          rfl
                        · simp only [k3, decide_true, not_false_eq_true, decide_false]
                          cases near1 (armB b i).1 <;> cases near1 (armB b i).2.1 <;> cases near1 (armB b i).2.2 <;> rfl
                · simp [obind_some', g2]
            · intro again _
              simp
            · exact upF_all b.2.2.length (fun i k _ => rfl) b.2.2.length 0 (by omega) |>.trans (by cases (List.range' 0 b.2.2.length).all (legB b) <;> rfl)

/-- What a valid bridle is. -/
theorem validB_iff {b : Brd} : validB b = true ↔ inP b.1 ∧ (0 ≤ b.2.1 ∧ b.2.1 ≤ 67108864) ∧ (1 ≤ b.2.2.length ∧ b.2.2.length ≤ 3) ∧ ∀ i, i < b.2.2.length → legB b i = true := by
  simp only [validB, Bool.and_eq_true, dec_iff, weightB_iff, decide_eq_true_eq, List.all_eq_true, List.mem_range']
  constructor
  · rintro ⟨h1, h2, h3, h4⟩
    exact ⟨h1, h2, h3, fun i hi => h4 i ⟨i, hi, by omega⟩⟩
  · rintro ⟨h1, h2, h3, h4⟩
    exact ⟨h1, h2, h3, fun i ⟨j, hj, e⟩ => h4 i (by omega)⟩
theorem legB_iff {b : Brd} {i : Nat} : legB b i = true ↔ nameB (legAt b i).1 = true ∧ findB b (legAt b i).1 = i ∧ inP (legAt b i).2.1 ∧ armB b i ≠ (0, 0, 0) ∧ ((-32768 ≤ (armB b i).1 ∧ (armB b i).1 ≤ 32768) ∧ (-32768 ≤ (armB b i).2.1 ∧ (armB b i).2.1 ≤ 32768) ∧ (-32768 ≤ (armB b i).2.2 ∧ (armB b i).2.2 ≤ 32768)) ∧ 0 ≤ (legAt b i).2.2 ∧ (legAt b i).2.2 ≤ 67108864 := by
  simp only [legB, nearB, Bool.and_eq_true, dec_iff, weightB_iff, decide_eq_true_eq, near1_iff]

theorem find_range {b : Brd} {s : ByteArray} (h : 0 ≤ findB b s) : ∃ i : Nat, findB b s = i ∧ i < b.2.2.length ∧ (legAt b i).1 = s := by
  obtain ⟨h1, h2, h3⟩ := idxI_at (d := leg0) (Int.le_refl 0) h
  refine ⟨(findB b s).toNat, by omega, by unfold findB; omega, ?_⟩
  have := of_decide_eq_true h3
  rw [Int.sub_zero] at this
  exact this

/-- The length of a leg. -/
def lenS (a : P3) : Int × Int := rootS (1000000 * nsq a)
theorem nsq_bound {a : P3} (h : (-32768 ≤ a.1 ∧ a.1 ≤ 32768) ∧ (-32768 ≤ a.2.1 ∧ a.2.1 ≤ 32768) ∧ (-32768 ≤ a.2.2 ∧ a.2.2 ≤ 32768)) : 0 ≤ nsq a ∧ nsq a ≤ 3221225472 := by
  have e1 := sq_bound h.1.1 h.1.2
  have e2 := sq_bound h.2.1.1 h.2.1.2
  have e3 := sq_bound h.2.2.1 h.2.2.2
  unfold nsq
  omega
theorem length_ok {b : Brd} {i : Nat} (h : validB b = true) (hi : i < b.2.2.length) : bridle_length b i = some (lenS (armB b i), 0, ()) := by
  obtain ⟨h1, _, _, h4⟩ := validB_iff.1 h
  obtain ⟨_, _, g3, _, g5, _⟩ := legB_iff.1 (h4 i hi)
  obtain ⟨n1, n2⟩ := nsq_bound g5
  simp only [bridle_length, bridle_length_b, inB_nat, decide_eq_true hi, cond_true, Int.toNat_natCast]
  rw [show List.getD b.2.2 i leg0 = legAt b i from rfl, square_ok h1 g3, obind_some']
  simp only [decide_true, Bool.not_true, cond_false]
  rw [show nsq (sub b.1 (legAt b i).2.1) = nsq (armB b i) from rfl, wrap_id (by omega) (by omega), root_ok (by omega) (by omega)]
  rfl
theorem dot_ok {a c : P3} (h : (-32768 ≤ a.1 ∧ a.1 ≤ 32768) ∧ (-32768 ≤ a.2.1 ∧ a.2.1 ≤ 32768) ∧ (-32768 ≤ a.2.2 ∧ a.2.2 ≤ 32768)) (h' : (-32768 ≤ c.1 ∧ c.1 ≤ 32768) ∧ (-32768 ≤ c.2.1 ∧ c.2.1 ≤ 32768) ∧ (-32768 ≤ c.2.2 ∧ c.2.2 ≤ 32768)) : ref18_dot a c = some (a.1 * c.1 + a.2.1 * c.2.1 + a.2.2 * c.2.2) := by
  have e1 := mul_bound h.1.1 h.1.2 h'.1.1 h'.1.2
  have e2 := mul_bound h.2.1.1 h.2.1.2 h'.2.1.1 h'.2.1.2
  have e3 := mul_bound h.2.2.1 h.2.2.2 h'.2.2.1 h'.2.2.2
  simp (disch := omega) only [ref18_dot, ref18_dot_b, wrap_id]
theorem refLength_ok {b : Brd} {i : Nat} (h : validB b = true) (hi : i < b.2.2.length) : ref18_Length b i = some (lenS (armB b i)) := by
  obtain ⟨h1, _, _, h4⟩ := validB_iff.1 h
  obtain ⟨_, _, g3, _, g5, _⟩ := legB_iff.1 (h4 i hi)
  obtain ⟨n1, n2⟩ := nsq_bound g5
  simp only [ref18_Length, ref18_Length_b, refArm_ok hi h1 g3, obind_some', dot_ok g5 g5]
  rw [show (armB b i).1 * (armB b i).1 + (armB b i).2.1 * (armB b i).2.1 + (armB b i).2.2 * (armB b i).2.2 = nsq (armB b i) from rfl, wrap_id (by omega) (by omega), refRoot_ok (by omega) (by omega)]
  rfl

end Go.Proofs.Ytghjblbkbelcfaa
