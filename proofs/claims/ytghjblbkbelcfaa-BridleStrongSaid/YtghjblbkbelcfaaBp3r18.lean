/- Bridles: the pulls of a valid bridle, by both programs. -/
import Derived.Test.YtghjblbkbelcfaaBp2r18
namespace Go.Proofs.Ytghjblbkbelcfaa
open Try Dn Dn.Sh

/-- The pulls of a bridle, or the number of an error. -/
noncomputable def pullsE (b : Brd) : Except Int (List Rat) :=
  if b.2.2.length = 1 then solve1 b.2.1 (armB b 0) else if b.2.2.length = 2 then solve2 b.2.1 (armB b 0) (armB b 1) else solve3 b.2.1 (armB b 0) (armB b 1) (armB b 2)

theorem valid_arm {b : Brd} (h : validB b = true) {i : Nat} (hi : i < b.2.2.length) : box 32768 (armB b i) ∧ armB b i ≠ (0, 0, 0) ∧ inP b.1 ∧ inP (legAt b i).2.1 := by
  obtain ⟨h1, _, _, h4⟩ := validB_iff.1 h
  obtain ⟨_, _, g3, g4, g5, _⟩ := legB_iff.1 (h4 i hi)
  exact ⟨g5, g4, h1, g3⟩

theorem solve_ok {b : Brd} (h : validB b = true) : bridle_solve b = some (outP (pullsE b)) := by
  obtain ⟨v1, v2, v3, _⟩ := validB_iff.1 h
  unfold bridle_solve bridle_solve_b
  refine lpK_loop (g := fun _ => some (outP (pullsE b))) (I := fun (x : List P3 × Int × PUnit) => 0 ≤ x.2.1 ∧ x.2.1 ≤ b.2.2.length ∧ x.1 = (List.range' 0 x.2.1.toNat).map (armB b)) (μ := fun (x : List P3 × Int × PUnit) => ((b.2.2.length : Int) - x.2.1).toNat) ?_ ⟨by simp, by simp only; omega, by simp⟩ (by simp only; omega)
  rintro ⟨out, i, _⟩ rec ⟨h0, h1, h2⟩ hrec
  simp only at h0 h1 h2 ⊢
  by_cases hi : i < b.2.2.length
  · obtain ⟨k, rfl⟩ : ∃ k : Nat, i = k := ⟨i.toNat, by omega⟩
    have hk : k < b.2.2.length := by omega
    obtain ⟨_, _, g1, g2⟩ := valid_arm h hk
    have hl : out.length ≤ 3 := by rw [h2, List.length_map, List.length_range']; omega
    rw [decide_eq_true hi, cond_true, arm_ok hk g1 g2, obind_some', fitB_of (by omega), cond_true, wrap_id (by omega) (by omega)]
    refine hrec _ ⟨by simp only; omega, by simp only; omega, ?_⟩ (by simp only; omega)
    simp only
    rw [h2, show ((k : Int) + 1).toNat = k + 1 by omega, show ((k : Int)).toNat = k by omega, List.range'_1_concat, List.map_append]
    simp
  · rw [decide_eq_false hi, cond_false]
    have e : i.toNat = b.2.2.length := by omega
    rw [e] at h2
    have a0 := valid_arm h (i := 0) (by omega)
    have hn : b.2.2.length = 1 ∨ b.2.2.length = 2 ∨ b.2.2.length = 3 := by omega
    rcases hn with hn | hn | hn
    · rw [hn] at h2
      have h2' : out = [armB b 0] := h2
      subst h2'
      simp only [show decide ((([armB b 0] : List P3).length : Int) = 1) = true from rfl, show inB 0 ([armB b 0] : List P3).length = true from rfl, show Nat.ble 1 ([armB b 0] : List P3).length = true from rfl, cT, List.getD_cons_zero]
      rw [single_ok v2 a0.1 a0.2.1, obind_some']
      unfold pullsE
      rw [if_pos hn]
    · rw [hn] at h2
      have h2' : out = [armB b 0, armB b 1] := h2
      subst h2'
      have a1 := valid_arm h (i := 1) (by omega)
      simp only [show decide ((([armB b 0, armB b 1] : List P3).length : Int) = 1) = false from rfl, show decide ((([armB b 0, armB b 1] : List P3).length : Int) = 2) = true from rfl, show inB 0 ([armB b 0, armB b 1] : List P3).length = true from rfl, show Nat.ble 1 ([armB b 0, armB b 1] : List P3).length = true from rfl, show inB 1 ([armB b 0, armB b 1] : List P3).length = true from rfl, show Nat.ble 2 ([armB b 0, armB b 1] : List P3).length = true from rfl, cT, cF, List.getD_cons_zero, List.getD_cons_succ]
      rw [double_ok v2 a0.1 a1.1, obind_some']
      unfold pullsE
      rw [if_neg (by omega), if_pos hn]
    · rw [hn] at h2
      have h2' : out = [armB b 0, armB b 1, armB b 2] := h2
      subst h2'
      have a1 := valid_arm h (i := 1) (by omega)
      have a2 := valid_arm h (i := 2) (by omega)
      unfold pullsE
      rw [if_neg (by omega), if_neg (by omega)]
      generalize armB b 0 = p at *
      generalize armB b 1 = q at *
      generalize armB b 2 = r at *
      have p' := box_mono a0.1 (show (32768 : Int) ≤ 67108864 by omega)
      have q' := box_mono a1.1 (show (32768 : Int) ≤ 67108864 by omega)
      have r' := box_mono a2.1 (show (32768 : Int) ≤ 67108864 by omega)
      obtain ⟨d1, d2⟩ := dt_ok a0.1 (crs_box a1.1 a2.1)
      simp only [show decide ((([p, q, r] : List P3).length : Int) = 1) = false from rfl, show decide ((([p, q, r] : List P3).length : Int) = 2) = false from rfl, show inB 0 ([p, q, r] : List P3).length = true from rfl, show Nat.ble 1 ([p, q, r] : List P3).length = true from rfl, show inB 1 ([p, q, r] : List P3).length = true from rfl, show Nat.ble 2 ([p, q, r] : List P3).length = true from rfl, show inB 2 ([p, q, r] : List P3).length = true from rfl, show Nat.ble 3 ([p, q, r] : List P3).length = true from rfl, cT, cF, List.getD_cons_zero, List.getD_cons_succ, cross_ok q' r', cross_ok r' p', cross_ok p' q', obind_some', d1]
      unfold solve3
      by_cases hd : dt p (crs q r) = 0
      · rw [decide_eq_true hd, if_pos hd, cond_true, dependent_ok (upright3 p' q' r'), obind_some']
        rfl
      · rw [decide_eq_false hd, if_neg hd, cond_false]
        have e1 := mul_bound (a := b.2.1) (m := 67108864) (by omega) (by omega) (crs_box a1.1 a2.1).2.2.1 (crs_box a1.1 a2.1).2.2.2
        have e2 := mul_bound (a := b.2.1) (m := 67108864) (by omega) (by omega) (crs_box a2.1 a0.1).2.2.1 (crs_box a2.1 a0.1).2.2.2
        have e3 := mul_bound (a := b.2.1) (m := 67108864) (by omega) (by omega) (crs_box a0.1 a1.1).2.2.1 (crs_box a0.1 a1.1).2.2.2
        rw [wrap_id (by omega) (by omega), wrap_id (by omega) (by omega), wrap_id (by omega) (by omega), quotients_ok hd (by omega) (by intro n hn; simp only [List.mem_cons, List.not_mem_nil, or_false] at hn; rcases hn with rfl | rfl | rfl <;> omega) (by simp), obind_some']
        rfl

theorem pulls_ok (b : Brd) : bridle_Pulls b = some (if validB b = true then outP (pullsE b) else ([], 1, ())) := by
  simp only [bridle_Pulls, bridle_Pulls_b, bValid_ok, obind_some']
  cases h : validB b with
  | true => rw [Bool.not_true, cond_false, solve_ok h, obind_some', if_pos rfl]
  | false => rfl

end Go.Proofs.Ytghjblbkbelcfaa
