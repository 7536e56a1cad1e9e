/- The law BridleTwice. -/
import Derived.Test.YtghjblbkbelcfaaBq1r18
namespace Go.Proofs.Ytghjblbkbelcfaa
open Try Dn Dn.Sh

theorem set_prefix {α : Type} {f : α → α} {l : List α} {d : α} {i : Nat} (h : i < l.length) : ((l.take i).map f ++ l.drop i).set i (f (l.getD i d)) = (l.take (i + 1)).map f ++ l.drop (i + 1) := by
  rw [getD_nat h, List.drop_eq_getElem_cons h, List.take_succ_eq_append_getElem h, List.map_append, List.set_append_right _ _ (by rw [List.length_map, List.length_take]; omega), List.length_map, List.length_take, show i - min i l.length = 0 by omega, List.append_assoc]
  rfl
theorem getD_prefix {α : Type} {f : α → α} {l : List α} {d : α} {i : Nat} (h : i < l.length) : ((l.take i).map f ++ l.drop i).getD i d = l.getD i d := by
  rw [List.getD_eq_getElem?_getD, List.getElem?_append_right (by rw [List.length_map, List.length_take]; omega), List.length_map, List.length_take, show i - min i l.length = 0 by omega, List.getElem?_drop, Nat.add_zero, List.getD_eq_getElem?_getD]
theorem len_prefix {α : Type} {f : α → α} {l : List α} {i : Nat} : ((l.take i).map f ++ l.drop i).length = l.length := by
  rw [List.length_append, List.length_map, List.length_take, List.length_drop]; omega
theorem all_prefix {α : Type} {f : α → α} {l : List α} : (l.take l.length).map f ++ l.drop l.length = l.map f := by
  rw [List.take_length, List.drop_length, List.append_nil]

theorem ready_ok (b : Brd) : law18_ready b = some (!longB b && validB b) := by
  simp only [law18_ready, law18_ready_b, long_ok, obind_some', not_or_self', cT, refValid_ok]
  rw [show (decide (10 < b.2.2.length) || decide (0 ≤ idxI (fun l : Leg => decide ((l.1.size : Int) > 100)) b.2.2 0)) = longB b from rfl]
  cases longB b <;> rfl
theorem clone18 {l : List Leg} (h : l.length ≤ 1000) : slices_Clone_18 l = some l := by
  simp only [slices_Clone_18, slices_Clone_18_b]
  rw [fitB_of (by omega)]
  rfl

/-- A leg k times as far from the apex. -/
def farLeg (k : Int) (p : P3) (l : Leg) : Leg := (l.1, (p.1 + k * (sub p l.2.1).1, p.2.1 + k * (sub p l.2.1).2.1, p.2.2 + k * (sub p l.2.1).2.2), l.2.2)
theorem sub_far {k : Int} {p : P3} {l : Leg} : sub p (farLeg k p l).2.1 = mulP k (sub p l.2.1) := by
  simp only [sub, farLeg, mulP, Prod.mk.injEq]
  omega
theorem arm_map {p : P3} {w : Int} {l : List Leg} {f : Leg → Leg} {i : Nat} (h : i < l.length) : armB (p, w, l.map f) i = sub p (f (legAt (p, w, l) i)).2.1 := by
  unfold armB legAt
  rw [getD_nat (by rw [List.length_map]; exact h), List.getElem_map, getD_nat h]

theorem pulls_twice {p : P3} {w : Int} {l : List Leg} (h : validB (p, w, l) = true) : pullsE (p, w * 2, l) = mapE (((2 : Int) : Rat) / ((1 : Int) : Rat)) (pullsE (p, w, l)) := by
  obtain ⟨v1, v2, v3, _⟩ := validB_iff.1 h
  have a0 := valid_arm h (i := 0) (by omega)
  unfold pullsE
  simp only
  split
  · exact solve1_twice a0.2.1
  · split
    · exact solve2_twice
    · exact solve3_twice
theorem pulls_far {p : P3} {w k : Int} (hk : k ≠ 0) {l : List Leg} (h : validB (p, w, l) = true) : pullsE (p, w, l.map (farLeg k p)) = mapE (((1 : Int) : Rat) / (k : Rat)) (pullsE (p, w, l)) := by
  obtain ⟨v1, v2, v3, _⟩ := validB_iff.1 h
  simp only at v3
  have a0 := valid_arm h (i := 0) (by simp only; omega)
  unfold pullsE
  simp only [List.length_map]
  have e : ∀ i, i < l.length → armB (p, w, l.map (farLeg k p)) i = mulP k (armB (p, w, l) i) := fun i hi => by rw [arm_map hi, sub_far]; rfl
  rw [e 0 (by omega)]
  split
  · exact solve1_far hk a0.2.1
  · rw [e 1 (by omega)]
    split
    · exact solve2_far hk
    · rw [e 2 (by omega)]
      exact solve3_far hk

theorem u8_range {n : Int} (h : Sh.wf (.int .u8) n) : 0 ≤ n ∧ n < 256 := by
  have h' : (decide (IntKind.u8.min ≤ n) && decide (n ≤ IntKind.u8.max)) = true := h
  rw [Bool.and_eq_true, decide_eq_true_eq, decide_eq_true_eq, show IntKind.u8.min = 0 from rfl, show IntKind.u8.max = 255 from rfl] at h'
  omega

theorem law4_all {p : P3} {w : Int} {l : List Leg} {n : Int} (hn' : 0 ≤ n ∧ n < 256) : law18_BridleTwice (p, w, l) n = some true := by
  simp only [law18_BridleTwice, law18_BridleTwice_b, awake_ok, ready_ok, obind_some', Bool.not_true, cF, not_or_self', or_self_not, Bool.and_self, cT]
  cases hl : longB (p, w, l) with
  | true => rfl
  | false =>
    cases hv : validB (p, w, l) with
    | false => rfl
    | true =>
      simp only [Bool.not_false, Bool.true_and, Bool.not_true, cF]
      obtain ⟨v1, v2, v3, v4⟩ := validB_iff.1 hv
      simp only at v1 v2 v3
      have v1' := v1
      unfold inP at v1'
      rw [clone18 (by omega), obind_some']
      have ht : Int.tmod n 4 = n % 4 := Int.tmod_eq_emod_of_nonneg hn'.1
      have hk : IntKind.wrap .i64 (2 + Int.tmod (IntKind.wrap .i64 n) 4) = 2 + n % 4 := by
        rw [wrap_id (x := n) (by omega) (by omega), ht, wrap_id (by omega) (by omega)]
      have hk1 : 2 ≤ 2 + n % 4 ∧ 2 + n % 4 ≤ 5 := by omega
      simp only [hk]
      generalize 2 + n % 4 = k at *
      refine lpK_loop (g := fun _ => some true) (I := fun (x : Int × List Leg × PUnit) => 0 ≤ x.1 ∧ x.1 ≤ l.length ∧ x.2.1 = (l.take x.1.toNat).map (farLeg k p) ++ l.drop x.1.toNat) (μ := fun (x : Int × List Leg × PUnit) => ((l.length : Int) - x.1).toNat) ?_ ⟨by simp, by simp only; omega, by simp⟩ (by simp only; omega)
      rintro ⟨i, L, _⟩ rec ⟨h0, h1, h2⟩ hrec
      simp only at h0 h1 h2
      simp only
      by_cases hi : i < l.length
      · obtain ⟨j, rfl⟩ : ∃ j : Nat, i = j := ⟨i.toNat, by omega⟩
        have hj : j < l.length := by omega
        obtain ⟨a1, a2, a3, a4⟩ := valid_arm hv (i := j) hj
        rw [decide_eq_true hi, cond_true, inB_of h0 hi, cond_true, refArm_ok (b := (p, w, l)) hj a3 a4, obind_some']
        have hL : L.length = l.length := by rw [h2, len_prefix]
        have hs := set_prefix (f := farLeg k p) (d := leg0) hj
        have hg := getD_prefix (f := farLeg k p) (d := leg0) hj
        rw [Int.toNat_natCast] at h2
        rw [← h2] at hs hg
        simp only [Int.toNat_natCast]
        rw [hL, inB_of h0 hi, ble_of (by omega), cond_true, cond_true, cond_true, cond_true, lget_set_self (by omega), List.set_set, hg]
        have e1 := mul_bound (a := k) (m := 5) (by omega) (by omega) a1.1.1 a1.1.2
        have e2 := mul_bound (a := k) (m := 5) (by omega) (by omega) a1.2.1.1 a1.2.1.2
        have e3 := mul_bound (a := k) (m := 5) (by omega) (by omega) a1.2.2.1 a1.2.2.2
        simp (disch := omega) only [wrap_id]
        refine hrec _ ⟨by simp only; omega, by simp only; omega, ?_⟩ (by simp only; omega)
        simp only
        rw [show ((j : Int) + 1).toNat = j + 1 by omega, ← hs]
        rfl
      · have e : i.toNat = l.length := by omega
        rw [e, all_prefix] at h2
        subst h2
        rw [decide_eq_false hi, cond_false, pulls_ok, if_pos hv, obind_some', wrap_id (x := w * 2) (by omega) (by omega)]
        refine lpK_loop (g := fun _ => some true) (I := fun (x : Int × PUnit) => 0 ≤ x.1 ∧ x.1 ≤ 2) (μ := fun (x : Int × PUnit) => (2 - x.1).toNat) ?_ ⟨by simp, by simp⟩ (by simp)
        rintro ⟨m, _⟩ rec2 ⟨m0, m1⟩ hrec2
        simp only at m0 m1
        simp only
        by_cases hm : m < 2
        · have hm' : m < ((2 : Nat) : Int) := hm
          have hR : ∃ (b' : Brd) (num den : Int), [((p, w * 2, l), ((2 : Int), (1 : Int))), ((p, w, l.map (farLeg k p)), ((1 : Int), k))].getD m.toNat (((0, 0, 0), 0, []), 0, 0) = (b', num, den) ∧ (validB b' = true → pullsE b' = mapE ((num : Rat) / (den : Rat)) (pullsE (p, w, l))) ∧ (0 ≤ num ∧ num ≤ 5) ∧ (1 ≤ den ∧ den ≤ 5) := by
            rcases (show m = 0 ∨ m = 1 by omega) with rfl | rfl
            · exact ⟨_, _, _, rfl, fun _ => pulls_twice hv, by omega, by omega⟩
            · exact ⟨_, _, _, rfl, fun _ => pulls_far (by omega) hv, by omega, by omega⟩
          obtain ⟨b', num, den, hR, hP, hnum, hden⟩ := hR
          simp only [hR]
          have hw : IntKind.wrap .i64 (m + 1) = m + 1 := wrap_id (by omega) (by omega)
          have hgo := hrec2 (m + 1, PUnit.unit) ⟨by simp only; omega, by simp only; omega⟩ (by simp only; omega)
          rw [decide_eq_true hm', cond_true, inB_of m0 hm', cond_true, refValid_ok, obind_some', hw]
          cases hv' : validB b' with
          | false => rw [Bool.not_false, cond_true]; exact hgo
          | true =>
            rw [Bool.not_true, cond_false, pulls_ok, if_pos hv', obind_some', hP hv']
            cases hq : pullsE (p, w, l) with
            | error e' =>
              simp only [mapE, outP_err, decide_true, Bool.not_true, cF, Bool.not_false, Bool.true_or, Bool.or_true, Bool.and_self, cT]
              refine lpK_loop (g := fun _ => some true) (I := fun (x : Int × PUnit) => x.1 = 0) (μ := fun _ => 0) ?_ rfl (by simp)
              rintro ⟨z, _⟩ rec3 hz _
              simp only at hz
              subst hz
              exact hgo
            | ok qs =>
              obtain ⟨q1, q2⟩ := pullsE_fits hv hq
              simp only at q1
              simp only [mapE, outP_ok, decide_true, Bool.not_true, cF, Bool.not_false, Bool.true_or, Bool.or_true, Bool.and_self, cT, List.length_map]
              have hfit := fitsQ_div (n := num) (d := den) (by omega) (by omega) (by omega)
              have hmk : ratio_Make num den = some (prQ ((num : Rat) / (den : Rat)), 0, ()) := by
                rw [Make_ok (by omega) (by omega) (by omega) (by omega), if_neg (by omega), fits_div (by omega) (by omega) (by omega)]
              refine lpK_loop (g := fun _ => some true) (I := fun (x : Int × PUnit) => 0 ≤ x.1 ∧ x.1 ≤ qs.length) (μ := fun (x : Int × PUnit) => ((qs.length : Int) - x.1).toNat) ?_ ⟨by simp, by simp only; omega⟩ (by simp only; omega)
              rintro ⟨z, _⟩ rec3 ⟨z0, z1⟩ hrec3
              simp only at z0 z1
              simp only
              by_cases hz : z < qs.length
              · obtain ⟨y, rfl⟩ : ∃ y : Nat, z = y := ⟨z.toNat, by omega⟩
                have hy : y < qs.length := by omega
                have g1 : (List.map prQ (List.map (· * ((num : Rat) / (den : Rat))) qs)).getD y (0, 0) = prQ (qs.getD y 0 * ((num : Rat) / (den : Rat))) := by
                  rw [getD_map (by rw [List.length_map]; exact hy), getD_nat (by rw [List.length_map]; exact hy), List.getElem_map, getD_nat hy]
                rw [decide_eq_true hz, cond_true, hmk, obind_some', inB_of z0 hz, cond_true, Int.toNat_natCast, getD_map hy, Mul_ok (okF_prQ (q2 _ (getD_mem hy))) (okF_prQ hfit), obind_some', qv_prQ, qv_prQ, wrap_id (x := (y : Int) + 1) (by omega) (by omega)]
                simp only [g1]
                have hgo3 := hrec3 ((y : Int) + 1, PUnit.unit) ⟨by simp only; omega, by simp only; omega⟩ (by simp only; omega)
                rcases fitQ_cases (qs.getD y 0 * ((num : Rat) / (den : Rat))) with ⟨f1, f2⟩ | ⟨f1, f2⟩
                · rw [f2]
                  simp only [decide_true, Bool.not_true, cF, Bool.not_false, Bool.true_or, Bool.or_true, Bool.and_self, cT, Bool.false_or]
                  exact hgo3
                · rw [f2]
                  simp only [decide_true, Bool.not_true, cF, Bool.not_false, Bool.true_or, Bool.or_true, Bool.and_self, cT, Bool.false_or, Bool.true_and, show decide ((5 : Int) = 0) = false from rfl]
                  exact hgo3
              · rw [decide_eq_false hz, cond_false]
                exact hgo
        · rw [decide_eq_false (show ¬ m < ((2 : Nat) : Int) from hm), cond_false]

theorem law4 : ∀ x : TsS [T26, .int .u8], wfs [T26, .int .u8] x → law18_BridleTwice x.1 x.2.1 = some true := fun _ h => law4_all (u8_range h.2.1)

end Go.Proofs.Ytghjblbkbelcfaa
