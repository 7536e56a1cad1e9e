/- Chapter 9: the law PointsLists. -/
import Derived.Test.YtkoadlblncohgaaNr1
namespace Go.Proofs.Ytkoadlblncohgaa
open Try Dn Dn.Sh

theorem givenE_eq (l : List P) : givenE l = if l.all dec = true then (if (l.length : Int) > 20 then 4 else 0) else 1 := rfl

theorem law_PointsLists (p : P) (l : List P) : law09_PointsLists p l = some true := by
  unfold law09_PointsLists
  rw [awake_eq, obind_some']
  simp only [Bool.not_true, cond_false, not_or_self', or_self_not, Bool.and_self, cond_true, bif_true', bif_false', Bool.or_self]
  by_cases hs : (decide ((l.length : Int) > 12) && decide ((l.length : Int) ≤ 20) || decide ((l.length : Int) > 25)) = true
  · have hv : ∀ c : Bool, (c || !c) = true := fun c => by cases c <;> rfl
    simp only [hv, cond_true, hs]
  · have hv : ∀ c : Bool, (c || !c) = true := fun c => by cases c <;> rfl
    have hs' : (decide ((l.length : Int) > 12) && decide ((l.length : Int) ≤ 20) || decide ((l.length : Int) > 25)) = false := by simpa using hs
    have hlen : l.length ≤ 12 ∨ (20 < l.length ∧ l.length ≤ 25) := by
      simp only [Bool.or_eq_true, Bool.and_eq_true, decide_eq_true_eq] at hs
      omega
    simp only [hv, cond_true, hs', cond_false]
    rw [flat_eq (by omega), obind_some', inside_eq (by omega), obind_some', refAll_eq (by omega), obind_some', refValid_eq]
    cases hall : l.all dec with
    | false =>
      have e1 : flatR l = (false, 1, ()) := by unfold flatR; simp [givenE, hall]
      have e2 : insR p l = (false, 1, ()) := by
        unfold insR
        rw [if_pos (by rw [List.all_append, hall]; rfl)]
      simp only [e1, e2, Bool.not_false, cond_true, joinF, obind_some']
      cases dec p <;> rfl
    | true =>
      rcases hlen with hl | hl
      · have e1 : flatR l = (decide (flatO (l.getD 0 z3) l), 0, ()) := flatR_ok hall (by omega)
        rw [e1, refFlat_eq hall (by omega)]
        cases hp : dec p with
        | false =>
          have e2 : insR p l = (false, 1, ()) := by
            unfold insR
            rw [if_pos (by rw [List.all_append]; simp [hp])]
          simp [e2, joinF, obind_some', show ¬ (20 : Int) < l.length by omega]
        | true =>
          have e2 : insR p l = (decide (inS p l), 0, ()) := insR_ok hall (dec_iff.1 hp) (by omega)
          rw [refInside_eq (dec_iff.1 hp) hall (by omega)]
          simp [e2, joinF, obind_some', show ¬ (20 : Int) < l.length by omega]
      · have e1 : flatR l = (false, 4, ()) := by unfold flatR; simp [givenE, hall, show (l.length : Int) > 20 by omega]
        have e2 : insR p l = (false, if dec p then 4 else 1, ()) := by
          unfold insR
          cases hp : dec p with
          | false => rw [if_pos (by rw [List.all_append]; simp [hp])]; rfl
          | true =>
            have g : givenE l = 4 := by unfold givenE; rw [if_pos hall, if_pos (by omega)]
            have g2 : (l ++ [p]).all dec = true := by rw [List.all_append]; simp [hp, hall]
            rw [if_neg (by rw [g2]; decide), if_neg (by omega), g]; rfl
        rw [e1, e2]
        cases hp : dec p <;> simp [joinF, obind_some', show (20 : Int) < l.length by omega, show ¬ (l.length : Int) ≤ 20 by omega]

theorem law8 : ∀ x : TsS [T23, (.sl T23)], wfs [T23, (.sl T23)] x → law09_PointsLists x.1 x.2.1 = some true := fun _ _ => law_PointsLists _ _

end Go.Proofs.Ytkoadlblncohgaa
