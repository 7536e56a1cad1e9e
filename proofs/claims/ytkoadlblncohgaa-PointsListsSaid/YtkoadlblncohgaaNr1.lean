/- Chapter 9: the law PointsLists. -/
import Derived.Test.YtkoadlblncohgaaLr1
namespace Go.Proofs.Ytkoadlblncohgaa
open Try Dn Dn.Sh

theorem dot_comm (u v : P) : dot u v = dot v u := by simp only [dot]; grind
def T (o a b c : P) : Int := dot (crs (sub o a) (sub o b)) (sub o c)
theorem T_rot (o a b c : P) : T o b c a = T o a b c := by simp only [T, dot, crs, sub]; grind
theorem T_swap (o a b c : P) : T o b a c = - T o a b c := by simp only [T, dot, crs, sub]; grind
theorem T_irr (o a b : P) : T o a a b = 0 := by simp only [T, dot, crs, sub]; grind

theorem flat_of_none {o : P} {l : List P} (h : ∀ i k j : Nat, i < k → k < j → j < l.length → T o (l.getD i z3) (l.getD k z3) (l.getD j z3) = 0) : flatO o l := by
  have ix : ∀ a ∈ l, ∃ i, i < l.length ∧ l.getD i z3 = a := fun a ha => by
    obtain ⟨i, hi, rfl⟩ := List.getElem_of_mem ha
    exact ⟨i, hi, getD_nat hi⟩
  intro a ha b hb c hc
  obtain ⟨i, hi, rfl⟩ := ix a ha
  obtain ⟨k, hk, rfl⟩ := ix b hb
  obtain ⟨j, hj, rfl⟩ := ix c hc
  rw [dot_comm]
  show T o (l.getD i z3) (l.getD k z3) (l.getD j z3) = 0
  by_cases t1 : i = k
  · subst t1; exact T_irr ..
  by_cases t2 : k = j
  · subst t2; rw [← T_rot]; exact T_irr ..
  by_cases t3 : j = i
  · subst t3; rw [← T_rot, ← T_rot]; exact T_irr ..
  rcases Nat.lt_or_gt_of_ne t1 with a | a <;> rcases Nat.lt_or_gt_of_ne t2 with b | b <;> rcases Nat.lt_or_gt_of_ne t3 with c | c
  · omega
  · exact h i k j a b hj
  · rw [← T_rot, ← T_rot]; exact h j i k c a hk
  · rw [T_swap, ← T_rot, ← T_rot, Int.neg_eq_zero]
    first | exact h i j k (by omega) (by omega) hk | (rw [← T_rot]; exact h i j k (by omega) (by omega) hk) | (rw [← T_rot, ← T_rot]; exact h i j k (by omega) (by omega) hk)
  · rw [← T_rot]; exact h k j i b c hi
  · rw [T_swap, Int.neg_eq_zero]
    first | exact h k i j (by omega) (by omega) hj | (rw [← T_rot]; exact h k i j (by omega) (by omega) hj)
  · rw [T_swap, Int.neg_eq_zero]
    first | exact h j k i (by omega) (by omega) hi | (rw [← T_rot]; exact h j k i (by omega) (by omega) hi) | (rw [← T_rot, ← T_rot]; exact h j k i (by omega) (by omega) hi)
  · omega

theorem cT0 {α : Sort _} {c : Bool} (h : c = true) (a b : α) : cond c a b = a := by subst h; rfl
theorem cT {α : Sort _} (a b : α) : cond true a b = a := cT0 (Eq.trans rfl rfl) a b
theorem cF0 {α : Sort _} {c : Bool} (h : c = false) (a b : α) : cond c a b = b := by subst h; rfl
theorem cF {α : Sort _} (a b : α) : cond false a b = b := cF0 (Eq.trans rfl rfl) a b
theorem refFlat_eq {l : List P} (hall : l.all dec = true) (hl : l.length ≤ 20) : ref09_Flat l = some (decide (flatO (l.getD 0 z3) l)) := by
  unfold ref09_Flat
  have b00 : 0 < l.length → inB 0 l.length = true := fun h => inB_of (by omega) (by omega)
  generalize inB 0 l.length = v1 at *
  refine loopF_eq (g := fun _ => some (decide (flatO (l.getD 0 z3) l))) (I := fun (x : Int × PUnit) => 0 ≤ x.1 ∧ x.1 ≤ l.length ∧ ∀ i k j : Nat, (i : Int) < x.1 → i < k → k < j → j < l.length → T (l.getD 0 z3) (l.getD i z3) (l.getD k z3) (l.getD j z3) = 0)
    (μ := fun (x : Int × PUnit) => ((l.length : Int) - x.1).toNat) ?_ ⟨by simp, by simp, fun i k j h => by simp only at h; exact absurd h (by omega)⟩ (by unfold K0; simp only; omega)
  rintro ⟨i, _⟩ rec ⟨i0, i1, hno⟩ hrec
  simp only at i0 i1 hno ⊢
  by_cases hi : i < (l.length : Int)
  · have ho := all_in hall (getD_mem (l := l) (i := 0) (by omega))
    have hpi := all_in hall (getD_mem (l := l) (i := i.toNat) (by omega))
    have b0 : v1 = true := b00 (by omega)
    have w1 : IntKind.wrap .i64 (i + 1) = i + 1 := wrap_id (by omega) (by omega)
    simp only [decide_eq_true hi, cT, inB_of i0 hi, w1]
    rw [b0]
    simp only [cT]
    refine loopF_eq (g := fun _ => some (decide (flatO (l.getD 0 z3) l))) (I := fun (x : Int × PUnit) => i + 1 ≤ x.1 ∧ x.1 ≤ l.length ∧ ∀ k j : Nat, (k : Int) < x.1 → i < k → k < j → j < l.length → T (l.getD 0 z3) (l.getD i.toNat z3) (l.getD k z3) (l.getD j z3) = 0)
      (μ := fun (x : Int × PUnit) => ((l.length : Int) - x.1).toNat) ?_ ⟨by simp, by simp only; omega, fun k j h h2 _ _ => by simp only at h; exact absurd h2 (by omega)⟩ (by unfold K0; simp only; omega)
    rintro ⟨k, _⟩ rec2 ⟨k0, k1, hno2⟩ hrec2
    simp only at k0 k1 hno2 ⊢
    by_cases hk : k < (l.length : Int)
    · have hpk := all_in hall (getD_mem (l := l) (i := k.toNat) (by omega))
      rw [decide_eq_true hk, inB_of (show 0 ≤ k by omega) hk]
      simp only [cT]
      rw [refMinus_eq hpi ho, obind_some', refMinus_eq hpk ho, obind_some', refCross_eq (sub_in ho hpi) (sub_in ho hpk), obind_some', wrap_id (x := k + 1) (by omega) (by omega)]
      refine loopF_eq (g := fun _ => some (decide (flatO (l.getD 0 z3) l))) (I := fun (x : Int × PUnit) => k + 1 ≤ x.1 ∧ x.1 ≤ l.length ∧ ∀ j : Nat, (j : Int) < x.1 → k < j → j < l.length → T (l.getD 0 z3) (l.getD i.toNat z3) (l.getD k.toNat z3) (l.getD j z3) = 0)
        (μ := fun (x : Int × PUnit) => ((l.length : Int) - x.1).toNat) ?_ ⟨by simp, by simp only; omega, fun j h h2 _ => by simp only at h; exact absurd h2 (by omega)⟩ (by unfold K0; simp only; omega)
      rintro ⟨j, _⟩ rec3 ⟨j0, j1, hno3⟩ hrec3
      simp only at j0 j1 hno3 ⊢
      by_cases hj : j < (l.length : Int)
      · have hpj := all_in hall (getD_mem (l := l) (i := j.toNat) (by omega))
        rw [decide_eq_true hj, inB_of (show 0 ≤ j by omega) hj]
        simp only [cT]
        rw [refMinus_eq hpj ho, obind_some', zero_eq (crs_in (sub_in ho hpi) (sub_in ho hpk)) (sub_in ho hpj), obind_some']
        by_cases hz : T (l.getD 0 z3) (l.getD i.toNat z3) (l.getD k.toNat z3) (l.getD j.toNat z3) = 0
        · have hz' : dot (crs (sub (l.getD 0 z3) (l.getD i.toNat z3)) (sub (l.getD 0 z3) (l.getD k.toNat z3))) (sub (l.getD 0 z3) (l.getD j.toNat z3)) = 0 := hz
          rw [decide_eq_true hz', Bool.not_true, cF, wrap_id (by omega) (by omega)]
          refine hrec3 (j + 1, ⟨⟩) ⟨by simp only; omega, by simp only; omega, fun j' h1 h2 h3 => ?_⟩ (by simp only; omega)
          simp only at h1
          by_cases e : (j' : Int) < j
          · exact hno3 j' e h2 h3
          · have : j' = j.toNat := by omega
            subst this
            exact hz
        · have hz' : ¬ dot (crs (sub (l.getD 0 z3) (l.getD i.toNat z3)) (sub (l.getD 0 z3) (l.getD k.toNat z3))) (sub (l.getD 0 z3) (l.getD j.toNat z3)) = 0 := hz
          rw [decide_eq_false hz', Bool.not_false, cT, decide_eq_false]
          intro hf
          apply hz'
          rw [dot_comm]
          exact hf _ (getD_mem (by omega)) _ (getD_mem (by omega)) _ (getD_mem (by omega))
      · simp only [decide_eq_false hj, cF]
        refine hrec2 (k + 1, ⟨⟩) ⟨by simp only; omega, by simp only; omega, fun k' j' h1 h2 h3 h4 => ?_⟩ (by simp only; omega)
        simp only at h1
        by_cases e : (k' : Int) < k
        · exact hno2 k' j' e h2 h3 h4
        · have : k' = k.toNat := by omega
          subst this
          exact hno3 j' (by omega) (by omega) h4
    · simp only [decide_eq_false hk, cF]
      refine hrec (i + 1, ⟨⟩) ⟨by simp only; omega, by simp only; omega, fun i' k' j' h1 h2 h3 h4 => ?_⟩ (by simp only; omega)
      simp only at h1
      by_cases e : (i' : Int) < i
      · exact hno i' k' j' e h2 h3 h4
      · have : i' = i.toNat := by omega
        subst this
        exact hno2 k' j' (by omega) (by omega) h3 h4
  · simp only [decide_eq_false hi, cF]
    rw [decide_eq_true (flat_of_none fun i' k' j' h1 h2 h3 => hno i' k' j' (by omega) h1 h2 h3)]

theorem inS_of_none' {p : P} {l : List P} (h : ∀ i k : Nat, i ≤ k → k < l.length → ¬ wi p (l.getD i z3) (l.getD k z3) ∧ ∀ j : Nat, k < j → j < l.length → ¬ tri p (l.getD i z3) (l.getD k z3) (l.getD j z3)) : ¬ inS p l := by
  refine inS_of_none fun i k hi hk => ⟨fun hw => (h k i hk hi).1 (wi_symm hw), fun j hj ht => ?_⟩
  by_cases e : i = k
  · subst e; exact tri_irr ht
  · exact (h j k (by omega) (by omega)).2 i (by omega) hi (tri_swap (tri_rot ht))

theorem refInside_eq {p : P} {l : List P} (hp : inP p) (hall : l.all dec = true) (hl : l.length ≤ 20) : ref09_Inside p l = some (decide (inS p l)) := by
  unfold ref09_Inside
  refine loopF_eq (g := fun _ => some (decide (inS p l))) (I := fun (x : Int × PUnit) => 0 ≤ x.1 ∧ x.1 ≤ l.length ∧ ∀ i k : Nat, (i : Int) < x.1 → i ≤ k → k < l.length → ¬ wi p (l.getD i z3) (l.getD k z3) ∧ ∀ j : Nat, k < j → j < l.length → ¬ tri p (l.getD i z3) (l.getD k z3) (l.getD j z3))
    (μ := fun (x : Int × PUnit) => ((l.length : Int) - x.1).toNat) ?_ ⟨by simp, by simp, fun i k h => by simp only at h; omega⟩ (by unfold K0; simp only; omega)
  rintro ⟨i, _⟩ rec ⟨i0, i1, hno⟩ hrec
  simp only at i0 i1 hno ⊢
  by_cases hi : i < (l.length : Int)
  · have hli := getD_mem (l := l) (i := i.toNat) (by omega)
    simp only [decide_eq_true hi, cond_true, inB_of i0 hi]
    refine loopF_eq (g := fun _ => some (decide (inS p l))) (I := fun (x : Int × PUnit) => i ≤ x.1 ∧ x.1 ≤ l.length ∧ ∀ k : Nat, (k : Int) < x.1 → i ≤ k → k < l.length → ¬ wi p (l.getD i.toNat z3) (l.getD k z3) ∧ ∀ j : Nat, k < j → j < l.length → ¬ tri p (l.getD i.toNat z3) (l.getD k z3) (l.getD j z3))
      (μ := fun (x : Int × PUnit) => ((l.length : Int) - x.1).toNat) ?_ ⟨by simp, by simp only; omega, fun k h => by simp only at h; omega⟩ (by unfold K0; simp only; omega)
    rintro ⟨k, _⟩ rec2 ⟨k0, k1, hno2⟩ hrec2
    simp only at k0 k1 hno2 ⊢
    by_cases hk : k < (l.length : Int)
    · have hlk := getD_mem (l := l) (i := k.toNat) (by omega)
      simp only [decide_eq_true hk, cond_true, inB_of (show 0 ≤ k by omega) hk]
      rw [refOn_eq hp (all_in hall hli) (all_in hall hlk), obind_some']
      by_cases hw : wi p (l.getD i.toNat z3) (l.getD k.toNat z3)
      · rw [decide_eq_true hw, cond_true, decide_eq_true (show inS p l from .inl ⟨_, hli, _, hlk, hw⟩)]
      · rw [decide_eq_false hw, cond_false, wrap_id (x := k + 1) (by omega) (by omega)]
        refine loopF_eq (g := fun _ => some (decide (inS p l))) (I := fun (x : Int × PUnit) => k + 1 ≤ x.1 ∧ x.1 ≤ l.length ∧ ∀ j : Nat, (j : Int) < x.1 → k < j → j < l.length → ¬ tri p (l.getD i.toNat z3) (l.getD k.toNat z3) (l.getD j z3))
          (μ := fun (x : Int × PUnit) => ((l.length : Int) - x.1).toNat) ?_ ⟨by simp, by simp only; omega, fun j h => by simp only at h; omega⟩ (by unfold K0; simp only; omega)
        rintro ⟨j, _⟩ rec3 ⟨j0, j1, hno3⟩ hrec3
        simp only at j0 j1 hno3 ⊢
        by_cases hj : j < (l.length : Int)
        · have hlj := getD_mem (l := l) (i := j.toNat) (by omega)
          simp only [decide_eq_true hj, cond_true, inB_of (show 0 ≤ j by omega) hj]
          rw [refTurn_eq (all_in hall hli) (all_in hall hlk) hp, obind_some', refTurn_eq (all_in hall hlk) (all_in hall hlj) hp, obind_some', refTurn_eq (all_in hall hlj) (all_in hall hli) hp, obind_some']
          simp only [not_or_self', Bool.and_self, cond_true, bif_false']
          by_cases ht : tri p (l.getD i.toNat z3) (l.getD k.toNat z3) (l.getD j.toNat z3)
          · have := tri_sg.1 ht
            rw [show (!decide (sg (D (l.getD i.toNat z3) (l.getD k.toNat z3) p) = 0) && decide (sg (D (l.getD i.toNat z3) (l.getD k.toNat z3) p) = sg (D (l.getD k.toNat z3) (l.getD j.toNat z3) p)) && decide (sg (D (l.getD k.toNat z3) (l.getD j.toNat z3) p) = sg (D (l.getD j.toNat z3) (l.getD i.toNat z3) p))) = true by
              simp only [Bool.and_eq_true, Bool.not_eq_true', decide_eq_true_eq, decide_eq_false_iff_not]; exact this]
            rw [cond_true, decide_eq_true (show inS p l from .inr ⟨_, hli, _, hlk, _, hlj, ht⟩)]
          · have hn := fun h => ht (tri_sg.2 h)
            rw [show (!decide (sg (D (l.getD i.toNat z3) (l.getD k.toNat z3) p) = 0) && decide (sg (D (l.getD i.toNat z3) (l.getD k.toNat z3) p) = sg (D (l.getD k.toNat z3) (l.getD j.toNat z3) p)) && decide (sg (D (l.getD k.toNat z3) (l.getD j.toNat z3) p) = sg (D (l.getD j.toNat z3) (l.getD i.toNat z3) p))) = false by
              rw [Bool.eq_false_iff]; simp only [ne_eq, Bool.and_eq_true, Bool.not_eq_true', decide_eq_true_eq, decide_eq_false_iff_not]; exact hn]
            rw [cond_false, wrap_id (by omega) (by omega)]
            refine hrec3 (j + 1, ⟨⟩) ⟨by simp only; omega, by simp only; omega, fun j' h1 h2 h3 => ?_⟩ (by simp only; omega)
            simp only at h1
            by_cases e : (j' : Int) < j
            · exact hno3 j' e h2 h3
            · have : j' = j.toNat := by omega
              subst this
              exact ht
        · simp only [decide_eq_false hj, cond_false]
          refine hrec2 (k + 1, ⟨⟩) ⟨by simp only; omega, by simp only; omega, fun k' h1 h2 h3 => ?_⟩ (by simp only; omega)
          simp only at h1
          by_cases e : (k' : Int) < k
          · exact hno2 k' e h2 h3
          · have : k' = k.toNat := by omega
            subst this
            exact ⟨hw, fun j' h4 h5 => hno3 j' (by omega) (by omega) h5⟩
    · simp only [decide_eq_false hk, cond_false]
      rw [wrap_id (by omega) (by omega)]
      refine hrec (i + 1, ⟨⟩) ⟨by simp only; omega, by simp only; omega, fun i' k' h1 h2 h3 => ?_⟩ (by simp only; omega)
      simp only at h1
      by_cases e : (i' : Int) < i
      · exact hno i' k' e h2 h3
      · have : i' = i.toNat := by omega
        subst this
        exact hno2 k' (by omega) (by omega) h3
  · simp only [decide_eq_false hi, cond_false]
    rw [decide_eq_false (inS_of_none' fun i' k' h1 h2 => hno i' k' (by omega) h1 h2)]

end Go.Proofs.Ytkoadlblncohgaa
