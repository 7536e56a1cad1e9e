/- Chapter 9: what is covered. -/
import Derived.Test.YtkoadlblncohgaaFr1
namespace Go.Proofs.Ytkoadlblncohgaa
open Try Dn Dn.Sh

/-- Twice the area of three points, seen from above. -/
def D (a b c : P) : Int := (b.1 - a.1) * (c.2.1 - a.2.1) - (b.2.1 - a.2.1) * (c.1 - a.1)
def sg (n : Int) : Int := if n < 0 then -1 else if 0 < n then 1 else 0

theorem compare_eq (x y : Int) : cmp_Compare_47 x y = some (sg (x - y)) := by
  simp only [cmp_Compare_47, cmp_isNaN_52, obind_some', decide_true, Bool.not_true, cond_false, sg]
  by_cases h1 : x < y
  · simp [h1, show x - y < 0 by omega]
  · by_cases h2 : x > y
    · simp [h1, h2, show ¬ x - y < 0 by omega]
    · simp [h1, h2, show ¬ x - y < 0 by omega]

theorem turn_eq {a b c : P} (ha : inP a) (hb : inP b) (hc : inP c) : points_turn a b c = some (sg (D a b c)) := by
  obtain ⟨⟨a1, a2⟩, ⟨a3, a4⟩, _⟩ := ha
  obtain ⟨⟨b1, b2⟩, ⟨b3, b4⟩, _⟩ := hb
  obtain ⟨⟨c1, c2⟩, ⟨c3, c4⟩, _⟩ := hc
  have e1 := mul_bound (a := b.1 - a.1) (b := c.2.1 - a.2.1) (m := 2097152) (n := 2097152) (by omega) (by omega) (by omega) (by omega)
  have e2 := mul_bound (a := b.2.1 - a.2.1) (b := c.1 - a.1) (m := 2097152) (n := 2097152) (by omega) (by omega) (by omega) (by omega)
  simp (disch := omega) only [points_turn, wrap_id, compare_eq, obind_some', D]

def wi (p a b : P) : Prop := D a b p = 0 ∧ (min a.1 b.1 ≤ p.1 ∧ p.1 ≤ max a.1 b.1) ∧ (min a.2.1 b.2.1 ≤ p.2.1 ∧ p.2.1 ≤ max a.2.1 b.2.1)
instance (p a b : P) : Decidable (wi p a b) := by unfold wi; infer_instance
def tri (p a b c : P) : Prop := (0 < D a b p ∧ 0 < D b c p ∧ 0 < D c a p) ∨ (D a b p < 0 ∧ D b c p < 0 ∧ D c a p < 0)
instance (p a b c : P) : Decidable (tri p a b c) := by unfold tri; infer_instance
def inS (p : P) (l : List P) : Prop := (∃ a ∈ l, ∃ b ∈ l, wi p a b) ∨ (∃ a ∈ l, ∃ b ∈ l, ∃ c ∈ l, tri p a b c)
instance (p : P) (l : List P) : Decidable (inS p l) := by unfold inS; infer_instance

theorem sg_zero {n : Int} : sg n = 0 ↔ n = 0 := by unfold sg; split <;> (try split) <;> omega

theorem within_eq {p a b : P} (hp : inP p) (ha : inP a) (hb : inP b) : points_within p a b = some (decide (wi p a b)) := by
  simp only [points_within, turn_eq ha hb hp, obind_some', not_or_self', Bool.and_self, cond_true]
  congr 1
  rw [Bool.eq_iff_iff]
  simp only [bif_false', Bool.and_eq_true, decide_eq_true_eq, ite_max, ite_min, sg_zero]
  unfold wi
  rw [show max a.1 b.1 = max a.1 b.1 from rfl]
  constructor <;> intro h <;> (refine ⟨?_, ?_⟩) <;> omega

theorem wi_symm {p a b : P} (h : wi p a b) : wi p b a := by
  obtain ⟨h1, h2, h3⟩ := h
  refine ⟨?_, by omega, by omega⟩
  unfold D at *
  grind
theorem D_self (a p : P) : D a a p = 0 := by unfold D; grind
theorem D_swap (a b p : P) : D b a p = - D a b p := by unfold D; grind
theorem tri_rot {p a b c : P} (h : tri p a b c) : tri p b c a := by
  unfold tri at *
  rcases h with ⟨h1, h2, h3⟩ | ⟨h1, h2, h3⟩
  · exact .inl ⟨h2, h3, h1⟩
  · exact .inr ⟨h2, h3, h1⟩
theorem tri_swap {p a b c : P} (h : tri p a b c) : tri p b a c := by
  unfold tri at *
  have e1 := D_swap a b p
  have e2 := D_swap b c p
  have e3 := D_swap c a p
  omega
theorem tri_irr {p a b : P} : ¬ tri p a a b := by
  unfold tri
  rw [D_self]
  omega

/-- What 'Inside' answers. -/
def insR (p : P) (l : List P) : Bool × Int × Unit :=
  if (l ++ [p]).all dec = false then (false, 1, ()) else if givenE l = 0 then (decide (inS p l), 0, ()) else (false, givenE l, ())

theorem tri_sg {p a b c : P} : tri p a b c ↔ (sg (D a b p) ≠ 0 ∧ sg (D a b p) = sg (D b c p)) ∧ sg (D b c p) = sg (D c a p) := by
  unfold tri sg
  repeat' split
  all_goals omega

theorem take_getD {l : List P} {n k : Nat} (h : k < n) : (l.take n).getD k z3 = l.getD k z3 := by
  simp [List.getD, h]

theorem inS_of_none {p : P} {l : List P} (h : ∀ i k : Nat, i < l.length → k ≤ i → ¬ wi p (l.getD i z3) (l.getD k z3) ∧ ∀ j : Nat, j < k → ¬ tri p (l.getD i z3) (l.getD k z3) (l.getD j z3)) : ¬ inS p l := by
  have ix : ∀ a ∈ l, ∃ i, i < l.length ∧ l.getD i z3 = a := fun a ha => by
    obtain ⟨i, hi, rfl⟩ := List.getElem_of_mem ha
    exact ⟨i, hi, getD_nat hi⟩
  rintro (⟨a, ha, b, hb, hw⟩ | ⟨a, ha, b, hb, c, hc, ht⟩)
  · obtain ⟨i, hi, rfl⟩ := ix a ha
    obtain ⟨k, hk, rfl⟩ := ix b hb
    rcases Nat.le_total k i with hik | hik
    · exact (h i k hi hik).1 hw
    · exact (h k i hk hik).1 (wi_symm hw)
  · obtain ⟨i, hi, rfl⟩ := ix a ha
    obtain ⟨k, hk, rfl⟩ := ix b hb
    obtain ⟨j, hj, rfl⟩ := ix c hc
    -- the order by number
    have t1 : i ≠ k := fun e => by subst e; exact tri_irr ht
    have t2 : k ≠ j := fun e => by subst e; exact tri_irr (tri_rot ht)
    have t3 : j ≠ i := fun e => by subst e; exact tri_irr (tri_rot (tri_rot ht))
    have s1 : j < k → k < i → False := fun a b => (h i k hi (by omega)).2 j a ht
    have s2 : k < j → j < i → False := fun a b => (h i j hi (by omega)).2 k a (tri_swap (tri_rot (tri_rot ht)))
    have s3 : j < i → i < k → False := fun a b => (h k i hk (by omega)).2 j a (tri_swap ht)
    have s4 : i < j → j < k → False := fun a b => (h k j hk (by omega)).2 i a (tri_rot ht)
    have s5 : k < i → i < j → False := fun a b => (h j i hj (by omega)).2 k a (tri_rot (tri_rot ht))
    have s6 : i < k → k < j → False := fun a b => (h j k hj (by omega)).2 i a (tri_swap (tri_rot ht))
    rcases Nat.lt_or_gt_of_ne t1 with a | a <;> rcases Nat.lt_or_gt_of_ne t2 with b | b <;> rcases Nat.lt_or_gt_of_ne t3 with c | c <;>
      first | exact s1 (by omega) (by omega) | exact s2 (by omega) (by omega) | exact s3 (by omega) (by omega) | exact s4 (by omega) (by omega) | exact s5 (by omega) (by omega) | exact s6 (by omega) (by omega) | omega

theorem inside_eq {p : P} {l : List P} (hl : l.length ≤ 1000000) : points_Inside p l = some (insR p l) := by
  unfold points_Inside insR
  rw [clone_eq hl, obind_some', fitB_of (by omega), cond_true, given_eq (by simp; omega), obind_some']
  by_cases hva : (l ++ [p]).all dec = true
  · have hne : givenE (l ++ [p]) ≠ 1 := by
      rcases givenE_cases (l ++ [p]) with ⟨h, _⟩ | ⟨_, h⟩ | ⟨h, _⟩
      · omega
      · rw [hva] at h; cases h
      · omega
    have hall : l.all dec = true := all_of hva fun q hq => List.mem_append_left _ hq
    have hp : inP p := all_in hva (by simp)
    simp only [decide_eq_false hne, cond_false, hva, Bool.true_eq_false, if_false]
    rw [given_eq (by omega), obind_some']
    by_cases hg : givenE l = 0
    · simp only [hg, decide_true, Bool.not_true, cond_false, if_true]
      refine loopF_eq (g := fun _ => some (decide (inS p l), 0, ())) (I := fun (x : Int × PUnit) => 0 ≤ x.1 ∧ x.1 ≤ l.length ∧ ∀ i k : Nat, (i : Int) < x.1 → k ≤ i → ¬ wi p (l.getD i z3) (l.getD k z3) ∧ ∀ j : Nat, j < k → ¬ tri p (l.getD i z3) (l.getD k z3) (l.getD j z3))
        (μ := fun (x : Int × PUnit) => ((l.length : Int) - x.1).toNat) ?_ ⟨by simp, by simp, fun i k h => by simp only at h; omega⟩ (by unfold K0; simp only; omega)
      rintro ⟨i, _⟩ rec ⟨i0, i1, hno⟩ hrec
      simp only at i0 i1 hno ⊢
      by_cases hi : i < (l.length : Int)
      · rw [wrap_id (x := i + 1) (by omega) (by omega)]
        simp only [decide_eq_true hi, cond_true, inB_of i0 hi, slB_of (show (0 : Int) ≤ 0 by omega) (show (0 : Int) ≤ i + 1 by omega) (show i + 1 ≤ l.length by omega), List.drop_zero]
        have hli := getD_mem (l := l) (i := i.toNat) (by omega)
        have hlen : (l.take (i + 1).toNat).length = i.toNat + 1 := by simp; omega
        refine loopF_eq (g := fun _ => some (decide (inS p l), 0, ())) (I := fun (x : Int × PUnit) => 0 ≤ x.1 ∧ x.1 ≤ i + 1 ∧ ∀ k : Nat, (k : Int) < x.1 → ¬ wi p (l.getD i.toNat z3) (l.getD k z3) ∧ ∀ j : Nat, j < k → ¬ tri p (l.getD i.toNat z3) (l.getD k z3) (l.getD j z3))
          (μ := fun (x : Int × PUnit) => (i + 1 - x.1).toNat) ?_ ⟨by simp, by simp only; omega, fun k h => by simp only at h; omega⟩ (by unfold K0; simp only; omega)
        rintro ⟨k, _⟩ rec2 ⟨k0, k1, hno2⟩ hrec2
        simp only at k0 k1 hno2 ⊢
        by_cases hk : k < i + 1
        · simp only [hlen, decide_eq_true (show k < ((i.toNat + 1 : Nat) : Int) by omega), cond_true, inB_of k0 (show k < ((i.toNat + 1 : Nat) : Int) by omega), slB_of (show (0 : Int) ≤ 0 by omega) k0 (show k ≤ l.length by omega), take_getD (l := l) (show k.toNat < (i + 1).toNat by omega)]
          have hlk := getD_mem (l := l) (i := k.toNat) (by omega)
          rw [within_eq hp (all_in hall hli) (all_in hall hlk), obind_some']
          by_cases hw : wi p (l.getD i.toNat z3) (l.getD k.toNat z3)
          · rw [decide_eq_true hw, cond_true, decide_eq_true (show inS p l from .inl ⟨_, hli, _, hlk, hw⟩)]
          · rw [decide_eq_false hw, cond_false]
            have hlen2 : (l.take k.toNat).length = k.toNat := by simp; omega
            refine loopF_eq (g := fun _ => some (decide (inS p l), 0, ())) (I := fun (x : Int × PUnit) => 0 ≤ x.1 ∧ x.1 ≤ k ∧ ∀ j : Nat, (j : Int) < x.1 → ¬ tri p (l.getD i.toNat z3) (l.getD k.toNat z3) (l.getD j z3))
              (μ := fun (x : Int × PUnit) => (k - x.1).toNat) ?_ ⟨by simp, by simp only; omega, fun j h => by simp only at h; omega⟩ (by unfold K0; simp only; omega)
            rintro ⟨j, _⟩ rec3 ⟨j0, j1, hno3⟩ hrec3
            simp only at j0 j1 hno3 ⊢
            by_cases hj : j < k
            · simp only [hlen2, decide_eq_true (show j < ((k.toNat : Nat) : Int) by omega), cond_true, inB_of j0 (show j < ((k.toNat : Nat) : Int) by omega), take_getD (l := l) (show j.toNat < k.toNat by omega)]
              have hlj := getD_mem (l := l) (i := j.toNat) (by omega)
              rw [turn_eq (all_in hall hli) (all_in hall hlk) hp, obind_some', turn_eq (all_in hall hlk) (all_in hall hlj) hp, obind_some', turn_eq (all_in hall hlj) (all_in hall hli) hp, obind_some']
              simp only [not_or_self', Bool.and_self, cond_true, bif_false']
              by_cases ht : tri p (l.getD i.toNat z3) (l.getD k.toNat z3) (l.getD j.toNat z3)
              · have := tri_sg.1 ht
                rw [show (!decide (sg (D (l.getD i.toNat z3) (l.getD k.toNat z3) p) = 0) && decide (sg (D (l.getD i.toNat z3) (l.getD k.toNat z3) p) = sg (D (l.getD k.toNat z3) (l.getD j.toNat z3) p)) && decide (sg (D (l.getD k.toNat z3) (l.getD j.toNat z3) p) = sg (D (l.getD j.toNat z3) (l.getD i.toNat z3) p))) = true by
                  simp only [Bool.and_eq_true, Bool.not_eq_true', decide_eq_true_eq, decide_eq_false_iff_not]; exact this]
                rw [cond_true, decide_eq_true (show inS p l from .inr ⟨_, hli, _, hlk, _, hlj, ht⟩)]
              · have hn := fun h => ht (tri_sg.2 h)
                rw [show (!decide (sg (D (l.getD i.toNat z3) (l.getD k.toNat z3) p) = 0) && decide (sg (D (l.getD i.toNat z3) (l.getD k.toNat z3) p) = sg (D (l.getD k.toNat z3) (l.getD j.toNat z3) p)) && decide (sg (D (l.getD k.toNat z3) (l.getD j.toNat z3) p) = sg (D (l.getD j.toNat z3) (l.getD i.toNat z3) p))) = false by
                  rw [Bool.eq_false_iff]; simp only [ne_eq, Bool.and_eq_true, Bool.not_eq_true', decide_eq_true_eq, decide_eq_false_iff_not]; exact hn]
                rw [cond_false, wrap_id (by omega) (by omega)]
                refine hrec3 (j + 1, ⟨⟩) ⟨by simp only; omega, by simp only; omega, fun j' h' => ?_⟩ (by simp only; omega)
                simp only at h'
                by_cases e : (j' : Int) < j
                · exact hno3 j' e
                · have : j' = j.toNat := by omega
                  subst this
                  exact ht
            · simp only [hlen2, decide_eq_false (show ¬ j < ((k.toNat : Nat) : Int) by omega), cond_false]
              rw [wrap_id (by omega) (by omega)]
              refine hrec2 (k + 1, ⟨⟩) ⟨by simp only; omega, by simp only; omega, fun k' h' => ?_⟩ (by simp only; omega)
              simp only at h'
              by_cases e : (k' : Int) < k
              · exact hno2 k' e
              · have : k' = k.toNat := by omega
                subst this
                exact ⟨hw, fun j' h'' => hno3 j' (by omega)⟩
        · simp only [hlen, decide_eq_false (show ¬ k < ((i.toNat + 1 : Nat) : Int) by omega), cond_false]
          refine hrec (i + 1, ⟨⟩) ⟨by simp only; omega, by simp only; omega, fun i' k' h' hk' => ?_⟩ (by simp only; omega)
          simp only at h'
          by_cases e : (i' : Int) < i
          · exact hno i' k' e hk'
          · have : i' = i.toNat := by omega
            subst this
            exact hno2 k' (by omega)
      · simp only [decide_eq_false hi, cond_false]
        rw [decide_eq_false (inS_of_none fun i' k' hi' hk' => hno i' k' (by omega) hk')]
    · simp only [decide_eq_false hg, Bool.not_false, cond_true, if_neg hg]
  · have hf : (l ++ [p]).all dec = false := by simpa using hva
    have : givenE (l ++ [p]) = 1 := by unfold givenE; rw [hf]; rfl
    simp only [this, decide_true, cond_true, hf, if_true]

end Go.Proofs.Ytkoadlblncohgaa
