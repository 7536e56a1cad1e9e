/- The law BridleMoved. -/
import Derived.Test.YtghjblbkbelcfaaBq3r18
namespace Go.Proofs.Ytghjblbkbelcfaa
open Try Dn Dn.Sh

/-- Pulls j of one bridle, and j' of another, are the same. -/
def PEq (r r' : Except Int (List Rat)) (j j' : Nat) : Prop := (∃ e, r = .error e ∧ r' = .error e) ∨ ∃ qs qs', r = .ok qs ∧ r' = .ok qs' ∧ qs'.getD j' 0 = qs.getD j 0
theorem PEq_refl {r : Except Int (List Rat)} {j : Nat} : PEq r r j j := by
  cases r with
  | error e => exact .inl ⟨e, rfl, rfl⟩
  | ok q => exact .inr ⟨q, q, rfl, rfl, rfl⟩

theorem find_of {b : Brd} (h : validB b = true) {j : Nat} (hj : j < b.2.2.length) : findB b (legAt b j).1 = j := (legB_iff.1 ((validB_iff.1 h).2.2.2 j hj)).2.1

theorem same_leg {b x : Brd} {j j' : Nat} (hb : validB b = true) (hx : validB x = true) (hj : j < b.2.2.length) (hj' : j' < x.2.2.length) (hname : (legAt x j').1 = (legAt b j).1) (hP : PEq (pullsE b) (pullsE x) j j') (hl : lenS (armB x j') = lenS (armB b j)) :
    tensR x (legAt b j).1 = tensR b (legAt b j).1 ∧ bridle_Length x (legAt b j).1 = bridle_Length b (legAt b j).1 := by
  have f1 := find_of hb hj
  have f2 := find_of hx hj'
  rw [hname] at f2
  obtain ⟨_, _, n1, _⟩ := validB_iff.1 hb
  obtain ⟨_, _, n2, _⟩ := validB_iff.1 hx
  constructor
  · unfold tensR
    rw [f1, f2, hb, hx]
    simp only [Bool.true_eq_false, if_false, Int.toNat_natCast, hl, show ¬ (j : Int) < 0 by omega, show ¬ (j' : Int) < 0 by omega]
    rcases hP with ⟨e, h1, h2⟩ | ⟨qs, qs', h1, h2, h3⟩
    · rw [h1, h2]
    · rw [h1, h2]
      simp only [h3]
  · rw [bLength_ok (by omega), bLength_ok (by omega), f1, f2, hb, hx]
    simp only [Int.toNat_natCast, hl, show ¬ (j : Int) < 0 by omega, show ¬ (j' : Int) < 0 by omega, decide_false]

theorem legAt_map {p : P3} {w : Int} {l : List Leg} {f : Leg → Leg} {i : Nat} (h : i < l.length) : legAt (p, w, l.map f) i = f (l.getD i leg0) := by
  unfold legAt
  rw [getD_nat (by rw [List.length_map]; exact h), List.getElem_map, getD_nat h]

theorem pulls_map {p p' : P3} {w : Int} {l : List Leg} {f : Leg → Leg} (hv : validB (p, w, l) = true) (h : ∀ i, i < l.length → sub p' (f (l.getD i leg0)).2.1 = sub p (l.getD i leg0).2.1) : pullsE (p', w, l.map f) = pullsE (p, w, l) ∧ ∀ i, i < l.length → armB (p', w, l.map f) i = armB (p, w, l) i := by
  have e : ∀ i, i < l.length → armB (p', w, l.map f) i = armB (p, w, l) i := fun i hi => by rw [armB, legAt_map hi, h i hi]; rfl
  refine ⟨?_, e⟩
  obtain ⟨_, _, v3, _⟩ := validB_iff.1 hv
  simp only at v3
  unfold pullsE
  simp only [List.length_map]
  rw [e 0 (by omega)]
  split
  · rfl
  · rw [e 1 (by omega)]
    split
    · rfl
    · rw [e 2 (by omega)]
theorem pulls_rot {p p' : P3} {w : Int} {l : List Leg} {f : Leg → Leg} (hv : validB (p, w, l) = true) (h : ∀ i, i < l.length → sub p' (f (l.getD i leg0)).2.1 = rot (sub p (l.getD i leg0).2.1)) : pullsE (p', w, l.map f) = pullsE (p, w, l) ∧ ∀ i, i < l.length → armB (p', w, l.map f) i = rot (armB (p, w, l) i) := by
  have e : ∀ i, i < l.length → armB (p', w, l.map f) i = rot (armB (p, w, l) i) := fun i hi => by rw [armB, legAt_map hi, h i hi]; rfl
  refine ⟨?_, e⟩
  obtain ⟨_, _, v3, _⟩ := validB_iff.1 hv
  simp only at v3
  unfold pullsE
  simp only [List.length_map]
  rw [e 0 (by omega)]
  split
  · exact solve1_rot
  · rw [e 1 (by omega)]
    split
    · exact solve2_rot
    · rw [e 2 (by omega)]
      exact solve3_rot
theorem nsq_rot {a : P3} : nsq (rot a) = nsq a := by
  simp only [nsq, rot]
  grind
theorem legAt_rev {p : P3} {w : Int} {l : List Leg} {i : Nat} (h : i < l.length) : legAt (p, w, l.reverse) i = l.getD (l.length - 1 - i) leg0 := by
  unfold legAt
  rw [getD_nat (by rw [List.length_reverse]; exact h), List.getElem_reverse, getD_nat (by omega)]
theorem pulls_rev {p : P3} {w : Int} {l : List Leg} (hv : validB (p, w, l) = true) : pullsE (p, w, l.reverse) = revE (pullsE (p, w, l)) := by
  obtain ⟨v1, v2, v3, _⟩ := validB_iff.1 hv
  simp only at v3
  have e : ∀ i, i < l.length → armB (p, w, l.reverse) i = armB (p, w, l) (l.length - 1 - i) := fun i hi => by rw [armB, legAt_rev hi]; rfl
  unfold pullsE
  simp only [List.length_reverse]
  by_cases h1 : l.length = 1
  · rw [if_pos h1, if_pos h1, e 0 (by omega), h1]
    unfold solve1
    split
    · rfl
    · split <;> rfl
  · rw [if_neg h1, if_neg h1]
    have a0 := valid_arm hv (i := 0) (by simp only; omega)
    by_cases h2 : l.length = 2
    · have a1 := valid_arm hv (i := 1) (by simp only; omega)
      rw [if_pos h2, if_pos h2, e 0 (by omega), e 1 (by omega), h2]
      exact solve2_rev a0.2.1 a1.2.1
    · have a2 := valid_arm hv (i := 2) (by simp only; omega)
      rw [if_neg h2, if_neg h2, e 0 (by omega), e 1 (by omega), e 2 (by omega), show l.length = 3 by omega]
      exact solve3_rev a0.2.1 a2.2.1

theorem rev_getD {l : List Rat} {i : Nat} (h : i < l.length) : l.reverse.getD (l.length - 1 - i) 0 = l.getD i 0 := by
  rw [getD_nat (by rw [List.length_reverse]; omega), List.getElem_reverse, getD_nat h]
  congr 1
  omega

end Go.Proofs.Ytghjblbkbelcfaa
