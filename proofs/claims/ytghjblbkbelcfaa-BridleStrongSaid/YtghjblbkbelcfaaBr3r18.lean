/- The law BridleForms. -/
import Derived.Test.YtghjblbkbelcfaaBr2r18
namespace Go.Proofs.Ytghjblbkbelcfaa
open Try Dn Dn.Sh

theorem awake_ok : law18_awake = some true := by kernel_rfl

theorem long_ok (b : Brd) : law18_long b = some (decide (10 < b.2.2.length) || decide (0 ≤ idxI (fun l : Leg => decide ((l.1.size : Int) > 100)) b.2.2 0)) := by
  simp only [law18_long, law18_long_b, not_or_self', or_self_not, cond_true]
  by_cases h : 10 < b.2.2.length
  · rw [decide_eq_true (show (b.2.2.length : Int) > 10 by omega), decide_eq_true h]
    rfl
  · rw [decide_eq_false (show ¬ (b.2.2.length : Int) > 10 by omega), decide_eq_false h]
    simp only [Bool.not_false, cond_true, slices_ContainsFunc_39, slices_ContainsFunc_39_b]
    rw [index76 (p := fun l : Leg => decide ((l.1.size : Int) > 100)) (by omega) (fun a _ => by simp only [law18_long_1, law18_long_1_b])]
    rfl
/-- What the laws leave out. -/
noncomputable def longB (b : Brd) : Bool := decide (10 < b.2.2.length) || decide (0 ≤ idxI (fun l : Leg => decide ((l.1.size : Int) > 100)) b.2.2 0)
theorem longB_len {b : Brd} (h : longB b = false) : b.2.2.length ≤ 10 := by
  unfold longB at h
  rw [Bool.or_eq_false_iff, decide_eq_false_iff_not] at h
  omega

theorem bLength_ok {b : Brd} (h : b.2.2.length ≤ 10) (s : ByteArray) : bridle_Length b s = some (bif validB b then bif decide (findB b s < 0) then ((0, 0), 9, ()) else (lenS (armB b (findB b s).toNat), 0, ()) else ((0, 0), 1, ())) := by
  simp only [bridle_Length, bridle_Length_b, bValid_ok, obind_some']
  cases hv : validB b with
  | false => rfl
  | true =>
    simp only [Bool.not_true, cond_false, cond_true, find_ok (b := b) (by omega), obind_some']
    by_cases hf : findB b s < 0
    · rw [decide_eq_true hf]; rfl
    · rw [decide_eq_false hf]
      obtain ⟨i, e, hi, _⟩ := find_range (show 0 ≤ findB b s by omega)
      rw [e, cond_false, cond_false, length_ok hv hi, obind_some', Int.toNat_natCast]
theorem given_ok {b : Brd} (h : b.2.2.length ≤ 10) (s : ByteArray) : ref18_Given b s = some (bif validB b then bif decide (findB b s < 0) then 9 else 0 else 1) := by
  simp only [ref18_Given, ref18_Given_b, refValid_ok, obind_some']
  cases hv : validB b with
  | false => rfl
  | true =>
    simp only [Bool.not_true, cond_false, cond_true, refFind_ok (b := b) (by omega), obind_some']
    cases decide (findB b s < 0) <;> rfl

theorem law3 : ∀ x : TsS [T26, .str], wfs [T26, .str] x → law18_BridleForms x.1 x.2.1 = some true := by
  intro x _
  obtain ⟨b, s, _⟩ := x
  show law18_BridleForms b s = some true
  simp only [law18_BridleForms, law18_BridleForms_b, awake_ok, long_ok, obind_some', bValid_ok, refValid_ok, not_or_self', or_self_not, Bool.and_self, cond_true, Bool.not_true, cond_false, decide_true]
  rw [show (decide (10 < b.2.2.length) || decide (0 ≤ idxI (fun l : Leg => decide ((l.1.size : Int) > 100)) b.2.2 0)) = longB b from rfl]
  cases hl : longB b with
  | true => rfl
  | false =>
    have h := longB_len hl
    cases hs : decide ((s.size : Int) > 100) with
    | true => rfl
    | false =>
      simp only [cond_false, bLength_ok h, given_ok h, obind_some', refFind_ok (b := b) (show b.2.2.length ≤ 1000000 by omega)]
      cases hv : validB b with
      | false => rfl
      | true =>
        by_cases hf : findB b s < 0
        · rw [decide_eq_true hf]; rfl
        · rw [decide_eq_false hf]
          obtain ⟨i, e, hi, _⟩ := find_range (show 0 ≤ findB b s by omega)
          simp only [cond_true, cond_false, decide_true, Bool.not_true, obind_some', e, refLength_ok hv hi, Int.toNat_natCast, Bool.and_self]

end Go.Proofs.Ytghjblbkbelcfaa
