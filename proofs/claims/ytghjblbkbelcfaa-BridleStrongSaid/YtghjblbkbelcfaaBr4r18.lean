/- Bridles: tensions, limits, anchor forces; the law BridleTensions. -/
import Derived.Test.YtghjblbkbelcfaaBp6r18
import Derived.Test.YtghjblbkbelcfaaBr3r18
namespace Go.Proofs.Ytghjblbkbelcfaa
open Try Dn Dn.Sh

theorem outP_ok {l : List Rat} : outP (.ok l) = (l.map prQ, 0, ()) := rfl
theorem outP_err {e : Int} : outP (.error e) = ([], e, ()) := rfl
theorem getD_map {l : List Rat} {i : Nat} (h : i < l.length) : (l.map prQ).getD i (0, 0) = prQ (l.getD i 0) := by
  rw [getD_nat (by rw [List.length_map]; exact h), getD_nat h, List.getElem_map]
theorem getD_mem {l : List Rat} {i : Nat} (h : i < l.length) : l.getD i 0 ∈ l := by
  rw [getD_nat h]; exact List.getElem_mem h
theorem prQ_neg {q : Rat} : (prQ q).1 < 0 ↔ q < 0 := by
  show q.num < 0 ↔ q < 0
  rw [← Rat.not_le, ← Rat.num_nonneg, Int.not_le]

/-- What 'pull' answers. -/
noncomputable def pullR (b : Brd) (s : ByteArray) : Int × Fq × Int × Unit :=
  if validB b = false then (0, (0, 0), 1, ()) else if findB b s < 0 then (0, (0, 0), 9, ()) else
    match pullsE b with
    | .error e => (0, (0, 0), e, ())
    | .ok qs => (findB b s, prQ (qs.getD (findB b s).toNat 0), 0, ())

theorem pull_ok {b : Brd} (hl : b.2.2.length ≤ 10) (s : ByteArray) : bridle_pull b s = some (pullR b s) := by
  simp only [bridle_pull, bridle_pull_b, bValid_ok, obind_some']
  unfold pullR
  cases h : validB b with
  | false => rfl
  | true =>
    simp only [Bool.not_true, cF, find_ok (b := b) (show b.2.2.length ≤ 1000000 by omega), obind_some', Bool.true_eq_false, if_false]
    by_cases hf : findB b s < 0
    · rw [decide_eq_true hf, if_pos hf]; rfl
    · rw [decide_eq_false hf, if_neg hf, cond_false, solve_ok h, obind_some']
      obtain ⟨i, e, hi, _⟩ := find_range (show 0 ≤ findB b s by omega)
      cases hp : pullsE b with
      | error e' =>
        rw [outP_err]
        rcases pullsE_err hp with rfl | rfl <;> rfl
      | ok qs =>
        obtain ⟨q1, q2⟩ := pullsE_fits h hp
        rw [outP_ok]
        simp only [decide_true, Bool.not_true, cF]
        rw [e, inB_of (by omega) (by rw [List.length_map]; omega), cond_true, Int.toNat_natCast, getD_map (by omega)]

/-- What 'Tension' answers. -/
noncomputable def tensR (b : Brd) (s : ByteArray) : (Int × Int) × Int × Unit :=
  if validB b = false then ((0, 0), 1, ()) else if findB b s < 0 then ((0, 0), 9, ()) else
    match pullsE b with
    | .error e => ((0, 0), e, ())
    | .ok qs => if qs.getD (findB b s).toNat 0 < 0 then ((0, 0), 13, ()) else spanE (qs.getD (findB b s).toNat 0) (lenS (armB b (findB b s).toNat))

theorem bTension_ok {b : Brd} (hl : b.2.2.length ≤ 10) (s : ByteArray) : bridle_Tension b s = some (tensR b s) := by
  simp only [bridle_Tension, bridle_Tension_b, pull_ok hl, obind_some']
  unfold pullR tensR
  cases h : validB b with
  | false => rfl
  | true =>
    simp only [Bool.true_eq_false, if_false]
    by_cases hf : findB b s < 0
    · rw [if_pos hf, if_pos hf]; rfl
    · rw [if_neg hf, if_neg hf]
      obtain ⟨i, e, hi, _⟩ := find_range (show 0 ≤ findB b s by omega)
      cases hp : pullsE b with
      | error e' => rcases pullsE_err hp with rfl | rfl <;> rfl
      | ok qs =>
        obtain ⟨q1, q2⟩ := pullsE_fits h hp
        simp only [decide_true, Bool.not_true, cF, e, Int.toNat_natCast]
        by_cases hn : qs.getD i 0 < 0
        · rw [decide_eq_true (prQ_neg.2 hn), if_pos hn, cond_true]
        · rw [decide_eq_false (fun h => hn (prQ_neg.1 h)), if_neg hn, cond_false, tension_ok h hi (q2 _ (getD_mem (by omega))), obind_some']

theorem refTension_ok {b : Brd} (hl : b.2.2.length ≤ 10) (s : ByteArray) : ref18_Tension b s = some (tensR b s) := by
  simp only [ref18_Tension, ref18_Tension_b, given_ok hl, obind_some']
  unfold tensR
  cases h : validB b with
  | false => rfl
  | true =>
    simp only [Bool.true_eq_false, if_false, cT]
    by_cases hf : findB b s < 0
    · rw [decide_eq_true hf, if_pos hf]; rfl
    · rw [decide_eq_false hf, if_neg hf, cond_false]
      simp only [decide_true, Bool.not_true, cF]
      rw [refPulls_ok h, obind_some', refFind_ok (b := b) (by omega), obind_some']
      obtain ⟨i, e, hi, _⟩ := find_range (show 0 ≤ findB b s by omega)
      cases hp : pullsE b with
      | error e' =>
        rw [outP_err]
        rcases pullsE_err hp with rfl | rfl <;> rfl
      | ok qs =>
        obtain ⟨q1, q2⟩ := pullsE_fits h hp
        rw [outP_ok]
        simp only [decide_true, Bool.not_true, cF, e, Int.toNat_natCast]
        rw [inB_of (by omega) (by rw [List.length_map]; omega), cond_true, cond_true, getD_map (by omega)]
        by_cases hn : qs.getD i 0 < 0
        · rw [decide_eq_true (prQ_neg.2 hn), if_pos hn, cond_true]
        · rw [decide_eq_false (fun h => hn (prQ_neg.1 h)), if_neg hn, cond_false, refSpan_ok h hi (q2 _ (getD_mem (by omega))), obind_some']

/-- One round of 'Within'. -/
noncomputable def withB (b : Brd) (qs : List Rat) (i : Nat) (s : Bool) (k : Bool → Option (Bool × Int × Unit)) : Option (Bool × Int × Unit) :=
  bif !decide ((spanE (qs.getD i 0) (lenS (armB b i))).2.1 = 0) then some (false, (spanE (qs.getD i 0) (lenS (armB b i))).2.1, ()) else k (s && decide ((spanE (qs.getD i 0) (lenS (armB b i))).1.2 ≤ (legAt b i).2.2))
/-- What 'Within' answers. -/
noncomputable def withR (b : Brd) : Option (Bool × Int × Unit) :=
  if validB b = false then some (false, 1, ()) else
    match pullsE b with
    | .error e => some (false, e, ())
    | .ok qs => if 0 ≤ idxI (fun a : Fq => decide (a.1 < 0)) (qs.map prQ) 0 then some (false, 0, ()) else upF (withB b qs) (fun s => some (s, 0, ())) qs.length 0 true

theorem index93 {f : (Fq × Unit) → Option Bool} {p : Fq → Bool} {l : List Fq} (hl : l.length ≤ 1000000) (h : ∀ a, a ∈ l → f (a, ()) = some (p a)) : slices_IndexFunc_93 l f = some (idxI p l 0) := by
  unfold slices_IndexFunc_93 slices_IndexFunc_93_b
  exact index_loop (f := f) (d := (0, 0)) hl h

theorem bWithin_ok (b : Brd) : bridle_Within b = withR b := by
  simp only [bridle_Within, bridle_Within_b, pulls_ok, obind_some', not_or_self', or_self_not, Bool.and_self, cT]
  unfold withR
  cases h : validB b with
  | false => rfl
  | true =>
    simp only [Bool.true_eq_false, if_false, if_true]
    obtain ⟨_, _, v3, _⟩ := validB_iff.1 h
    cases hp : pullsE b with
    | error e' =>
      rw [outP_err]
      rcases pullsE_err hp with rfl | rfl <;> rfl
    | ok qs =>
      obtain ⟨q1, q2⟩ := pullsE_fits h hp
      rw [outP_ok]
      simp only [decide_true, Bool.not_true, cF, slices_ContainsFunc_61, slices_ContainsFunc_61_b]
      rw [index93 (p := fun a : Fq => decide (a.1 < 0)) (by rw [List.length_map]; omega) (fun a _ => by simp only [bridle_Within_1, bridle_Within_1_b]), obind_some', obind_some']
      by_cases hn : 0 ≤ idxI (fun a : Fq => decide (a.1 < 0)) (qs.map prQ) 0
      · rw [decide_eq_true (show idxI (fun a : Fq => decide (a.1 < 0)) (qs.map prQ) 0 ≥ 0 from hn), if_pos hn]; rfl
      · rw [decide_eq_false (show ¬ idxI (fun a : Fq => decide (a.1 < 0)) (qs.map prQ) 0 ≥ 0 from hn), if_neg hn, cond_false]
        refine lpK_up (α := Bool × Int × PUnit) qs.length (by omega) (fun i (s : Bool) => (s, (i : Int), PUnit.unit)) _ _ ?_ ?_ true
        · intro again i s hi
          have hw : IntKind.wrap .i64 ((i : Int) + 1) = ((i + 1 : Nat) : Int) := by rw [wrap_id (by omega) (by omega)]; rfl
          simp only [List.length_map]
          rw [decide_eq_true (show (i : Int) < qs.length by omega), cond_true, inB_of (by omega) (by omega), cond_true, Int.toNat_natCast, getD_map hi, tension_ok h (by omega) (q2 _ (getD_mem hi)), obind_some', hw, inB_of (by omega) (show (i : Int) < b.2.2.length by omega)]
          simp only [or_self_not, not_or_self', Bool.or_true, Bool.and_self, Bool.and_true, cT, bif_false']
          rfl
        · intro again s
          simp only [List.length_map]
          rw [decide_eq_false (by omega), cond_false]

theorem refWithin_ok (b : Brd) : ref18_Within b = withR b := by
  simp only [ref18_Within, ref18_Within_b, refValid_ok, obind_some', not_or_self', or_self_not, Bool.and_self, cT]
  unfold withR
  cases h : validB b with
  | false => rfl
  | true =>
    simp only [Bool.true_eq_false, if_false, Bool.not_true, cF]
    obtain ⟨_, _, v3, _⟩ := validB_iff.1 h
    rw [refPulls_ok h, obind_some']
    cases hp : pullsE b with
    | error e' =>
      rw [outP_err]
      rcases pullsE_err hp with rfl | rfl <;> rfl
    | ok qs =>
      obtain ⟨q1, q2⟩ := pullsE_fits h hp
      rw [outP_ok]
      simp only [decide_true, Bool.not_true, cF]
      refine lpK_loop (g := fun _ => if 0 ≤ idxI (fun a : Fq => decide (a.1 < 0)) (qs.map prQ) 0 then some (false, 0, ()) else upF (withB b qs) (fun s => some (s, 0, ())) qs.length 0 true) (I := fun (x : Int × PUnit) => 0 ≤ x.1 ∧ x.1 ≤ qs.length ∧ idxI (fun a : Fq => decide (a.1 < 0)) ((qs.map prQ).drop x.1.toNat) x.1 = idxI (fun a : Fq => decide (a.1 < 0)) (qs.map prQ) 0) (μ := fun (x : Int × PUnit) => ((qs.length : Int) - x.1).toNat) (x := ((0 : Int), PUnit.unit)) ?_ ⟨by simp, by simp only; omega, rfl⟩ (by simp only; omega)
      rintro ⟨i, _⟩ rec ⟨h0, h1, h2⟩ hrec
      simp only at h0 h1 h2
      simp only [List.length_map]
      by_cases hi : i < qs.length
      · obtain ⟨n, rfl⟩ : ∃ n : Nat, i = n := ⟨i.toNat, by omega⟩
        have hi' : n < qs.length := by omega
        rw [decide_eq_true hi, cond_true, inB_of h0 hi, cond_true, Int.toNat_natCast]
        rw [Int.toNat_natCast, idxI_drop (d := ((0 : Int), (0 : Int))) (by rw [List.length_map]; exact hi')] at h2
        cases hneg : decide (((qs.map prQ).getD n (0, 0)).1 < 0) with
        | true =>
          rw [hneg, cond_true] at h2
          rw [cond_true, if_pos (by omega)]
        | false =>
          rw [hneg, cond_false] at h2
          rw [cond_false, wrap_id (by omega) (by omega)]
          exact hrec _ ⟨by simp only; omega, by simp only; omega, h2⟩ (by simp only; omega)
      · have e : i.toNat = qs.length := by omega
        rw [e, ← List.length_map (f := prQ), List.drop_length] at h2
        rw [decide_eq_false hi, cond_false, if_neg (by rw [← h2]; show ¬ (0 : Int) ≤ -1; omega)]
        refine lpK_up (α := Bool × Int × PUnit) qs.length (by omega) (fun i (s : Bool) => (s, (i : Int), PUnit.unit)) _ _ ?_ ?_ true
        · intro again i s hi
          have hw : IntKind.wrap .i64 ((i : Int) + 1) = ((i + 1 : Nat) : Int) := by rw [wrap_id (by omega) (by omega)]; rfl
          simp only
          rw [decide_eq_true (show (i : Int) < qs.length by omega), cond_true, inB_of (by omega) (by omega), cond_true, Int.toNat_natCast, getD_map hi, refSpan_ok h (by omega) (q2 _ (getD_mem hi)), obind_some', hw, inB_of (by omega) (show (i : Int) < b.2.2.length by omega)]
          simp only [or_self_not, not_or_self', Bool.or_true, Bool.and_self, Bool.and_true, cT, bif_false']
          rfl
        · intro again s
          simp only
          rw [decide_eq_false (by omega), cond_false]

/-! ### Anchor forces -/
abbrev F3 := Fq × Fq × Fq
/-- The coordinate of the way from a leg's point to the apex. -/
def away (a : P3) (k : Nat) : Int := if k = 0 then -a.1 else if k = 1 then -a.2.1 else -a.2.2
theorem away_okF {a : P3} {k : Nat} (h : box 32768 a) : okF (away a k, 1) := by
  unfold box at h
  unfold away
  split
  · exact okF_int (by omega) (by omega)
  · split
    · exact okF_int (by omega) (by omega)
    · exact okF_int (by omega) (by omega)
def put3 (s : F3) (k : Nat) (x : Fq) : F3 := (bif Nat.beq k 0 then x else s.1, bif Nat.beq k 1 then x else s.2.1, bif Nat.beq k 2 then x else s.2.2)
def anchB (q : Rat) (a : P3) (i : Nat) (s : F3) (k : F3 → Option (F3 × Int × Unit)) : Option (F3 × Int × Unit) :=
  bif !decide ((fitQ (q * (away a i : Rat))).2.1 = 0) then some (((0, 0), (0, 0), (0, 0)), (fitQ (q * (away a i : Rat))).2.1, ()) else k (put3 s i (fitQ (q * (away a i : Rat))).1)
/-- What 'Anchor' answers. -/
noncomputable def anchR (b : Brd) (s : ByteArray) : Option (F3 × Int × Unit) :=
  if validB b = false then some (((0, 0), (0, 0), (0, 0)), 1, ()) else if findB b s < 0 then some (((0, 0), (0, 0), (0, 0)), 9, ()) else
    match pullsE b with
    | .error e => some (((0, 0), (0, 0), (0, 0)), e, ())
    | .ok qs => upF (anchB (qs.getD (findB b s).toNat 0) (armB b (findB b s).toNat)) (fun s => some (s, 0, ())) 3 0 ((0, 0), (0, 0), (0, 0))

theorem sub_neg {a b : P3} : sub b a = (-(sub a b).1, -(sub a b).2.1, -(sub a b).2.2) := by
  simp only [sub, Prod.mk.injEq]
  omega

theorem bAnchor_ok {b : Brd} (hl : b.2.2.length ≤ 10) (s : ByteArray) : bridle_Anchor b s = anchR b s := by
  simp only [bridle_Anchor, bridle_Anchor_b, pull_ok hl, obind_some']
  unfold pullR anchR
  cases h : validB b with
  | false => rfl
  | true =>
    simp only [Bool.true_eq_false, if_false]
    by_cases hf : findB b s < 0
    · rw [if_pos hf, if_pos hf]; rfl
    · rw [if_neg hf, if_neg hf]
      obtain ⟨i, e, hi, _⟩ := find_range (show 0 ≤ findB b s by omega)
      cases hp : pullsE b with
      | error e' => rcases pullsE_err hp with rfl | rfl <;> rfl
      | ok qs =>
        obtain ⟨q1, q2⟩ := pullsE_fits h hp
        obtain ⟨a1, a2, a3, a4⟩ := valid_arm h hi
        have hq := q2 _ (getD_mem (l := qs) (i := i) (by omega))
        simp only [decide_true, Bool.not_true, cF, e, Int.toNat_natCast]
        rw [inB_of (by omega) (by omega), cond_true]
        rw [show List.getD b.2.2 i leg0 = legAt b i from rfl, minus_ok a4 a3, obind_some', show sub (legAt b i).2.1 b.1 = (-(armB b i).1, -(armB b i).2.1, -(armB b i).2.2) from sub_neg]
        generalize armB b i = a at *
        generalize qs.getD i 0 = q at *
        refine lpK_up (α := Int × F3 × F3 × PUnit) 3 (by omega) (fun i (s : F3) => ((i : Int), ((0, 0), (0, 0), (0, 0)), s, PUnit.unit)) _ _ ?_ ?_ ((0, 0), (0, 0), (0, 0))
        · intro again k s hk
          have hw : IntKind.wrap .i64 ((k : Int) + 1) = ((k + 1 : Nat) : Int) := by rw [wrap_id (by omega) (by omega)]; rfl
          have hg : List.getD [-a.1, -a.2.1, -a.2.2] k 0 = away a k := by
            match k, hk with
            | 0, _ => rfl
            | 1, _ => rfl
            | 2, _ => rfl
          have hb := away_okF (k := k) a1
          simp only
          rw [decide_eq_true (show (k : Int) < 3 by omega), cond_true, inB_of (by omega) (by omega), cond_true, Int.toNat_natCast, hg, Mul_ok (okF_prQ hq) hb, obind_some', qv_prQ, qv_int, ble_of (by omega), hw]
          rfl
        · intro again s
          simp only
          rw [decide_eq_false (by omega), cond_false]

theorem refAnchor_ok {b : Brd} (hl : b.2.2.length ≤ 10) (s : ByteArray) : ref18_Anchor b s = anchR b s := by
  simp only [ref18_Anchor, ref18_Anchor_b, given_ok hl, obind_some']
  unfold anchR
  cases h : validB b with
  | false => rfl
  | true =>
    simp only [Bool.true_eq_false, if_false, cT]
    by_cases hf : findB b s < 0
    · rw [decide_eq_true hf, if_pos hf]; rfl
    · rw [decide_eq_false hf, if_neg hf, cond_false]
      simp only [decide_true, Bool.not_true, cF]
      rw [refPulls_ok h, obind_some', refFind_ok (b := b) (by omega)]
      obtain ⟨i, e, hi, _⟩ := find_range (show 0 ≤ findB b s by omega)
      cases hp : pullsE b with
      | error e' =>
        rw [outP_err]
        rcases pullsE_err hp with rfl | rfl <;> rfl
      | ok qs =>
        obtain ⟨q1, q2⟩ := pullsE_fits h hp
        obtain ⟨a1, a2, a3, a4⟩ := valid_arm h hi
        have hq := q2 _ (getD_mem (l := qs) (i := i) (by omega))
        rw [outP_ok]
        simp only [decide_true, Bool.not_true, cF, e, Int.toNat_natCast, obind_some', refArm_ok hi a3 a4, getD_map (show i < qs.length by omega), inB_of (show (0 : Int) ≤ i by omega) (show (i : Int) < (qs.map prQ).length by rw [List.length_map]; omega)]
        generalize armB b i = a at *
        generalize qs.getD i 0 = q at *
        refine lpK_up (α := Int × F3 × F3 × PUnit) 3 (by omega) (fun i (s : F3) => ((i : Int), ((0, 0), (0, 0), (0, 0)), s, PUnit.unit)) _ _ ?_ ?_ ((0, 0), (0, 0), (0, 0))
        · intro again k s hk
          have hw : IntKind.wrap .i64 ((k : Int) + 1) = ((k + 1 : Nat) : Int) := by rw [wrap_id (by omega) (by omega)]; rfl
          have hg : (obind (ref18_along a k) fun (t : Int) => ref02_Of (IntKind.wrap .i64 (0 - t))) = some (away a k, 1) := by
            obtain ⟨⟨x1, x2⟩, ⟨x3, x4⟩, ⟨x5, x6⟩⟩ := a1
            match k, hk with
            | 0, _ => show some (IntKind.wrap .i64 (0 - a.1), (1 : Int)) = some (-a.1, 1); rw [wrap_id (by omega) (by omega)]; simp
            | 1, _ => show some (IntKind.wrap .i64 (0 - a.2.1), (1 : Int)) = some (-a.2.1, 1); rw [wrap_id (by omega) (by omega)]; simp
            | 2, _ => show some (IntKind.wrap .i64 (0 - a.2.2), (1 : Int)) = some (-a.2.2, 1); rw [wrap_id (by omega) (by omega)]; simp
          obtain ⟨t, ht⟩ : ∃ t, ref18_along a k = some t := by
            match k, hk with
            | 0, _ => exact ⟨_, rfl⟩
            | 1, _ => exact ⟨_, rfl⟩
            | 2, _ => exact ⟨_, rfl⟩
          rw [ht, obind_some'] at hg
          have hb := away_okF (k := k) a1
          simp only
          rw [decide_eq_true (show (k : Int) < 3 by omega), cond_true, cond_true, ht, obind_some', hg, obind_some', RTimes_ok (okF_prQ hq) hb, obind_some', qv_prQ, qv_int, inB_of (by omega) (by omega), Int.toNat_natCast, ble_of (by omega), hw]
          rfl
        · intro again s
          simp only
          rw [decide_eq_false (by omega), cond_false]

theorem self6 (a : Fq × Fq × Fq) : (decide (a.1.1 = a.1.1) && (decide (a.1.2 = a.1.2) && true) && (decide (a.2.1.1 = a.2.1.1) && (decide (a.2.1.2 = a.2.1.2) && true) && (decide (a.2.2.1 = a.2.2.1) && (decide (a.2.2.2 = a.2.2.2) && true) && true))) = true := by simp

end Go.Proofs.Ytghjblbkbelcfaa
