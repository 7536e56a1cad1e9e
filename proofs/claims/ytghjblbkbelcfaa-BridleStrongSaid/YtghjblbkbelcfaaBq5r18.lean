/- The law BridleMoved: the walk. -/
import Derived.Test.YtghjblbkbelcfaaBq4r18
namespace Go.Proofs.Ytghjblbkbelcfaa
open Try Dn Dn.Sh

def addP (p d : P3) : P3 := (p.1 + d.1, p.2.1 + d.2.1, p.2.2 + d.2.2)
def moveLeg (d : P3) (l : Leg) : Leg := (l.1, addP l.2.1 d, l.2.2)
def turnLeg (l : Leg) : Leg := (l.1, rot l.2.1, l.2.2)
theorem sub_add {p q d : P3} : sub (addP p d) (addP q d) = sub p q := by
  simp only [sub, addP, Prod.mk.injEq]
  omega
theorem sub_rot {p q : P3} : sub (rot p) (rot q) = rot (sub p q) := by
  simp only [sub, rot, Prod.mk.injEq, and_true]
  omega
theorem swap_rev {l : List Leg} (h : l.length = 2 ∨ l.length = 3) : (l.set 0 (l.getD (l.length - 1) leg0)).set (l.length - 1) (l.getD 0 leg0) = l.reverse := by
  match l, h with
  | [a, b], _ => rfl
  | [a, b, c], _ => rfl
  | [], h => simp at h
  | [a], h => simp at h
  | _ :: _ :: _ :: _ :: _, h => simp at h
theorem rev_one {l : List Leg} (h : l.length ≤ 1) : l = l.reverse := by
  match l, h with
  | [], _ => rfl
  | [a], _ => rfl
  | _ :: _ :: _, h => simp at h

theorem moved_ok {q d : P3} (hq : inP q) (hd : (-32768 ≤ d.1 ∧ d.1 < 32768) ∧ (-32768 ≤ d.2.1 ∧ d.2.1 < 32768) ∧ (-32768 ≤ d.2.2 ∧ d.2.2 < 32768)) : law18_BridleMoved_1 q d.1 d.2.1 d.2.2 = some (addP q d) := by
  unfold inP at hq
  simp (disch := omega) only [law18_BridleMoved_1, law18_BridleMoved_1_b, wrap_id]
  rfl
theorem turned_ok {q : P3} (hq : inP q) : law18_BridleMoved_2 q = some (rot q) := by
  unfold inP at hq
  simp (disch := omega) only [law18_BridleMoved_2, law18_BridleMoved_2_b, wrap_id]
  simp only [rot, Int.zero_sub]

theorem lenS_rot {a : P3} : lenS (rot a) = lenS a := by
  unfold lenS
  rw [nsq_rot]

/-- What the law's last two loops need of each other bridle. -/
theorem others {p d : P3} {w : Int} {l : List Leg} (hv : validB (p, w, l) = true) {x : Brd} (hx : validB x = true) (h : x = (addP p d, w, l.map (moveLeg d)) ∨ x = (rot p, w, l.map turnLeg) ∨ x = (p, w, l.reverse)) {j : Nat} (hj : j < l.length) :
    tensR x (l.getD j leg0).1 = tensR (p, w, l) (l.getD j leg0).1 ∧ bridle_Length x (l.getD j leg0).1 = bridle_Length (p, w, l) (l.getD j leg0).1 := by
  rcases h with rfl | rfl | rfl
  · obtain ⟨h1, h2⟩ := pulls_map (p' := addP p d) (f := moveLeg d) hv (fun i _ => sub_add (p := p) (q := (l.getD i leg0).2.1) (d := d))
    exact same_leg hv hx hj (j' := j) (by simp only [List.length_map]; exact hj) (by rw [legAt_map hj]; rfl) (by rw [h1]; exact PEq_refl) (by rw [h2 j hj])
  · obtain ⟨h1, h2⟩ := pulls_rot (p' := rot p) (f := turnLeg) hv (fun i _ => sub_rot (p := p) (q := (l.getD i leg0).2.1))
    have g1 : (legAt (rot p, w, l.map turnLeg) j).1 = (legAt (p, w, l) j).1 := by rw [legAt_map hj]; rfl
    have g2 : PEq (pullsE (p, w, l)) (pullsE (rot p, w, l.map turnLeg)) j j := by rw [h1]; exact PEq_refl
    have g3 : lenS (armB (rot p, w, l.map turnLeg) j) = lenS (armB (p, w, l) j) := by rw [h2 j hj, lenS_rot]
    have g4 : j < (l.map turnLeg).length := by rw [List.length_map]; exact hj
    exact same_leg (b := (p, w, l)) (x := (rot p, w, l.map turnLeg)) hv hx hj g4 g1 g2 g3
  · have h1 := pulls_rev hv
    have hj' : l.length - 1 - j < l.length := by omega
    have e : l.length - 1 - (l.length - 1 - j) = j := by omega
    have g1 : (legAt (p, w, l.reverse) (l.length - 1 - j)).1 = (legAt (p, w, l) j).1 := by rw [legAt_rev hj', e]; rfl
    have g2 : PEq (pullsE (p, w, l)) (pullsE (p, w, l.reverse)) j (l.length - 1 - j) := by
      rw [h1]
      cases hp : pullsE (p, w, l) with
      | error e => exact .inl ⟨e, rfl, rfl⟩
      | ok qs =>
        have hq := (pullsE_fits hv hp).1
        simp only at hq
        exact .inr ⟨qs, qs.reverse, rfl, rfl, by rw [← hq]; exact rev_getD (by omega)⟩
    have g3 : lenS (armB (p, w, l.reverse) (l.length - 1 - j)) = lenS (armB (p, w, l) j) := by
      have : armB (p, w, l.reverse) (l.length - 1 - j) = armB (p, w, l) j := by rw [armB, legAt_rev hj', e]; rfl
      rw [this]
    have g4 : l.length - 1 - j < l.reverse.length := by rw [List.length_reverse]; exact hj'
    exact same_leg (b := (p, w, l)) (x := (p, w, l.reverse)) hv hx hj g4 g1 g2 g3

theorem law6_all {p : P3} {w : Int} {l : List Leg} {d : P3} (hd : (-32768 ≤ d.1 ∧ d.1 < 32768) ∧ (-32768 ≤ d.2.1 ∧ d.2.1 < 32768) ∧ (-32768 ≤ d.2.2 ∧ d.2.2 < 32768)) : law18_BridleMoved (p, w, l) d.1 d.2.1 d.2.2 = some true := by
  simp only [law18_BridleMoved, law18_BridleMoved_b, awake_ok, ready_ok, obind_some', Bool.not_true, cF, not_or_self', or_self_not, Bool.and_self, cT]
  cases hl : longB (p, w, l) with
  | true => rfl
  | false =>
    cases hv : validB (p, w, l) with
    | false => rfl
    | true =>
      simp only [Bool.not_false, Bool.true_and, Bool.not_true, cF]
      obtain ⟨v1, v2, v3, v4⟩ := validB_iff.1 hv
      simp only at v1 v2 v3
      rw [clone18 (by omega), obind_some', obind_some', obind_some', moved_ok v1 hd, obind_some', turned_ok v1, obind_some']
      refine lpK_loop (g := fun _ => some true) (I := fun (x : Int × List Leg × List Leg × PUnit) => 0 ≤ x.1 ∧ x.1 ≤ l.length ∧ x.2.1 = (l.take x.1.toNat).map (moveLeg d) ++ l.drop x.1.toNat ∧ x.2.2.1 = (l.take x.1.toNat).map turnLeg ++ l.drop x.1.toNat) (μ := fun (x : Int × List Leg × List Leg × PUnit) => ((l.length : Int) - x.1).toNat) ?_ ⟨by simp, by simp only; omega, by simp, by simp⟩ (by simp only; omega)
      rintro ⟨i, L, M, _⟩ rec ⟨h0, h1, h2, h3⟩ hrec
      simp only at h0 h1 h2 h3
      simp only
      by_cases hi : i < l.length
      · obtain ⟨j, rfl⟩ : ∃ j : Nat, i = j := ⟨i.toNat, by omega⟩
        have hj : j < l.length := by omega
        obtain ⟨a1, a2, a3, a4⟩ := valid_arm hv (i := j) hj
        have a4' : inP (l.getD j leg0).2.1 := a4
        rw [Int.toNat_natCast] at h2 h3
        have hL : L.length = l.length := by rw [h2, len_prefix]
        have hM : M.length = l.length := by rw [h3, len_prefix]
        have hs := set_prefix (f := moveLeg d) (d := leg0) hj
        have hg := getD_prefix (f := moveLeg d) (d := leg0) hj
        have hs2 := set_prefix (f := turnLeg) (d := leg0) hj
        have hg2 := getD_prefix (f := turnLeg) (d := leg0) hj
        rw [← h2] at hs hg
        rw [← h3] at hs2 hg2
        simp only [Int.toNat_natCast]
        rw [decide_eq_true hi, cond_true, inB_of h0 hi, cond_true, moved_ok a4' hd, obind_some', turned_ok a4', obind_some', hL, hM, inB_of h0 hi, ble_of (by omega), cond_true, cond_true, cond_true, cond_true, hg, hg2, wrap_id (by omega) (by omega)]
        refine hrec _ ⟨by simp only; omega, by simp only; omega, ?_, ?_⟩ (by simp only; omega)
        · simp only
          rw [show ((j : Int) + 1).toNat = j + 1 by omega, ← hs]
          rfl
        · simp only
          rw [show ((j : Int) + 1).toNat = j + 1 by omega, ← hs2]
          rfl
      · have e : i.toNat = l.length := by omega
        rw [e, all_prefix] at h2 h3
        subst h2 h3
        rw [decide_eq_false hi, cond_false]
        rw [wrap_id (x := (l.length : Int) - 1) (by omega) (by omega)]
        refine lpK_loop (g := fun _ => some true) (I := fun (x : Int × Int × List Leg × PUnit) => (x.1 = 0 ∧ x.2.1 = (l.length : Int) - 1 ∧ x.2.2.1 = l) ∨ (x.2.1 ≤ x.1 ∧ x.2.2.1 = l.reverse)) (μ := fun (x : Int × Int × List Leg × PUnit) => (x.2.1 - x.1).toNat) ?_ (.inl ⟨rfl, rfl, rfl⟩) (by simp only; omega)
        rintro ⟨i2, j2, R, _⟩ rec2 hI hrec2
        simp only at hI
        simp only
        by_cases hc : i2 < j2
        · obtain ⟨r1, r2, r3⟩ | hI := hI
          · subst r1 r2 r3
            rw [decide_eq_true hc, cond_true]
            have b1 : inB ((R.length : Int) - 1) R.length = true := inB_of (by omega) (by omega)
            have b2 : inB (0 : Int) R.length = true := inB_of (by omega) (by omega)
            have t1 : ((R.length : Int) - 1).toNat = R.length - 1 := by omega
            simp only [b1, b2, t1, show Int.toNat 0 = 0 from rfl]
            rw [ble_of (show Nat.succ (R.length - 1) ≤ R.length by omega), ble_of (show Nat.succ 0 ≤ R.length by omega)]
            simp only [cT]
            rw [swap_rev (by omega), wrap_id (by omega) (by omega), wrap_id (by omega) (by omega)]
            exact hrec2 _ (.inr ⟨by simp only; omega, rfl⟩) (by simp only; omega)
          · omega
        · have hR : R = l.reverse := by
            rcases hI with ⟨r1, r2, r3⟩ | hI
            · rw [r3]; exact rev_one (by omega)
            · exact hI.2
          subst hR
          rw [decide_eq_false hc, cond_false]
          refine lpK_loop (g := fun _ => some true) (I := fun (x : Int × PUnit) => 0 ≤ x.1 ∧ x.1 ≤ l.length) (μ := fun (x : Int × PUnit) => ((l.length : Int) - x.1).toNat) ?_ ⟨by simp, by simp only; omega⟩ (by simp only; omega)
          rintro ⟨k, _⟩ rec3 ⟨k0, k1⟩ hrec3
          simp only at k0 k1
          simp only
          by_cases hk : k < l.length
          · obtain ⟨j, rfl⟩ : ∃ j : Nat, k = j := ⟨k.toNat, by omega⟩
            have hj : j < l.length := by omega
            rw [decide_eq_true hk, cond_true, inB_of k0 hk, cond_true, Int.toNat_natCast, bTension_ok (by simp only; omega), obind_some']
            have hlen := bLength_ok (b := (p, w, l)) (by simp only; omega) (l.getD j leg0).1
            rw [hlen, obind_some']
            generalize (bif validB (p, w, l) then bif decide (findB (p, w, l) (l.getD j leg0).1 < 0) then (((0 : Int), (0 : Int)), (9 : Int), ()) else (lenS (armB (p, w, l) (findB (p, w, l) (l.getD j leg0).1).toNat), 0, ()) else ((0, 0), 1, ())) = LR at *
            rw [wrap_id (x := (j : Int) + 1) (by omega) (by omega)]
            have hgo := hrec3 ((j : Int) + 1, PUnit.unit) ⟨by simp only; omega, by simp only; omega⟩ (by simp only; omega)
            refine lpK_loop (g := fun _ => some true) (I := fun (x : Int × PUnit) => 0 ≤ x.1 ∧ x.1 ≤ 3) (μ := fun (x : Int × PUnit) => (3 - x.1).toNat) ?_ ⟨by simp, by simp⟩ (by simp)
            rintro ⟨m, _⟩ rec4 ⟨m0, m1⟩ hrec4
            simp only at m0 m1
            simp only
            by_cases hm : m < 3
            · have hm' : m < ((3 : Nat) : Int) := hm
              have hR : ∃ x : Brd, [(addP p d, w, l.map (moveLeg d)), (rot p, w, l.map turnLeg), (p, w, l.reverse)].getD m.toNat (((0, 0, 0), 0, []) : Brd) = x ∧ (x = (addP p d, w, l.map (moveLeg d)) ∨ x = (rot p, w, l.map turnLeg) ∨ x = (p, w, l.reverse)) := by
                rcases (show m = 0 ∨ m = 1 ∨ m = 2 by omega) with rfl | rfl | rfl
                · exact ⟨_, rfl, .inl rfl⟩
                · exact ⟨_, rfl, .inr (.inl rfl)⟩
                · exact ⟨_, rfl, .inr (.inr rfl)⟩
              obtain ⟨x, hR, hx⟩ := hR
              simp only [hR]
              have hgo4 := hrec4 (m + 1, PUnit.unit) ⟨by simp only; omega, by simp only; omega⟩ (by simp only; omega)
              rw [decide_eq_true hm', cond_true, inB_of m0 hm', cond_true, refValid_ok, obind_some', wrap_id (x := m + 1) (by omega) (by omega)]
              cases hvx : validB x with
              | false => rw [Bool.not_false, cond_true]; exact hgo4
              | true =>
                have hxl : x.2.2.length ≤ 10 := by
                  obtain ⟨_, _, n2, _⟩ := validB_iff.1 hvx
                  omega
                obtain ⟨o1, o2⟩ := others hv hvx hx hj
                rw [Bool.not_true, cond_false, bTension_ok hxl, obind_some', o1, o2, hlen, obind_some']
                simp only [decide_true, Bool.and_self, Bool.not_true, Bool.not_false, cT, cF, Bool.or_true, Bool.false_or, Bool.true_or, Bool.or_false]
                exact hgo4
            · rw [decide_eq_false (show ¬ m < ((3 : Nat) : Int) from hm), cond_false]
              exact hgo
          · rw [decide_eq_false hk, cond_false]

theorem i16_range {n : Int} (h : Sh.wf (.int .i16) n) : -32768 ≤ n ∧ n < 32768 := by
  have h' : (decide (IntKind.i16.min ≤ n) && decide (n ≤ IntKind.i16.max)) = true := h
  rw [Bool.and_eq_true, decide_eq_true_eq, decide_eq_true_eq, show IntKind.i16.min = -32768 from rfl, show IntKind.i16.max = 32767 from rfl] at h'
  omega
theorem law6 : ∀ x : TsS [T26, .int .i16, .int .i16, .int .i16], wfs [T26, .int .i16, .int .i16, .int .i16] x → law18_BridleMoved x.1 x.2.1 x.2.2.1 x.2.2.2.1 = some true :=
  fun x h => law6_all (p := x.1.1) (w := x.1.2.1) (l := x.1.2.2) (d := (x.2.1, x.2.2.1, x.2.2.2.1)) ⟨i16_range h.2.1, i16_range h.2.2.1, i16_range h.2.2.2.1⟩

end Go.Proofs.Ytghjblbkbelcfaa
