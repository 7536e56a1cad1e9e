/- Chapter 9: the law PointsFlat. -/
import Derived.Test.YtkoadlblncohgaaFr1
namespace Go.Proofs.Ytkoadlblncohgaa
open Try Dn Dn.Sh

theorem flatR_ok {l : List P} (h : l.all dec = true) (h2 : l.length ≤ 20) : flatR l = (decide (flatO (l.getD 0 z3) l), 0, ()) := by
  unfold flatR
  rw [if_pos (givenE_ok h h2)]

theorem flat_take {l : List P} {k : Nat} (h : flatO (l.getD 0 z3) l) : flatO ((l.take k).getD 0 z3) (l.take k) := by
  cases k with
  | zero => intro a ha; simp at ha
  | succ k =>
    cases l with
    | nil => intro a ha; simp at ha
    | cons p l => exact flat_sub (fun q hq => List.mem_of_mem_take hq) h

theorem law_PointsFlat (l : List P) (z cut : Int) (h0 : 0 ≤ cut) (h1 : cut ≤ 255) : law09_PointsFlat l z cut = some true := by
  unfold law09_PointsFlat
  simp only [awake_eq, obind_some', Bool.not_true, cond_false]
  by_cases h12 : (l.length : Int) > 12
  · simp [h12]
  simp only [decide_eq_false h12, cond_false]
  have hlen : l.length ≤ 12 := by omega
  rw [flat_eq (by omega), obind_some']
  rcases givenE_cases l with ⟨hg, hall, _⟩ | ⟨hg, _⟩ | ⟨hg, _⟩
  rotate_left
  · simp [flatR, hg]
  · simp [flatR, hg]
  rw [clone_eq (by omega), obind_some']
  have hR := flatR_ok hall (by omega)
  simp only [hR, decide_true, Bool.not_true, cond_false]
  rw [wrap_id (x := (l.length : Int) - 1) (by omega) (by omega)]
  refine loopF_eq (g := fun _ => some true) (I := fun (x : Int × Int × List P × PUnit) => 0 ≤ x.1 ∧ -1 ≤ x.2.1 ∧ x.2.1 < l.length ∧ x.2.2.1.length = l.length ∧ ∀ p, p ∈ x.2.2.1 ↔ p ∈ l) (μ := fun (x : Int × Int × List P × PUnit) => (x.2.1 - x.1).toNat) ?_
    ⟨by simp, by simp only; omega, by simp only; omega, rfl, fun p => Iff.rfl⟩ (by unfold K0; simp only; omega)
  rintro ⟨i, j, t, _⟩ rec ⟨hi, hj, hjl, htl, hmem⟩ hrec
  simp only at hi hj hjl htl hmem ⊢
  by_cases hij : i < j
  · simp only [decide_eq_true hij, cond_true, inB_of hi (show i < t.length by omega), inB_of (show 0 ≤ j by omega) (show j < t.length by omega), ble_of (show Nat.succ (Int.toNat i) ≤ t.length by omega), ble_of (show Nat.succ (Int.toNat j) ≤ t.length by omega)]
    rw [wrap_id (by omega) (by omega), wrap_id (by omega) (by omega)]
    refine hrec (i + 1, j - 1, (t.set i.toNat (t.getD j.toNat (0, 0, 0))).set j.toNat (t.getD i.toNat (0, 0, 0)), ⟨⟩) ⟨by simp only; omega, by simp only; omega, by simp only; omega, by simp [htl], fun p => ?_⟩ (by simp only; omega)
    rw [← hmem p]
    exact mem_swap (by omega) (by omega) p
  simp only [decide_eq_false hij, cond_false]
  rw [flat_eq (by omega), obind_some', same_flatR hmem htl, hR]
  have hv4 : IntKind.wrap .i64 ((l.length : Int) + 1) = l.length + 1 := wrap_id (by omega) (by omega)
  have hv5 : Int.tmod (IntKind.wrap .i64 cut) ((l.length : Int) + 1) = cut % (l.length + 1) := by
    rw [wrap_id (by omega) (by omega), Int.tmod_eq_emod_of_nonneg h0]
  have hm0 : 0 ≤ cut % ((l.length : Int) + 1) := Int.emod_nonneg _ (by omega)
  have hm1 : cut % ((l.length : Int) + 1) < l.length + 1 := Int.emod_lt_of_pos _ (by omega)
  simp only [hv4, hv5]
  generalize hk : cut % ((l.length : Int) + 1) = k at *
  generalize h3 : (if (l.length : Int) < 3 then (l.length : Int) else 3) = th
  have hth : 0 ≤ th ∧ th ≤ l.length ∧ th ≤ 3 := by split at h3 <;> omega
  simp only [nzB_of (show (l.length : Int) + 1 ≠ 0 by omega), slB_of (show (0 : Int) ≤ 0 by omega) hm0 (show k ≤ l.length by omega), slB_of (show (0 : Int) ≤ 0 by omega) hth.1 hth.2.1, cond_true, List.drop_zero]
  have hp : flatR (l.take k.toNat) = (decide (flatO ((l.take k.toNat).getD 0 z3) (l.take k.toNat)), 0, ()) := flatR_ok (all_of hall fun p hp => List.mem_of_mem_take hp) (by simp; omega)
  have hq : flatR (l.take th.toNat) = (true, 0, ()) := by
    rw [flatR_ok (all_of hall fun p hp => List.mem_of_mem_take hp) (by simp; omega), decide_eq_true (flat_three (by simp; omega))]
  rw [flat_eq (by simp; omega), obind_some', hp, flat_eq (by simp; omega), obind_some', hq]
  have hpart : decide (flatO (l.getD 0 z3) l) = true → decide (flatO ((l.take k.toNat).getD 0 z3) (l.take k.toNat)) = true := fun h => decide_eq_true (flat_take (of_decide_eq_true h))
  generalize decide (flatO (l.getD 0 z3) l) = A at *
  generalize decide (flatO ((l.take k.toNat).getD 0 z3) (l.take k.toNat)) = B at *
  have hAB : (bif A then !B else false) = false := by
    cases A with
    | false => rfl
    | true => rw [hpart rfl]; rfl
  simp only [decide_true, Bool.not_true, Bool.not_false, Bool.or_true, Bool.true_and, cond_true, cond_false, hAB, Bool.false_or, Bool.and_self, not_or_self', or_self_not]
  refine loopF_eq (g := fun _ => some true) (I := fun (x : Int × List P × PUnit) => 0 ≤ x.1 ∧ x.1 ≤ t.length ∧ x.2.1.length = t.length ∧ ∀ k : Nat, k < t.length → (inP (x.2.1.getD k z3) ∨ (k : Int) < x.1 ∧ (x.2.1.getD k z3).2.2 = z ∧ inP ((x.2.1.getD k z3).1, (x.2.1.getD k z3).2.1, 0)) ∧ ((k : Int) < x.1 → (x.2.1.getD k z3).2.2 = z))
    (μ := fun (x : Int × List P × PUnit) => ((t.length : Int) - x.1).toNat) ?_ ⟨by simp, by simp, rfl, fun k hk => ⟨.inl ?_, fun h => by simp only at h; omega⟩⟩ (by unfold K0; simp only; omega)
  rotate_left
  · exact all_in hall ((hmem _).1 (getD_mem hk))
  rintro ⟨i2, m, _⟩ rec2 ⟨q0, q1, hml, hmm⟩ hrec2
  simp only at q0 q1 hml hmm ⊢
  by_cases hi2 : i2 < (t.length : Int)
  · simp only [decide_eq_true hi2, cond_true, inB_of q0 (show i2 < m.length by omega), ble_of (show Nat.succ (Int.toNat i2) ≤ m.length by omega)]
    rw [wrap_id (by omega) (by omega)]
    refine hrec2 (i2 + 1, m.set i2.toNat ((m.getD i2.toNat (0, 0, 0)).1, (m.getD i2.toNat (0, 0, 0)).2.1, z), ⟨⟩) ⟨by simp only; omega, by simp only; omega, by simp [hml], fun k hk => ?_⟩ (by simp only; omega)
    have hk' := hmm k hk
    simp only
    by_cases e : k = i2.toNat
    · subst e
      rw [lget_set_self (show i2.toNat < m.length by omega)]
      refine ⟨.inr ⟨by omega, rfl, ?_⟩, fun _ => rfl⟩
      rcases hk'.1 with h | h
      · obtain ⟨ha, hb, hc⟩ := h
        exact ⟨ha, hb, by simp⟩
      · exact h.2.2
    · rw [lget_set_ne (show i2.toNat ≠ k by omega)]
      refine ⟨hk'.1.imp id fun h => ⟨by omega, h.2⟩, fun h => hk'.2 (by omega)⟩
  simp only [decide_eq_false hi2, cond_false]
  have hall2 : ∀ p ∈ m, p.2.2 = z ∧ inP (p.1, p.2.1, 0) := fun p hp => by
    obtain ⟨k, hk, rfl⟩ := List.getElem_of_mem hp
    have h := hmm k (by omega)
    rw [getD_nat hk] at h
    refine ⟨h.2 (by omega), ?_⟩
    rcases h.1 with h | h
    · exact ⟨h.1, h.2.1, by simp⟩
    · exact h.2.2
  rw [flat_eq (by omega), obind_some']
  by_cases hpos : 0 < l.length
  · have hmem0 := getD_mem (l := m) (i := 0) (by omega)
    by_cases hz : -1048576 ≤ z ∧ z ≤ 1048576
    · have hmd : m.all dec = true := List.all_eq_true.2 fun p hp => by
        obtain ⟨e, h1, h2, _⟩ := hall2 p hp
        rw [dec_iff]
        exact ⟨h1, h2, by rw [e]; exact hz⟩
      rw [flatR_ok hmd (by omega), decide_eq_true (flat_level (z := z) (hall2 _ hmem0).1 fun p hp => (hall2 p hp).1)]
      simp
    · have hmd : m.all dec = false := by
        rw [Bool.eq_false_iff]
        intro h
        have := all_in h hmem0
        obtain ⟨_, _, h3⟩ := this
        rw [(hall2 _ hmem0).1] at h3
        exact hz h3
      have hg : givenE m = 1 := by unfold givenE; rw [hmd]; rfl
      have hf : flatR m = (false, 1, ()) := by unfold flatR; rw [hg]; rfl
      rw [hf]
      have hzz : z < -1048576 ∨ z > 1048576 := by omega
      rcases hzz with h | h
      · simp [h, hpos]
      · have h' : ¬ z < -1048576 := by omega
        simp [h, h', hpos]
  · have e2 : m = [] := List.length_eq_zero_iff.1 (by omega)
    subst e2
    rw [flatR_ok (by rfl) (by simp), decide_eq_true (show flatO _ [] from fun a ha => by cases ha)]
    simp

theorem u8_wf {n : Int} (h : Sh.wf (.int .u8) n) : 0 ≤ n ∧ n ≤ 255 := by
  have h : (Lit.int .u8 n).wf = true := h
  simp [Lit.wf, IntKind.min, IntKind.max, IntKind.signed, IntKind.bits] at h
  omega
theorem law6 : ∀ x : TsS [(.sl T23), i64, (.int .u8)], wfs [(.sl T23), i64, (.int .u8)] x → law09_PointsFlat x.1 x.2.1 x.2.2.1 = some true := fun _ h => law_PointsFlat _ _ _ (u8_wf h.2.2.1).1 (u8_wf h.2.2.1).2

end Go.Proofs.Ytkoadlblncohgaa
