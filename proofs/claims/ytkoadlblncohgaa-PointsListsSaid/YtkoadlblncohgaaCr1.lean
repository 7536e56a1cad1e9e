/- Chapter 9: the law PointsCovered. -/
import Derived.Test.YtkoadlblncohgaaIr1
import Derived.Test.YtkoadlblncohgaaGr1
namespace Go.Proofs.Ytkoadlblncohgaa
open Try Dn Dn.Sh

theorem wi_self (a : P) : wi a a a := by
  refine ⟨D_self a a, ?_, ?_⟩ <;> omega
theorem inS_own {a : P} {l : List P} (h : a ∈ l) : inS a l := .inl ⟨a, h, a, h, wi_self a⟩
theorem inS_mono {p : P} {l m : List P} (hs : ∀ q ∈ l, q ∈ m) (h : inS p l) : inS p m := by
  rcases h with ⟨a, ha, b, hb, h⟩ | ⟨a, ha, b, hb, c, hc, h⟩
  · exact .inl ⟨a, hs a ha, b, hs b hb, h⟩
  · exact .inr ⟨a, hs a ha, b, hs b hb, c, hs c hc, h⟩

/-- The point is a mean of the three others. -/
theorem bary (p a b c : P) : D b c p * (a.1 - p.1) + D c a p * (b.1 - p.1) + D a b p * (c.1 - p.1) = 0 := by
  unfold D
  grind

theorem tri_left {p a b c : P} (ha : a.1 < p.1) (hb : b.1 < p.1) (hc : c.1 < p.1) : ¬ tri p a b c := by
  have hs := bary p a b c
  rintro (⟨h1, h2, h3⟩ | ⟨h1, h2, h3⟩)
  · have e1 := Int.mul_neg_of_pos_of_neg h2 (show a.1 - p.1 < 0 by omega)
    have e2 := Int.mul_neg_of_pos_of_neg h3 (show b.1 - p.1 < 0 by omega)
    have e3 := Int.mul_neg_of_pos_of_neg h1 (show c.1 - p.1 < 0 by omega)
    omega
  · have e1 := Int.mul_pos_of_neg_of_neg h2 (show a.1 - p.1 < 0 by omega)
    have e2 := Int.mul_pos_of_neg_of_neg h3 (show b.1 - p.1 < 0 by omega)
    have e3 := Int.mul_pos_of_neg_of_neg h1 (show c.1 - p.1 < 0 by omega)
    omega
theorem inS_left {p : P} {l : List P} (h : ∀ q ∈ l, q.1 < p.1) : ¬ inS p l := by
  rintro (⟨a, ha, b, hb, _, hw, _⟩ | ⟨a, ha, b, hb, c, hc, ht⟩)
  · have := h a ha
    have := h b hb
    omega
  · exact tri_left (h a ha) (h b hb) (h c hc) ht

theorem insR_cases (p : P) (l : List P) : (insR p l = (decide (inS p l), 0, ()) ∧ l.all dec = true ∧ inP p ∧ l.length ≤ 20) ∨ (∃ e, insR p l = (false, e, ()) ∧ e ≠ 0 ∧ ((l ++ [p]).all dec = false ∧ e = 1 ∨ 20 < l.length)) := by
  unfold insR
  by_cases h : (l ++ [p]).all dec = false
  · rw [if_pos h]
    exact .inr ⟨1, rfl, by omega, .inl ⟨h, rfl⟩⟩
  · rw [if_neg h]
    have h' : (l ++ [p]).all dec = true := by simpa using h
    have ha : l.all dec = true := all_of h' fun q hq => List.mem_append_left _ hq
    rcases givenE_cases l with ⟨g, _, h2⟩ | ⟨_, g⟩ | ⟨g, _, h2⟩
    · rw [if_pos g]
      exact .inl ⟨rfl, ha, all_in h' (by simp), h2⟩
    · rw [ha] at g; cases g
    · rw [if_neg (by omega)]
      exact .inr ⟨givenE l, rfl, by omega, .inr h2⟩
theorem insR_ok {p : P} {l : List P} (h : l.all dec = true) (hp : inP p) (h2 : l.length ≤ 20) : insR p l = (decide (inS p l), 0, ()) := by
  unfold insR
  rw [if_neg (by simp only [List.all_append, h, Bool.true_and]; simp [dec, hp]), if_pos (givenE_ok h h2)]

theorem half_eq {a b : Int} (h1 : -1048576 ≤ a ∧ a ≤ 1048576) (h2 : -1048576 ≤ b ∧ b ≤ 1048576) : points_Between_1 a b 1 2 = some (a + (b - a) / 2) := by
  simp (disch := omega) only [points_Between_1, wrap_id, Int.one_mul, nzB_of, cond_true]
  have q : ∀ n : Int, -2097152 ≤ n → n ≤ 2097152 → (bif decide (Int.tmod n 2 < 0) then some (IntKind.wrap .i64 (a + IntKind.wrap .i64 (IntKind.wrap .i64 (Int.tdiv n 2) - 1))) else some (IntKind.wrap .i64 (a + IntKind.wrap .i64 (Int.tdiv n 2)))) = some (a + n / 2) := fun n g1 g2 => by
    rcases Int.le_total 0 n with h | h
    · rw [Int.tdiv_eq_ediv_of_nonneg h, Int.tmod_eq_emod_of_nonneg h]
      rw [decide_eq_false (by omega), cond_false]
      simp (disch := omega) only [wrap_id]
    · obtain ⟨m, rfl⟩ : ∃ m, n = -m := ⟨-n, by omega⟩
      rw [Int.neg_tdiv, Int.neg_tmod, Int.tdiv_eq_ediv_of_nonneg (by omega), Int.tmod_eq_emod_of_nonneg (by omega)]
      by_cases hm : m % 2 = 0
      · rw [decide_eq_false (by omega), cond_false]
        simp (disch := omega) only [wrap_id]
        congr 1; omega
      · rw [decide_eq_true (by omega), cond_true]
        simp (disch := omega) only [wrap_id]
        congr 1; omega
  exact q (b - a) (by omega) (by omega)

theorem mid_eq {a b : P} (ha : inP a) (hb : inP b) : points_Between a b 1 2 = some ((a.1 + (b.1 - a.1) / 2, a.2.1 + (b.2.1 - a.2.1) / 2, a.2.2 + (b.2.2 - a.2.2) / 2), 0, ()) := by
  have hab : [a, b].all dec = true := by simp [dec, ha, hb]
  simp only [points_Between, all_eq (l := [a, b]) (by simp), obind_some', hab, Bool.not_true, cond_false, not_or_self', or_self_not, Bool.and_self, cond_true]
  simp only [show decide ((2 : Int) < 1) = false from rfl, show decide ((2 : Int) > 1000) = false from rfl, show decide ((1 : Int) < 0) = false from rfl, cond_false, half_eq ha.1 hb.1, half_eq ha.2.1 hb.2.1, half_eq ha.2.2 hb.2.2, obind_some']

theorem mid_in {a b : P} {l : List P} (ha : a ∈ l) (hb : b ∈ l) (hx : (a.1 + b.1) % 2 = 0) (hy : (a.2.1 + b.2.1) % 2 = 0) : inS (a.1 + (b.1 - a.1) / 2, a.2.1 + (b.2.1 - a.2.1) / 2, a.2.2 + (b.2.2 - a.2.2) / 2) l := by
  refine .inl ⟨a, ha, b, hb, ?_, ?_, ?_⟩
  · unfold D
    simp only
    obtain ⟨u, hu⟩ : ∃ u, b.1 - a.1 = 2 * u := ⟨(b.1 - a.1) / 2, by omega⟩
    obtain ⟨v, hv⟩ : ∃ v, b.2.1 - a.2.1 = 2 * v := ⟨(b.2.1 - a.2.1) / 2, by omega⟩
    rw [hu, hv]
    rw [show (2 * u) / 2 = u by omega, show (2 * v) / 2 = v by omega]
    grind
  · simp only; omega
  · simp only; omega

theorem law_PointsCovered (p : P) (l : List P) (more : P) (i k : Int) (i0 : 0 ≤ i) (i1 : i ≤ 255) (k0 : 0 ≤ k) (k1 : k ≤ 255) : law09_PointsCovered p l more i k = some true := by
  unfold law09_PointsCovered
  simp only [awake_eq, obind_some', Bool.not_true, cond_false, not_or_self', or_self_not, cond_true]
  by_cases h11 : (l.length : Int) > 11
  · simp [h11]
  by_cases h00 : (l.length : Int) = 0
  · simp [h00]
  simp only [decide_eq_false h11, decide_eq_false h00, cond_false]
  have hlen : l.length ≤ 11 := by omega
  have hpos : 0 < l.length := by omega
  rw [inside_eq (by omega), obind_some']
  rcases insR_cases p l with ⟨hR, hall, hp, _⟩ | ⟨e, hR, he, _⟩
  rotate_left
  · simp [hR, he]
  simp only [hR, decide_true, Bool.not_true, cond_false]
  have hI : Int.tmod (IntKind.wrap .i64 i) l.length = i % l.length := by rw [wrap_id (by omega) (by omega), Int.tmod_eq_emod_of_nonneg i0]
  have hK : Int.tmod (IntKind.wrap .i64 k) l.length = k % l.length := by rw [wrap_id (by omega) (by omega), Int.tmod_eq_emod_of_nonneg k0]
  have hI0 := Int.emod_nonneg i (show (l.length : Int) ≠ 0 by omega)
  have hI1 := Int.emod_lt_of_pos i (show 0 < (l.length : Int) by omega)
  have hK0 := Int.emod_nonneg k (show (l.length : Int) ≠ 0 by omega)
  have hK1 := Int.emod_lt_of_pos k (show 0 < (l.length : Int) by omega)
  simp only [hI, hK]
  generalize i % (l.length : Int) = u at *
  generalize k % (l.length : Int) = v at *
  simp only [nzB_of (show (l.length : Int) ≠ 0 by omega), inB_of hI0 hI1, inB_of hK0 hK1, cond_true]
  have hu := getD_mem (l := l) (i := u.toNat) (by omega)
  have hv := getD_mem (l := l) (i := v.toNat) (by omega)
  generalize l.getD u.toNat z3 = a at *
  generalize l.getD v.toNat z3 = b at *
  have ha := all_in hall hu
  have hb := all_in hall hv
  rw [inside_eq (by omega), obind_some', insR_ok hall ha (by omega), decide_eq_true (inS_own hu)]
  simp only [decide_true, Bool.not_true, Bool.or_true, cond_true, cond_false, Bool.and_self]
  rw [wrap_id (x := a.1 + b.1) (by have := ha.1; have := hb.1; omega) (by have := ha.1; have := hb.1; omega), wrap_id (x := a.2.1 + b.2.1) (by have := ha.2.1; have := hb.2.1; omega) (by have := ha.2.1; have := hb.2.1; omega)]
  refine joinF_eq (fun _ => some true) (fun _ => ?_) ?_
  · rw [clone_eq (by omega), obind_some', fitB_of (by omega), cond_true, inside_eq (by simp; omega), obind_some']
    have hw : (bif (bif decide ((insR p (l ++ [more])).2.1 = 0) then decide (inS p l) else false) then !(insR p (l ++ [more])).1 else false) = false := by
      rcases insR_cases p (l ++ [more]) with ⟨hR2, _⟩ | ⟨e, hR2, he, _⟩
      · rw [hR2]
        by_cases hin : inS p l
        · simp [hin, inS_mono (m := l ++ [more]) (fun q hq => List.mem_append_left _ hq) hin]
        · simp [hin]
      · rw [hR2]
        simp [he]
    rw [hw, cond_false, inB_of (by omega) (by omega), cond_true]
    refine loopF_eq (g := fun _ => some true) (I := fun (x : Int × Int × PUnit) => 0 ≤ x.2.1 ∧ x.2.1 ≤ l.length ∧ (-1048576 ≤ x.1 ∧ x.1 ≤ 1048576) ∧ ∀ j : Nat, (j : Int) < x.2.1 → (l.getD j z3).1 ≤ x.1) (μ := fun (x : Int × Int × PUnit) => ((l.length : Int) - x.2.1).toNat) ?_
      ⟨by simp, by simp, (all_in hall (getD_mem hpos)).1, fun j h => by simp only at h; omega⟩ (by unfold K0; simp only; omega)
    rintro ⟨r, j, _⟩ rec ⟨j0, j1, hr, hmax⟩ hrec
    simp only at j0 j1 hr hmax ⊢
    by_cases hj : j < (l.length : Int)
    · simp only [decide_eq_true hj, cond_true, inB_of j0 hj]
      rw [wrap_id (by omega) (by omega)]
      have hm := (all_in hall (getD_mem (l := l) (i := j.toNat) (by omega))).1
      refine hrec ((if (l.getD j.toNat (0, 0, 0)).1 > r then (l.getD j.toNat (0, 0, 0)).1 else r), j + 1, ⟨⟩) ⟨by simp only; omega, by simp only; omega, by simp only; split <;> omega, fun j' h' => ?_⟩ (by simp only; omega)
      simp only at h' ⊢
      by_cases ej : (j' : Int) < j
      · have := hmax j' ej
        split <;> omega
      · have : j' = j.toNat := by omega
        subst this
        show (l.getD j.toNat (0, 0, 0)).1 ≤ _
        split <;> omega
    · simp only [decide_eq_false hj, cond_false]
      rw [wrap_id (by omega) (by omega), inside_eq (by omega), obind_some']
      have hno : ¬ inS (r + 1, p.2.1, 0) l := inS_left fun q hq => by
        obtain ⟨j', hj', rfl⟩ := List.getElem_of_mem hq
        have := hmax j' (by omega)
        rw [getD_nat hj'] at this
        simp only; omega
      by_cases hr1 : r = 1048576
      · have : insR (r + 1, p.2.1, 0) l = (false, 1, ()) := by
          unfold insR
          rw [if_pos]
          rw [Bool.eq_false_iff]
          intro h
          have := (all_in h (show (r + 1, p.2.1, 0) ∈ l ++ [(r + 1, p.2.1, 0)] by simp)).1
          simp only at this
          omega
        rw [this]
        simp [hr1]
      · rw [insR_ok hall (⟨by simp only; omega, hp.2.1, by simp⟩ : inP (r + 1, p.2.1, 0)) (by omega), decide_eq_false hno]
        simp
  · by_cases hx : Int.tmod (a.1 + b.1) 2 = 0
    · by_cases hy : Int.tmod (a.2.1 + b.2.1) 2 = 0
      · simp only [hx, hy, decide_true, cond_true]
        have hmid : inP (a.1 + (b.1 - a.1) / 2, a.2.1 + (b.2.1 - a.2.1) / 2, a.2.2 + (b.2.2 - a.2.2) / 2) := by
          unfold inP at *
          simp only
          omega
        rw [mid_eq ha hb, obind_some', inside_eq (by omega), obind_some', insR_ok hall hmid (by omega), decide_eq_true (mid_in hu hv (by have := Int.mul_tdiv_add_tmod (a.1 + b.1) 2; omega) (by have := Int.mul_tdiv_add_tmod (a.2.1 + b.2.1) 2; omega))]
        simp
      · simp [hx, hy]
    · simp [hx]

theorem law7 : ∀ x : TsS [T23, (.sl T23), T23, (.int .u8), (.int .u8)], wfs [T23, (.sl T23), T23, (.int .u8), (.int .u8)] x → law09_PointsCovered x.1 x.2.1 x.2.2.1 x.2.2.2.1 x.2.2.2.2.1 = some true := fun _ h =>
  law_PointsCovered _ _ _ _ _ (u8_wf h.2.2.2.1).1 (u8_wf h.2.2.2.1).2 (u8_wf h.2.2.2.2.1).1 (u8_wf h.2.2.2.2.1).2

end Go.Proofs.Ytkoadlblncohgaa
