/- Chapter 9: the law PointsTurns. -/
import Derived.Test.YtkoadlblncohgaaCr1
namespace Go.Proofs.Ytkoadlblncohgaa
open Try Dn Dn.Sh

def turnR (a b c : P) : Int × Int × Unit := if dec a && dec b && dec c then (sg (D a b c), 0, ()) else (0, 1, ())
theorem Turn_eq (a b c : P) : points_Turn a b c = some (turnR a b c) := by
  unfold points_Turn turnR
  rw [all_eq (by simp), obind_some']
  simp only [List.all_cons, List.all_nil, Bool.and_true]
  by_cases h : (dec a && dec b && dec c) = true
  · have h' : (dec a && (dec b && dec c)) = true := by rw [← Bool.and_assoc]; exact h
    simp only [Bool.and_eq_true] at h
    rw [h', if_pos (by simp [h.1.1, h.1.2, h.2]), turn_eq (dec_iff.1 h.1.1) (dec_iff.1 h.1.2) (dec_iff.1 h.2)]
    rfl
  · have h' : (dec a && (dec b && dec c)) = false := by rw [← Bool.and_assoc]; simpa using h
    rw [h', if_neg h]
    rfl

theorem D_rot (a b c : P) : D b c a = D a b c := by unfold D; grind
theorem D_flip (a b c : P) : D b a c = - D a b c := by unfold D; grind
theorem sg_neg (n : Int) : sg (-n) = - sg n := by unfold sg; repeat' split; all_goals omega
theorem sg_in (n : Int) : -1 ≤ sg n ∧ sg n ≤ 1 := by unfold sg; repeat' split; all_goals omega

/-- A point, moved. -/
def mv (d p : P) : P := (p.1 + d.1, p.2.1 + d.2.1, p.2.2 + d.2.2)
theorem mv_eq {d p : P} (hp : inP p) (hd : inP d) : law09_PointsTurns_1 p d = some (mv d p) := by
  unfold inP at hp hd
  simp (disch := omega) only [law09_PointsTurns_1, wrap_id, mv]
theorem sub_mv (d p q : P) : sub (mv d p) (mv d q) = sub p q := by
  rw [eq3]; simp only [sub, mv]; omega
theorem D_mv (d a b c : P) : D (mv d a) (mv d b) (mv d c) = D a b c := by
  simp only [D, mv]; grind
def sqW (u : P) : Int := IntKind.wrap .i64 (IntKind.wrap .i64 (IntKind.wrap .i64 (u.1 * u.1) + IntKind.wrap .i64 (u.2.1 * u.2.1)) + IntKind.wrap .i64 (u.2.2 * u.2.2))
theorem square_eq {p q : P} (hp : inP p) (hq : inP q) : points_Square p q = some (sqW (sub p q), 0, ()) := by
  have h1 : [p, q].all dec = true := by simp [dec, hp, hq]
  unfold points_Square
  rw [all_eq (by simp), obind_some', h1, Bool.not_true, cond_false, to_eq hp hq, obind_some']
  rfl

theorem flatO_mv {d o : P} {l : List P} : flatO (mv d o) (l.map (mv d)) ↔ flatO o l := by
  unfold flatO
  simp only [List.forall_mem_map, sub_mv]
theorem wi_mv {d p a b : P} : wi (mv d p) (mv d a) (mv d b) ↔ wi p a b := by
  unfold wi
  rw [D_mv]
  simp only [mv]
  omega
theorem tri_mv {d p a b c : P} : tri (mv d p) (mv d a) (mv d b) (mv d c) ↔ tri p a b c := by
  unfold tri
  simp only [D_mv]
theorem ex_map {α β : Type} {f : α → β} {l : List α} {q : β → Prop} : (∃ b ∈ l.map f, q b) ↔ ∃ a ∈ l, q (f a) :=
  ⟨fun ⟨b, hb, hq⟩ => by obtain ⟨a, ha, rfl⟩ := List.mem_map.1 hb; exact ⟨a, ha, hq⟩, fun ⟨a, ha, hq⟩ => ⟨f a, List.mem_map_of_mem ha, hq⟩⟩
theorem inS_mv {d p : P} {l : List P} : inS (mv d p) (l.map (mv d)) ↔ inS p l := by
  unfold inS
  simp only [ex_map, wi_mv, tri_mv]

theorem mv_all {d : P} {l : List P} (h : ∀ p ∈ l, inP (mv d p)) : (l.map (mv d)).all dec = true := by
  rw [List.all_eq_true]
  intro q hq
  obtain ⟨p, hp, rfl⟩ := List.mem_map.1 hq
  exact dec_iff.2 (h p hp)

theorem law_PointsTurns (a b c d : P) (l : List P) : law09_PointsTurns a b c d l = some true := by
  unfold law09_PointsTurns
  simp only [awake_eq, obind_some', Bool.not_true, cond_false]
  by_cases h12 : (l.length : Int) > 12
  · simp [h12]
  simp only [decide_eq_false h12, cond_false]
  have hlen : l.length ≤ 12 := by omega
  simp only [Turn_eq, obind_some', not_or_self', or_self_not, Bool.and_self, cond_true]
  by_cases hv : (dec a && dec b && dec c) = true
  rotate_left
  · have e1 : turnR a b c = (0, 1, ()) := by unfold turnR; rw [if_neg hv]
    have e2 : turnR b c a = (0, 1, ()) := by unfold turnR; rw [if_neg (by rw [Bool.and_comm, ← Bool.and_assoc]; exact hv)]
    have e3 : turnR b a c = (0, 1, ()) := by unfold turnR; rw [if_neg (by rw [Bool.and_comm (dec b)]; exact hv)]
    rw [e1, e2, e3]
    simp [show IntKind.wrap .i64 0 = 0 from rfl, obind_some']
  · have hva : inP a ∧ inP b ∧ inP c := by
      simp only [Bool.and_eq_true, dec_iff] at hv
      exact ⟨hv.1.1, hv.1.2, hv.2⟩
    obtain ⟨ha, hb, hc⟩ := hva
    have e1 : turnR a b c = (sg (D a b c), 0, ()) := by unfold turnR; rw [if_pos hv]
    have e2 : turnR b c a = (sg (D a b c), 0, ()) := by unfold turnR; rw [if_pos (by rw [Bool.and_comm, ← Bool.and_assoc]; exact hv), D_rot]
    have e3 : turnR b a c = (- sg (D a b c), 0, ()) := by unfold turnR; rw [if_pos (by rw [Bool.and_comm (dec b)]; exact hv), D_flip, sg_neg]
    have hs := sg_in (D a b c)
    rw [e1, e2, e3, wrap_id (x := 0 - sg (D a b c)) (by omega) (by omega)]
    simp only [decide_true, Bool.not_true, Bool.not_false, cond_false, cond_true, show decide (- sg (D a b c) = 0 - sg (D a b c)) = true from decide_eq_true (by omega), valid_eq, obind_some']
    by_cases hd : inP d
    rotate_left
    · simp [dec, hd]
    simp only [dec_iff.2 hd, Bool.not_true, cond_false, mv_eq ha hd, mv_eq hb hd, mv_eq hc hd, obind_some']
    by_cases ma : inP (mv d a)
    rotate_left
    · simp [dec, ma, obind_some']
    simp only [dec_iff.2 ma, Bool.not_true, Bool.not_false, cond_false, cond_true, obind_some']
    by_cases mb : inP (mv d b)
    rotate_left
    · simp [dec, mb, obind_some']
    simp only [dec_iff.2 mb, Bool.not_true, Bool.not_false, cond_false, cond_true, obind_some']
    by_cases mc : inP (mv d c)
    rotate_left
    · simp [dec, mc]
    have e4 : turnR (mv d a) (mv d b) (mv d c) = (sg (D a b c), 0, ()) := by
      unfold turnR
      rw [if_pos (by simp [dec_iff.2 ma, dec_iff.2 mb, dec_iff.2 mc]), D_mv]
    simp only [dec_iff.2 mc, Bool.not_true, cond_false, e4, decide_true, square_eq ha hb, square_eq ma mb, sub_mv, obind_some']
    refine loopF_eq (g := fun _ => some true) (I := fun (x : List P × Int × PUnit) => 0 ≤ x.2.1 ∧ x.2.1 ≤ l.length ∧ x.1 = (l.take x.2.1.toNat).map (mv d) ∧ ∀ p ∈ l.take x.2.1.toNat, inP p ∧ inP (mv d p))
      (μ := fun (x : List P × Int × PUnit) => ((l.length : Int) - x.2.1).toNat) ?_ ⟨by simp, by simp, by simp, by simp⟩ (by unfold K0; simp only; omega)
    rintro ⟨m, i, _⟩ rec ⟨i0, i1, hm, hall⟩ hrec
    simp only at i0 i1 hm hall ⊢
    by_cases hi : i < (l.length : Int)
    · have hn : i.toNat < l.length := by omega
      have ht : l.take (i + 1).toNat = l.take i.toNat ++ [l.getD i.toNat (0, 0, 0)] := by
        rw [show (i + 1).toNat = i.toNat + 1 by omega, List.take_add_one, List.getElem?_eq_getElem hn, getD_nat hn]
        rfl
      simp only [decide_eq_true hi, cond_true, inB_of i0 hi]
      by_cases hp : inP (l.getD i.toNat (0, 0, 0))
      rotate_left
      · simp only [show dec (l.getD i.toNat (0, 0, 0)) = false from by simpa [dec] using hp, Bool.not_false, cond_true]
      simp only [dec_iff.2 hp, Bool.not_true, cond_false, mv_eq hp hd, obind_some']
      by_cases hp' : inP (mv d (l.getD i.toNat (0, 0, 0)))
      rotate_left
      · simp only [show dec (mv d (l.getD i.toNat (0, 0, 0))) = false from by simpa [dec] using hp', Bool.not_false, cond_true]
      have hml : m.length = i.toNat := by rw [hm]; simp; omega
      simp only [dec_iff.2 hp', Bool.not_true, cond_false, fitB_of (show (m.length + 1) * 24 ≤ 140737488355328 by omega), cond_true]
      rw [wrap_id (by omega) (by omega)]
      refine hrec (m ++ [mv d (l.getD i.toNat (0, 0, 0))], i + 1, ⟨⟩) ⟨by simp only; omega, by simp only; omega, ?_, fun p hq => ?_⟩ (by simp only; omega)
      · simp only [ht, List.map_append, hm, List.map_cons, List.map_nil]
      · simp only [ht] at hq
        rcases List.mem_append.1 hq with hq | hq
        · exact hall p hq
        · simp only [List.mem_singleton] at hq
          subst hq
          exact ⟨hp, hp'⟩
    · have ht : l.take i.toNat = l := List.take_of_length_le (by omega)
      rw [ht] at hm hall
      subst hm
      have hl1 : l.all dec = true := List.all_eq_true.2 fun p hp => dec_iff.2 (hall p hp).1
      have hl2 := mv_all (d := d) (l := l) fun p hp => (hall p hp).2
      simp only [decide_eq_false hi, cond_false]
      rw [flat_eq (by omega), obind_some', flat_eq (by simp; omega), obind_some', inside_eq (by omega), obind_some', inside_eq (by simp; omega), obind_some']
      rw [flatR_ok hl1 (by omega), flatR_ok hl2 (by simp; omega), insR_ok hl1 ha (by omega), insR_ok hl2 ma (by simp; omega)]
      have ef : decide (flatO ((l.map (mv d)).getD 0 z3) (l.map (mv d))) = decide (flatO (l.getD 0 z3) l) := by
        cases l with
        | nil => simp [flatO]
        | cons p l =>
          have := flatO_mv (d := d) (o := p) (l := p :: l)
          simp only [List.map_cons, List.getD_cons_zero] at this ⊢
          rw [Bool.eq_iff_iff, decide_eq_true_iff, decide_eq_true_iff]
          exact this
      have ei : decide (inS (mv d a) (l.map (mv d))) = decide (inS a l) := by
        rw [Bool.eq_iff_iff, decide_eq_true_iff, decide_eq_true_iff]
        exact inS_mv
      simp only [ef, ei, decide_true, cond_true]

theorem law9 : ∀ x : TsS [T23, T23, T23, T23, (.sl T23)], wfs [T23, T23, T23, T23, (.sl T23)] x → law09_PointsTurns x.1 x.2.1 x.2.2.1 x.2.2.2.1 x.2.2.2.2.1 = some true := fun _ _ => law_PointsTurns _ _ _ _ _

end Go.Proofs.Ytkoadlblncohgaa
