/- Chapter 9: what the functions answer, plainly. -/
import Derived.Test.YtkoadlblncohgaaEr1
import Derived.Test.YtkoadlblncohgaaDnX
namespace Go.Proofs.Ytkoadlblncohgaa
open Try Dn Dn.Sh

abbrev P := Int × Int × Int
def inP (p : P) : Prop := (-1048576 ≤ p.1 ∧ p.1 ≤ 1048576) ∧ (-1048576 ≤ p.2.1 ∧ p.2.1 ≤ 1048576) ∧ (-1048576 ≤ p.2.2 ∧ p.2.2 ≤ 1048576)
instance (p : P) : Decidable (inP p) := by unfold inP; infer_instance
def dec (p : P) : Bool := decide (inP p)

theorem valid_eq (p : P) : points_Valid p = some (dec p) := by
  simp only [points_Valid, not_or_self', Bool.and_self, cond_true]
  congr 1
  rw [Bool.eq_iff_iff]
  simp only [dec, bif_false', Bool.and_eq_true, decide_eq_true_eq]
  unfold inP
  simp only [ite_max, ite_min, Int.max_le, Int.le_min, ge_iff_le]
  omega

theorem all1_eq (p : P) : points_all_1 p = some (!dec p) := by
  simp only [points_all_1, valid_eq, obind_some']

theorem index_eq {l : List P} {f0 : P × PUnit → Option Bool} {f : P → Bool} (hl : l.length ≤ 1152921504606846976) (hf : ∀ p ∈ l, f0 (p, ⟨⟩) = some (f p)) :
    slices_IndexFunc_48 l f0 = some (match l.findIdx? f with | some i => (i : Int) | none => -1) := by
  unfold slices_IndexFunc_48
  rw [show ((0 : Int), PUnit.unit) = (fun (i : Nat) (s : PUnit) => ((i : Int), s)) 0 PUnit.unit from rfl, loopF_up l.length (by omega) (fun i s => ((i : Int), s)) (fun i _ k => bif f (l.getD i (0, 0, 0)) then some (i : Int) else k ⟨⟩) (fun _ => some (-1))
    (fun again i s hi => by
      simp only [decide_eq_true (show (i : Int) < (l.length : Int) by omega), cond_true, inB_of (show (0 : Int) ≤ i by omega) (show (i : Int) < l.length by omega), Int.toNat_natCast, hf _ (show l.getD i (0, 0, 0) ∈ l by rw [getD_nat hi]; exact List.getElem_mem _), obind_some']
      rw [wrap_id (by omega) (by omega)]
      rfl)
    (fun again s => by simp)]
  rw [upF_findR (p := fun i => f (l.getD i (0, 0, 0))) (r := fun i => some (i : Int)) l.length (fun i k _ => rfl) l.length 0 (by omega)]
  have key : ∀ (m : List P) (a : Nat), (∀ j (h : j < m.length), l.getD (a + j) (0, 0, 0) = m[j]) →
      (match (List.range' a m.length).find? (fun i => f (l.getD i (0, 0, 0))) with | some j => some (j : Int) | none => some (-1)) = some (match m.findIdx? f with | some i => ((a + i : Nat) : Int) | none => -1) := by
    intro m
    induction m with
    | nil => intro a _; rfl
    | cons x m ih =>
      intro a h
      have h0 := h 0 (by simp)
      simp only [Nat.add_zero, List.getElem_cons_zero] at h0
      simp only [List.length_cons, List.range'_succ, List.find?_cons, h0, List.findIdx?_cons]
      cases hx : f x with
      | true => simp
      | false =>
        have := ih (a + 1) fun j hj => by
          have := h (j + 1) (by simpa using hj)
          simpa [Nat.add_assoc, Nat.add_comm 1 j] using this
        simp only [Bool.false_eq_true, if_false]
        rw [this]
        cases m.findIdx? f with
        | none => rfl
        | some i =>
          show some (((a + 1 + i : Nat) : Int)) = some (((a + (i + 1) : Nat) : Int))
          rw [Nat.add_assoc, Nat.add_comm 1]
  have := key l 0 fun j h => by simp [List.getD, h]
  simp only [Nat.zero_add] at this
  exact this

theorem contains_eq {l : List P} {f0 : P × PUnit → Option Bool} {f : P → Bool} (hl : l.length ≤ 1152921504606846976) (hf : ∀ p ∈ l, f0 (p, ⟨⟩) = some (f p)) :
    slices_ContainsFunc_39 l f0 = some (l.any f) := by
  unfold slices_ContainsFunc_39
  rw [index_eq hl hf, obind_some']
  congr 1
  cases h : l.findIdx? f with
  | none =>
    rw [List.findIdx?_eq_none_iff] at h
    have : l.any f = false := by simpa using h
    rw [this]; rfl
  | some i =>
    obtain ⟨hi, hp, _⟩ := List.findIdx?_eq_some_iff_getElem.1 h
    have : l.any f = true := List.any_eq_true.2 ⟨_, List.getElem_mem hi, hp⟩
    rw [this]
    simp

theorem all_eq {l : List P} (hl : l.length ≤ 1152921504606846976) : points_all l = some (l.all dec) := by
  unfold points_all
  rw [contains_eq (f := fun p => !dec p) hl (fun p _ => all1_eq p), obind_some']
  congr 1
  rw [Bool.eq_iff_iff]; simp

theorem wsub {a b : Int} (h1 : -2097152 ≤ a ∧ a ≤ 2097152) (h2 : -2097152 ≤ b ∧ b ≤ 2097152) : IntKind.wrap .i64 (a - b) = a - b := wrap_id (by omega) (by omega)

/-- The way from a to b. -/
def sub (a b : P) : P := (b.1 - a.1, b.2.1 - a.2.1, b.2.2 - a.2.2)
/-- A difference of two points. -/
def inD (p : P) : Prop := (-2097152 ≤ p.1 ∧ p.1 ≤ 2097152) ∧ (-2097152 ≤ p.2.1 ∧ p.2.1 ≤ 2097152) ∧ (-2097152 ≤ p.2.2 ∧ p.2.2 ≤ 2097152)
theorem sub_in {a b : P} (ha : inP a) (hb : inP b) : inD (sub a b) := by unfold inP at ha hb; unfold inD sub; simp only; omega
theorem to_eq {a b : P} (ha : inP a) (hb : inP b) : points_to a b = some (sub a b) := by
  unfold inP at ha hb
  simp only [points_to, sub]
  rw [wrap_id (by omega) (by omega), wrap_id (by omega) (by omega), wrap_id (by omega) (by omega)]

theorem mul_bound {a b m n : Int} (h1 : -m ≤ a) (h2 : a ≤ m) (h3 : -n ≤ b) (h4 : b ≤ n) : -(m * n) ≤ a * b ∧ a * b ≤ m * n := by
  have e : (a * b).natAbs ≤ m.natAbs * n.natAbs := by
    rw [Int.natAbs_mul]
    exact Nat.mul_le_mul (by omega) (by omega)
  have e2 : ((m.natAbs * n.natAbs : Nat) : Int) = m * n := by
    rw [Int.natCast_mul, Int.natAbs_of_nonneg (by omega), Int.natAbs_of_nonneg (by omega)]
  omega

/-- The product of two ways. -/
def crs (u v : P) : P := (u.2.1 * v.2.2 - u.2.2 * v.2.1, u.2.2 * v.1 - u.1 * v.2.2, u.1 * v.2.1 - u.2.1 * v.1)
def inC (p : P) : Prop := (-8796093022208 ≤ p.1 ∧ p.1 ≤ 8796093022208) ∧ (-8796093022208 ≤ p.2.1 ∧ p.2.1 ≤ 8796093022208) ∧ (-8796093022208 ≤ p.2.2 ∧ p.2.2 ≤ 8796093022208)
theorem crs_in {u v : P} (hu : inD u) (hv : inD v) : inC (crs u v) := by
  obtain ⟨⟨a1, a2⟩, ⟨a3, a4⟩, a5, a6⟩ := hu
  obtain ⟨⟨b1, b2⟩, ⟨b3, b4⟩, b5, b6⟩ := hv
  have e1 := mul_bound a3 a4 b5 b6
  have e2 := mul_bound a5 a6 b3 b4
  have e3 := mul_bound a5 a6 b1 b2
  have e4 := mul_bound a1 a2 b5 b6
  have e5 := mul_bound a1 a2 b3 b4
  have e6 := mul_bound a3 a4 b1 b2
  unfold inC crs
  simp only
  omega
theorem cross_eq {u v : P} (hu : inD u) (hv : inD v) : points_cross u v = some (crs u v) := by
  have hc := crs_in hu hv
  obtain ⟨⟨a1, a2⟩, ⟨a3, a4⟩, a5, a6⟩ := hu
  obtain ⟨⟨b1, b2⟩, ⟨b3, b4⟩, b5, b6⟩ := hv
  have e1 := mul_bound a3 a4 b5 b6
  have e2 := mul_bound a5 a6 b3 b4
  have e3 := mul_bound a5 a6 b1 b2
  have e4 := mul_bound a1 a2 b5 b6
  have e5 := mul_bound a1 a2 b3 b4
  have e6 := mul_bound a3 a4 b1 b2
  simp (disch := omega) only [points_cross, crs, wrap_id]

def dot (u v : P) : Int := u.1 * v.1 + u.2.1 * v.2.1 + u.2.2 * v.2.2

theorem upright_eq {u n : P} (hu : inD u) (hn : inC n) : points_upright u n = some (decide (dot u n = 0)) := by
  obtain ⟨⟨a1, a2⟩, ⟨a3, a4⟩, a5, a6⟩ := hu
  obtain ⟨⟨b1, b2⟩, ⟨b3, b4⟩, b5, b6⟩ := hn
  obtain ⟨u1, u2, u3⟩ := u
  obtain ⟨n1, n2, n3⟩ := n
  simp only at *
  have q : ∀ {n : Int}, -8796093022208 ≤ n → n ≤ 8796093022208 → -2097152 ≤ Int.tdiv n 4194304 ∧ Int.tdiv n 4194304 ≤ 2097152 ∧ -4194303 ≤ Int.tmod n 4194304 ∧ Int.tmod n 4194304 ≤ 4194303 ∧ n = Int.tdiv n 4194304 * 4194304 + Int.tmod n 4194304 := fun {n} h1 h2 => by
    rcases Int.le_total 0 n with h | h
    · rw [Int.tdiv_eq_ediv_of_nonneg h, Int.tmod_eq_emod_of_nonneg h]; omega
    · obtain ⟨m, rfl⟩ : ∃ m, n = -m := ⟨-n, by omega⟩
      rw [Int.neg_tdiv, Int.neg_tmod, Int.tdiv_eq_ediv_of_nonneg (by omega), Int.tmod_eq_emod_of_nonneg (by omega)]; omega
  obtain ⟨c1, c2, c3, c4, c5⟩ := q b1 b2
  obtain ⟨d1, d2, d3, d4, d5⟩ := q b3 b4
  obtain ⟨e1, e2, e3, e4, e5⟩ := q b5 b6
  have f1 := mul_bound a1 a2 c1 c2
  have f2 := mul_bound a3 a4 d1 d2
  have f3 := mul_bound a5 a6 e1 e2
  have g1 := mul_bound a1 a2 c3 c4
  have g2 := mul_bound a3 a4 d3 d4
  have g3 := mul_bound a5 a6 e3 e4
  have w : ∀ x : Int, -9223372036854775808 ≤ x → x < 9223372036854775808 → IntKind.wrap .i64 x = x := fun x => wrap_id
  simp only [points_upright]
  rw [loopF_K0]
  simp only [show decide ((0 : Int) < ((3 : Nat) : Int)) = true from rfl, show inB 0 3 = true from rfl, cond_true, show IntKind.wrap .i64 (0 + 1) = 1 from rfl, show Int.toNat 0 = 0 from rfl, List.getD_cons_zero]
  rw [loopF_K1]
  simp only [show decide ((1 : Int) < ((3 : Nat) : Int)) = true from rfl, show inB 1 3 = true from rfl, cond_true, show IntKind.wrap .i64 (1 + 1) = 2 from rfl, show Int.toNat 1 = 1 from rfl, List.getD_cons_zero, List.getD_cons_succ]
  rw [loopF_K2]
  simp only [show decide ((2 : Int) < ((3 : Nat) : Int)) = true from rfl, show inB 2 3 = true from rfl, cond_true, show IntKind.wrap .i64 (2 + 1) = 3 from rfl, show Int.toNat 2 = 2 from rfl, List.getD_cons_zero, List.getD_cons_succ]
  rw [loopF_K3]
  simp only [show decide ((3 : Int) < ((3 : Nat) : Int)) = false from rfl, cond_false, not_or_self', Bool.and_self, Bool.or_true, cond_true, bif_false', Int.zero_add]
  generalize Int.tdiv n1 4194304 = p1 at *
  generalize Int.tdiv n2 4194304 = p2 at *
  generalize Int.tdiv n3 4194304 = p3 at *
  generalize Int.tmod n1 4194304 = r1 at *
  generalize Int.tmod n2 4194304 = r2 at *
  generalize Int.tmod n3 4194304 = r3 at *
  simp (disch := omega) only [wrap_id]
  have hd : dot (u1, u2, u3) (n1, n2, n3) = (u1 * p1 + u2 * p2 + u3 * p3) * 4194304 + (u1 * r1 + u2 * r2 + u3 * r3) := by
    simp only [dot]; rw [c5, d5, e5]; grind
  rw [hd]
  generalize hh : u1 * p1 + u2 * p2 + u3 * p3 = hi
  generalize hl : u1 * r1 + u2 * r2 + u3 * r3 = lo
  have : -26388279066624 ≤ lo ∧ lo ≤ 26388279066624 := by omega
  have hq : -9223372036854775808 ≤ Int.tdiv (0 - lo) 4194304 ∧ Int.tdiv (0 - lo) 4194304 < 9223372036854775808 := by
    rcases Int.le_total 0 (0 - lo) with h | h
    · rw [Int.tdiv_eq_ediv_of_nonneg h]; omega
    · rw [show (0 - lo) = - lo by omega, Int.neg_tdiv, Int.tdiv_eq_ediv_of_nonneg (by omega)]; omega
  simp (disch := omega) only [wrap_id]
  congr 1
  rw [Bool.eq_iff_iff]
  simp only [Bool.and_eq_true, decide_eq_true_eq]
  rw [show (0 - lo) = - lo by omega, Int.neg_tdiv]
  rcases Int.le_total 0 lo with h | h
  · rw [Int.tdiv_eq_ediv_of_nonneg h, Int.tmod_eq_emod_of_nonneg h]; omega
  · obtain ⟨m, rfl⟩ : ∃ m, lo = -m := ⟨-lo, by omega⟩
    rw [Int.neg_tdiv, Int.neg_tmod, Int.tdiv_eq_ediv_of_nonneg (by omega), Int.tmod_eq_emod_of_nonneg (by omega)]; omega

/-- Which error a list of points is refused with. -/
def givenE (l : List P) : Int := if l.all dec then (if (l.length : Int) > 20 then 4 else 0) else 1
theorem given_eq {l : List P} (hl : l.length ≤ 1152921504606846976) : points_given l = some (givenE l) := by
  unfold points_given givenE
  rw [all_eq hl, obind_some']
  cases l.all dec with
  | false => rfl
  | true =>
    simp only [Bool.not_true, cond_false, if_true]
    by_cases h : (l.length : Int) > 20
    · simp [h]
    · simp [h]

abbrev z3 : P := (0, 0, 0)
def flatO (o : P) (l : List P) : Prop := ∀ a ∈ l, ∀ b ∈ l, ∀ c ∈ l, dot (sub o c) (crs (sub o a) (sub o b)) = 0
instance (o : P) (l : List P) : Decidable (flatO o l) := by unfold flatO; infer_instance

theorem eq3 {a b : P} : a = b ↔ a.1 = b.1 ∧ a.2.1 = b.2.1 ∧ a.2.2 = b.2.2 := by
  obtain ⟨a1, a2, a3⟩ := a
  obtain ⟨b1, b2, b3⟩ := b
  simp only [Prod.mk.injEq]

theorem flat_core {l : List P} {o n : P} (h : (n = z3 ∧ ∀ a ∈ l, ∀ b ∈ l, crs (sub o a) (sub o b) = z3) ∨ (n ≠ z3 ∧ ∃ u ∈ l, ∃ v ∈ l, n = crs (sub o u) (sub o v))) : (∀ p ∈ l, dot (sub o p) n = 0) ↔ flatO o l := by
  rcases h with ⟨rfl, h⟩ | ⟨hn, u, hu, v, hv, rfl⟩
  · constructor
    · intro _ a ha b hb c hc
      rw [h a ha b hb]; simp [dot]
    · intro _ p _; simp [dot]
  · constructor
    · intro h a ha b hb c hc
      have h1 := h a ha
      have h2 := h b hb
      have h3 := h c hc
      generalize sub o a = A at *
      generalize sub o b = B at *
      generalize sub o c = C at *
      generalize crs (sub o u) (sub o v) = n at *
      obtain ⟨n1, n2, n3⟩ := n
      obtain ⟨A1, A2, A3⟩ := A
      obtain ⟨B1, B2, B3⟩ := B
      obtain ⟨C1, C2, C3⟩ := C
      simp only [dot, crs] at *
      have e1 : (C1 * (A2 * B3 - A3 * B2) + C2 * (A3 * B1 - A1 * B3) + C3 * (A1 * B2 - A2 * B1)) * n1 = 0 := by grind
      have e2 : (C1 * (A2 * B3 - A3 * B2) + C2 * (A3 * B1 - A1 * B3) + C3 * (A1 * B2 - A2 * B1)) * n2 = 0 := by grind
      have e3 : (C1 * (A2 * B3 - A3 * B2) + C2 * (A3 * B1 - A1 * B3) + C3 * (A1 * B2 - A2 * B1)) * n3 = 0 := by grind
      rcases Int.mul_eq_zero.1 e1 with e | f1
      · exact e
      rcases Int.mul_eq_zero.1 e2 with e | f2
      · exact e
      rcases Int.mul_eq_zero.1 e3 with e | f3
      · exact e
      subst f1; subst f2; subst f3
      exact absurd rfl hn
    · intro h p hp
      exact h u hu v hv p hp

theorem crs_anti {a b : P} (h : crs a b = z3) : crs b a = z3 := by
  rw [eq3] at h ⊢
  simp only [crs] at *
  grind
theorem crs_self (a : P) : crs a a = z3 := by
  rw [eq3]
  simp only [crs]
  grind

theorem dec_iff {p : P} : dec p = true ↔ inP p := by simp [dec]
theorem all_in {l : List P} (h : l.all dec = true) {p : P} (hp : p ∈ l) : inP p := dec_iff.1 (List.all_eq_true.1 h p hp)

theorem flat1_eq {l : List P} {n p : P} (h : l.all dec = true) (hp : p ∈ l) (hn : inC n) : points_Flat_1 p l n = some (!decide (dot (sub (l.getD 0 z3) p) n = 0)) := by
  unfold points_Flat_1
  have hlen : 0 < l.length := List.length_pos_of_mem hp
  have h0 : l.getD 0 z3 ∈ l := by rw [getD_nat hlen]; exact List.getElem_mem _
  rw [inB_of (by omega) (by omega), cond_true, to_eq (all_in h h0) (all_in h hp), obind_some', upright_eq (sub_in (all_in h h0) (all_in h hp)) hn, obind_some']

/-- What has been found after rounds up to i. -/
def good (l : List P) (o : P) (i k : Int) (n : P) : Prop :=
  (n = z3 ∧ (∀ a b : Nat, (a : Int) < i → (b : Int) < i → crs (sub o (l.getD a z3)) (sub o (l.getD b z3)) = z3) ∧ ∀ b : Nat, (b : Int) < k → crs (sub o (l.getD i.toNat z3)) (sub o (l.getD b z3)) = z3) ∨
  (n ≠ z3 ∧ ∃ u ∈ l, ∃ v ∈ l, n = crs (sub o u) (sub o v))

theorem good_in {l : List P} {o : P} {i k : Int} {n : P} (ho : inP o) (h : l.all dec = true) (g : good l o i k n) : inC n := by
  rcases g with ⟨rfl, _⟩ | ⟨_, u, hu, v, hv, rfl⟩
  · simp [inC]
  · exact crs_in (sub_in ho (all_in h hu)) (sub_in ho (all_in h hv))

theorem getD_mem {l : List P} {i : Nat} (h : i < l.length) : l.getD i z3 ∈ l := by rw [getD_nat h]; exact List.getElem_mem _

/-- What 'Flat' answers. -/
def flatR (l : List P) : Bool × Int × Unit := if givenE l = 0 then (decide (flatO (l.getD 0 z3) l), 0, ()) else (false, givenE l, ())

theorem flat_eq {l : List P} (hl : l.length ≤ 1152921504606846976) : points_Flat l = some (flatR l) := by
  unfold points_Flat flatR
  simp only [given_eq hl, obind_some']
  by_cases hg : givenE l = 0
  · simp only [hg, decide_true, Bool.not_true, cond_false, if_true]
    have hall : l.all dec = true := by
      cases h : l.all dec with
      | true => rfl
      | false => simp [givenE, h] at hg
    refine loopF_eq (g := fun _ => some (decide (flatO (l.getD 0 z3) l), 0, ())) (I := fun (x : Int × P × PUnit) => 0 ≤ x.1 ∧ x.1 ≤ (l.length : Int) ∧ good l (l.getD 0 z3) x.1 0 x.2.1) (μ := fun (x : Int × P × PUnit) => ((l.length : Int) - x.1).toNat) ?_ ⟨by simp, by simp, .inl ⟨rfl, fun a b h => by omega, fun b h => by omega⟩⟩ (by unfold K0; simp only; omega)
    rintro ⟨i, n, _⟩ rec ⟨h0, h1, hgd⟩ hrec
    simp only at h0 h1 hgd ⊢
    by_cases hi : i < (l.length : Int)
    · simp only [decide_eq_true hi, cond_true]
      have hpos : 0 < l.length := by omega
      have ho : inP (l.getD 0 z3) := all_in hall (getD_mem hpos)
      refine loopF_eq (g := fun _ => some (decide (flatO (l.getD 0 z3) l), 0, ())) (I := fun (x : Int × P × PUnit) => 0 ≤ x.1 ∧ x.1 ≤ i ∧ good l (l.getD 0 z3) i x.1 x.2.1) (μ := fun (x : Int × P × PUnit) => (i - x.1).toNat) ?_ ⟨by simp, by simpa using h0, hgd⟩ (by unfold K0; simp only; omega)
      rintro ⟨k, m, _⟩ rec' ⟨k0, k1, hgm⟩ hrec'
      simp only at k0 k1 hgm ⊢
      by_cases hk : k < i
      · simp only [decide_eq_true hk, cond_true]
        by_cases hz : m = z3
        · subst hz
          simp only [decide_true, Bool.and_true, cond_true, inB_of (show (0 : Int) ≤ 0 by omega) (show (0 : Int) < l.length by omega), inB_of h0 hi, inB_of k0 (show k < l.length by omega)]
          have hii := getD_mem (l := l) (i := i.toNat) (by omega)
          have hkk := getD_mem (l := l) (i := k.toNat) (by omega)
          rw [to_eq ho (all_in hall hii), obind_some', to_eq ho (all_in hall hkk), obind_some', cross_eq (sub_in ho (all_in hall hii)) (sub_in ho (all_in hall hkk)), obind_some', wrap_id (by omega) (by omega)]
          refine hrec' _ ⟨by simp only; omega, by simp only; omega, ?_⟩ (by simp only; omega)
          simp only
          rcases hgm with ⟨_, g1, g2⟩ | ⟨hne, _⟩
          · by_cases hc : crs (sub (l.getD 0 z3) (l.getD i.toNat z3)) (sub (l.getD 0 z3) (l.getD k.toNat z3)) = z3
            · refine .inl ⟨hc, g1, fun b hb => ?_⟩
              by_cases hbk : (b : Int) < k
              · exact g2 b hbk
              · have : b = k.toNat := by omega
                subst this
                exact hc
            · exact .inr ⟨hc, _, hii, _, hkk, rfl⟩
          · exact absurd rfl hne
        · have hcond : (decide (m.1 = 0) && (decide (m.2.1 = 0) && (decide (m.2.2 = 0) && true))) = false := by
            rw [Bool.eq_false_iff]
            intro hh
            simp only [Bool.and_true, Bool.and_eq_true, decide_eq_true_eq] at hh
            exact hz (eq3.2 ⟨hh.1, hh.2.1, hh.2.2⟩)
          simp only [hcond, cond_false]
          rw [wrap_id (by omega) (by omega)]
          refine hrec' _ ⟨by simp only; omega, by simp only; omega, ?_⟩ (by simp only; omega)
          simp only
          rcases hgm with ⟨hne, _⟩ | hgm
          · exact absurd hne hz
          · exact .inr hgm
      · have : k = i := by omega
        subst this
        simp only [show decide (k < k) = false by simp, cond_false]
        rw [wrap_id (by omega) (by omega)]
        refine hrec _ ⟨by simp only; omega, by simp only; omega, ?_⟩ (by simp only; omega)
        simp only
        rcases hgm with ⟨rfl, g1, g2⟩ | hgm
        · refine .inl ⟨rfl, fun a b ha hb => ?_, fun b hb => by omega⟩
          by_cases ea : (a : Int) < k
          · by_cases eb : (b : Int) < k
            · exact g1 a b ea eb
            · have : b = k.toNat := by omega
              subst this
              exact crs_anti (g2 a ea)
          · have : a = k.toNat := by omega
            subst this
            by_cases eb : (b : Int) < k
            · exact g2 b eb
            · have : b = k.toNat := by omega
              subst this
              exact crs_self _
        · exact .inr hgm
    · simp only [decide_eq_false hi, cond_false]
      have hcore : (∀ p ∈ l, dot (sub (l.getD 0 z3) p) n = 0) ↔ flatO (l.getD 0 z3) l := by
        refine flat_core ?_
        rcases hgd with ⟨e, g1, _⟩ | ⟨e, u, hu, v, hv, rfl⟩
        · refine .inl ⟨e, fun a ha b hb => ?_⟩
          obtain ⟨a', ha', rfl⟩ := List.getElem_of_mem ha
          obtain ⟨b', hb', rfl⟩ := List.getElem_of_mem hb
          have := g1 a' b' (by omega) (by omega)
          rwa [getD_nat ha', getD_nat hb'] at this
        · exact .inr ⟨e, u, hu, v, hv, rfl⟩
      by_cases hpos : 0 < l.length
      · have ho : inP (l.getD 0 z3) := all_in hall (getD_mem hpos)
        have hn := good_in ho hall hgd
        rw [contains_eq (f := fun p => !decide (dot (sub (l.getD 0 z3) p) n = 0)) hl (fun p hp => flat1_eq hall hp hn), obind_some']
        congr 2
        rw [Bool.eq_iff_iff, decide_eq_true_iff, ← hcore]
        simp
      · have : l = [] := List.length_eq_zero_iff.1 (by omega)
        subst this
        rw [contains_eq (f := fun _ => false) hl (fun p hp => by cases hp), obind_some']
        simp [flatO]
  · simp only [hg, decide_false, Bool.not_false, cond_true, if_false]

end Go.Proofs.Ytkoadlblncohgaa
