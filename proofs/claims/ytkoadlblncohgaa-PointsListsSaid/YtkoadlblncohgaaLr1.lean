/- Chapter 9: the reference. -/
import Derived.Test.YtkoadlblncohgaaCr1
namespace Go.Proofs.Ytkoadlblncohgaa
open Try Dn Dn.Sh

theorem refMinus_eq {a b : P} (ha : inP a) (hb : inP b) : ref09_Minus a b = some (sub b a) := by
  unfold inP at ha hb
  simp (disch := omega) only [ref09_Minus, wrap_id, sub]
theorem refCross_eq {u v : P} (hu : inD u) (hv : inD v) : ref09_Cross u v = some (crs u v) := by
  have hc := crs_in hu hv
  obtain ⟨⟨a1, a2⟩, ⟨a3, a4⟩, a5, a6⟩ := hu
  obtain ⟨⟨b1, b2⟩, ⟨b3, b4⟩, b5, b6⟩ := hv
  have e1 := mul_bound a3 a4 b5 b6
  have e2 := mul_bound a5 a6 b3 b4
  have e3 := mul_bound a5 a6 b1 b2
  have e4 := mul_bound a1 a2 b5 b6
  have e5 := mul_bound a1 a2 b3 b4
  have e6 := mul_bound a3 a4 b1 b2
  simp (disch := omega) only [ref09_Cross, crs, wrap_id]
theorem refTurn_eq {a b c : P} (ha : inP a) (hb : inP b) (hc : inP c) : ref09_Turn a b c = some (sg (D a b c)) := by
  unfold ref09_Turn
  rw [refMinus_eq hb ha, obind_some', refMinus_eq hc ha, obind_some']
  obtain ⟨⟨a1, a2⟩, ⟨a3, a4⟩, _⟩ := ha
  obtain ⟨⟨b1, b2⟩, ⟨b3, b4⟩, _⟩ := hb
  obtain ⟨⟨c1, c2⟩, ⟨c3, c4⟩, _⟩ := hc
  have e1 := mul_bound (a := b.1 - a.1) (b := c.2.1 - a.2.1) (m := 2097152) (n := 2097152) (by omega) (by omega) (by omega) (by omega)
  have e2 := mul_bound (a := b.2.1 - a.2.1) (b := c.1 - a.1) (m := 2097152) (n := 2097152) (by omega) (by omega) (by omega) (by omega)
  simp (disch := omega) only [sub, wrap_id, D]
  generalize (b.1 - a.1) * (c.2.1 - a.2.1) = x
  generalize (b.2.1 - a.2.1) * (c.1 - a.1) = y
  unfold sg
  by_cases h1 : x > y
  · simp [h1, show ¬ x - y < 0 by omega]
  · by_cases h2 : x < y
    · simp [h1, h2, show x - y < 0 by omega]
    · simp [h1, h2, show ¬ x - y < 0 by omega]

theorem u_wrap {x : Int} (h1 : 0 ≤ x) (h2 : x < 18446744073709551616) : IntKind.wrap .u64 x = x := by
  rw [IntKind.wrap_u64]; omega
theorem size_eq {x : Int} (h1 : -9223372036854775808 ≤ x) (h2 : x < 9223372036854775808) : ref02_Size x = some (if x < 0 then -x else x) := by
  unfold ref02_Size
  by_cases h : x < 0
  · simp only [h, decide_true, cond_true, if_true]
    rw [IntKind.wrap_u64, IntKind.wrap_u64]
    congr 1; omega
  · simp only [h, decide_false, cond_false, if_false]
    rw [u_wrap (by omega) (by omega)]

theorem land32 {x : Int} (h1 : 0 ≤ x) (h2 : x < 18446744073709551616) : ((Nat.land (Int.toNat (x % Int.ofNat 18446744073709551616)) (Int.toNat ((4294967295 : Int) % Int.ofNat 18446744073709551616)) : Nat) : Int) = x % 4294967296 := by
  have e1 : x % Int.ofNat 18446744073709551616 = x := Int.emod_eq_of_lt h1 h2
  have e2 : Int.toNat ((4294967295 : Int) % Int.ofNat 18446744073709551616) = 2 ^ 32 - 1 := by decide
  rw [e1, e2]
  have : Nat.land x.toNat (2 ^ 32 - 1) = x.toNat % 2 ^ 32 := Nat.and_two_pow_sub_one_eq_mod x.toNat 32
  rw [this]
  omega

theorem mul64_eq {x y : Int} (x0 : 0 ≤ x) (x1 : x < 18446744073709551616) (y0 : 0 ≤ y) (y1 : y < 18446744073709551616) : ref02_Mul x y = some (x * y / 18446744073709551616, x * y % 18446744073709551616) := by
  have p32 : (2 : Int) ^ (32 : Nat) = 4294967296 := by decide
  simp only [ref02_Mul, p32, show decide ((0 : Int) ≤ 32) = true from rfl, cond_true]
  obtain ⟨a, b, ha, hb, hx⟩ : ∃ a b, a = x / 4294967296 ∧ b = x % 4294967296 ∧ x = a * 4294967296 + b := ⟨_, _, rfl, rfl, by omega⟩
  obtain ⟨c, d, hc, hd, hy⟩ : ∃ c d, c = y / 4294967296 ∧ d = y % 4294967296 ∧ y = c * 4294967296 + d := ⟨_, _, rfl, rfl, by omega⟩
  have fd : ∀ n : Int, Int.fdiv n 4294967296 = n / 4294967296 := fun n => Int.fdiv_eq_ediv_of_nonneg n (by omega)
  rw [land32 x0 x1, land32 y0 y1, ← hb, ← hd]
  simp only [fd, ← ha, ← hc]
  have a0 : 0 ≤ a ∧ a ≤ 4294967295 := by omega
  have b0 : 0 ≤ b ∧ b ≤ 4294967295 := by omega
  have c0 : 0 ≤ c ∧ c ≤ 4294967295 := by omega
  have d0 : 0 ≤ d ∧ d ≤ 4294967295 := by omega
  have mb : ∀ {m n : Int}, 0 ≤ m ∧ m ≤ 4294967295 → 0 ≤ n ∧ n ≤ 4294967295 → 0 ≤ m * n ∧ m * n ≤ 18446744065119617025 := fun {m n} hm hn => ⟨Int.mul_nonneg hm.1 hn.1, Int.le_trans (Int.mul_le_mul hm.2 hn.2 hn.1 (by omega)) (by decide)⟩
  have e1 := mb a0 c0
  have e2 := mb a0 d0
  have e3 := mb b0 c0
  have e4 := mb b0 d0
  have hxy : x * y = a * c * 18446744073709551616 + (a * d + b * c) * 4294967296 + b * d := by rw [hx, hy]; grind
  rw [hxy]
  rw [u_wrap (x := b) (by omega) (by omega), u_wrap (x := d) (by omega) (by omega)]
  rw [u_wrap (x := b * d) (by omega) (by omega), u_wrap (x := a * d) (by omega) (by omega), u_wrap (x := b * c) (by omega) (by omega), u_wrap (x := a * c) (by omega) (by omega)]
  generalize b * d = bd at *
  generalize a * d = ad at *
  generalize b * c = bc at *
  generalize a * c = ac at *
  rw [u_wrap (x := ad + bd / 4294967296) (by omega) (by omega)]
  generalize ht : ad + bd / 4294967296 = t
  rw [land32 (by omega) (by omega), land32 (by omega) (by omega)]
  rw [u_wrap (x := t % 4294967296) (by omega) (by omega), u_wrap (x := bd % 4294967296) (by omega) (by omega)]
  rw [u_wrap (x := bc + t % 4294967296) (by omega) (by omega), u_wrap (x := ac + t / 4294967296) (by omega) (by omega)]
  rw [u_wrap (x := ac + t / 4294967296 + (bc + t % 4294967296) / 4294967296) (by omega) (by omega)]
  rw [IntKind.wrap_u64 ((bc + t % 4294967296) * 4294967296), IntKind.wrap_u64]
  congr 1
  ext <;> simp only <;> omega

/-- A number of two words. -/
def U (n : Int) : Int × Int := (n / 18446744073709551616, n % 18446744073709551616)
theorem plus_eq {m n : Int} (hm : 0 ≤ m) (hn : 0 ≤ n) (h : m + n < 340282366920938463463374607431768211456) : ref02_Plus (U m) (U n) = some (U (m + n)) := by
  unfold ref02_Plus U
  simp only [IntKind.wrap_u64]
  by_cases hc : (m % 18446744073709551616 + n % 18446744073709551616) % 18446744073709551616 < m % 18446744073709551616
  · simp only [decide_eq_true hc, cond_true]
    congr 1
    ext <;> simp only <;> omega
  · simp only [decide_eq_false hc, cond_false]
    congr 1
    ext <;> simp only <;> omega

def ab (n : Int) : Int := if n < 0 then -n else n
def ps (a b : Int) : Int := if (a < 0) = (b < 0) then ab a * ab b else 0
def ns (a b : Int) : Int := if (a < 0) = (b < 0) then 0 else ab a * ab b
theorem ps_ns (a b : Int) : a * b = ps a b - ns a b := by
  unfold ps ns ab
  by_cases h1 : a < 0 <;> by_cases h2 : b < 0 <;> simp [h1, h2] <;> grind
theorem ps_bound {a b : Int} (a1 : -8796093022208 ≤ a) (a2 : a ≤ 8796093022208) (b1 : -2097152 ≤ b) (b2 : b ≤ 2097152) : (0 ≤ ps a b ∧ ps a b ≤ 18446744073709551616) ∧ (0 ≤ ns a b ∧ ns a b ≤ 18446744073709551616) := by
  have h1 : 0 ≤ ab a ∧ ab a ≤ 8796093022208 := by unfold ab; split <;> omega
  have h2 : 0 ≤ ab b ∧ ab b ≤ 2097152 := by unfold ab; split <;> omega
  have h3 : 0 ≤ ab a * ab b ∧ ab a * ab b ≤ 18446744073709551616 := ⟨Int.mul_nonneg h1.1 h2.1, Int.le_trans (Int.mul_le_mul h1.2 h2.2 h2.1 (by omega)) (by decide)⟩
  unfold ps ns
  split <;> omega

theorem round_eq {R : Type} {a b p n : Int} (a1 : -8796093022208 ≤ a) (a2 : a ≤ 8796093022208) (b1 : -2097152 ≤ b) (b2 : b ≤ 2097152) (p0 : 0 ≤ p) (p1 : p ≤ 100000000000000000000) (n0 : 0 ≤ n) (n1 : n ≤ 100000000000000000000) {k : Int × Int → Int × Int → Option R} :
    (obind (ref02_Size a) fun t => obind (ref02_Size b) fun t_1 => obind (ref02_Mul t t_1) fun t => bif decide (decide (a < 0) = decide (b < 0)) then obind (ref02_Plus (U p) t) fun t => k t (U n) else obind (ref02_Plus (U n) t) fun t => k (U p) t) = k (U (p + ps a b)) (U (n + ns a b)) := by
  have hb := ps_bound a1 a2 b1 b2
  have h1 : 0 ≤ ab a ∧ ab a ≤ 8796093022208 := by unfold ab; split <;> omega
  have h2 : 0 ≤ ab b ∧ ab b ≤ 2097152 := by unfold ab; split <;> omega
  have hm : ref02_Mul (ab a) (ab b) = some (U (ab a * ab b)) := mul64_eq (by omega) (by omega) (by omega) (by omega)
  have hu : 0 ≤ ab a * ab b ∧ ab a * ab b ≤ 18446744073709551616 := ⟨Int.mul_nonneg h1.1 h2.1, Int.le_trans (Int.mul_le_mul h1.2 h2.2 h2.1 (by omega)) (by decide)⟩
  rw [size_eq (by omega) (by omega), obind_some', size_eq (by omega) (by omega), obind_some']
  rw [show (if a < 0 then -a else a) = ab a from rfl, show (if b < 0 then -b else b) = ab b from rfl, hm, obind_some']
  by_cases hs : (a < 0) = (b < 0)
  · have e1 : ps a b = ab a * ab b := if_pos hs
    have e2 : ns a b = 0 := if_pos hs
    have : decide (decide (a < 0) = decide (b < 0)) = true := by simp only [hs, decide_true]
    rw [this, cond_true, plus_eq p0 hu.1 (by omega), obind_some', e1, e2, Int.add_zero]
  · have e1 : ps a b = 0 := if_neg hs
    have e2 : ns a b = ab a * ab b := if_neg hs
    have : decide (decide (a < 0) = decide (b < 0)) = false := by
      rw [decide_eq_false_iff_not]
      intro h
      apply hs
      have := congrArg (· = true) h
      simpa using this
    rw [this, cond_false, plus_eq n0 hu.1 (by omega), obind_some', e1, e2, Int.add_zero]

theorem zero_eq {n d : P} (hn : inC n) (hd : inD d) : ref09_Zero n d = some (decide (dot n d = 0)) := by
  obtain ⟨⟨a1, a2⟩, ⟨a3, a4⟩, a5, a6⟩ := hn
  obtain ⟨⟨b1, b2⟩, ⟨b3, b4⟩, b5, b6⟩ := hd
  obtain ⟨n1, n2, n3⟩ := n
  obtain ⟨d1, d2, d3⟩ := d
  simp only at *
  have c1 := ps_bound a1 a2 b1 b2
  have c2 := ps_bound a3 a4 b3 b4
  have c3 := ps_bound a5 a6 b5 b6
  simp only [ref09_Zero]
  rw [loopF_K0]
  simp only [show decide ((0 : Int) < 3) = true from rfl, show inB 0 3 = true from rfl, cond_true, show IntKind.wrap .i64 (0 + 1) = 1 from rfl, show Int.toNat 0 = 0 from rfl, List.getD_cons_zero]
  refine (round_eq (p := 0) (n := 0) (k := fun u v => loopF _ 1180591620717411303423 (1, (u, v), PUnit.unit)) a1 a2 b1 b2 (by omega) (by omega) (by omega) (by omega)).trans ?_
  rw [loopF_K1]
  simp only [show decide ((1 : Int) < 3) = true from rfl, show inB 1 3 = true from rfl, cond_true, show IntKind.wrap .i64 (1 + 1) = 2 from rfl, show Int.toNat 1 = 1 from rfl, List.getD_cons_zero, List.getD_cons_succ]
  refine (round_eq (k := fun u v => loopF _ 1180591620717411303422 (2, (u, v), PUnit.unit)) a3 a4 b3 b4 (by omega) (by omega) (by omega) (by omega)).trans ?_
  rw [loopF_K2]
  simp only [show decide ((2 : Int) < 3) = true from rfl, show inB 2 3 = true from rfl, cond_true, show IntKind.wrap .i64 (2 + 1) = 3 from rfl, show Int.toNat 2 = 2 from rfl, List.getD_cons_zero, List.getD_cons_succ]
  refine (round_eq (k := fun u v => loopF _ 1180591620717411303421 (3, (u, v), PUnit.unit)) a5 a6 b5 b6 (by omega) (by omega) (by omega) (by omega)).trans ?_
  rw [loopF_K3]
  simp only [show decide ((3 : Int) < 3) = false from rfl, cond_false, Bool.and_true]
  congr 1
  rw [Bool.eq_iff_iff]
  simp only [Bool.and_eq_true, decide_eq_true_eq]
  simp only [U, dot]
  rw [ps_ns n1 d1, ps_ns n2 d2, ps_ns n3 d3]
  omega

theorem within1_eq (n : Int) : ref09_within n = some (decide (-1048576 ≤ n ∧ n ≤ 1048576)) := by
  simp only [ref09_within, not_or_self', cond_true, bif_false', ge_iff_le, Bool.decide_and]
theorem refValid_eq (p : P) : ref09_Valid p = some (dec p) := by
  simp only [ref09_Valid, within1_eq, obind_some', not_or_self', cond_true, bif_false']
  unfold dec inP
  by_cases h1 : -1048576 ≤ p.1 ∧ p.1 ≤ 1048576
  · by_cases h2 : -1048576 ≤ p.2.1 ∧ p.2.1 ≤ 1048576
    · simp [h1, h2, obind_some']
    · simp [h1, h2, obind_some']
  · simp [h1, obind_some']

theorem refAll_eq {l : List P} (hl : l.length ≤ 1000000) : ref09_All l = some (l.all dec) := by
  unfold ref09_All
  refine loopF_eq (g := fun _ => some (l.all dec)) (I := fun (x : Int × PUnit) => 0 ≤ x.1 ∧ x.1 ≤ l.length ∧ ∀ j : Nat, (j : Int) < x.1 → inP (l.getD j z3)) (μ := fun (x : Int × PUnit) => ((l.length : Int) - x.1).toNat) ?_
    ⟨by simp, by simp, fun j h => by simp only at h; omega⟩ (by unfold K0; simp only; omega)
  rintro ⟨i, _⟩ rec ⟨i0, i1, hno⟩ hrec
  simp only at i0 i1 hno ⊢
  by_cases hi : i < (l.length : Int)
  · have hli := getD_mem (l := l) (i := i.toNat) (by omega)
    simp only [decide_eq_true hi, cond_true, inB_of i0 hi, refValid_eq, obind_some']
    by_cases hp : inP (l.getD i.toNat (0, 0, 0))
    · simp only [dec_iff.2 hp, Bool.not_true, cond_false]
      rw [wrap_id (by omega) (by omega)]
      refine hrec (i + 1, ⟨⟩) ⟨by simp only; omega, by simp only; omega, fun j h => ?_⟩ (by simp only; omega)
      simp only at h
      by_cases e : (j : Int) < i
      · exact hno j e
      · have : j = i.toNat := by omega
        subst this
        exact hp
    · simp only [show dec (l.getD i.toNat (0, 0, 0)) = false from by simpa [dec] using hp, Bool.not_false, cond_true]
      have : l.all dec = false := by
        rw [Bool.eq_false_iff]
        intro h
        exact hp (all_in h hli)
      rw [this]
  · simp only [decide_eq_false hi, cond_false]
    have : l.all dec = true := List.all_eq_true.2 fun p hp => by
      obtain ⟨j, hj, rfl⟩ := List.getElem_of_mem hp
      have := hno j (by omega)
      rw [getD_nat hj] at this
      exact dec_iff.2 this
    rw [this]

/-- What 'on' of the reference means is what 'within' means. -/
theorem on_iff {p a b : P} : wi p a b ↔ D a b p = 0 ∧ ¬ (a.1 = b.1 ∧ a.2.1 = b.2.1 ∧ (p.1 ≠ a.1 ∨ p.2.1 ≠ a.2.1)) ∧ (p.1 - a.1) * (p.1 - b.1) ≤ 0 ∧ (p.2.1 - a.2.1) * (p.2.1 - b.2.1) ≤ 0 := by
  have key : ∀ x y z : Int, (x - y) * (x - z) ≤ 0 ↔ min y z ≤ x ∧ x ≤ max y z := fun x y z => by
    constructor
    · intro h
      by_cases h1 : min y z ≤ x ∧ x ≤ max y z
      · exact h1
      · exfalso
        have : 0 < (x - y) * (x - z) := by
          rcases Int.lt_or_le x (min y z) with h2 | h2
          · exact Int.mul_pos_of_neg_of_neg (by omega) (by omega)
          · exact Int.mul_pos (by omega) (by omega)
        omega
    · intro h
      rcases Int.le_total x y with h2 | h2
      · rcases Int.le_total x z with h3 | h3
        · have : x - y = 0 ∨ x - z = 0 := by omega
          rcases this with e | e <;> rw [e] <;> simp
        · exact Int.mul_nonpos_of_nonpos_of_nonneg (by omega) (by omega)
      · rcases Int.le_total x z with h3 | h3
        · exact Int.mul_nonpos_of_nonneg_of_nonpos (by omega) (by omega)
        · have : x - y = 0 ∨ x - z = 0 := by omega
          rcases this with e | e <;> rw [e] <;> simp
  rw [key, key]
  unfold wi
  omega

theorem refOn_eq {p a b : P} (hp : inP p) (ha : inP a) (hb : inP b) : ref09_on p a b = some (decide (wi p a b)) := by
  have e0 := refTurn_eq ha hb hp
  obtain ⟨⟨a1, a2⟩, ⟨a3, a4⟩, _⟩ := ha
  obtain ⟨⟨b1, b2⟩, ⟨b3, b4⟩, _⟩ := hb
  obtain ⟨⟨c1, c2⟩, ⟨c3, c4⟩, _⟩ := hp
  have e1 := mul_bound (a := p.1 - a.1) (b := p.1 - b.1) (m := 2097152) (n := 2097152) (by omega) (by omega) (by omega) (by omega)
  have e2 := mul_bound (a := p.2.1 - a.2.1) (b := p.2.1 - b.2.1) (m := 2097152) (n := 2097152) (by omega) (by omega) (by omega) (by omega)
  simp (disch := omega) only [ref09_on, e0, obind_some', wrap_id, not_or_self', or_self_not, Bool.and_self, cond_true, bif_false', bif_true', Bool.or_true]
  have z : decide (sg (D a b p) = 0) = decide (D a b p = 0) := by rw [Bool.eq_iff_iff, decide_eq_true_iff, decide_eq_true_iff, sg_zero]
  rw [z]
  have := on_iff (p := p) (a := a) (b := b)
  generalize (p.1 - a.1) * (p.1 - b.1) = X at *
  generalize (p.2.1 - a.2.1) * (p.2.1 - b.2.1) = Y at *
  by_cases h1 : D a b p = 0 <;> by_cases h2 : a.1 = b.1 <;> by_cases h3 : a.2.1 = b.2.1 <;> by_cases h4 : p.1 = a.1 <;> by_cases h5 : p.2.1 = a.2.1 <;> by_cases h6 : X ≤ 0 <;> by_cases h7 : Y ≤ 0 <;> simp [h1, h2, h3, h4, h5, h6, h7] at this ⊢ <;> (try simp [this]) <;> by_cases g1 : p.1 = b.1 <;> by_cases g2 : p.2.1 = b.2.1 <;> simp [g1, g2]

end Go.Proofs.Ytkoadlblncohgaa
