/- Line sets: lines, and valid sets. Beams and loads: both programs know the same valid ones. Houses: small ones, the sets' names, valid ones. Houses: what the sets load. Beams over a depth: how many, which. Fractions: rational numbers, and the pairs of numbers that stand for them. Fractions: what 'Make', 'Valid', 'Mul', 'Floor', 'Ceil' of package ratio answer. Fractions: products of two words, 'Mul', 'Floor', 'Ceil' of package ratio. Fractions of the reference: numbers of two words, their greatest common divisors and quotients. Fractions of the reference: 'Div', 'Made', 'Make', 'Times', 'Floor', 'Ceil'. Numbers of 128 bits: sums, differences, comparisons; the length of a number. The quotient of a number of 128 bits by one of 64. Fractions: 'Add' of package ratio. Fractions: 'Add', 'Valid', 'All' of the reference. Fractions: 'Sub' and 'Cmp' of both. What beams bear: the program's walk. What beams bear: the program's walk comes to the sums. What beams bear: the program's answer. What beams bear: the reference's answer. Beams and loads: what is wrong with them; Loads, Over. Houses: 'HouseLoads'. Houses: the reference's Loads; the law 'HouseLoads'. Houses: the law 'HouseLoads'. Houses: equal ones. Houses: equal ones, the reference; the law 'HouseForms'. Houses: the law 'HouseForms'. -/
import Derived.Test.YtmoiiokmfanlgaaGreatMgM

namespace Go.Proofs.YtmoiiokmfanlgaaGreat
open Tryz Dn Dn.Sh

def lineB (l : List Int) (len : Int) (i : Nat) : Bool := btw (l.getD i 0) 0 len && (decide (i = 0) || decide (l.getD (i - 1) 0 < l.getD i 0))
def linesB (l : List Int) (len : Int) : Bool := btw (l.length : Int) 2 10 && (List.range' 0 l.length).all (lineB l len)

theorem lines_eq {l : List Int} {len : Int} (h2 : 2 ≤ l.length) : (decide (0 ≤ l.getD 0 0) && (decide (l.getD (l.length - 1) 0 ≤ len) && (List.range' 0 (l.length - 1)).all fun i => decide (l.getD i 0 < l.getD (i + 1) 0))) = (List.range' 0 l.length).all (lineB l len) := by
  rw [Bool.eq_iff_iff, Bool.and_eq_true, Bool.and_eq_true, List.all_eq_true, List.all_eq_true, decide_eq_true_iff, decide_eq_true_iff]
  constructor
  · rintro ⟨h0, h1, h3⟩ i hi
    obtain ⟨k, hk, rfl⟩ := List.mem_range'.1 hi
    have step : ∀ i, i + 1 < l.length → l.getD i 0 < l.getD (i + 1) 0 := fun i hi => of_decide_eq_true (h3 i (List.mem_range'.2 ⟨i, by omega, by omega⟩))
    have mono : ∀ d i, i + d < l.length → l.getD i 0 ≤ l.getD (i + d) 0 := by
      intro d
      induction d with
      | zero => intro i _; exact Int.le_refl _
      | succ d ih =>
        intro i hi
        have g1 := ih i (by omega)
        have g2 := step (i + d) (by omega)
        rw [show i + (d + 1) = i + d + 1 by omega]
        omega
    have g1 := mono (0 + 1 * k) 0 (by omega)
    have g2 := mono (l.length - 1 - (0 + 1 * k)) (0 + 1 * k) (by omega)
    rw [Nat.zero_add] at g1
    rw [show 0 + 1 * k + (l.length - 1 - (0 + 1 * k)) = l.length - 1 by omega] at g2
    unfold lineB btw
    rw [Bool.and_eq_true, Bool.and_eq_true, Bool.or_eq_true, decide_eq_true_iff, decide_eq_true_iff, decide_eq_true_iff, decide_eq_true_iff]
    refine ⟨⟨by omega, by omega⟩, ?_⟩
    by_cases hz : 0 + 1 * k = 0
    · exact .inl hz
    · right
      have := step (0 + 1 * k - 1) (by omega)
      rw [show 0 + 1 * k - 1 + 1 = 0 + 1 * k by omega] at this
      exact this
  · intro h
    have at' : ∀ i, i < l.length → (0 ≤ l.getD i 0 ∧ l.getD i 0 ≤ len) ∧ (i = 0 ∨ l.getD (i - 1) 0 < l.getD i 0) := fun i hi => by
      have := h i (List.mem_range'.2 ⟨i, hi, by omega⟩)
      unfold lineB btw at this
      rw [Bool.and_eq_true, Bool.and_eq_true, Bool.or_eq_true, decide_eq_true_iff, decide_eq_true_iff, decide_eq_true_iff, decide_eq_true_iff] at this
      exact this
    refine ⟨(at' 0 (by omega)).1.1, (at' (l.length - 1) (by omega)).1.2, fun i hi => ?_⟩
    obtain ⟨k, hk, rfl⟩ := List.mem_range'.1 hi
    have := (at' (0 + 1 * k + 1) (by omega)).2
    rw [decide_eq_true_iff]
    rcases this with h | h
    · omega
    · rw [Nat.add_sub_cancel] at h
      exact h

theorem linesA_ok (l : List Int) (len : Int) : batten_lines l len = some (linesB l len) := by
  simp only [batten_lines, batten_lines_b, btwA_ok, obind_some', linesB]
  cases hb : btw (l.length : Int) 2 10 with
  | false => rfl
  | true =>
    have h2 : 2 ≤ l.length ∧ l.length ≤ 10 := by
      unfold btw at hb
      rw [Bool.and_eq_true, decide_eq_true_iff, decide_eq_true_iff] at hb
      omega
    have hw0 : IntKind.wrap .i64 ((l.length : Int) - 1) = ((l.length - 1 : Nat) : Int) := by rw [wrap_id (by omega) (by omega)]; omega
    rw [← lines_eq h2.1]
    simp only [hw0, Int.toNat_natCast, inB_nat, inB_of (show (0 : Int) ≤ 0 by omega) (show (0 : Int) < (l.length : Nat) by omega), decide_eq_true (show l.length - 1 < l.length by omega), Bool.not_true, Bool.not_false, Bool.or_true, Bool.true_or, Bool.false_or, Bool.or_false, Bool.and_self, Bool.true_and, cT, cF, not_or_self', or_self_not]
    by_cases g0 : l.getD 0 0 < 0
    · rw [decide_eq_true g0, decide_eq_false (show ¬ 0 ≤ l.getD 0 0 by omega)]
      rfl
    · rw [decide_eq_false g0, decide_eq_true (show 0 ≤ l.getD 0 0 by omega)]
      by_cases g1 : l.getD (l.length - 1) 0 > len
      · rw [decide_eq_true g1, decide_eq_false (show ¬ l.getD (l.length - 1) 0 ≤ len by omega)]
        rfl
      · rw [decide_eq_false g1, decide_eq_true (show l.getD (l.length - 1) 0 ≤ len by omega)]
        simp only [Bool.not_true, Bool.not_false, Bool.or_true, Bool.true_or, Bool.false_or, Bool.or_false, Bool.and_self, Bool.true_and, cT, cF]
        refine (lpK_up (α := Int × PUnit) (l.length - 1) (by omega) (fun i (_ : Unit) => (((i + 1 : Nat) : Int), PUnit.unit)) (fun i s k => bif decide (l.getD i 0 < l.getD (i + 1) 0) then k s else some false) (fun _ => some true) ?_ ?_ ()).trans ?_
        · intro again i _ hi
          have hw : IntKind.wrap .i64 (((i + 1 : Nat) : Int) + 1) = ((i + 1 + 1 : Nat) : Int) := by rw [wrap_id (by omega) (by omega)]; omega
          have hw1 : IntKind.wrap .i64 (((i + 1 : Nat) : Int) - 1) = ((i : Nat) : Int) := by rw [wrap_id (by omega) (by omega)]; omega
          simp only [hw, hw1, inB_nat, decide_eq_true (show ((i + 1 : Nat) : Int) < l.length by omega), decide_eq_true (show i + 1 < l.length by omega), decide_eq_true (show i < l.length by omega), cT, Int.toNat_natCast]
          by_cases hc : l.getD i 0 < l.getD (i + 1) 0
          · rw [decide_eq_true hc, decide_eq_false (show ¬ l.getD (i + 1) 0 ≤ l.getD i 0 by omega)]; rfl
          · rw [decide_eq_false hc, decide_eq_true (show l.getD (i + 1) 0 ≤ l.getD i 0 by omega)]; rfl
        · intro again _
          simp only [decide_eq_false (show ¬ ((l.length - 1 + 1 : Nat) : Int) < l.length by omega), cF]
        · rw [upF_all (l.length - 1) (fun i k _ => rfl) (l.length - 1) 0 (by omega)]
          cases (List.range' 0 (l.length - 1)).all fun i => decide (l.getD i 0 < l.getD (i + 1) 0) <;> rfl

noncomputable def setB (s : HS) : Bool := nameB s.1 && (btw s.2.1 0 1048576 && (btw s.2.2.1 0 s.2.2.2.1 && (btw s.2.2.2.1 0 1048576 && (btw s.2.2.2.2.1 1000 1048576 && (decide (Int.tmod s.2.2.2.2.1 1000 = 0) && (linesB s.2.2.2.2.2.1 s.2.2.2.2.1 &&
  (btw s.2.2.2.2.2.2.1 0 1048576 && (btw s.2.2.2.2.2.2.2.1 0 1048576 && (btw s.2.2.2.2.2.2.2.2.1 1 2 && (btw s.2.2.2.2.2.2.2.2.2.1 1 67108864 && (btw s.2.2.2.2.2.2.2.2.2.2.1 0 67108864 && (itemsB s.2.2.2.2.2.2.2.2.2.2.2.1 s.2.2.2.2.1 && bricksB s.2.2.2.2.2.2.2.2.2.2.2.2))))))))))))

theorem obind_bif {R : Type} {b x : Bool} {k : Bool → Option R} : (obind (bif b then some x else some false) k) = k (b && x) := by cases b <;> rfl

theorem validA_ok (s : HS) : batten_Valid s = some (setB s) := by
  obtain ⟨nm, dp, lo, hi, len, ls, pi, ar, pu, mo, br, l, bs⟩ := s
  simp only [batten_Valid, batten_Valid_b, isName_ok, btwA_ok, linesA_ok, itemsA_ok, bricksA_ok, obind_bif, obind_some', not_or_self', or_self_not, Bool.and_self, Bool.or_true, cT, bif_false', setB]
  have e : (decide (0 ≤ lo) && (decide (lo ≤ hi) && decide (hi ≤ 1048576))) = (btw lo 0 hi && btw hi 0 1048576) := by
    unfold btw
    by_cases h1 : 0 ≤ lo <;> by_cases h2 : lo ≤ hi <;> by_cases h3 : hi ≤ 1048576
    all_goals first | (rw [decide_eq_true h1]) | (rw [decide_eq_false h1])
    all_goals first | (rw [decide_eq_true h2]) | (rw [decide_eq_false h2])
    all_goals first | (rw [decide_eq_true h3]) | (rw [decide_eq_false h3])
    all_goals simp
    omega
  have e2 : ∀ R : Bool, (decide (0 ≤ lo) && (decide (lo ≤ hi) && (decide (hi ≤ 1048576) && R))) = (btw lo 0 hi && (btw hi 0 1048576 && R)) := fun R => by
    have := congrArg (· && R) e
    simpa only [Bool.and_assoc] using this
  rw [← e2]
  congr 1
  generalize nameB nm = b1
  generalize btw dp 0 1048576 = b2
  generalize decide (0 ≤ lo) = b3
  generalize decide (lo ≤ hi) = b4
  generalize decide (hi ≤ 1048576) = b5
  generalize btw len 1000 1048576 = b6
  generalize decide (Int.tmod len 1000 = 0) = b7
  generalize linesB ls len = b8
  generalize btw pi 0 1048576 = b9
  generalize btw ar 0 1048576 = b10
  generalize btw pu 1 2 = b11
  generalize btw mo 1 67108864 = b12
  generalize btw br 0 67108864 = b13
  generalize itemsB l len = b14
  generalize bricksB bs = b15
  cases b1; · rfl
  cases b2; · rfl
  cases b3; · rfl
  cases b4; · rfl
  cases b5; · rfl
  cases b6; · rfl
  cases b7; · rfl
  cases b8; · rfl
  cases b9; · rfl
  cases b10; · rfl
  cases b11; · rfl
  cases b12; · rfl
  cases b13; · rfl
  cases b14; · rfl
  cases b15 <;> rfl

theorem validR_ok (s : HS) (hl : s.2.2.2.2.2.2.2.2.2.2.2.1.length ≤ 1000000) : ref21_Valid s = some (setB s) := by
  obtain ⟨nm, dp, lo, hi, len, ls, pi, ar, pu, mo, br, l, bs⟩ := s
  simp only at hl
  simp only [ref21_Valid, ref21_Valid_b, refIsName_ok, btwB_ok, itemsR_ok _ _ _ _ _ _ _ _ _ _ _ _ _ hl, bricksR_ok, obind_bif, obind_some', setB, linesB]
  generalize nameB nm = b1
  generalize btw dp 0 1048576 = b2
  generalize btw lo 0 hi = b3
  generalize btw hi 0 1048576 = b4
  generalize btw len 1000 1048576 = b6
  generalize decide (Int.tmod len 1000 = 0) = b7
  generalize hb : btw (ls.length : Int) 2 10 = b8
  generalize btw pi 0 1048576 = b9
  generalize btw ar 0 1048576 = b10
  generalize btw pu 1 2 = b11
  generalize btw mo 1 67108864 = b12
  generalize btw br 0 67108864 = b13
  cases b1; · rfl
  cases b2; · rfl
  cases b3; · rfl
  cases b4; · rfl
  cases b6; · rfl
  cases b7; · rfl
  cases b8; · rfl
  have h2 : 2 ≤ ls.length ∧ ls.length ≤ 10 := by
    unfold btw at hb
    rw [Bool.and_eq_true, decide_eq_true_iff, decide_eq_true_iff] at hb
    omega
  cases b9; · (simp only [Bool.false_and, Bool.and_false]; rfl)
  cases b10; · (simp only [Bool.false_and, Bool.and_false]; rfl)
  cases b11; · (simp only [Bool.false_and, Bool.and_false]; rfl)
  cases b12; · (simp only [Bool.false_and, Bool.and_false]; rfl)
  cases b13; · (simp only [Bool.false_and, Bool.and_false]; rfl)
  simp only [Bool.not_true, Bool.not_false, Bool.or_true, Bool.true_or, Bool.or_false, Bool.and_self, Bool.true_and, Bool.and_true, cT, cF, not_or_self', or_self_not]
  refine (lpK_up (α := Int × PUnit) ls.length (by omega) (fun i (_ : Unit) => ((i : Int), PUnit.unit)) (fun i s k => bif lineB ls len i then k s else some false) (fun _ => some (itemsB l len && bricksB bs)) ?_ ?_ ()).trans ?_
  · intro again i _ hi
    have hw : IntKind.wrap .i64 ((i : Int) + 1) = ((i + 1 : Nat) : Int) := by rw [wrap_id (by omega) (by omega)]; rfl
    simp only [inB_nat, decide_eq_true hi, decide_eq_true (show (i : Int) < ls.length by omega), cT, Int.toNat_natCast, hw]
    unfold lineB
    by_cases hz : i = 0
    · rw [decide_eq_false (show ¬ (i : Int) > 0 by omega), decide_eq_true hz]
      cases btw (ls.getD i 0) 0 len <;> rfl
    · have hw1 : IntKind.wrap .i64 ((i : Int) - 1) = ((i - 1 : Nat) : Int) := by rw [wrap_id (by omega) (by omega)]; omega
      rw [decide_eq_true (show (i : Int) > 0 by omega), decide_eq_false hz]
      simp only [hw1, inB_nat, decide_eq_true (show i - 1 < ls.length by omega), Int.toNat_natCast]
      by_cases hc : ls.getD (i - 1) 0 < ls.getD i 0
      · rw [decide_eq_true hc, decide_eq_false (show ¬ ls.getD i 0 ≤ ls.getD (i - 1) 0 by omega)]
        cases btw (ls.getD i 0) 0 len <;> rfl
      · rw [decide_eq_false hc, decide_eq_true (show ls.getD i 0 ≤ ls.getD (i - 1) 0 by omega)]
        cases btw (ls.getD i 0) 0 len <;> rfl
  · intro again _
    simp only [decide_eq_false (show ¬ (ls.length : Int) < ls.length by omega), cF]
    cases itemsB l len <;> cases bricksB bs <;> rfl
  · rw [upF_all ls.length (fun i k _ => rfl) ls.length 0 (by omega)]
    cases (List.range' 0 ls.length).all (lineB ls len) <;> simp

end Go.Proofs.YtmoiiokmfanlgaaGreat

namespace Go.Proofs.YtmoiiokmfanlgaaGreat
open Tryz Dn Dn.Sh

abbrev Bm := ByteArray × Int × Int × Int
abbrev bm0 : Bm := ({ data := { toList := [] } }, (0 : Int), (0 : Int), (0 : Int))
def bmAt (l : List Bm) (i : Nat) : Bm := l.getD i bm0
def inL (n : Int) : Bool := decide (0 ≤ n ∧ n ≤ 1048576)
def inW (n : Int) : Bool := decide (0 ≤ n ∧ n ≤ 67108864)
/-- The beam at i is one, and no earlier one has its name. -/
noncomputable def beamB (l : List Bm) (i : Nat) : Bool := nameB (bmAt l i).1 && (decide (0 ≤ (bmAt l i).2.1 ∧ (bmAt l i).2.1 ≤ (bmAt l i).2.2.1 ∧ (bmAt l i).2.2.1 ≤ 1048576) && (inW (bmAt l i).2.2.2 && decide (idxI (fun a : Bm => decide (a.1 = (bmAt l i).1)) (l.take i) 0 < 0)))
noncomputable def validG (l : List Bm) : Bool := decide (l.length ≤ 20) && (List.range' 0 l.length).all (beamB l)
theorem within_ok (n : Int) : grid_within n = some (inL n) := by
  simp only [grid_within, grid_within_b, not_or_self', cT, bif_false', ge_iff_le, inL, Bool.decide_and]
theorem isNameG_ok (s : ByteArray) : grid_isName s = some (nameB s) := by
  simp only [grid_isName, grid_isName_b, isName_ok, obind_some']
theorem between_ok (n a b : Int) : ref19_between n a b = some (decide (a ≤ n ∧ n ≤ b)) := by
  simp only [ref19_between, ref19_between_b, not_or_self', Bool.and_self, cT, bif_false', ge_iff_le, Bool.decide_and]
theorem index85 {f : (Bm × Unit) → Option Bool} {p : Bm → Bool} {l : List Bm} (hl : l.length ≤ 1000000) (h : ∀ a, a ∈ l → f (a, ()) = some (p a)) : slices_IndexFunc_151 l f = some (idxI p l 0) := by
  unfold slices_IndexFunc_151 slices_IndexFunc_151_b
  exact index_loop (f := f) (d := bm0) hl h
theorem contains41' {f : (Bm × Unit) → Option Bool} {p : Bm → Bool} {l : List Bm} (hl : l.length ≤ 1000000) (h : ∀ a, a ∈ l → f (a, ()) = some (p a)) : slices_ContainsFunc_110 l f = some (!decide (idxI p l 0 < 0)) := by
  simp only [slices_ContainsFunc_110, slices_ContainsFunc_110_b, index85 hl h, obind_some']
  congr 1
  rw [Bool.eq_iff_iff]
  simp

theorem gValid_ok (l : List Bm) : grid_Valid l = some (validG l) := by
  simp only [grid_Valid, grid_Valid_b, validG]
  by_cases h0 : l.length ≤ 20
  · rw [decide_eq_false (show ¬ ((l.length : Nat) : Int) > 20 by omega), decide_eq_true h0]
    simp only [cF, Bool.true_and]
    refine (lpK_up (α := Int × PUnit) l.length (by omega) (fun i (_ : Unit) => ((i : Int), PUnit.unit)) (fun i s k => bif beamB l i then k s else some false) (fun _ => some true) ?_ ?_ ()).trans ?_
    · intro again i _ hi
      have hw : IntKind.wrap .i64 ((i : Int) + 1) = ((i + 1 : Nat) : Int) := by rw [wrap_id (by omega) (by omega)]; rfl
      have hs : slB (0 : Int) (i : Int) l.length = true := slB_of (by omega) (by omega) (by omega)
      have hc : slices_ContainsFunc_110 (List.drop 0 (List.take i l)) (fun x => grid_Valid_1 x.1 (bmAt l i)) = some (!decide (idxI (fun a : Bm => decide (a.1 = (bmAt l i).1)) (l.take i) 0 < 0)) :=
        contains41' (l := List.drop 0 (List.take i l)) (p := fun a : Bm => decide (a.1 = (bmAt l i).1)) (by rw [List.drop_zero, List.length_take]; omega) fun a _ => by simp only [grid_Valid_1, grid_Valid_1_b, str_beq]
      simp only [inB_nat, decide_eq_true hi, decide_eq_true (show (i : Int) < l.length by omega), cT, Int.toNat_natCast, hw, show List.getD l i bm0 = bmAt l i from rfl, isNameG_ok, within_ok, obind_some', hs]
      unfold beamB
      generalize bmAt l i = b at *
      obtain ⟨s, fr, to, mo⟩ := b
      simp only at hc ⊢
      rw [hc]
      generalize decide (idxI (fun a : Bm => decide (a.1 = s)) (l.take i) 0 < 0) = q
      cases nameB s with
      | false => rfl
      | true =>
        by_cases g1 : 0 ≤ fr ∧ fr ≤ 1048576
        · by_cases g2 : 0 ≤ to ∧ to ≤ 1048576
          · by_cases g3 : fr > to
            · simp only [inL, decide_eq_true g1, decide_eq_true g2, decide_eq_true g3, decide_eq_false (show ¬ (0 ≤ fr ∧ fr ≤ to ∧ to ≤ 1048576) by omega)]
              simp [obind_some']
            · by_cases g4 : mo < 0
              · simp only [inL, inW, decide_eq_true g1, decide_eq_true g2, decide_eq_false g3, decide_eq_true g4, decide_eq_true (show (0 ≤ fr ∧ fr ≤ to ∧ to ≤ 1048576) by omega), decide_eq_false (show ¬ (0 ≤ mo ∧ mo ≤ 67108864) by omega)]
                simp [obind_some']
              · by_cases g5 : mo > 67108864
                · simp only [inL, inW, decide_eq_true g1, decide_eq_true g2, decide_eq_false g3, decide_eq_false g4, decide_eq_true g5, decide_eq_true (show (0 ≤ fr ∧ fr ≤ to ∧ to ≤ 1048576) by omega), decide_eq_false (show ¬ (0 ≤ mo ∧ mo ≤ 67108864) by omega)]
                  simp [obind_some']
                · simp only [inL, inW, decide_eq_true g1, decide_eq_true g2, decide_eq_false g3, decide_eq_false g4, decide_eq_false g5, decide_eq_true (show (0 ≤ fr ∧ fr ≤ to ∧ to ≤ 1048576) by omega), decide_eq_true (show (0 ≤ mo ∧ mo ≤ 67108864) by omega)]
                  cases q <;> simp [obind_some']
          · simp only [inL, decide_eq_true g1, decide_eq_false g2, decide_eq_false (show ¬ (0 ≤ fr ∧ fr ≤ to ∧ to ≤ 1048576) by omega)]
            simp [obind_some']
        · simp only [inL, decide_eq_false g1]
          by_cases g6 : 0 ≤ fr ∧ fr ≤ to ∧ to ≤ 1048576
          · omega
          · simp only [decide_eq_false g6]
            simp [obind_some']
    · intro again _
      simp
    · exact upF_all l.length (fun i k _ => rfl) l.length 0 (by omega) |>.trans (by cases (List.range' 0 l.length).all (beamB l) <;> rfl)
  · rw [decide_eq_true (show ((l.length : Nat) : Int) > 20 by omega), decide_eq_false h0]
    rfl

/-- A search for an earlier element: the walk of a loop below i. -/
theorem earlier_loop {p : Bm → Bool} {l : List Bm} {i : Nat} (hl : l.length ≤ 1000000) (hi : i ≤ l.length) {R : Type} {yes no : Option R} :
    lpK (Int × PUnit) R (fun (again_1 : Int × PUnit → Option R) (x_1 : Int × PUnit) => bif decide (x_1.fst < (i : Int)) then bif inB x_1.fst (List.length l) then bif p (List.getD l (Int.toNat x_1.fst) bm0) then yes else
      again_1 (IntKind.wrap IntKind.i64 (x_1.fst + (1 : Int)), PUnit.unit) else none else no) ((0 : Int), PUnit.unit) = bif decide (idxI p (l.take i) 0 < 0) then no else yes := by
  refine (lpK_up (α := Int × PUnit) i (by omega) (fun j (_ : Unit) => ((j : Int), PUnit.unit)) (fun j s k => bif !p (l.getD j bm0) then k s else yes) (fun _ => no) ?_ ?_ ()).trans ?_
  · intro again j _ hj
    have hw : IntKind.wrap .i64 ((j : Int) + 1) = ((j + 1 : Nat) : Int) := by rw [wrap_id (by omega) (by omega)]; rfl
    simp only [inB_nat, decide_eq_true (show j < l.length by omega), decide_eq_true (show (j : Int) < i by omega), cT, Int.toNat_natCast, hw]
    cases p (l.getD j bm0) <;> rfl
  · intro again _
    simp only [decide_eq_false (show ¬ (i : Int) < i by omega), cF]
  · refine (upF_all (p := fun j => !p (l.getD j bm0)) (r := yes) i (fun _ _ _ => rfl) i 0 (by omega)).trans ?_
    congr 1
    have h := idxI_neg (p := p) (l := l.take i) (i := 0) (by omega)
    rw [Bool.eq_iff_iff, decide_eq_true_iff, h, List.all_eq_true]
    constructor
    · intro h1 a ha
      obtain ⟨j, hj, rfl⟩ := List.getElem_of_mem ha
      rw [List.length_take] at hj
      have := h1 j (List.mem_range'.2 ⟨j, by omega, by omega⟩)
      rw [getD_nat (show j < l.length by omega)] at this
      rw [List.getElem_take]
      simpa using this
    · intro h1 j hj
      obtain ⟨k, hk, rfl⟩ := List.mem_range'.1 hj
      have : l.getD (0 + 1 * k) bm0 ∈ l.take i := by
        rw [getD_nat (by omega)]
        exact List.mem_take_iff_getElem.2 ⟨0 + 1 * k, by omega, rfl⟩
      rw [h1 _ this]
      rfl

theorem gRefValid_ok (l : List Bm) : ref19_Valid l = some (validG l) := by
  simp only [ref19_Valid, ref19_Valid_b, validG]
  by_cases h0 : l.length ≤ 20
  · rw [decide_eq_false (show ¬ ((l.length : Nat) : Int) > 20 by omega), decide_eq_true h0]
    simp only [cF, Bool.true_and]
    refine (lpK_up (α := Int × PUnit) l.length (by omega) (fun i (_ : Unit) => ((i : Int), PUnit.unit)) (fun i s k => bif beamB l i then k s else some false) (fun _ => some true) ?_ ?_ ()).trans ?_
    · intro again i _ hi
      have hw : IntKind.wrap .i64 ((i : Int) + 1) = ((i + 1 : Nat) : Int) := by rw [wrap_id (by omega) (by omega)]; rfl
      have he := fun (no : Option Bool) => earlier_loop (p := fun a : Bm => decide (a.1 = (bmAt l i).1)) (l := l) (i := i) (by omega) (by omega) (yes := some false) (no := no)
      simp only [inB_nat, decide_eq_true hi, decide_eq_true (show (i : Int) < l.length by omega), cT, Int.toNat_natCast, hw, show List.getD l i bm0 = bmAt l i from rfl, refIsName_ok, between_ok, obind_some', str_beq]
      rw [he]
      unfold beamB inW
      generalize bmAt l i = b at *
      obtain ⟨s, fr, to, mo⟩ := b
      simp only
      generalize decide (idxI (fun a : Bm => decide (a.1 = s)) (l.take i) 0 < 0) = q
      cases nameB s with
      | false => rfl
      | true =>
        by_cases g1 : 0 ≤ fr ∧ fr ≤ to
        · by_cases g2 : 0 ≤ to ∧ to ≤ 1048576
          · simp only [decide_eq_true g1, decide_eq_true g2, decide_eq_true (show (0 ≤ fr ∧ fr ≤ to ∧ to ≤ 1048576) by omega)]
            cases decide (0 ≤ mo ∧ mo ≤ 67108864) <;> cases q <;> simp [obind_some']
          · simp only [decide_eq_true g1, decide_eq_false g2, decide_eq_false (show ¬ (0 ≤ fr ∧ fr ≤ to ∧ to ≤ 1048576) by omega)]
            simp [obind_some']
        · simp only [decide_eq_false g1, decide_eq_false (show ¬ (0 ≤ fr ∧ fr ≤ to ∧ to ≤ 1048576) by omega)]
          simp [obind_some']
    · intro again _
      simp
    · exact upF_all l.length (fun i k _ => rfl) l.length 0 (by omega) |>.trans (by cases (List.range' 0 l.length).all (beamB l) <;> rfl)
  · rw [decide_eq_true (show ((l.length : Nat) : Int) > 20 by omega), decide_eq_false h0]
    rfl

end Go.Proofs.YtmoiiokmfanlgaaGreat

namespace Go.Proofs.YtmoiiokmfanlgaaGreat
open Tryz Dn Dn.Sh

abbrev HH := ByteArray × Int × List HS × List Bm
abbrev set0 : HS := ({ data := { toList := [] } }, (0 : Int), (0 : Int), (0 : Int), (0 : Int), [], (0 : Int), (0 : Int), (0 : Int), (0 : Int), (0 : Int), [], [])

/-! ### Small ones -/

def shortB (s : ByteArray) : Bool := !decide ((s.size : Int) > 60)
def small21B (s : HS) : Bool := shortB s.1 && (!decide ((s.2.2.2.2.2.1.length : Int) > 12) && (!(decide ((s.2.2.2.2.2.2.2.2.2.2.2.1.length : Int) > 8) && decide ((s.2.2.2.2.2.2.2.2.2.2.2.1.length : Int) ≤ 40)) && (!decide ((s.2.2.2.2.2.2.2.2.2.2.2.1.length : Int) > 45) &&
  (!decide ((s.2.2.2.2.2.2.2.2.2.2.2.2.length : Int) > 10) && (s.2.2.2.2.2.2.2.2.2.2.2.1.all (fun x => shortB x.1) && s.2.2.2.2.2.2.2.2.2.2.2.2.all (fun x => shortB x.1))))))

/-- A loop that checks each element of a list. -/
theorem chk_loop {α R : Type} {p : α → Bool} {d : α} {l : List α} {yes no : Option R} {F : (Int × PUnit → Option R) → Int × PUnit → Option R} (hl : l.length ≤ 1000000)
    (hb : ∀ again (i : Nat), i < l.length → F again ((i : Int), PUnit.unit) = bif p (l.getD i d) then again (((i + 1 : Nat) : Int), PUnit.unit) else no) (hf : ∀ again, F again ((l.length : Int), PUnit.unit) = yes) :
    lpK (Int × PUnit) R F ((0 : Int), PUnit.unit) = bif l.all p then yes else no := by
  refine (lpK_up (α := Int × PUnit) l.length (by omega) (fun i (_ : Unit) => ((i : Int), PUnit.unit)) (fun i s k => bif p (l.getD i d) then k s else no) (fun _ => yes) ?_ ?_ ()).trans ?_
  · intro again i _ hi
    exact hb again i hi
  · intro again _
    exact hf again
  · rw [upF_all l.length (fun i k _ => rfl) l.length 0 (by omega), all_range]

theorem small21_ok (s : HS) : ref21_Small s 8 = some (small21B s) := by
  obtain ⟨nm, dp, lo, hi, len, ls, pi, ar, pu, mo, br, l, bs⟩ := s
  simp only [ref21_Small, ref21_Small_b, small21B]
  have h1 : shortB nm = !decide ((nm.size : Int) > 60) := rfl
  rw [h1]
  generalize decide ((nm.size : Int) > 60) = b1
  generalize decide ((ls.length : Int) > 12) = b2
  generalize decide ((l.length : Int) > 8) = b3
  generalize decide ((l.length : Int) ≤ 40) = b4
  generalize hb5 : decide ((l.length : Int) > 45) = b5
  generalize hb6 : decide ((bs.length : Int) > 10) = b6
  cases b1; case true => rfl
  cases b2; case true => rfl
  have key : ∀ b : Bool, b5 = false → b6 = false → lpK (Int × PUnit) Bool (fun (again : Int × PUnit → Option Bool) (x : Int × PUnit) => bif decide (x.fst < (↑(List.length l) : Int)) then bif inB x.fst (List.length l) then bif decide ((↑(ByteArray.size (List.getD l (Int.toNat x.fst) itm0).fst) : Int) > (60 : Int)) then some false else again (IntKind.wrap IntKind.i64 (x.fst + (1 : Int)), PUnit.unit) else none else
      lpK (Int × PUnit) Bool (fun (again : Int × PUnit → Option Bool) (x : Int × PUnit) => bif decide (x.fst < (↑(List.length bs) : Int)) then bif inB x.fst (List.length bs) then bif decide ((↑(ByteArray.size (List.getD bs (Int.toNat x.fst) brk0).fst) : Int) > (60 : Int)) then some false else again (IntKind.wrap IntKind.i64 (x.fst + (1 : Int)), PUnit.unit) else none else some true) ((0 : Int), PUnit.unit)) ((0 : Int), PUnit.unit)
      = some (l.all (fun x => shortB x.1) && bs.all (fun x => shortB x.1)) := fun _ h5 h6 => by
    subst h5; subst h6
    have g5 : ¬ (l.length : Int) > 45 := of_decide_eq_false hb5
    have g6 : ¬ (bs.length : Int) > 10 := of_decide_eq_false hb6
    refine (chk_loop (p := fun x : Itm => shortB x.1) (d := itm0) (l := l) (no := some false) (yes := some (bs.all fun x => shortB x.1)) (by omega) ?_ ?_).trans ?_
    · intro again i hi
      have hw : IntKind.wrap .i64 ((i : Int) + 1) = ((i + 1 : Nat) : Int) := by rw [wrap_id (by omega) (by omega)]; rfl
      simp only [inB_nat, decide_eq_true hi, decide_eq_true (show (i : Int) < l.length by omega), cT, Int.toNat_natCast, hw]
      unfold shortB
      cases decide ((((l.getD i itm0).1.size : Nat) : Int) > 60) <;> rfl
    · intro again
      simp only [decide_eq_false (show ¬ (l.length : Int) < l.length by omega), cF]
      refine (chk_loop (p := fun x : Brk => shortB x.1) (d := brk0) (l := bs) (no := some false) (yes := some true) (by omega) ?_ ?_).trans ?_
      · intro again i hi
        have hw : IntKind.wrap .i64 ((i : Int) + 1) = ((i + 1 : Nat) : Int) := by rw [wrap_id (by omega) (by omega)]; rfl
        simp only [inB_nat, decide_eq_true hi, decide_eq_true (show (i : Int) < bs.length by omega), cT, Int.toNat_natCast, hw]
        unfold shortB
        cases decide ((((bs.getD i brk0).1.size : Nat) : Int) > 60) <;> rfl
      · intro again
        simp only [decide_eq_false (show ¬ (bs.length : Int) < bs.length by omega), cF]
      · cases bs.all (fun x => shortB x.1) <;> rfl
    · cases l.all (fun x => shortB x.1) <;> rfl
  cases b3 with
  | false =>
    cases b5; case true => rfl
    cases b6; case true => rfl
    simp only [Bool.not_true, Bool.not_false, Bool.or_true, Bool.true_or, Bool.or_false, Bool.false_or, Bool.and_self, Bool.true_and, Bool.and_true, Bool.false_and, Bool.and_false, cT, cF]
    exact key true rfl rfl
  | true =>
    cases b4; case true => rfl
    cases b5; case true => rfl
    cases b6; case true => rfl
    simp only [Bool.not_true, Bool.not_false, Bool.or_true, Bool.true_or, Bool.or_false, Bool.false_or, Bool.and_self, Bool.true_and, Bool.and_true, Bool.false_and, Bool.and_false, cT, cF]
    exact key true rfl rfl

def smallHB (h : HH) : Bool := !decide ((h.2.2.1.length : Int) > 6) && (!decide ((h.2.2.2.length : Int) > 16) && (shortB h.1 && (h.2.2.1.all small21B && h.2.2.2.all (fun x => shortB x.1))))
theorem smallH_ok (h : HH) : law30_small h = some (smallHB h) := by
  obtain ⟨nm, ht, ss, rs⟩ := h
  simp only [law30_small, law30_small_b, ref30_Small, ref30_Small_b, smallHB, small21_ok, obind_some']
  have h1 : shortB nm = !decide ((nm.size : Int) > 60) := rfl
  rw [h1, show IntKind.wrap .i64 (6 + 10) = 16 by kernel_rfl]
  generalize decide ((nm.size : Int) > 60) = b1
  generalize hb2 : decide ((ss.length : Int) > 6) = b2
  generalize hb3 : decide ((rs.length : Int) > 16) = b3
  cases b2; case true => rfl
  cases b3; case true => rfl
  cases b1; case true => rfl
  have g2 : ¬ (ss.length : Int) > 6 := of_decide_eq_false hb2
  have g3 : ¬ (rs.length : Int) > 16 := of_decide_eq_false hb3
  simp only [Bool.not_true, Bool.not_false, Bool.or_true, Bool.true_or, Bool.or_false, Bool.false_or, Bool.and_self, Bool.true_and, Bool.and_true, Bool.false_and, Bool.and_false, cT, cF]
  refine Eq.trans (congrArg (fun m : Option Bool => obind m fun t => some t) (chk_loop (p := small21B) (d := set0) (l := ss) (no := some false) (yes := some (rs.all fun x => shortB x.1)) (by omega) ?_ ?_)) ?_
  · intro again i hi
    have hw : IntKind.wrap .i64 ((i : Int) + 1) = ((i + 1 : Nat) : Int) := by rw [wrap_id (by omega) (by omega)]; rfl
    simp only [inB_nat, decide_eq_true hi, decide_eq_true (show (i : Int) < ss.length by omega), cT, Int.toNat_natCast, hw]
    cases small21B (ss.getD i set0) <;> rfl
  · intro again
    simp only [decide_eq_false (show ¬ (ss.length : Int) < ss.length by omega), cF]
    refine (chk_loop (p := fun x : Bm => shortB x.1) (d := bm0) (l := rs) (no := some false) (yes := some true) (by omega) ?_ ?_).trans ?_
    · intro again i hi
      have hw : IntKind.wrap .i64 ((i : Int) + 1) = ((i + 1 : Nat) : Int) := by rw [wrap_id (by omega) (by omega)]; rfl
      simp only [inB_nat, decide_eq_true hi, decide_eq_true (show (i : Int) < rs.length by omega), cT, Int.toNat_natCast, hw]
      unfold shortB
      cases decide ((((rs.getD i bm0).1.size : Nat) : Int) > 60) <;> rfl
    · intro again
      simp only [decide_eq_false (show ¬ (rs.length : Int) < rs.length by omega), cF]
    · cases rs.all (fun x => shortB x.1) <;> rfl
  · cases ss.all small21B <;> cases rs.all (fun x => shortB x.1) <;> rfl
theorem small_len {h : HH} (hs : smallHB h = true) : h.2.2.1.length ≤ 6 ∧ h.2.2.2.length ≤ 16 ∧ ∀ s ∈ h.2.2.1, s.2.2.2.2.2.1.length ≤ 12 ∧ s.2.2.2.2.2.2.2.2.2.2.2.1.length ≤ 45 ∧ s.2.2.2.2.2.2.2.2.2.2.2.2.length ≤ 10 := by
  simp only [smallHB, Bool.and_eq_true, Bool.not_eq_true', decide_eq_false_iff_not, List.all_eq_true] at hs
  obtain ⟨h1, h2, _, h4, _⟩ := hs
  refine ⟨by omega, by omega, fun s hm => ?_⟩
  have := h4 s hm
  simp only [small21B, Bool.and_eq_true, Bool.not_eq_true', decide_eq_false_iff_not] at this
  obtain ⟨_, g1, _, g2, g3, _⟩ := this
  omega

/-! ### Names of sets -/

def findI (h : HH) (n : ByteArray) : Int := idxI (fun s : HS => decide (s.1 = n)) h.2.2.1 0
theorem find_ok (h : HH) (n : ByteArray) (hl : h.2.2.1.length ≤ 1000000) : house_find h n = some (findI h n) := by
  simp only [house_find, house_find_b, house_find_1, house_find_1_b, str_beq]
  unfold slices_IndexFunc_50 slices_IndexFunc_50_b
  exact congrArg (fun m : Option Int => obind m fun t => some t) (index_loop (f := fun x : HS × Unit => some (decide (x.1.1 = n))) (p := fun s : HS => decide (s.1 = n)) (d := set0) hl (fun a _ => rfl))
theorem findSet_ok (h : HH) (n : ByteArray) (hl : h.2.2.1.length ≤ 1000000) : ref30_FindSet h n = some (findI h n) := by
  simp only [ref30_FindSet, ref30_FindSet_b, str_beq]
  exact find_loop (p := fun s : HS => decide (s.1 = n)) (d := set0) hl

/-! ### Valid ones -/

noncomputable def validHB (h : HH) : Bool := nameB h.1 && (!decide (h.2.1 < 1) && (!decide (h.2.1 > 1048576) && (!decide ((h.2.2.1.length : Int) > 60) && (validG h.2.2.2 && (List.range' 0 h.2.2.1.length).all fun i => setB (h.2.2.1.getD i set0) && (!decide ((h.2.2.1.getD i set0).2.2.2.1 > h.2.1) && decide (findI h (h.2.2.1.getD i set0).1 = (i : Int)))))))

theorem hValid_ok (h : HH) : house_Valid h = some (validHB h) := by
  obtain ⟨nm, ht, ss, rs⟩ := h
  simp only [house_Valid, house_Valid_b, isName_ok, gValid_ok, validA_ok, obind_bif, obind_some', validHB]
  generalize nameB nm = b1
  generalize decide (ht < 1) = b2
  generalize decide (ht > 1048576) = b3
  generalize hb4 : decide ((ss.length : Int) > 60) = b4
  generalize validG rs = b5
  cases b1; · rfl
  cases b2; case true => rfl
  cases b3; case true => rfl
  cases b4; case true => rfl
  cases b5; · rfl
  have g4 : ¬ (ss.length : Int) > 60 := of_decide_eq_false hb4
  have hfind := fun n => find_ok (nm, ht, ss, rs) n (by simp only; omega)
  simp only [Bool.not_true, Bool.not_false, Bool.or_true, Bool.true_or, Bool.or_false, Bool.false_or, Bool.and_self, Bool.true_and, Bool.and_true, Bool.false_and, Bool.and_false, cT, cF]
  refine (lpK_up (α := Int × PUnit) ss.length (by omega) (fun i (_ : Unit) => ((i : Int), PUnit.unit)) (fun i s k => bif setB (ss.getD i set0) && (!decide ((ss.getD i set0).2.2.2.1 > ht) && decide (findI (nm, ht, ss, rs) (ss.getD i set0).1 = (i : Int))) then k s else some false) (fun _ => some true) ?_ ?_ ()).trans ?_
  · intro again i _ hi
    have hw : IntKind.wrap .i64 ((i : Int) + 1) = ((i + 1 : Nat) : Int) := by rw [wrap_id (by omega) (by omega)]; rfl
    simp only [inB_nat, decide_eq_true hi, decide_eq_true (show (i : Int) < ss.length by omega), cT, Int.toNat_natCast, hw, hfind, show List.getD ss i ({ data := { toList := [] } }, (0 : Int), (0 : Int), (0 : Int), (0 : Int), [], (0 : Int), (0 : Int), (0 : Int), (0 : Int), (0 : Int), [], []) = ss.getD i set0 from rfl]
    generalize hf : decide (findI (nm, ht, ss, rs) (ss.getD i set0).1 = (i : Int)) = b6
    cases setB (ss.getD i set0) with
    | false => rfl
    | true =>
      cases decide ((ss.getD i set0).2.2.2.1 > ht) with
      | true => rfl
      | false =>
        simp only [Bool.not_true, Bool.not_false, Bool.or_true, Bool.true_or, Bool.or_false, Bool.false_or, Bool.and_self, Bool.true_and, cT, cF, obind_some', hf]
        cases b6 <;> rfl
  · intro again _
    simp only [decide_eq_false (show ¬ (ss.length : Int) < ss.length by omega), cF]
  · rw [upF_all ss.length (fun i k _ => rfl) ss.length 0 (by omega)]
    cases (List.range' 0 ss.length).all fun i => setB (ss.getD i set0) && (!decide ((ss.getD i set0).2.2.2.1 > ht) && decide (findI (nm, ht, ss, rs) (ss.getD i set0).1 = (i : Int))) <;> rfl

theorem hRefValid_ok (h : HH) (hL : ∀ s ∈ h.2.2.1, s.2.2.2.2.2.2.2.2.2.2.2.1.length ≤ 1000000) : ref30_Valid h = some (validHB h) := by
  obtain ⟨nm, ht, ss, rs⟩ := h
  simp only at hL
  simp only [ref30_Valid, ref30_Valid_b, refIsName_ok, gRefValid_ok, obind_bif, obind_some', validHB]
  generalize nameB nm = b1
  generalize decide (ht < 1) = b2
  generalize decide (ht > 1048576) = b3
  generalize hb4 : decide ((ss.length : Int) > 60) = b4
  generalize validG rs = b5
  cases b1; · rfl
  cases b2; case true => rfl
  cases b3; case true => rfl
  cases b4; case true => rfl
  cases b5; · rfl
  have g4 : ¬ (ss.length : Int) > 60 := of_decide_eq_false hb4
  have hfind := fun n => findSet_ok (nm, ht, ss, rs) n (by simp only; omega)
  simp only [Bool.not_true, Bool.not_false, Bool.or_true, Bool.true_or, Bool.or_false, Bool.false_or, Bool.and_self, Bool.true_and, Bool.and_true, Bool.false_and, Bool.and_false, cT, cF]
  refine (lpK_up (α := Int × PUnit) ss.length (by omega) (fun i (_ : Unit) => ((i : Int), PUnit.unit)) (fun i s k => bif setB (ss.getD i set0) && (!decide ((ss.getD i set0).2.2.2.1 > ht) && decide (findI (nm, ht, ss, rs) (ss.getD i set0).1 = (i : Int))) then k s else some false) (fun _ => some true) ?_ ?_ ()).trans ?_
  · intro again i _ hi
    have hw : IntKind.wrap .i64 ((i : Int) + 1) = ((i + 1 : Nat) : Int) := by rw [wrap_id (by omega) (by omega)]; rfl
    have hv : ref21_Valid (ss.getD i set0) = some (setB (ss.getD i set0)) := validR_ok _ (hL _ (by rw [getD_nat hi]; exact List.getElem_mem _))
    simp only [inB_nat, decide_eq_true hi, decide_eq_true (show (i : Int) < ss.length by omega), cT, Int.toNat_natCast, hw, hfind, show List.getD ss i ({ data := { toList := [] } }, (0 : Int), (0 : Int), (0 : Int), (0 : Int), [], (0 : Int), (0 : Int), (0 : Int), (0 : Int), (0 : Int), [], []) = ss.getD i set0 from rfl, hv, obind_some']
    generalize hf : decide (findI (nm, ht, ss, rs) (ss.getD i set0).1 = (i : Int)) = b6
    cases setB (ss.getD i set0) with
    | false => rfl
    | true =>
      cases decide ((ss.getD i set0).2.2.2.1 > ht) with
      | true => rfl
      | false =>
        simp only [Bool.not_true, Bool.not_false, Bool.or_true, Bool.true_or, Bool.or_false, Bool.false_or, Bool.and_self, Bool.true_and, cT, cF, obind_some', hf]
        cases b6 <;> rfl
  · intro again _
    simp only [decide_eq_false (show ¬ (ss.length : Int) < ss.length by omega), cF]
  · rw [upF_all ss.length (fun i k _ => rfl) ss.length 0 (by omega)]
    cases (List.range' 0 ss.length).all fun i => setB (ss.getD i set0) && (!decide ((ss.getD i set0).2.2.2.1 > ht) && decide (findI (nm, ht, ss, rs) (ss.getD i set0).1 = (i : Int))) <;> rfl

end Go.Proofs.YtmoiiokmfanlgaaGreat

namespace Go.Proofs.YtmoiiokmfanlgaaGreat
open Tryz Dn Dn.Sh

end Go.Proofs.YtmoiiokmfanlgaaGreat

namespace Go.Proofs.YtmoiiokmfanlgaaGreat
open Tryz Dn Dn.Sh

end Go.Proofs.YtmoiiokmfanlgaaGreat

namespace Go.Proofs.YtmoiiokmfanlgaaGreat
namespace Dn

abbrev Fq := Int × Int

/-- A pair in lowest terms that fits. -/
def okF (a : Fq) : Prop := (1 ≤ a.2 ∧ a.2 ≤ 1152921504606846976) ∧ (-1152921504606846976 ≤ a.1 ∧ a.1 ≤ 1152921504606846976) ∧ Nat.gcd a.1.natAbs a.2.natAbs = 1
instance (a : Fq) : Decidable (okF a) := by unfold okF; infer_instance

def fitsQ (q : Rat) : Prop := q.num.natAbs ≤ 1152921504606846976 ∧ q.den ≤ 1152921504606846976
instance (q : Rat) : Decidable (fitsQ q) := by unfold fitsQ; infer_instance
end Dn
end Go.Proofs.YtmoiiokmfanlgaaGreat

namespace Go.Proofs.YtmoiiokmfanlgaaGreat
open Tryz Dn Dn.Sh

end Go.Proofs.YtmoiiokmfanlgaaGreat

namespace Go.Proofs.YtmoiiokmfanlgaaGreat
open Tryz Dn Dn.Sh

/-- A number of two words. -/
def hl (n : Nat) : Int × Int := (((n / 18446744073709551616 : Nat) : Int), ((n % 18446744073709551616 : Nat) : Int))

end Go.Proofs.YtmoiiokmfanlgaaGreat

namespace Go.Proofs.YtmoiiokmfanlgaaGreat
open Tryz Dn Dn.Sh

end Go.Proofs.YtmoiiokmfanlgaaGreat

namespace Go.Proofs.YtmoiiokmfanlgaaGreat
open Tryz Dn Dn.Sh

end Go.Proofs.YtmoiiokmfanlgaaGreat

namespace Go.Proofs.YtmoiiokmfanlgaaGreat
open Tryz Dn Dn.Sh

end Go.Proofs.YtmoiiokmfanlgaaGreat

namespace Go.Proofs.YtmoiiokmfanlgaaGreat
open Tryz Dn Dn.Sh

end Go.Proofs.YtmoiiokmfanlgaaGreat

namespace Go.Proofs.YtmoiiokmfanlgaaGreat
open Tryz Dn Dn.Sh

end Go.Proofs.YtmoiiokmfanlgaaGreat

namespace Go.Proofs.YtmoiiokmfanlgaaGreat
open Tryz Dn Dn.Sh

end Go.Proofs.YtmoiiokmfanlgaaGreat

namespace Go.Proofs.YtmoiiokmfanlgaaGreat
open Tryz Dn Dn.Sh

end Go.Proofs.YtmoiiokmfanlgaaGreat

namespace Go.Proofs.YtmoiiokmfanlgaaGreat
open Tryz Dn Dn.Sh

end Go.Proofs.YtmoiiokmfanlgaaGreat

namespace Go.Proofs.YtmoiiokmfanlgaaGreat
open Tryz Dn Dn.Sh

end Go.Proofs.YtmoiiokmfanlgaaGreat

namespace Go.Proofs.YtmoiiokmfanlgaaGreat
open Tryz Dn Dn.Sh

end Go.Proofs.YtmoiiokmfanlgaaGreat

namespace Go.Proofs.YtmoiiokmfanlgaaGreat
open Tryz Dn Dn.Sh

end Go.Proofs.YtmoiiokmfanlgaaGreat

namespace Go.Proofs.YtmoiiokmfanlgaaGreat
open Tryz Dn Dn.Sh

end Go.Proofs.YtmoiiokmfanlgaaGreat

namespace Go.Proofs.YtmoiiokmfanlgaaGreat
open Tryz Dn Dn.Sh

/-- As 'obind_some'', but not by computation. -/
theorem obS0 {T R : Type} {c : Option T} {t : T} (h : c = some t) (k : T → Option R) : obind c k = k t := by subst h; rfl
theorem obS {T R : Type} (t : T) (k : T → Option R) : obind (some t) k = k t := obS0 (Eq.trans rfl rfl) k

end Go.Proofs.YtmoiiokmfanlgaaGreat

namespace Go.Proofs.YtmoiiokmfanlgaaGreat
open Tryz Dn Dn.Sh

end Go.Proofs.YtmoiiokmfanlgaaGreat

namespace Go.Proofs.YtmoiiokmfanlgaaGreat
open Tryz Dn Dn.Sh

theorem awakeH_ok : law30_awake = some true := by kernel_rfl

end Go.Proofs.YtmoiiokmfanlgaaGreat

namespace Go.Proofs.YtmoiiokmfanlgaaGreat
open Tryz Dn Dn.Sh

def allE {α : Type} (p : α → α → Bool) (d : α) (a b : List α) : Bool := (List.range' 0 a.length).all fun i => p (a.getD i d) (b.getD i d)
def lenE {α : Type} (a b : List α) : Bool := decide ((a.length : Int) = (b.length : Int))
def eqL {α : Type} (p : α → α → Bool) (d : α) (a b : List α) : Bool := lenE a b && allE p d a b

/-- A loop that compares two lists, place by place. -/
theorem eq_loop {α R : Type} {p : α → α → Bool} {d : α} {a b : List α} {yes no : Option R} {F : (Int × PUnit → Option R) → Int × PUnit → Option R} (hl : a.length ≤ 1000000)
    (hb : ∀ again (i : Nat), i < a.length → F again ((i : Int), PUnit.unit) = bif p (a.getD i d) (b.getD i d) then again (((i + 1 : Nat) : Int), PUnit.unit) else no) (hf : ∀ again, F again ((a.length : Int), PUnit.unit) = yes) :
    lpK (Int × PUnit) R F ((0 : Int), PUnit.unit) = bif allE p d a b then yes else no := by
  refine (lpK_up (α := Int × PUnit) a.length (by omega) (fun i (_ : Unit) => ((i : Int), PUnit.unit)) (fun i s k => bif p (a.getD i d) (b.getD i d) then k s else no) (fun _ => yes) ?_ ?_ ()).trans ?_
  · intro again i _ hi
    exact hb again i hi
  · intro again _
    exact hf again
  · rw [upF_all a.length (fun i k _ => rfl) a.length 0 (by omega)]
    rfl

def intE (a b : Int) : Bool := decide (a = b)
def itmE (x y : Itm) : Bool := Array.isEqv x.1.data y.1.data (fun (a b : UInt8) => decide (a = b)) && (decide (x.2.1 = y.2.1) && (decide (x.2.2.1 = y.2.2.1) && (decide (x.2.2.2.1 = y.2.2.2.1) && (decide (x.2.2.2.2.1 = y.2.2.2.2.1) && (decide (x.2.2.2.2.2.1 = y.2.2.2.2.2.1) && (decide (x.2.2.2.2.2.2 = y.2.2.2.2.2.2) && true))))))
def brkE (x y : Brk) : Bool := Array.isEqv x.1.data y.1.data (fun (a b : UInt8) => decide (a = b)) && (decide (x.2.1 = y.2.1) && (decide (x.2.2 = y.2.2) && true))
def bmE (x y : Bm) : Bool := Array.isEqv x.1.data y.1.data (fun (a b : UInt8) => decide (a = b)) && (decide (x.2.1 = y.2.1) && (decide (x.2.2.1 = y.2.2.1) && (decide (x.2.2.2 = y.2.2.2) && true)))

theorem lenE_nat {α : Type} {a b : List α} (h : lenE a b = true) : a.length = b.length := by
  have : (a.length : Int) = (b.length : Int) := of_decide_eq_true h
  omega

theorem equal26 {a b : List Int} (hl : a.length ≤ 1000000) : slices_Equal_26 a b = some (eqL intE 0 a b) := by
  simp only [slices_Equal_26, slices_Equal_26_b, show decide ((a.length : Int) = (b.length : Int)) = lenE a b from rfl, eqL]
  cases h : lenE a b with
  | false => rfl
  | true =>
    have hab := lenE_nat h
    simp only [Bool.not_true, cF, Bool.true_and]
    refine (eq_loop (p := intE) (d := (0 : Int)) (a := a) (b := b) (yes := some true) (no := some false) hl ?_ ?_).trans ?_
    · intro again i hi
      have hw : IntKind.wrap .i64 ((i : Int) + 1) = ((i + 1 : Nat) : Int) := by rw [wrap_id (by omega) (by omega)]; rfl
      simp only [inB_nat, decide_eq_true hi, decide_eq_true (show i < b.length by omega), decide_eq_true (show (i : Int) < a.length by omega), cT, Int.toNat_natCast, hw, show decide (a.getD i 0 = b.getD i 0) = intE (a.getD i 0) (b.getD i 0) from rfl]
      cases intE (a.getD i 0) (b.getD i 0) <;> rfl
    · intro again
      simp only [decide_eq_false (show ¬ (a.length : Int) < a.length by omega), cF]
    · cases allE intE 0 a b <;> rfl
theorem equal112 {a b : List Itm} (hl : a.length ≤ 1000000) : slices_Equal_112 a b = some (eqL itmE itm0 a b) := by
  simp only [slices_Equal_112, slices_Equal_112_b, show decide ((a.length : Int) = (b.length : Int)) = lenE a b from rfl, eqL]
  cases h : lenE a b with
  | false => rfl
  | true =>
    have hab := lenE_nat h
    simp only [Bool.not_true, cF, Bool.true_and]
    refine (eq_loop (p := itmE) (d := itm0) (a := a) (b := b) (yes := some true) (no := some false) hl ?_ ?_).trans ?_
    · intro again i hi
      have hw : IntKind.wrap .i64 ((i : Int) + 1) = ((i + 1 : Nat) : Int) := by rw [wrap_id (by omega) (by omega)]; rfl
      simp only [inB_nat, decide_eq_true hi, decide_eq_true (show i < b.length by omega), decide_eq_true (show (i : Int) < a.length by omega), cT, Int.toNat_natCast, hw]
      show (bif !itmE (a.getD i itm0) (b.getD i itm0) then _ else _) = _
      cases itmE (a.getD i itm0) (b.getD i itm0) <;> rfl
    · intro again
      simp only [decide_eq_false (show ¬ (a.length : Int) < a.length by omega), cF]
    · cases allE itmE itm0 a b <;> rfl
theorem equal113 {a b : List Brk} (hl : a.length ≤ 1000000) : slices_Equal_113 a b = some (eqL brkE brk0 a b) := by
  simp only [slices_Equal_113, slices_Equal_113_b, show decide ((a.length : Int) = (b.length : Int)) = lenE a b from rfl, eqL]
  cases h : lenE a b with
  | false => rfl
  | true =>
    have hab := lenE_nat h
    simp only [Bool.not_true, cF, Bool.true_and]
    refine (eq_loop (p := brkE) (d := brk0) (a := a) (b := b) (yes := some true) (no := some false) hl ?_ ?_).trans ?_
    · intro again i hi
      have hw : IntKind.wrap .i64 ((i : Int) + 1) = ((i + 1 : Nat) : Int) := by rw [wrap_id (by omega) (by omega)]; rfl
      simp only [inB_nat, decide_eq_true hi, decide_eq_true (show i < b.length by omega), decide_eq_true (show (i : Int) < a.length by omega), cT, Int.toNat_natCast, hw]
      show (bif !brkE (a.getD i brk0) (b.getD i brk0) then _ else _) = _
      cases brkE (a.getD i brk0) (b.getD i brk0) <;> rfl
    · intro again
      simp only [decide_eq_false (show ¬ (a.length : Int) < a.length by omega), cF]
    · cases allE brkE brk0 a b <;> rfl
theorem equal66 {a b : List Bm} (hl : a.length ≤ 1000000) : slices_Equal_66 a b = some (eqL bmE bm0 a b) := by
  simp only [slices_Equal_66, slices_Equal_66_b, show decide ((a.length : Int) = (b.length : Int)) = lenE a b from rfl, eqL]
  cases h : lenE a b with
  | false => rfl
  | true =>
    have hab := lenE_nat h
    simp only [Bool.not_true, cF, Bool.true_and]
    refine (eq_loop (p := bmE) (d := bm0) (a := a) (b := b) (yes := some true) (no := some false) hl ?_ ?_).trans ?_
    · intro again i hi
      have hw : IntKind.wrap .i64 ((i : Int) + 1) = ((i + 1 : Nat) : Int) := by rw [wrap_id (by omega) (by omega)]; rfl
      simp only [inB_nat, decide_eq_true hi, decide_eq_true (show i < b.length by omega), decide_eq_true (show (i : Int) < a.length by omega), cT, Int.toNat_natCast, hw]
      show (bif !bmE (a.getD i bm0) (b.getD i bm0) then _ else _) = _
      cases bmE (a.getD i bm0) (b.getD i bm0) <;> rfl
    · intro again
      simp only [decide_eq_false (show ¬ (a.length : Int) < a.length by omega), cF]
    · cases allE bmE bm0 a b <;> rfl

/-- Two sets are equal. -/
def sameB (s t : HS) : Bool := decide (s.1 = t.1) && (intE s.2.1 t.2.1 && (intE s.2.2.1 t.2.2.1 && (intE s.2.2.2.1 t.2.2.2.1 && (intE s.2.2.2.2.1 t.2.2.2.2.1 && (intE s.2.2.2.2.2.2.1 t.2.2.2.2.2.2.1 && (intE s.2.2.2.2.2.2.2.1 t.2.2.2.2.2.2.2.1 && (intE s.2.2.2.2.2.2.2.2.1 t.2.2.2.2.2.2.2.2.1 &&
  (intE s.2.2.2.2.2.2.2.2.2.1 t.2.2.2.2.2.2.2.2.2.1 && (intE s.2.2.2.2.2.2.2.2.2.2.1 t.2.2.2.2.2.2.2.2.2.2.1 && (eqL intE 0 s.2.2.2.2.2.1 t.2.2.2.2.2.1 && (eqL itmE itm0 s.2.2.2.2.2.2.2.2.2.2.2.1 t.2.2.2.2.2.2.2.2.2.2.2.1 && eqL brkE brk0 s.2.2.2.2.2.2.2.2.2.2.2.2 t.2.2.2.2.2.2.2.2.2.2.2.2)))))))))))

theorem sameA_ok (s t : HS) (h1 : s.2.2.2.2.2.1.length ≤ 1000000) (h2 : s.2.2.2.2.2.2.2.2.2.2.2.1.length ≤ 1000000) (h3 : s.2.2.2.2.2.2.2.2.2.2.2.2.length ≤ 1000000) : house_sameSet s t = some (sameB s t) := by
  simp only [house_sameSet, house_sameSet_b, str_beq, equal26 h1, equal112 h2, equal113 h3, obind_bif, not_or_self', or_self_not, Bool.and_self, Bool.or_true, cT, bif_false', sameB]
  simp only [show ∀ a b : Int, decide (a = b) = intE a b from fun _ _ => rfl, Bool.and_assoc]
  congr 1
  generalize decide (s.1 = t.1) = b1
  generalize intE s.2.1 t.2.1 = b2
  generalize intE s.2.2.1 t.2.2.1 = b3
  generalize intE s.2.2.2.1 t.2.2.2.1 = b4
  generalize intE s.2.2.2.2.1 t.2.2.2.2.1 = b5
  generalize intE s.2.2.2.2.2.2.1 t.2.2.2.2.2.2.1 = b6
  generalize intE s.2.2.2.2.2.2.2.1 t.2.2.2.2.2.2.2.1 = b7
  generalize intE s.2.2.2.2.2.2.2.2.1 t.2.2.2.2.2.2.2.2.1 = b8
  generalize intE s.2.2.2.2.2.2.2.2.2.1 t.2.2.2.2.2.2.2.2.2.1 = b9
  generalize intE s.2.2.2.2.2.2.2.2.2.2.1 t.2.2.2.2.2.2.2.2.2.2.1 = b10
  generalize eqL intE 0 s.2.2.2.2.2.1 t.2.2.2.2.2.1 = b11
  generalize eqL itmE itm0 s.2.2.2.2.2.2.2.2.2.2.2.1 t.2.2.2.2.2.2.2.2.2.2.2.1 = b12
  generalize eqL brkE brk0 s.2.2.2.2.2.2.2.2.2.2.2.2 t.2.2.2.2.2.2.2.2.2.2.2.2 = b13
  cases b1; · rfl
  cases b2; · rfl
  cases b3; · rfl
  cases b4; · rfl
  cases b5; · rfl
  cases b6; · rfl
  cases b7; · rfl
  cases b8; · rfl
  cases b9; · rfl
  cases b10; · rfl
  cases b11; · rfl
  cases b12; · rfl
  cases b13 <;> rfl

end Go.Proofs.YtmoiiokmfanlgaaGreat

namespace Go.Proofs.YtmoiiokmfanlgaaGreat
open Tryz Dn Dn.Sh

theorem sameR_ok (s t : HS) (h1 : s.2.2.2.2.2.1.length ≤ 1000000) (h2 : s.2.2.2.2.2.2.2.2.2.2.2.1.length ≤ 1000000) (h3 : s.2.2.2.2.2.2.2.2.2.2.2.2.length ≤ 1000000) : ref21_Same s t = some (sameB s t) := by
  obtain ⟨nm, dp, lo, hi, len, ls, pi, ar, pu, mo, br, l, bs⟩ := s
  obtain ⟨nm', dp', lo', hi', len', ls', pi', ar', pu', mo', br', l', bs'⟩ := t
  simp only at h1 h2 h3
  simp only [ref21_Same, ref21_Same_b, str_beq, sameB, eqL]
  rw [show decide ((ls.length : Int) = (ls'.length : Int)) = lenE ls ls' from rfl, show decide ((l.length : Int) = (l'.length : Int)) = lenE l l' from rfl, show decide ((bs.length : Int) = (bs'.length : Int)) = lenE bs bs' from rfl]
  rw [show decide (dp = dp') = intE dp dp' from rfl, show decide (lo = lo') = intE lo lo' from rfl, show decide (hi = hi') = intE hi hi' from rfl, show decide (len = len') = intE len len' from rfl, show decide (pi = pi') = intE pi pi' from rfl,
    show decide (ar = ar') = intE ar ar' from rfl, show decide (pu = pu') = intE pu pu' from rfl, show decide (mo = mo') = intE mo mo' from rfl, show decide (br = br') = intE br br' from rfl]
  generalize decide (nm = nm') = b1
  generalize intE dp dp' = b2
  generalize intE lo lo' = b3
  generalize intE hi hi' = b4
  generalize intE len len' = b5
  generalize intE pi pi' = b6
  generalize intE ar ar' = b7
  generalize intE pu pu' = b8
  generalize intE mo mo' = b9
  generalize intE br br' = b10
  cases b1; · rfl
  cases b2; · rfl
  cases b3; · rfl
  cases b4; · rfl
  cases b5; · rfl
  cases b6; · rfl
  cases b7; · rfl
  cases b8; · rfl
  cases b9; · rfl
  cases b10; · rfl
  cases g1 : lenE ls ls'; · rfl
  cases g2 : lenE l l'; · (simp only [Bool.false_and, Bool.and_false]; rfl)
  cases g3 : lenE bs bs'; · (simp only [Bool.false_and, Bool.and_false]; rfl)
  have e1 := lenE_nat g1
  have e2 := lenE_nat g2
  have e3 := lenE_nat g3
  simp only [Bool.not_true, Bool.not_false, Bool.or_true, Bool.true_or, Bool.or_false, Bool.false_or, Bool.and_self, Bool.true_and, cT, cF]
  refine (eq_loop (p := intE) (d := (0 : Int)) (a := ls) (b := ls') (yes := some (allE itmE itm0 l l' && allE brkE brk0 bs bs')) (no := some false) h1 ?_ ?_).trans ?_
  · intro again i hi
    have hw : IntKind.wrap .i64 ((i : Int) + 1) = ((i + 1 : Nat) : Int) := by rw [wrap_id (by omega) (by omega)]; rfl
    simp only [inB_nat, decide_eq_true hi, decide_eq_true (show i < ls'.length by omega), decide_eq_true (show (i : Int) < ls.length by omega), cT, Int.toNat_natCast, hw]
    show (bif !intE (ls.getD i 0) (ls'.getD i 0) then _ else _) = _
    cases intE (ls.getD i 0) (ls'.getD i 0) <;> rfl
  · intro again
    simp only [decide_eq_false (show ¬ (ls.length : Int) < ls.length by omega), cF]
    refine (eq_loop (p := itmE) (d := itm0) (a := l) (b := l') (yes := some (allE brkE brk0 bs bs')) (no := some false) h2 ?_ ?_).trans ?_
    · intro again i hi
      have hw : IntKind.wrap .i64 ((i : Int) + 1) = ((i + 1 : Nat) : Int) := by rw [wrap_id (by omega) (by omega)]; rfl
      simp only [inB_nat, decide_eq_true hi, decide_eq_true (show i < l'.length by omega), decide_eq_true (show (i : Int) < l.length by omega), cT, Int.toNat_natCast, hw]
      show (bif !itmE (l.getD i itm0) (l'.getD i itm0) then _ else _) = _
      cases itmE (l.getD i itm0) (l'.getD i itm0) <;> rfl
    · intro again
      simp only [decide_eq_false (show ¬ (l.length : Int) < l.length by omega), cF]
      refine (eq_loop (p := brkE) (d := brk0) (a := bs) (b := bs') (yes := some true) (no := some false) h3 ?_ ?_).trans ?_
      · intro again i hi
        have hw : IntKind.wrap .i64 ((i : Int) + 1) = ((i + 1 : Nat) : Int) := by rw [wrap_id (by omega) (by omega)]; rfl
        simp only [inB_nat, decide_eq_true hi, decide_eq_true (show i < bs'.length by omega), decide_eq_true (show (i : Int) < bs.length by omega), cT, Int.toNat_natCast, hw]
        show (bif !brkE (bs.getD i brk0) (bs'.getD i brk0) then _ else _) = _
        cases brkE (bs.getD i brk0) (bs'.getD i brk0) <;> rfl
      · intro again
        simp only [decide_eq_false (show ¬ (bs.length : Int) < bs.length by omega), cF]
      · cases allE brkE brk0 bs bs' <;> rfl
    · cases allE itmE itm0 l l' <;> cases allE brkE brk0 bs bs' <;> rfl
  · cases allE intE 0 ls ls' <;> rfl

def sameHB (a b : HH) : Bool := decide (a.1 = b.1) && (intE a.2.1 b.2.1 && (eqL bmE bm0 a.2.2.2 b.2.2.2 && eqL sameB set0 a.2.2.1 b.2.2.1))
def fewP (h : HH) : Prop := h.2.2.1.length ≤ 1000000 ∧ h.2.2.2.length ≤ 1000000 ∧ ∀ s ∈ h.2.2.1, s.2.2.2.2.2.1.length ≤ 1000000 ∧ s.2.2.2.2.2.2.2.2.2.2.2.1.length ≤ 1000000 ∧ s.2.2.2.2.2.2.2.2.2.2.2.2.length ≤ 1000000
theorem small_few {h : HH} (hs : smallHB h = true) : fewP h := by
  obtain ⟨h1, h2, h3⟩ := small_len hs
  exact ⟨by omega, by omega, fun s hm => by have := h3 s hm; omega⟩
theorem few_at {h : HH} (hf : fewP h) {i : Nat} (hi : i < h.2.2.1.length) : (h.2.2.1.getD i set0).2.2.2.2.2.1.length ≤ 1000000 ∧ (h.2.2.1.getD i set0).2.2.2.2.2.2.2.2.2.2.2.1.length ≤ 1000000 ∧ (h.2.2.1.getD i set0).2.2.2.2.2.2.2.2.2.2.2.2.length ≤ 1000000 := by
  rw [getD_nat hi]
  exact hf.2.2 _ (List.getElem_mem _)

theorem hSame_ok (a b : HH) (hf : fewP a) : house_Same a b = some (sameHB a b) := by
  have hE : slices_EqualFunc_67 a.2.2.1 b.2.2.1 (fun x => house_sameSet x.1 x.2.1) = some (eqL sameB set0 a.2.2.1 b.2.2.1) := by
    simp only [slices_EqualFunc_67, slices_EqualFunc_67_b, show decide ((a.2.2.1.length : Int) = (b.2.2.1.length : Int)) = lenE a.2.2.1 b.2.2.1 from rfl, eqL]
    cases h : lenE a.2.2.1 b.2.2.1 with
    | false => rfl
    | true =>
      have hab := lenE_nat h
      have hl := hf.1
      simp only [Bool.not_true, cF, Bool.true_and]
      refine (eq_loop (p := sameB) (d := set0) (a := a.2.2.1) (b := b.2.2.1) (yes := some true) (no := some false) hl ?_ ?_).trans ?_
      · intro again i hi
        have hw : IntKind.wrap .i64 ((i : Int) + 1) = ((i + 1 : Nat) : Int) := by rw [wrap_id (by omega) (by omega)]; rfl
        obtain ⟨k1, k2, k3⟩ := few_at hf hi
        simp only [inB_nat, decide_eq_true hi, decide_eq_true (show i < b.2.2.1.length by omega), decide_eq_true (show (i : Int) < a.2.2.1.length by omega), cT, Int.toNat_natCast, hw, show List.getD a.2.2.1 i ({ data := { toList := [] } }, (0 : Int), (0 : Int), (0 : Int), (0 : Int), [], (0 : Int), (0 : Int), (0 : Int), (0 : Int), (0 : Int), [], []) = a.2.2.1.getD i set0 from rfl, sameA_ok _ _ k1 k2 k3, obS]
        cases sameB (a.2.2.1.getD i set0) (b.2.2.1.getD i set0) <;> rfl
      · intro again
        simp only [decide_eq_false (show ¬ (a.2.2.1.length : Int) < a.2.2.1.length by omega), cF]
      · cases allE sameB set0 a.2.2.1 b.2.2.1 <;> rfl
  simp only [house_Same, house_Same_b, str_beq, equal66 hf.2.1, hE, obind_bif, not_or_self', or_self_not, Bool.and_self, Bool.or_true, cT, bif_false', sameHB]
  rw [show decide (a.2.1 = b.2.1) = intE a.2.1 b.2.1 from rfl]
  cases decide (a.1 = b.1) <;> cases intE a.2.1 b.2.1 <;> cases eqL bmE bm0 a.2.2.2 b.2.2.2 <;> cases eqL sameB set0 a.2.2.1 b.2.2.1 <;> rfl

end Go.Proofs.YtmoiiokmfanlgaaGreat

namespace Go.Proofs.YtmoiiokmfanlgaaGreat
open Tryz Dn Dn.Sh

theorem hRefSame_ok (a b : HH) (hf : fewP a) : ref30_Same a b = some (sameHB a b) := by
  obtain ⟨nm, ht, ss, rs⟩ := a
  obtain ⟨nm', ht', ss', rs'⟩ := b
  have h1 := hf.1
  have h2 := hf.2.1
  simp only at h1 h2
  simp only [ref30_Same, ref30_Same_b, str_beq, sameHB, eqL]
  rw [show decide ((ss.length : Int) = (ss'.length : Int)) = lenE ss ss' from rfl, show decide ((rs.length : Int) = (rs'.length : Int)) = lenE rs rs' from rfl, show decide (ht = ht') = intE ht ht' from rfl]
  generalize decide (nm = nm') = b1
  generalize intE ht ht' = b2
  cases b1; · rfl
  cases b2; · rfl
  cases g1 : lenE ss ss'; · (simp only [Bool.false_and, Bool.and_false]; rfl)
  cases g2 : lenE rs rs'; · rfl
  have e1 := lenE_nat g1
  have e2 := lenE_nat g2
  simp only [Bool.not_true, Bool.not_false, Bool.or_true, Bool.true_or, Bool.or_false, Bool.false_or, Bool.and_self, Bool.true_and, cT, cF]
  refine (eq_loop (p := sameB) (d := set0) (a := ss) (b := ss') (yes := some (allE bmE bm0 rs rs')) (no := some false) h1 ?_ ?_).trans ?_
  · intro again i hi
    have hw : IntKind.wrap .i64 ((i : Int) + 1) = ((i + 1 : Nat) : Int) := by rw [wrap_id (by omega) (by omega)]; rfl
    obtain ⟨k1, k2, k3⟩ := few_at hf hi
    simp only [inB_nat, decide_eq_true hi, decide_eq_true (show i < ss'.length by omega), decide_eq_true (show (i : Int) < ss.length by omega), cT, Int.toNat_natCast, hw, show List.getD ss i ({ data := { toList := [] } }, (0 : Int), (0 : Int), (0 : Int), (0 : Int), [], (0 : Int), (0 : Int), (0 : Int), (0 : Int), (0 : Int), [], []) = ss.getD i set0 from rfl, sameR_ok _ _ k1 k2 k3, obS]
    cases sameB (ss.getD i set0) (ss'.getD i set0) <;> rfl
  · intro again
    simp only [decide_eq_false (show ¬ (ss.length : Int) < ss.length by omega), cF]
    refine (eq_loop (p := bmE) (d := bm0) (a := rs) (b := rs') (yes := some true) (no := some false) h2 ?_ ?_).trans ?_
    · intro again i hi
      have hw : IntKind.wrap .i64 ((i : Int) + 1) = ((i + 1 : Nat) : Int) := by rw [wrap_id (by omega) (by omega)]; rfl
      simp only [inB_nat, decide_eq_true hi, decide_eq_true (show i < rs'.length by omega), decide_eq_true (show (i : Int) < rs.length by omega), cT, Int.toNat_natCast, hw]
      show (bif !bmE (rs.getD i bm0) (rs'.getD i bm0) then _ else _) = _
      cases bmE (rs.getD i bm0) (rs'.getD i bm0) <;> rfl
    · intro again
      simp only [decide_eq_false (show ¬ (rs.length : Int) < rs.length by omega), cF]
    · cases allE bmE bm0 rs rs' <;> rfl
  · cases allE sameB set0 ss ss' <;> cases allE bmE bm0 rs rs' <;> rfl

theorem eqL_refl {α : Type} {p : α → α → Bool} {d : α} {a : List α} (h : ∀ x ∈ a, p x x = true) : eqL p d a a = true := by
  unfold eqL lenE allE
  rw [decide_eq_true rfl, Bool.true_and, List.all_eq_true]
  intro i hi
  obtain ⟨k, hk, rfl⟩ := List.mem_range'.1 hi
  rw [getD_nat (by omega)]
  exact h _ (List.getElem_mem _)
theorem intE_refl (a : Int) : intE a a = true := decide_eq_true rfl
theorem isEqv_refl (a : Array UInt8) : Array.isEqv a a (fun (a b : UInt8) => decide (a = b)) = true := Array.isEqv_self a
theorem sameB_refl (s : HS) : sameB s s = true := by
  unfold sameB
  simp only [decide_true, intE_refl, Bool.true_and]
  rw [eqL_refl fun x _ => intE_refl x, eqL_refl fun x _ => by simp [itmE, isEqv_refl], eqL_refl fun x _ => by simp [brkE, isEqv_refl]]
  rfl
theorem sameHB_refl (a : HH) : sameHB a a = true := by
  unfold sameHB
  rw [decide_eq_true rfl, intE_refl, eqL_refl fun x _ => by simp [bmE, isEqv_refl], eqL_refl fun x _ => sameB_refl x]
  rfl

theorem law8g (a b : HH) : law30_HouseForms a b = some true := by
  simp only [law30_HouseForms, law30_HouseForms_b, awakeH_ok, smallH_ok, obS, Bool.not_true, cF, obind_bif]
  cases ha : smallHB a with
  | false => rfl
  | true =>
    have hf := small_few ha
    have hL : ∀ s ∈ a.2.2.1, s.2.2.2.2.2.2.2.2.2.2.2.1.length ≤ 1000000 := fun s hs => (hf.2.2 s hs).2.1
    simp only [hValid_ok, hRefValid_ok a hL, hSame_ok a b hf, hSame_ok a a hf, hRefSame_ok a b hf, sameHB_refl, obS, obind_bif, decide_true, Bool.not_true, Bool.not_false, Bool.or_true, Bool.true_or, Bool.or_false, Bool.false_or, Bool.and_self, Bool.true_and, cT, cF]
    cases smallHB b <;> rfl

theorem law8 : ∀ x : TsS [T25, T25], wfs [T25, T25] x → law30_HouseForms x.1 x.2.1 = some true := fun x _ => law8g x.1 x.2.1

end Go.Proofs.YtmoiiokmfanlgaaGreat
