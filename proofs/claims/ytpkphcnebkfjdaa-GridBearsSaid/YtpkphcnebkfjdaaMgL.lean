/- Loops over lists: searches and tests of all elements. Beams and loads: both programs know the same valid ones. Loops over the elements of a list, as recursions over it. Beams over a depth: how many, which. Fractions: rational numbers, and the pairs of numbers that stand for them. Fractions: what 'Make', 'Valid', 'Mul', 'Floor', 'Ceil' of package ratio answer. Fractions: products of two words, 'Mul', 'Floor', 'Ceil' of package ratio. Fractions of the reference: numbers of two words, their greatest common divisors and quotients. Fractions of the reference: 'Div', 'Made', 'Make', 'Times', 'Floor', 'Ceil'. Numbers of 128 bits: sums, differences, comparisons; the length of a number. The quotient of a number of 128 bits by one of 64. Fractions: 'Add' of package ratio. Fractions: 'Add', 'Valid', 'All' of the reference. Fractions: 'Sub' and 'Cmp' of both. What beams bear: the program's walk. What beams bear: the program's walk comes to the sums. What beams bear: the program's answer. What beams bear: the reference's answer. Beams and loads: what is wrong with them; Loads, Over. The spare weight at a depth: both programs' answer. Laws on beams: 'GridSpares', 'GridLoads'. Laws on beams: 'GridSums'. Loads of two lists together: slices.Concat; sums. Laws on beams: 'GridAdds'. Laws on beams: 'GridLoads'. Laws on beams: 'GridForms'. Law on beams: 'GridBears'. -/
import Derived.Test.YtpkphcnebkfjdaaMgK

namespace Go.Proofs.Ytpkphcnebkfjdaa
namespace Dn

theorem lpK_up {σ α R : Type} {F : (α → Option R) → α → Option R} (n : Nat) (hn : n ≤ 1180591620717411303423) (enc : Nat → σ → α) (b : Nat → σ → (σ → Option R) → Option R) (f : σ → Option R)
    (hb : ∀ again (i : Nat) s, i < n → F again (enc i s) = b i s (fun s' => again (enc (i + 1) s'))) (hf : ∀ again s, F again (enc n s) = f s) (s : σ) :
    lpK α R F (enc 0 s) = upF b f n 0 s := loopF_up n hn enc b f hb hf s

/-- The first place, from i on, of an element that p takes; -1 if none. -/
def idxI {α : Type} (p : α → Bool) : List α → Int → Int
  | [], _ => -1
  | a :: l, i => bif p a then i else idxI p l (i + 1)

theorem idxI_neg {α : Type} {p : α → Bool} : ∀ {l : List α} {i : Int}, 0 ≤ i → (idxI p l i < 0 ↔ ∀ a ∈ l, p a = false)
  | [], i, h => by simp [idxI]
  | a :: l, i, h => by
    unfold idxI
    cases hp : p a with
    | true => simp only [cond_true, List.mem_cons, forall_eq_or_imp, hp]; simp; omega
    | false => simp only [cond_false, List.mem_cons, forall_eq_or_imp, hp, true_and]; exact idxI_neg (by omega)

theorem idxI_drop {α : Type} {p : α → Bool} {l : List α} {d : α} {i : Nat} (h : i < l.length) : idxI p (l.drop i) i = bif p (l.getD i d) then (i : Int) else idxI p (l.drop (i + 1)) ((i : Int) + 1) := by
  rw [List.drop_eq_getElem_cons h, getD_nat h]
  rfl

theorem idxI_at {α : Type} {p : α → Bool} {d : α} : ∀ {l : List α} {i : Int}, 0 ≤ i → 0 ≤ idxI p l i → i ≤ idxI p l i ∧ idxI p l i < i + l.length ∧ p (l.getD (idxI p l i - i).toNat d) = true
  | [], i, _, h => by simp [idxI] at h
  | a :: l, i, hi, h => by
    unfold idxI at h ⊢
    cases hp : p a with
    | true => simp [hp]; omega
    | false =>
      rw [hp, cond_false] at h
      obtain ⟨h1, h2, h3⟩ := idxI_at (d := d) (show 0 ≤ i + 1 by omega) h
      rw [cond_false]
      refine ⟨by omega, by simp only [List.length_cons]; omega, ?_⟩
      have e : (idxI p l (i + 1) - i).toNat = (idxI p l (i + 1) - (i + 1)).toNat + 1 := by omega
      rw [e, List.getD_cons_succ]
      exact h3

/-- The walk of slices.IndexFunc. -/
theorem index_loop {α : Type} {f : (α × Unit) → Option Bool} {d : α} {p : α → Bool} {l : List α} (hl : l.length ≤ 1000000) (h : ∀ a, a ∈ l → f (a, ()) = some (p a)) :
    lpK (Int × PUnit) Int (fun (again : Int × PUnit → Option Int) (x : Int × PUnit) => bif decide (x.fst < (↑(List.length l) : Int)) then bif inB x.fst (List.length l) then obind (f
      (List.getD l (Int.toNat x.fst) d, PUnit.unit)) fun (t : Bool) => bif t then some x.fst else again
      (IntKind.wrap IntKind.i64 (x.fst + (1 : Int)), PUnit.unit) else none else some (-1 : Int)) ((0 : Int), PUnit.unit) = some (idxI p l 0) := by
  refine lpK_loop (g := fun _ => some (idxI p l 0)) (I := fun (x : Int × PUnit) => 0 ≤ x.1 ∧ x.1 ≤ l.length ∧ idxI p (l.drop x.1.toNat) x.1 = idxI p l 0) (μ := fun (x : Int × PUnit) => ((l.length : Int) - x.1).toNat) ?_ ⟨by simp, by simp only; omega, rfl⟩ (by simp only; omega)
  rintro ⟨i, _⟩ rec ⟨h0, h1, h2⟩ hrec
  simp only at h0 h1 h2 ⊢
  by_cases hi : i < l.length
  · obtain ⟨n, rfl⟩ : ∃ n : Nat, i = n := ⟨i.toNat, by omega⟩
    rw [decide_eq_true hi, cond_true, inB_of h0 hi, cond_true, Int.toNat_natCast, h _ (by rw [getD_nat (by omega)]; exact List.getElem_mem (by omega)), obind_some', wrap_id (by omega) (by omega)]
    rw [Int.toNat_natCast, idxI_drop (d := d) (by omega)] at h2
    cases hp : p (l.getD n d) with
    | true => rw [hp, cond_true] at h2; rw [cond_true, h2]
    | false => rw [hp, cond_false] at h2; rw [cond_false]; exact hrec _ ⟨by simp only; omega, by simp only; omega, h2⟩ (by simp only; omega)
  · rw [decide_eq_false hi, cond_false]
    have e : i.toNat = l.length := by omega
    rw [e, List.drop_length] at h2
    rw [← h2]
    rfl

theorem find_loop {α : Type} {p : α → Bool} {d : α} {l : List α} (hl : l.length ≤ 1000000) :
    lpK (Int × PUnit) Int (fun (again : Int × PUnit → Option Int) (x : Int × PUnit) => bif decide (x.fst < (↑(List.length l) : Int)) then bif inB x.fst (List.length l) then bif p
      (List.getD l (Int.toNat x.fst) d) then some x.fst else again
      (IntKind.wrap IntKind.i64 (x.fst + (1 : Int)), PUnit.unit) else none else some (-1 : Int)) ((0 : Int), PUnit.unit) = some (idxI p l 0) :=
  index_loop (f := fun a => some (p a.1)) hl fun _ _ => rfl

theorem upF_all {R σ : Type} {b : Nat → σ → (σ → Option R) → Option R} {f : σ → Option R} {p : Nat → Bool} {r : Option R} {s : σ} (n : Nat) (hb : ∀ i (k : σ → Option R), i < n → b i s k = bif p i then k s else r) :
    ∀ (k i : Nat), i + k ≤ n → upF b f k i s = bif (List.range' i k).all p then f s else r
  | 0, i, _ => rfl
  | k + 1, i, h => by
    simp only [upF, hb i _ (by omega), List.range'_succ, List.all_cons]
    cases hp : p i with
    | true => exact upF_all n hb k (i + 1) (by omega)
    | false => rfl

end Dn
end Go.Proofs.Ytpkphcnebkfjdaa

namespace Go.Proofs.Ytpkphcnebkfjdaa
open Try Dn Dn.Sh

abbrev Bm := ByteArray × Int × Int × Int
abbrev Ld := Int × Int
abbrev bm0 : Bm := ({ data := { toList := [] } }, (0 : Int), (0 : Int), (0 : Int))
def bmAt (l : List Bm) (i : Nat) : Bm := l.getD i bm0
def inL (n : Int) : Bool := decide (0 ≤ n ∧ n ≤ 1048576)
def inW (n : Int) : Bool := decide (0 ≤ n ∧ n ≤ 67108864)
/-- The beam at i is one, and no earlier one has its name. -/
noncomputable def beamB (l : List Bm) (i : Nat) : Bool := nameB (bmAt l i).1 && (decide (0 ≤ (bmAt l i).2.1 ∧ (bmAt l i).2.1 ≤ (bmAt l i).2.2.1 ∧ (bmAt l i).2.2.1 ≤ 1048576) && (inW (bmAt l i).2.2.2 && decide (idxI (fun a : Bm => decide (a.1 = (bmAt l i).1)) (l.take i) 0 < 0)))
noncomputable def validG (l : List Bm) : Bool := decide (l.length ≤ 20) && (List.range' 0 l.length).all (beamB l)
def loadB (x : Ld) : Bool := inL x.1 && inW x.2
def rightG (at_ : List Ld) : Bool := decide (at_.length ≤ 1000) && at_.all loadB

theorem within_ok (n : Int) : grid_within n = some (inL n) := by
  simp only [grid_within, grid_within_b, not_or_self', cT, bif_false', ge_iff_le, inL, Bool.decide_and]
theorem isNameG_ok (s : ByteArray) : grid_isName s = some (nameB s) := by
  simp only [grid_isName, grid_isName_b, isName_ok, obind_some']
theorem between_ok (n a b : Int) : ref19_between n a b = some (decide (a ≤ n ∧ n ≤ b)) := by
  simp only [ref19_between, ref19_between_b, not_or_self', Bool.and_self, cT, bif_false', ge_iff_le, Bool.decide_and]
theorem depth_ok (n : Int) : ref19_Depth n = some (inL n) := by
  simp only [ref19_Depth, ref19_Depth_b, between_ok, obind_some']
  rfl
theorem index85 {f : (Bm × Unit) → Option Bool} {p : Bm → Bool} {l : List Bm} (hl : l.length ≤ 1000000) (h : ∀ a, a ∈ l → f (a, ()) = some (p a)) : slices_IndexFunc_85 l f = some (idxI p l 0) := by
  unfold slices_IndexFunc_85 slices_IndexFunc_85_b
  exact index_loop (f := f) (d := bm0) hl h
theorem contains41 {f : (Bm × Unit) → Option Bool} {p : Bm → Bool} {l : List Bm} (hl : l.length ≤ 1000000) (h : ∀ a, a ∈ l → f (a, ()) = some (p a)) : slices_ContainsFunc_41 l f = some (l.any p) := by
  simp only [slices_ContainsFunc_41, slices_ContainsFunc_41_b, index85 hl h, obind_some']
  congr 1
  have := idxI_neg (p := p) (l := l) (i := 0) (by omega)
  rw [Bool.eq_iff_iff, decide_eq_true_iff, List.any_eq_true]
  constructor
  · intro h1
    by_cases h2 : ∃ a ∈ l, p a = true
    · exact h2
    · have : idxI p l 0 < 0 := this.2 fun a ha => by
        cases e : p a with
        | false => rfl
        | true => exact (h2 ⟨a, ha, e⟩).elim
      omega
  · rintro ⟨a, ha, h3⟩
    by_cases h2 : idxI p l 0 < 0
    · rw [this.1 h2 a ha] at h3; cases h3
    · omega
theorem contains41' {f : (Bm × Unit) → Option Bool} {p : Bm → Bool} {l : List Bm} (hl : l.length ≤ 1000000) (h : ∀ a, a ∈ l → f (a, ()) = some (p a)) : slices_ContainsFunc_41 l f = some (!decide (idxI p l 0 < 0)) := by
  simp only [slices_ContainsFunc_41, slices_ContainsFunc_41_b, index85 hl h, obind_some']
  congr 1
  rw [Bool.eq_iff_iff]
  simp

theorem gValid_ok (l : List Bm) : grid_Valid l = some (validG l) := by
  simp only [grid_Valid, grid_Valid_b, validG]
  by_cases h0 : l.length ≤ 20
  · rw [decide_eq_false (show ¬ ((l.length : Nat) : Int) > 20 by omega), decide_eq_true h0]
    simp only [cF, Bool.true_and]
    refine (lpK_up (α := Int × PUnit) l.length (by omega) (fun i (_ : Unit) => ((i : Int), PUnit.unit)) (fun i s k => bif beamB l i then k s else some false) (fun _ => some true) ?_ ?_ ()).trans ?_
    · intro again i _ hi
      have hw : IntKind.wrap .i64 ((i : Int) + 1) = ((i + 1 : Nat) : Int) := by rw [wrap_id (by omega) (by omega)]; rfl
      have hs : slB (0 : Int) (i : Int) l.length = true := slB_of (by omega) (by omega) (by omega)
      have hc : slices_ContainsFunc_41 (List.drop 0 (List.take i l)) (fun x => grid_Valid_1 x.1 (bmAt l i)) = some (!decide (idxI (fun a : Bm => decide (a.1 = (bmAt l i).1)) (l.take i) 0 < 0)) :=
        contains41' (l := List.drop 0 (List.take i l)) (p := fun a : Bm => decide (a.1 = (bmAt l i).1)) (by rw [List.drop_zero, List.length_take]; omega) fun a _ => by simp only [grid_Valid_1, grid_Valid_1_b, str_beq]
      simp only [inB_nat, decide_eq_true hi, decide_eq_true (show (i : Int) < l.length by omega), cT, Int.toNat_natCast, hw, show List.getD l i bm0 = bmAt l i from rfl, isNameG_ok, within_ok, obind_some', hs]
      unfold beamB
      generalize bmAt l i = b at *
      obtain ⟨s, fr, to, mo⟩ := b
      simp only at hc ⊢
      rw [hc]
      generalize decide (idxI (fun a : Bm => decide (a.1 = s)) (l.take i) 0 < 0) = q
      cases nameB s with
      | false => rfl
      | true =>
        by_cases g1 : 0 ≤ fr ∧ fr ≤ 1048576
        · by_cases g2 : 0 ≤ to ∧ to ≤ 1048576
          · by_cases g3 : fr > to
            · simp only [inL, decide_eq_true g1, decide_eq_true g2, decide_eq_true g3, decide_eq_false (show ¬ (0 ≤ fr ∧ fr ≤ to ∧ to ≤ 1048576) by omega)]
              simp [obind_some']
            · by_cases g4 : mo < 0
              · simp only [inL, inW, decide_eq_true g1, decide_eq_true g2, decide_eq_false g3, decide_eq_true g4, decide_eq_true (show (0 ≤ fr ∧ fr ≤ to ∧ to ≤ 1048576) by omega), decide_eq_false (show ¬ (0 ≤ mo ∧ mo ≤ 67108864) by omega)]
                simp [obind_some']
              · by_cases g5 : mo > 67108864
                · simp only [inL, inW, decide_eq_true g1, decide_eq_true g2, decide_eq_false g3, decide_eq_false g4, decide_eq_true g5, decide_eq_true (show (0 ≤ fr ∧ fr ≤ to ∧ to ≤ 1048576) by omega), decide_eq_false (show ¬ (0 ≤ mo ∧ mo ≤ 67108864) by omega)]
                  simp [obind_some']
                · simp only [inL, inW, decide_eq_true g1, decide_eq_true g2, decide_eq_false g3, decide_eq_false g4, decide_eq_false g5, decide_eq_true (show (0 ≤ fr ∧ fr ≤ to ∧ to ≤ 1048576) by omega), decide_eq_true (show (0 ≤ mo ∧ mo ≤ 67108864) by omega)]
                  cases q <;> simp [obind_some']
          · simp only [inL, decide_eq_true g1, decide_eq_false g2, decide_eq_false (show ¬ (0 ≤ fr ∧ fr ≤ to ∧ to ≤ 1048576) by omega)]
            simp [obind_some']
        · simp only [inL, decide_eq_false g1]
          by_cases g6 : 0 ≤ fr ∧ fr ≤ to ∧ to ≤ 1048576
          · omega
          · simp only [decide_eq_false g6]
            simp [obind_some']
    · intro again _
      simp
    · exact upF_all l.length (fun i k _ => rfl) l.length 0 (by omega) |>.trans (by cases (List.range' 0 l.length).all (beamB l) <;> rfl)
  · rw [decide_eq_true (show ((l.length : Nat) : Int) > 20 by omega), decide_eq_false h0]
    rfl

/-- A search for an earlier element: the walk of a loop below i. -/
theorem earlier_loop {p : Bm → Bool} {l : List Bm} {i : Nat} (hl : l.length ≤ 1000000) (hi : i ≤ l.length) {R : Type} {yes no : Option R} :
    lpK (Int × PUnit) R (fun (again_1 : Int × PUnit → Option R) (x_1 : Int × PUnit) => bif decide (x_1.fst < (i : Int)) then bif inB x_1.fst (List.length l) then bif p (List.getD l (Int.toNat x_1.fst) bm0) then yes else
      again_1 (IntKind.wrap IntKind.i64 (x_1.fst + (1 : Int)), PUnit.unit) else none else no) ((0 : Int), PUnit.unit) = bif decide (idxI p (l.take i) 0 < 0) then no else yes := by
  refine (lpK_up (α := Int × PUnit) i (by omega) (fun j (_ : Unit) => ((j : Int), PUnit.unit)) (fun j s k => bif !p (l.getD j bm0) then k s else yes) (fun _ => no) ?_ ?_ ()).trans ?_
  · intro again j _ hj
    have hw : IntKind.wrap .i64 ((j : Int) + 1) = ((j + 1 : Nat) : Int) := by rw [wrap_id (by omega) (by omega)]; rfl
    simp only [inB_nat, decide_eq_true (show j < l.length by omega), decide_eq_true (show (j : Int) < i by omega), cT, Int.toNat_natCast, hw]
    cases p (l.getD j bm0) <;> rfl
  · intro again _
    simp only [decide_eq_false (show ¬ (i : Int) < i by omega), cF]
  · refine (upF_all (p := fun j => !p (l.getD j bm0)) (r := yes) i (fun _ _ _ => rfl) i 0 (by omega)).trans ?_
    congr 1
    have h := idxI_neg (p := p) (l := l.take i) (i := 0) (by omega)
    rw [Bool.eq_iff_iff, decide_eq_true_iff, h, List.all_eq_true]
    constructor
    · intro h1 a ha
      obtain ⟨j, hj, rfl⟩ := List.getElem_of_mem ha
      rw [List.length_take] at hj
      have := h1 j (List.mem_range'.2 ⟨j, by omega, by omega⟩)
      rw [getD_nat (show j < l.length by omega)] at this
      rw [List.getElem_take]
      simpa using this
    · intro h1 j hj
      obtain ⟨k, hk, rfl⟩ := List.mem_range'.1 hj
      have : l.getD (0 + 1 * k) bm0 ∈ l.take i := by
        rw [getD_nat (by omega)]
        exact List.mem_take_iff_getElem.2 ⟨0 + 1 * k, by omega, rfl⟩
      rw [h1 _ this]
      rfl

theorem gRefValid_ok (l : List Bm) : ref19_Valid l = some (validG l) := by
  simp only [ref19_Valid, ref19_Valid_b, validG]
  by_cases h0 : l.length ≤ 20
  · rw [decide_eq_false (show ¬ ((l.length : Nat) : Int) > 20 by omega), decide_eq_true h0]
    simp only [cF, Bool.true_and]
    refine (lpK_up (α := Int × PUnit) l.length (by omega) (fun i (_ : Unit) => ((i : Int), PUnit.unit)) (fun i s k => bif beamB l i then k s else some false) (fun _ => some true) ?_ ?_ ()).trans ?_
    · intro again i _ hi
      have hw : IntKind.wrap .i64 ((i : Int) + 1) = ((i + 1 : Nat) : Int) := by rw [wrap_id (by omega) (by omega)]; rfl
      have he := fun (no : Option Bool) => earlier_loop (p := fun a : Bm => decide (a.1 = (bmAt l i).1)) (l := l) (i := i) (by omega) (by omega) (yes := some false) (no := no)
      simp only [inB_nat, decide_eq_true hi, decide_eq_true (show (i : Int) < l.length by omega), cT, Int.toNat_natCast, hw, show List.getD l i bm0 = bmAt l i from rfl, refIsName_ok, between_ok, obind_some', str_beq]
      rw [he]
      unfold beamB inW
      generalize bmAt l i = b at *
      obtain ⟨s, fr, to, mo⟩ := b
      simp only
      generalize decide (idxI (fun a : Bm => decide (a.1 = s)) (l.take i) 0 < 0) = q
      cases nameB s with
      | false => rfl
      | true =>
        by_cases g1 : 0 ≤ fr ∧ fr ≤ to
        · by_cases g2 : 0 ≤ to ∧ to ≤ 1048576
          · simp only [decide_eq_true g1, decide_eq_true g2, decide_eq_true (show (0 ≤ fr ∧ fr ≤ to ∧ to ≤ 1048576) by omega)]
            cases decide (0 ≤ mo ∧ mo ≤ 67108864) <;> cases q <;> simp [obind_some']
          · simp only [decide_eq_true g1, decide_eq_false g2, decide_eq_false (show ¬ (0 ≤ fr ∧ fr ≤ to ∧ to ≤ 1048576) by omega)]
            simp [obind_some']
        · simp only [decide_eq_false g1, decide_eq_false (show ¬ (0 ≤ fr ∧ fr ≤ to ∧ to ≤ 1048576) by omega)]
          simp [obind_some']
    · intro again _
      simp
    · exact upF_all l.length (fun i k _ => rfl) l.length 0 (by omega) |>.trans (by cases (List.range' 0 l.length).all (beamB l) <;> rfl)
  · rw [decide_eq_true (show ((l.length : Nat) : Int) > 20 by omega), decide_eq_false h0]
    rfl

end Go.Proofs.Ytpkphcnebkfjdaa

namespace Go.Proofs.Ytpkphcnebkfjdaa
namespace Dn

/-- A walk over a list: a round may answer, or go on with another state. -/
def listF {α σ R : Type} (b : α → σ → (σ → Option R) → Option R) (f : σ → Option R) : List α → σ → Option R
  | [], s => f s
  | a :: l, s => b a s (listF b f l)

theorem upF_list {α σ R : Type} (L : List α) (d : α) {b : α → σ → (σ → Option R) → Option R} {c : Nat → σ → (σ → Option R) → Option R} {f : σ → Option R} (h : ∀ i s k, i < L.length → c i s k = b (L.getD i d) s k) :
    ∀ (k i : Nat) (s : σ), i + k = L.length → upF c f k i s = listF b f (L.drop i) s
  | 0, i, s, hi => by
    rw [List.drop_of_length_le (by omega)]
    rfl
  | k + 1, i, s, hi => by
    rw [List.drop_eq_getElem_cons (show i < L.length by omega)]
    simp only [upF, listF]
    rw [h _ _ _ (by omega), getD_nat (by omega)]
    congr 1
    funext s'
    exact upF_list L d h k (i + 1) s' (by omega)

/-- A loop whose counter is a natural number. -/
theorem lpK_nat {α σ R : Type} (L : List α) (d : α) (hn : L.length ≤ 1180591620717411303423) {F : (Nat × σ → Option R) → Nat × σ → Option R} (b : α → σ → (σ → Option R) → Option R) (f : σ → Option R)
    (hb : ∀ again (i : Nat) s, i < L.length → F again (i, s) = b (L.getD i d) s (fun s' => again (i + 1, s'))) (hf : ∀ again s, F again (L.length, s) = f s) (s : σ) : lpK (Nat × σ) R F (0, s) = listF b f L s :=
  (lpK_up L.length hn (fun i s => (i, s)) (fun i s k => b (L.getD i d) s k) f hb hf s).trans ((upF_list L d (b := b) (fun _ _ _ _ => rfl) L.length 0 s (by omega)).trans (by rw [List.drop_zero]))

/-- A loop whose counter is an int in the state. -/
theorem lpK_int {α β σ R : Type} (L : List α) (d : α) (hn : L.length ≤ 1180591620717411303423) {F : (β → Option R) → β → Option R} (enc : Nat → σ → β) (b : α → σ → (σ → Option R) → Option R) (f : σ → Option R)
    (hb : ∀ again (i : Nat) s, i < L.length → F again (enc i s) = b (L.getD i d) s (fun s' => again (enc (i + 1) s'))) (hf : ∀ again s, F again (enc L.length s) = f s) (s : σ) : lpK β R F (enc 0 s) = listF b f L s :=
  (lpK_up L.length hn enc (fun i s k => b (L.getD i d) s k) f hb hf s).trans ((upF_list L d (b := b) (fun _ _ _ _ => rfl) L.length 0 s (by omega)).trans (by rw [List.drop_zero]))

/-- A walk that changes only its state. -/
theorem listF_fold {α σ R : Type} {b : α → σ → (σ → Option R) → Option R} {f : σ → Option R} (g : σ → α → σ) : ∀ {L : List α} {s : σ}, (∀ a ∈ L, ∀ s k, b a s k = k (g s a)) → listF b f L s = f (L.foldl g s)
  | [], _, _ => rfl
  | a :: L, s, h => by
    simp only [listF, List.foldl_cons]
    rw [h a (by simp)]
    exact listF_fold g fun a' ha => h a' (by simp [ha])

theorem listF_congr {α σ R : Type} {b b' : α → σ → (σ → Option R) → Option R} {f : σ → Option R} : ∀ {L : List α} {s : σ}, (∀ a ∈ L, ∀ s k, b a s k = b' a s k) → listF b f L s = listF b' f L s
  | [], _, _ => rfl
  | a :: L, s, h => by
    simp only [listF]
    rw [h a (by simp)]
    congr 1
    funext s'
    exact listF_congr fun a' ha => h a' (by simp [ha])

end Dn
end Go.Proofs.Ytpkphcnebkfjdaa

namespace Go.Proofs.Ytpkphcnebkfjdaa
open Try Dn Dn.Sh

def isB (d : Int) (b : Bm) : Bool := decide (b.2.1 ≤ d) && decide (d ≤ b.2.2.1)
def cntB (l : List Bm) (d : Int) : Nat := (l.filter (isB d)).length

theorem overG_cons' (d : Int) (b : Bm) (r : List Bm) (i : Int) : overG d (b :: r) i = bif isB d b then (i, ()) :: overG d r (i + 1) else overG d r (i + 1) := rfl
theorem overG_len (d : Int) : ∀ (r : List Bm) (i : Int), (overG d r i).length = cntB r d
  | [], _ => rfl
  | b :: r, i => by
    rw [overG_cons']
    unfold cntB
    rw [List.filter_cons]
    cases isB d b with
    | true => simp only [cond_true, List.length_cons, if_true]; rw [overG_len d r (i + 1)]; rfl
    | false => simp only [cond_false, Bool.false_eq_true, if_false]; rw [overG_len d r (i + 1)]; rfl
theorem overL_len (l : List Bm) (d : Int) : (overL l d).length = cntB l d := overG_len d l 0
theorem cntB_le (l : List Bm) (d : Int) : cntB l d ≤ l.length := List.length_filter_le _ _

/-- What a walk over the places of the beams over a depth sees: these beams, in order. -/
theorem overG_walk {σ R : Type} {d : Int} {l : List Bm} {b : Int × Unit → σ → (σ → Option R) → Option R} {c : Nat → Bm → σ → (σ → Option R) → Option R} {f : σ → Option R} (h : ∀ i s k, i < l.length → b ((i : Int), ()) s k = c i (bmAt l i) s k) :
    ∀ (n k : Nat) (s : σ), k + n = l.length → listF b f (overG d (l.drop k) k) s = upF (fun i s k => bif isB d (bmAt l i) then c i (bmAt l i) s k else k s) f n k s
  | 0, k, s, hk => by
    rw [List.drop_of_length_le (by omega)]
    rfl
  | n + 1, k, s, hk => by
    have hk' : k < l.length := by omega
    rw [List.drop_eq_getElem_cons hk', overG_cons']
    have e : l[k] = bmAt l k := (getD_nat hk').symm
    rw [e]
    simp only [upF]
    have ih := fun s' => overG_walk (d := d) (f := f) h n (k + 1) s' (by omega)
    cases isB d (bmAt l k) with
    | false => rw [cond_false, cond_false]; exact ih s
    | true =>
      rw [cond_true, cond_true]
      simp only [listF]
      rw [h k s _ hk']
      congr 1
      funext s'
      exact ih s'

theorem overP_of {l : List Bm} (h : l.length ≤ 1000000) : overP l = true := ble_of (by omega)

theorem count_ok {l : List Bm} (h : l.length ≤ 1000000) (d : Int) : grid_beams_count l d = some (cntB l d : Int) := by
  simp only [grid_beams_count, grid_beams_count_b]
  rw [overP_of h, cT]
  have hle := cntB_le l d
  refine (lpK_nat (overL l d) ((0 : Int), ()) (by rw [overL_len]; omega) (fun (_ : Int × Unit) (s : Int × PUnit) k => k (IntKind.wrap .i64 (s.1 + 1), PUnit.unit)) (fun s => some s.1) ?_ ?_ ((0 : Int), PUnit.unit)).trans ?_
  · intro again i s hi
    rw [show Nat.ble (Nat.succ i) (overL l d).length = true from ble_of (by omega), cT]
  · intro again s
    rw [show Nat.ble (Nat.succ (overL l d).length) (overL l d).length = false by rw [Bool.eq_false_iff]; intro e; have := Nat.le_of_ble_eq_true e; omega, cF]
  · have key : ∀ (L : List (Int × Unit)) (n : Nat), n + L.length ≤ 1000000 → listF (fun (_ : Int × Unit) (s : Int × PUnit) (k : Int × PUnit → Option Int) => k (IntKind.wrap .i64 (s.1 + 1), PUnit.unit)) (fun s => some s.1) L ((n : Int), PUnit.unit) = some ((n + L.length : Nat) : Int) := by
      intro L
      induction L with
      | nil => intro n _; rfl
      | cons a L ih =>
        intro n hn
        simp only [List.length_cons] at hn
        simp only [listF]
        rw [wrap_id (by omega) (by omega)]
        have := ih (n + 1) (by omega)
        rw [show ((n + 1 : Nat) : Int) = (n : Int) + 1 by omega] at this
        rw [this]
        congr 1
        simp only [List.length_cons]
        omega
    rw [← overL_len]
    have := key (overL l d) 0 (by rw [overL_len]; omega)
    rw [Nat.zero_add] at this
    exact this

theorem is_ok (b : Bm) (d : Int) : ref19_Is b d = some (isB d b) := by
  simp only [ref19_Is, ref19_Is_b, between_ok, obind_some', isB, Bool.decide_and]

theorem refCount_ok {l : List Bm} (h : l.length ≤ 1000000) (d : Int) : ref19_Count l d = some (cntB l d : Int) := by
  simp only [ref19_Count, ref19_Count_b]
  refine (lpK_int l bm0 (by omega) (fun i (s : Int) => (s, ((i : Nat) : Int), PUnit.unit)) (fun b s k => bif isB d b then k (IntKind.wrap .i64 (s + 1)) else k s) (fun s => some s) ?_ ?_ (0 : Int)).trans ?_
  · intro again i s hi
    have hw : IntKind.wrap .i64 ((i : Int) + 1) = ((i + 1 : Nat) : Int) := by rw [wrap_id (by omega) (by omega)]; rfl
    simp only [inB_nat, decide_eq_true hi, decide_eq_true (show (i : Int) < l.length by omega), cT, Int.toNat_natCast, hw, is_ok, obind_some']
  · intro again s
    simp only [decide_eq_false (show ¬ (l.length : Int) < l.length by omega), cF]
  · have key : ∀ (L : List Bm) (n : Nat), n + L.length ≤ 1000000 → listF (fun b (s : Int) (k : Int → Option Int) => bif isB d b then k (IntKind.wrap .i64 (s + 1)) else k s) (fun s => some s) L (n : Int) = some ((n + cntB L d : Nat) : Int) := by
      intro L
      induction L with
      | nil => intro n _; rfl
      | cons a L ih =>
        intro n hn
        simp only [List.length_cons] at hn
        simp only [listF, cntB, List.filter_cons]
        cases isB d a with
        | true =>
          rw [cond_true, wrap_id (by omega) (by omega)]
          have := ih (n + 1) (by omega)
          rw [show ((n + 1 : Nat) : Int) = (n : Int) + 1 by omega] at this
          rw [this]
          simp only [if_true, List.length_cons, cntB]
          congr 1
          omega
        | false =>
          rw [cond_false]
          simp only [Bool.false_eq_true, if_false]
          exact ih n (by omega)
    have := key l 0 (by omega)
    rw [Nat.zero_add] at this
    exact this

end Go.Proofs.Ytpkphcnebkfjdaa

namespace Go.Proofs.Ytpkphcnebkfjdaa
namespace Dn

abbrev Fq := Int × Int

/-- A pair in lowest terms that fits. -/
def okF (a : Fq) : Prop := (1 ≤ a.2 ∧ a.2 ≤ 1152921504606846976) ∧ (-1152921504606846976 ≤ a.1 ∧ a.1 ≤ 1152921504606846976) ∧ Nat.gcd a.1.natAbs a.2.natAbs = 1
instance (a : Fq) : Decidable (okF a) := by unfold okF; infer_instance

def qv (a : Fq) : Rat := mkRat a.1 a.2.toNat
def fitsQ (q : Rat) : Prop := q.num.natAbs ≤ 1152921504606846976 ∧ q.den ≤ 1152921504606846976
instance (q : Rat) : Decidable (fitsQ q) := by unfold fitsQ; infer_instance
def prQ (q : Rat) : Fq := (q.num, (q.den : Int))
/-- What an operation with the result 'q' answers. -/
def fitQ (q : Rat) : Fq × Int × Unit := if fitsQ q then (prQ q, 0, ()) else ((0, 0), 5, ())

theorem okF_num {a : Fq} (h : okF a) : (qv a).num = a.1 := by
  obtain ⟨⟨h1, h2⟩, _, h3⟩ := h
  have h0 : a.2.toNat ≠ 0 := by omega
  have h4 : Nat.gcd a.2.toNat a.1.natAbs = 1 := by rw [Nat.gcd_comm, show a.2.toNat = a.2.natAbs by omega]; exact h3
  rw [qv, Rat.num_mkRat, if_neg h0, h4]
  simp
theorem okF_den {a : Fq} (h : okF a) : ((qv a).den : Int) = a.2 := by
  obtain ⟨⟨h1, h2⟩, _, h3⟩ := h
  have h0 : a.2.toNat ≠ 0 := by omega
  have h4 : Nat.gcd a.2.toNat a.1.natAbs = 1 := by rw [Nat.gcd_comm, show a.2.toNat = a.2.natAbs by omega]; exact h3
  rw [qv, Rat.den_mkRat, if_neg h0, h4]
  simp; omega
theorem prQ_qv {a : Fq} (h : okF a) : prQ (qv a) = a := by
  unfold prQ
  rw [okF_num h, okF_den h]
theorem qv_prQ (q : Rat) : qv (prQ q) = q := by
  unfold qv prQ
  simp only [Int.toNat_natCast]
  exact Rat.mkRat_self q
theorem okF_prQ {q : Rat} (h : fitsQ q) : okF (prQ q) := by
  obtain ⟨h1, h2⟩ := h
  have := q.den_pos
  refine ⟨⟨?_, ?_⟩, ⟨?_, ?_⟩, ?_⟩
  · simp only [prQ]; omega
  · simp only [prQ]; omega
  · simp only [prQ]; omega
  · simp only [prQ]; omega
  · simp only [prQ]
    rw [Int.natAbs_natCast]
    exact q.reduced
theorem fitsQ_qv {a : Fq} (h : okF a) : fitsQ (qv a) := by
  unfold fitsQ
  have h1 := okF_num h
  have h2 := okF_den h
  obtain ⟨⟨_, _⟩, ⟨_, _⟩, _⟩ := h
  rw [h1]
  omega
theorem fitQ_qv {a : Fq} (h : okF a) : fitQ (qv a) = (a, 0, ()) := by
  unfold fitQ
  rw [if_pos (fitsQ_qv h), prQ_qv h]
theorem qv_inj {a b : Fq} (ha : okF a) (hb : okF b) (h : qv a = qv b) : a = b := by
  rw [← prQ_qv ha, ← prQ_qv hb, h]
theorem qv_iff {a b : Fq} (ha : okF a) (hb : okF b) : qv a = qv b ↔ a = b := ⟨qv_inj ha hb, fun h => by rw [h]⟩
theorem fitQ_cases (q : Rat) : (fitsQ q ∧ fitQ q = (prQ q, 0, ())) ∨ (¬ fitsQ q ∧ fitQ q = ((0, 0), 5, ())) := by
  unfold fitQ
  by_cases h : fitsQ q
  · exact .inl ⟨h, by rw [if_pos h]⟩
  · exact .inr ⟨h, by rw [if_neg h]⟩

theorem qv_int (n : Int) : qv (n, 1) = (n : Rat) := by
  show mkRat n 1 = (n : Rat)
  rw [Rat.mkRat_eq_div]
  show (n : Rat) / ((1 : Nat) : Rat) = n
  rw [show ((1 : Nat) : Rat) = 1 from rfl]
  grind
theorem okF_int {n : Int} (h1 : -1152921504606846976 ≤ n) (h2 : n ≤ 1152921504606846976) : okF (n, 1) := ⟨⟨by simp, by simp⟩, ⟨h1, h2⟩, by simp⟩
theorem prQ_int (n : Int) : prQ (n : Rat) = (n, 1) := rfl

theorem okF_nonneg {a : Fq} (h : okF a) : 0 ≤ qv a ↔ 0 ≤ a.1 := by rw [← Rat.num_nonneg, okF_num h]
theorem okF_zero {a : Fq} (h : okF a) : qv a = 0 ↔ a.1 = 0 := by rw [← Rat.num_eq_zero, okF_num h]
theorem okF_neg {a : Fq} (h : okF a) : qv a < 0 ↔ a.1 < 0 := by
  rw [← Rat.not_le, okF_nonneg h]; omega
theorem okF_le {a b : Fq} (ha : okF a) (hb : okF b) : qv a ≤ qv b ↔ a.1 * b.2 ≤ b.1 * a.2 := by
  rw [Rat.le_iff, okF_num ha, okF_num hb, okF_den ha, okF_den hb]
theorem okF_lt {a b : Fq} (ha : okF a) (hb : okF b) : qv a < qv b ↔ a.1 * b.2 < b.1 * a.2 := by
  rw [Rat.lt_iff, okF_num ha, okF_num hb, okF_den ha, okF_den hb]

/-! ### Numbers by their size and their sign -/

/-- A number with a sign. -/
def sgn (s : Bool) (n : Nat) : Int := if s then -(n : Int) else n

/-- A quotient in lowest terms is the rational number. -/
theorem mkQ_low {s : Bool} {n d : Nat} (hd : 0 < d) (hc : Nat.gcd n d = 1) : (mkRat (sgn s n) d).num = sgn s n ∧ (mkRat (sgn s n) d).den = d := by
  have h0 : d ≠ 0 := by omega
  have ha : (sgn s n).natAbs = n := by unfold sgn; split <;> simp
  have hg : Nat.gcd d (sgn s n).natAbs = 1 := by rw [ha, Nat.gcd_comm]; exact hc
  rw [Rat.num_mkRat, Rat.den_mkRat, if_neg h0, if_neg h0, hg]
  simp

theorem mkQ_div {s : Bool} {n d : Nat} (hd : 0 < d) : mkRat (sgn s n) d = mkRat (sgn s (n / Nat.gcd n d)) (d / Nat.gcd n d) ∧ 0 < d / Nat.gcd n d ∧ Nat.gcd (n / Nat.gcd n d) (d / Nat.gcd n d) = 1 := by
  have hg : 0 < Nat.gcd n d := Nat.gcd_pos_of_pos_right _ hd
  have h1 : n / Nat.gcd n d * Nat.gcd n d = n := Nat.div_mul_cancel (Nat.gcd_dvd_left n d)
  have h2 : d / Nat.gcd n d * Nat.gcd n d = d := Nat.div_mul_cancel (Nat.gcd_dvd_right n d)
  refine ⟨?_, Nat.div_pos (Nat.le_of_dvd hd (Nat.gcd_dvd_right n d)) hg, Nat.gcd_div_gcd_div_gcd_of_pos_right hd⟩
  have h3 : sgn s n = sgn s (n / Nat.gcd n d) * (Nat.gcd n d : Int) := by
    unfold sgn
    split
    · rw [Int.neg_mul, ← Int.natCast_mul, h1]
    · rw [← Int.natCast_mul, h1]
  have h4 : mkRat (sgn s n) d = mkRat (sgn s (n / Nat.gcd n d) * (Nat.gcd n d : Int)) (d / Nat.gcd n d * Nat.gcd n d) := by rw [← h3, h2]
  rw [h4]
  exact Rat.mkRat_mul_right (by omega)

theorem mkQ_congr {s : Bool} {n d m e : Nat} (hd : 0 < d) (he : 0 < e) (h : n * e = m * d) : mkRat (sgn s n) d = mkRat (sgn s m) e := by
  rw [Rat.mkRat_eq_iff (by omega) (by omega)]
  unfold sgn
  split
  · rw [Int.neg_mul, Int.neg_mul, ← Int.natCast_mul, ← Int.natCast_mul, h]
  · rw [← Int.natCast_mul, ← Int.natCast_mul, h]

/-- What the two sizes in lowest terms answer. -/
theorem fit_low {s : Bool} {n d : Nat} (hd : 0 < d) (hc : Nat.gcd n d = 1) : fitQ (mkRat (sgn s n) d) = if n ≤ 1152921504606846976 ∧ d ≤ 1152921504606846976 then ((sgn s n, (d : Int)), 0, ()) else ((0, 0), 5, ()) := by
  obtain ⟨h1, h2⟩ := mkQ_low (s := s) hd hc
  have ha : (sgn s n).natAbs = n := by unfold sgn; split <;> simp
  unfold fitQ
  have e : fitsQ (mkRat (sgn s n) d) ↔ n ≤ 1152921504606846976 ∧ d ≤ 1152921504606846976 := by unfold fitsQ; rw [h1, h2, ha]
  have e2 : prQ (mkRat (sgn s n) d) = (sgn s n, (d : Int)) := by unfold prQ; rw [h1, h2]
  rw [e2]
  by_cases h : n ≤ 1152921504606846976 ∧ d ≤ 1152921504606846976
  · rw [if_pos h, if_pos (e.2 h)]
  · rw [if_neg h, if_neg (fun hh => h (e.1 hh))]

theorem size_sgn (n : Int) : n = sgn (decide (n < 0)) n.natAbs := by
  unfold sgn
  by_cases h : n < 0
  · simp [h]; omega
  · simp [h]; omega

theorem okF_mkQ (a : Fq) : qv a = mkRat (sgn (decide (a.1 < 0)) a.1.natAbs) a.2.toNat := by
  unfold qv
  rw [← size_sgn]

theorem mul_sgn {s t : Bool} {m n : Nat} : sgn s m * sgn t n = sgn (s != t) (m * n) := by
  unfold sgn
  cases s <;> cases t <;> simp [Int.neg_mul, Int.mul_neg]

/-- A product of two quotients. -/
theorem mkQ_mul {s t : Bool} {m n d e : Nat} : mkRat (sgn s m) d * mkRat (sgn t n) e = mkRat (sgn (s != t) (m * n)) (d * e) := by
  rw [Rat.mkRat_mul_mkRat, mul_sgn]

theorem sgn_zero (s t : Bool) : sgn s 0 = sgn t 0 := by unfold sgn; cases s <;> cases t <;> rfl

end Dn
end Go.Proofs.Ytpkphcnebkfjdaa

namespace Go.Proofs.Ytpkphcnebkfjdaa
open Try Dn Dn.Sh

theorem u_wrap {x : Int} (h1 : 0 ≤ x) (h2 : x < 18446744073709551616) : IntKind.wrap .u64 x = x := by
  rw [IntKind.wrap_u64]; omega

theorem size_ok {x : Int} (h1 : -9223372036854775808 ≤ x) (h2 : x < 9223372036854775808) : ratio_size x = some (x.natAbs : Int) := by
  simp only [ratio_size, ratio_size_b]
  by_cases h : x < 0
  · simp only [h, decide_true, cond_true]
    rw [IntKind.wrap_u64, IntKind.wrap_u64]
    congr 1; omega
  · simp only [h, decide_false, cond_false]
    rw [u_wrap (by omega) (by omega)]
    congr 1; omega

theorem gcd_ok (m n : Nat) (hn : n < 18446744073709551616) : ratio_gcd (m : Int) (n : Int) = some ((Nat.gcd m n : Nat) : Int) := by
  simp only [ratio_gcd, ratio_gcd_b]
  refine lpK_loop (g := fun x => some ((Nat.gcd x.1.toNat x.2.1.toNat : Nat) : Int)) (I := fun (x : Int × Int × PUnit) => 0 ≤ x.1 ∧ 0 ≤ x.2.1) (μ := fun (x : Int × Int × PUnit) => x.2.1.toNat) (x := ((m : Int), (n : Int), PUnit.unit)) ?_ ⟨Int.natCast_nonneg _, Int.natCast_nonneg _⟩ (by simp only; omega)
  rintro ⟨a, b, _⟩ rec ⟨h1, h2⟩ hrec
  simp only at h1 h2 ⊢
  by_cases hb : b = 0
  · subst hb
    simp only [decide_true, Bool.not_true, cond_false, Int.toNat_zero, Nat.gcd_zero_right]
    congr 1; omega
  · rw [decide_eq_false hb, nzB_of hb, Int.tmod_eq_emod_of_nonneg h1]
    simp only [Bool.not_false, cT]
    have h3 : 0 ≤ a % b := Int.emod_nonneg _ hb
    have h4 : a % b < b := Int.emod_lt_of_pos _ (by omega)
    rw [hrec _ ⟨by simp only; omega, by simp only; omega⟩ (by simp only; omega)]
    simp only
    congr 2
    rw [Int.toNat_emod h1 h2, Nat.gcd_comm a.toNat, Nat.gcd_rec b.toNat a.toNat, Nat.gcd_comm]

theorem signed_ok (s : Bool) (n d : Nat) (h1 : n < 18446744073709551616) (h2 : d < 18446744073709551616) :
    ratio_signed s (n : Int) (d : Int) = some (if n ≤ 1152921504606846976 ∧ d ≤ 1152921504606846976 then ((sgn s n, (d : Int)), 0, ()) else ((0, 0), 5, ())) := by
  simp only [ratio_signed, ratio_signed_b, not_or_self', or_self_not, cond_true]
  by_cases hn : n ≤ 1152921504606846976
  · by_cases hd : d ≤ 1152921504606846976
    · have e1 : decide ((n : Int) > 1152921504606846976) = false := decide_eq_false (by omega)
      have e2 : decide ((d : Int) > 1152921504606846976) = false := decide_eq_false (by omega)
      rw [wrap_id (x := (n : Int)) (by omega) (by omega), wrap_id (x := (d : Int)) (by omega) (by omega), wrap_id (x := 0 - (n : Int)) (by omega) (by omega)]
      simp only [e1, e2, cond_false, hn, hd, and_self, if_true]
      cases s <;> simp [sgn]
    · have e2 : decide ((d : Int) > 1152921504606846976) = true := decide_eq_true (by omega)
      simp only [e2, bif_true', Bool.or_true, cond_true, hd, and_false, if_false]
  · have e1 : decide ((n : Int) > 1152921504606846976) = true := decide_eq_true (by omega)
    simp only [e1, cond_true, hn, false_and, if_false]

/-- The quotient of two numbers. -/
def divQ (n d : Int) : Rat := mkRat (sgn (decide (n < 0) != decide (d < 0)) n.natAbs) d.natAbs

theorem divQ_eq {n d : Int} (hd : d ≠ 0) : divQ n d = (n : Rat) / d := by
  unfold divQ
  rw [← Rat.divInt_eq_div, show mkRat (sgn (decide (n < 0) != decide (d < 0)) n.natAbs) d.natAbs = Rat.divInt (sgn (decide (n < 0) != decide (d < 0)) n.natAbs) (d.natAbs : Int) from (Rat.divInt_ofNat _ _).symm]
  rw [Rat.divInt_eq_divInt_iff (by omega) hd]
  unfold sgn
  by_cases h1 : n < 0 <;> by_cases h2 : d < 0
  · rw [show ((n.natAbs : Nat) : Int) = -n by omega, show ((d.natAbs : Nat) : Int) = -d by omega]
    simp [h1, h2, Int.neg_mul, Int.mul_neg]
  · rw [show ((n.natAbs : Nat) : Int) = -n by omega, show ((d.natAbs : Nat) : Int) = d by omega]
    simp [h1, h2]
  · rw [show ((n.natAbs : Nat) : Int) = n by omega, show ((d.natAbs : Nat) : Int) = -d by omega]
    simp [h1, h2, Int.neg_mul, Int.mul_neg]
  · rw [show ((n.natAbs : Nat) : Int) = n by omega, show ((d.natAbs : Nat) : Int) = d by omega]
    simp [h1, h2]

theorem tdiv_nat (m n : Nat) : Int.tdiv (m : Int) (n : Int) = ((m / n : Nat) : Int) := by
  rw [Int.tdiv_eq_ediv_of_nonneg (by omega)]
  rfl

theorem Make_ok {n d : Int} (h1 : -9223372036854775808 ≤ n) (h2 : n < 9223372036854775808) (h3 : -9223372036854775808 ≤ d) (h4 : d < 9223372036854775808) :
    ratio_Make n d = some (if d = 0 then ((0, 0), 16, ()) else fitQ (divQ n d)) := by
  simp only [ratio_Make, ratio_Make_b, not_or_self', Bool.and_self, cond_true]
  by_cases hd : d = 0
  · simp only [hd, decide_true, cond_true, if_true]
  · simp only [hd, decide_false, cond_false, if_false]
    rw [size_ok h1 h2, obind_some', size_ok h3 h4, obind_some', gcd_ok _ _ (by omega), obind_some']
    have hg : 0 < Nat.gcd n.natAbs d.natAbs := Nat.gcd_pos_of_pos_right _ (by omega)
    have a1 : n.natAbs / Nat.gcd n.natAbs d.natAbs ≤ n.natAbs := Nat.div_le_self _ _
    have a2 : d.natAbs / Nat.gcd n.natAbs d.natAbs ≤ d.natAbs := Nat.div_le_self _ _
    have hz : nzB ((Nat.gcd n.natAbs d.natAbs : Nat) : Int) = true := nzB_of (by omega)
    obtain ⟨m1, m2, m3⟩ := mkQ_div (s := decide (n < 0) != decide (d < 0)) (n := n.natAbs) (d := d.natAbs) (by omega)
    have hs : n = 0 → n.natAbs / Nat.gcd n.natAbs d.natAbs = 0 := fun h => by subst h; simp
    rw [hz, cond_true, cond_true, tdiv_nat, tdiv_nat]
    unfold divQ
    rw [m1]
    generalize n.natAbs / Nat.gcd n.natAbs d.natAbs = p at *
    generalize d.natAbs / Nat.gcd n.natAbs d.natAbs = q at *
    rw [u_wrap (by omega) (by omega), u_wrap (by omega) (by omega), signed_ok _ _ _ (by omega) (by omega), obind_some', fit_low m2 m3]
    have hs : sgn (bif !decide (n = 0) then !decide (decide (n < 0) = decide (d < 0)) else false) p = sgn (decide (n < 0) != decide (d < 0)) p := by
      by_cases h0 : n = 0
      · rw [hs h0]
        exact sgn_zero _ _
      · simp only [h0, decide_false, Bool.not_false, cond_true]
        cases decide (n < 0) <;> cases decide (d < 0) <;> rfl
    rw [hs]

theorem Valid_ok {a : Fq} : ratio_Valid a = some (decide (okF a)) := by
  simp only [ratio_Valid, ratio_Valid_b, not_or_self', Bool.and_self, cond_true, bif_false']
  unfold okF
  by_cases h1 : 1 ≤ a.2
  · by_cases h2 : a.2 ≤ 1152921504606846976
    · by_cases h3 : -1152921504606846976 ≤ a.1
      · by_cases h4 : a.1 ≤ 1152921504606846976
        · have e : IntKind.wrap .u64 a.2 = ((a.2.natAbs : Nat) : Int) := by rw [u_wrap (by omega) (by omega)]; omega
          simp only [ge_iff_le, h1, h2, h3, h4, decide_true, Bool.and_self, cond_true]
          rw [size_ok (by omega) (by omega), obind_some', e, gcd_ok _ _ (by omega), obind_some']
          congr 1
          rw [Bool.eq_iff_iff]
          simp only [Bool.true_and, decide_eq_true_eq, true_and]
          generalize Nat.gcd a.1.natAbs a.2.natAbs = g
          omega
        · simp [obind_some', h4]
      · simp [obind_some', h3]
    · simp [obind_some', h2]
  · simp [obind_some', h1]

end Go.Proofs.Ytpkphcnebkfjdaa

namespace Go.Proofs.Ytpkphcnebkfjdaa
open Try Dn Dn.Sh

theorem land32 {x : Int} (h1 : 0 ≤ x) (h2 : x < 18446744073709551616) : ((Nat.land (Int.toNat (x % Int.ofNat 18446744073709551616)) (Int.toNat ((4294967295 : Int) % Int.ofNat 18446744073709551616)) : Nat) : Int) = x % 4294967296 := by
  have e1 : x % Int.ofNat 18446744073709551616 = x := Int.emod_eq_of_lt h1 h2
  have e2 : Int.toNat ((4294967295 : Int) % Int.ofNat 18446744073709551616) = 2 ^ 32 - 1 := by decide
  rw [e1, e2]
  have : Nat.land x.toNat (2 ^ 32 - 1) = x.toNat % 2 ^ 32 := Nat.and_two_pow_sub_one_eq_mod x.toNat 32
  rw [this]
  omega

/-- A number of two words. -/
def hl (n : Nat) : Int × Int := (((n / 18446744073709551616 : Nat) : Int), ((n % 18446744073709551616 : Nat) : Int))

theorem mulW {x y : Int} (x0 : 0 ≤ x) (x1 : x < 18446744073709551616) (y0 : 0 ≤ y) (y1 : y < 18446744073709551616) : bits_Mul64 x y = some (x * y / 18446744073709551616, x * y % 18446744073709551616, ()) := by
  have p32 : (2 : Int) ^ (32 : Nat) = 4294967296 := by decide
  simp only [bits_Mul64, bits_Mul64_b, p32, show decide ((0 : Int) ≤ 32) = true from rfl, cond_true]
  obtain ⟨a, b, ha, hb, hx⟩ : ∃ a b, a = x / 4294967296 ∧ b = x % 4294967296 ∧ x = a * 4294967296 + b := ⟨_, _, rfl, rfl, by omega⟩
  obtain ⟨c, d, hc, hd, hy⟩ : ∃ c d, c = y / 4294967296 ∧ d = y % 4294967296 ∧ y = c * 4294967296 + d := ⟨_, _, rfl, rfl, by omega⟩
  have fd : ∀ n : Int, Int.fdiv n 4294967296 = n / 4294967296 := fun n => Int.fdiv_eq_ediv_of_nonneg n (by omega)
  rw [land32 x0 x1, land32 y0 y1, ← hb, ← hd]
  simp only [fd, ← ha, ← hc]
  have a0 : 0 ≤ a ∧ a ≤ 4294967295 := by omega
  have b0 : 0 ≤ b ∧ b ≤ 4294967295 := by omega
  have c0 : 0 ≤ c ∧ c ≤ 4294967295 := by omega
  have d0 : 0 ≤ d ∧ d ≤ 4294967295 := by omega
  have mb : ∀ {m n : Int}, 0 ≤ m ∧ m ≤ 4294967295 → 0 ≤ n ∧ n ≤ 4294967295 → 0 ≤ m * n ∧ m * n ≤ 18446744065119617025 := fun {m n} hm hn => ⟨Int.mul_nonneg hm.1 hn.1, Int.le_trans (Int.mul_le_mul hm.2 hn.2 hn.1 (by omega)) (by decide)⟩
  have e1 := mb a0 c0
  have e2 := mb a0 d0
  have e3 := mb b0 c0
  have e4 := mb b0 d0
  have hxy : x * y = a * c * 18446744073709551616 + (a * d + b * c) * 4294967296 + b * d := by rw [hx, hy]; grind
  rw [IntKind.wrap_u64 (x * y)]
  rw [hxy]
  rw [u_wrap (x := b) (by omega) (by omega), u_wrap (x := d) (by omega) (by omega)]
  rw [u_wrap (x := b * d) (by omega) (by omega), u_wrap (x := a * d) (by omega) (by omega), u_wrap (x := b * c) (by omega) (by omega), u_wrap (x := a * c) (by omega) (by omega)]
  generalize b * d = bd at *
  generalize a * d = ad at *
  generalize b * c = bc at *
  generalize a * c = ac at *
  rw [u_wrap (x := ad + bd / 4294967296) (by omega) (by omega)]
  generalize ht : ad + bd / 4294967296 = t
  rw [land32 (by omega) (by omega)]
  rw [u_wrap (x := t % 4294967296) (by omega) (by omega)]
  rw [u_wrap (x := t % 4294967296 + bc) (by omega) (by omega), u_wrap (x := ac + t / 4294967296) (by omega) (by omega)]
  rw [u_wrap (x := ac + t / 4294967296 + (t % 4294967296 + bc) / 4294967296) (by omega) (by omega)]
  congr 1
  ext
  · simp only; omega
  · rfl

theorem product_ok {m n : Nat} (hm : m < 18446744073709551616) (hn : n < 18446744073709551616) : ratio_product (m : Int) (n : Int) = some (hl (m * n)) := by
  simp only [ratio_product, ratio_product_b]
  rw [mulW (by omega) (by omega) (by omega) (by omega), obind_some', ← Int.natCast_mul]
  rfl

theorem hl_small {n : Nat} (h : n < 18446744073709551616) : hl n = (0, (n : Int)) := by
  unfold hl
  rw [Nat.div_eq_of_lt h, Nat.mod_eq_of_lt h]
  rfl
theorem hl_big {n : Nat} (h : ¬ n < 18446744073709551616) : (hl n).1 > 0 := by
  unfold hl
  simp only
  omega

theorem Mul_ok {a b : Fq} (ha : okF a) (hb : okF b) : ratio_Mul a b = some (fitQ (qv a * qv b)) := by
  simp only [ratio_Mul, ratio_Mul_b, Valid_ok, ha, hb, decide_true, obind_some', Bool.not_true, Bool.not_false, Bool.and_self, cond_true, cond_false, not_or_self', or_self_not]
  have ha' := ha
  have hb' := hb
  obtain ⟨⟨a1, a2⟩, ⟨a3, a4⟩, a5⟩ := ha'
  obtain ⟨⟨b1, b2⟩, ⟨b3, b4⟩, b5⟩ := hb'
  rw [okF_mkQ a, okF_mkQ b, mkQ_mul]
  obtain ⟨d, hd⟩ : ∃ d : Nat, a.2 = (d : Int) := ⟨a.2.toNat, by omega⟩
  obtain ⟨e, he⟩ : ∃ e : Nat, b.2 = (e : Int) := ⟨b.2.toNat, by omega⟩
  rw [size_ok (by omega) (by omega), size_ok (by omega) (by omega)]
  simp only [obind_some', hd, he, Int.toNat_natCast] at *
  rw [u_wrap (x := (d : Int)) (by omega) (by omega), u_wrap (x := (e : Int)) (by omega) (by omega), gcd_ok _ _ (by omega), obind_some', gcd_ok _ _ (by omega), obind_some']
  have sa : a.1.natAbs ≤ 1152921504606846976 := by omega
  have sb : b.1.natAbs ≤ 1152921504606846976 := by omega
  have za : a.1 = 0 ↔ a.1.natAbs = 0 := by omega
  have zb : b.1 = 0 ↔ b.1.natAbs = 0 := by omega
  have hlt : decide (a.1 < 0) = true → a.1.natAbs ≠ 0 := fun h => by have := of_decide_eq_true h; omega
  rw [Int.natAbs_natCast] at a5 b5
  generalize a.1.natAbs = m at *
  generalize b.1.natAbs = n at *
  generalize decide (a.1 < 0) = s at *
  generalize decide (b.1 < 0) = t at *
  have hd0 : 0 < d := by omega
  have he0 : 0 < e := by omega
  have hg : 0 < Nat.gcd m e := Nat.gcd_pos_of_pos_right _ he0
  have hh : 0 < Nat.gcd n d := Nat.gcd_pos_of_pos_right _ hd0
  rw [nzB_of (show ((Nat.gcd m e : Nat) : Int) ≠ 0 by omega), nzB_of (show ((Nat.gcd n d : Nat) : Int) ≠ 0 by omega)]
  simp only [cond_true, tdiv_nat]
  have m1 : m / Nat.gcd m e * Nat.gcd m e = m := Nat.div_mul_cancel (Nat.gcd_dvd_left m e)
  have e1 : e / Nat.gcd m e * Nat.gcd m e = e := Nat.div_mul_cancel (Nat.gcd_dvd_right m e)
  have n1 : n / Nat.gcd n d * Nat.gcd n d = n := Nat.div_mul_cancel (Nat.gcd_dvd_left n d)
  have d1 : d / Nat.gcd n d * Nat.gcd n d = d := Nat.div_mul_cancel (Nat.gcd_dvd_right n d)
  have c1 : Nat.Coprime (m / Nat.gcd m e) (e / Nat.gcd m e) := Nat.coprime_div_gcd_div_gcd hg
  have c2 : Nat.Coprime (n / Nat.gcd n d) (d / Nat.gcd n d) := Nat.coprime_div_gcd_div_gcd hh
  have q1 : m / Nat.gcd m e ≤ m := Nat.div_le_self _ _
  have q2 : e / Nat.gcd m e ≤ e := Nat.div_le_self _ _
  have q3 : n / Nat.gcd n d ≤ n := Nat.div_le_self _ _
  have q4 : d / Nat.gcd n d ≤ d := Nat.div_le_self _ _
  have p2 : 0 < e / Nat.gcd m e := Nat.div_pos (Nat.le_of_dvd he0 (Nat.gcd_dvd_right m e)) hg
  have p4 : 0 < d / Nat.gcd n d := Nat.div_pos (Nat.le_of_dvd hd0 (Nat.gcd_dvd_right n d)) hh
  have x1 : m / Nat.gcd m e ∣ m := Nat.div_dvd_of_dvd (Nat.gcd_dvd_left m e)
  have x2 : e / Nat.gcd m e ∣ e := Nat.div_dvd_of_dvd (Nat.gcd_dvd_right m e)
  have x3 : n / Nat.gcd n d ∣ n := Nat.div_dvd_of_dvd (Nat.gcd_dvd_left n d)
  have x4 : d / Nat.gcd n d ∣ d := Nat.div_dvd_of_dvd (Nat.gcd_dvd_right n d)
  generalize Nat.gcd m e = g at *
  generalize Nat.gcd n d = h at *
  generalize m / g = m' at *
  generalize e / g = e' at *
  generalize n / h = n' at *
  generalize d / h = d' at *
  have cop : Nat.gcd (m' * n') (d' * e') = 1 := by
    refine Nat.Coprime.mul_left (Nat.Coprime.mul_right ?_ c1) (Nat.Coprime.mul_right c2 ?_)
    · exact Nat.Coprime.coprime_dvd_left x1 (Nat.Coprime.coprime_dvd_right x4 a5)
    · exact Nat.Coprime.coprime_dvd_left x3 (Nat.Coprime.coprime_dvd_right x2 b5)
  have hq : mkRat (sgn (s != t) (m * n)) (d * e) = mkRat (sgn (s != t) (m' * n')) (d' * e') := by
    refine mkQ_congr (Nat.mul_pos hd0 he0) (Nat.mul_pos p4 p2) ?_
    rw [← m1, ← n1, ← d1, ← e1]
    grind
  rw [hq, fit_low (Nat.mul_pos p4 p2) cop]
  rw [u_wrap (by omega) (by omega), u_wrap (by omega) (by omega), product_ok (by omega) (by omega), obind_some', u_wrap (by omega) (by omega), u_wrap (by omega) (by omega), product_ok (by omega) (by omega), obind_some']
  by_cases hN : m' * n' < 18446744073709551616
  · rw [hl_small hN]
    by_cases hD : d' * e' < 18446744073709551616
    · rw [hl_small hD]
      simp only [show decide ((0 : Int) > 0) = false from rfl, cond_false]
      rw [signed_ok _ _ _ hN hD, obind_some']
      have hs : sgn (bif decide (((m' * n' : Nat) : Int) > 0) then !decide (s = t) else false) (m' * n') = sgn (s != t) (m' * n') := by
        by_cases h0 : m' * n' = 0
        · rw [h0]; exact sgn_zero _ _
        · rw [decide_eq_true (show ((m' * n' : Nat) : Int) > 0 by omega)]
          cases s <;> cases t <;> rfl
      rw [hs]
    · have := hl_big hD
      simp only [show decide ((0 : Int) > 0) = false from rfl, cond_false, decide_eq_true this, cond_true]
      rw [if_neg (by omega)]
  · have := hl_big hN
    simp only [decide_eq_true this, cond_true]
    rw [if_neg (by omega)]

theorem Mul_bad {a b : Fq} (h : ¬ (okF a ∧ okF b)) : ratio_Mul a b = some ((0, 0), 1, ()) := by
  simp only [ratio_Mul, ratio_Mul_b, Valid_ok, obind_some', not_or_self', or_self_not, cond_true]
  by_cases ha : okF a
  · have hb : ¬ okF b := fun hb => h ⟨ha, hb⟩
    simp [ha, hb, obind_some']
  · simp [ha, obind_some']

theorem floor_ok {n d : Int} (h1 : -9223372036854775807 ≤ n) (h2 : n < 9223372036854775808) (hd : 0 < d) : ratio_floor n d = some (n / d) := by
  simp only [ratio_floor, ratio_floor_b, nzB_of (show d ≠ 0 by omega), cond_true]
  have hq : -9223372036854775807 ≤ Int.tdiv n d ∧ Int.tdiv n d < 9223372036854775808 := by
    rcases Int.le_total 0 n with h | h
    · rw [Int.tdiv_eq_ediv_of_nonneg h]
      have := Int.ediv_le_self d h
      have := Int.ediv_nonneg h (show 0 ≤ d by omega)
      omega
    · obtain ⟨m, rfl⟩ : ∃ m, n = -m := ⟨-n, by omega⟩
      rw [Int.neg_tdiv, Int.tdiv_eq_ediv_of_nonneg (by omega)]
      have := Int.ediv_le_self d (show 0 ≤ m by omega)
      have := Int.ediv_nonneg (show 0 ≤ m by omega) (show 0 ≤ d by omega)
      omega
  rw [wrap_id (x := Int.tdiv n d) (by omega) (by omega)]
  have e1 := Int.mul_tdiv_add_tmod n d
  have e2 := Int.mul_ediv_add_emod n d
  have b1 := Int.emod_nonneg n (show d ≠ 0 by omega)
  have b2 := Int.emod_lt_of_pos n hd
  have b3 : -d < Int.tmod n d ∧ Int.tmod n d < d := by
    rcases Int.le_total 0 n with h | h
    · rw [Int.tmod_eq_emod_of_nonneg h]; omega
    · obtain ⟨m, rfl⟩ : ∃ m, n = -m := ⟨-n, by omega⟩
      rw [Int.neg_tmod, Int.tmod_eq_emod_of_nonneg (by omega)]
      have := Int.emod_nonneg m (show d ≠ 0 by omega)
      have := Int.emod_lt_of_pos m hd
      omega
  have hb : -9223372036854775808 ≤ n / d ∧ n / d < 9223372036854775808 := by
    constructor
    · rw [Int.le_ediv_iff_mul_le hd]
      have := Int.mul_le_mul_of_nonneg_left (show 1 ≤ d by omega) (show (0 : Int) ≤ 9223372036854775808 by omega)
      omega
    · rw [Int.ediv_lt_iff_lt_mul hd]
      have := Int.mul_le_mul_of_nonneg_left (show 1 ≤ d by omega) (show (0 : Int) ≤ 9223372036854775808 by omega)
      omega
  obtain ⟨hb1, hb2⟩ := hb
  generalize Int.tdiv n d = q at *
  generalize Int.tmod n d = r at *
  generalize n / d = q' at *
  generalize n % d = r' at *
  have key : d * (q - q') = r' - r := by rw [Int.mul_sub]; omega
  by_cases hr : r < 0
  · have h3 : q - q' = 1 := by
      have l1 : d * 0 < d * (q - q') := by omega
      have l2 : d * (q - q') < d * 2 := by omega
      have := Int.lt_of_mul_lt_mul_left l1 (show 0 ≤ d by omega)
      have := Int.lt_of_mul_lt_mul_left l2 (show 0 ≤ d by omega)
      omega
    have hq2 : q - 1 = q' := by omega
    rw [decide_eq_true hr, cond_true, hq2, wrap_id (x := q') hb1 hb2]
  · rw [decide_eq_false hr, cond_false]
    have h3 : q - q' = 0 := by
      have l1 : d * (-1) < d * (q - q') := by omega
      have l2 : d * (q - q') < d * 1 := by omega
      have := Int.lt_of_mul_lt_mul_left l1 (show 0 ≤ d by omega)
      have := Int.lt_of_mul_lt_mul_left l2 (show 0 ≤ d by omega)
      omega
    congr 1; omega

theorem Floor_ok {a : Fq} (ha : okF a) : ratio_Floor a = some ((qv a).floor, 0, ()) := by
  simp only [ratio_Floor, ratio_Floor_b, Valid_ok, ha, decide_true, obind_some', Bool.not_true, cond_false]
  have e1 := okF_num ha
  have e2 := okF_den ha
  obtain ⟨⟨a1, a2⟩, ⟨a3, a4⟩, _⟩ := ha
  rw [floor_ok (by omega) (by omega) (by omega), obind_some', Rat.floor_def, e1, e2]

end Go.Proofs.Ytpkphcnebkfjdaa

namespace Go.Proofs.Ytpkphcnebkfjdaa
open Try Dn Dn.Sh

theorem fdiv_of {n d : Int} (h : 0 ≤ d) : Int.fdiv n d = n / d := Int.fdiv_eq_ediv_of_nonneg n h

theorem Half_ok {n : Nat} (_ : n < 340282366920938463463374607431768211456) : ref02_Half (hl n) = some (hl (n / 2)) := by
  simp only [ref02_Half, ref02_Half_b, show decide ((0 : Int) ≤ 1) = true from rfl, show decide ((0 : Int) ≤ 63) = true from rfl, cond_true, show (2 : Int) ^ (1 : Nat) = 2 from rfl, show (2 : Int) ^ (63 : Nat) = 9223372036854775808 from rfl, IntKind.wrap_u64, fdiv_of (show (0 : Int) ≤ 2 by omega), hl]
  congr 1
  ext <;> simp only <;> omega

theorem Less_ok {a b : Nat} : ref02_Less (hl a) (hl b) = some (decide (a < b)) := by
  simp only [ref02_Less, ref02_Less_b]
  have e : decide (a < b) = (bif decide ((hl a).1 < (hl b).1) then true else bif decide ((hl a).1 = (hl b).1) then decide ((hl a).2 < (hl b).2) else false) := by
    by_cases c1 : (hl a).1 < (hl b).1
    · simp only [c1, decide_true, cond_true]
      simp only [hl] at c1
      exact decide_eq_true (by omega)
    · by_cases c2 : (hl a).1 = (hl b).1
      · rw [decide_eq_false c1, decide_eq_true c2, cond_true, cond_false]
        have e2 : a < b ↔ (hl a).2 < (hl b).2 := by
          simp only [hl] at c1 c2 ⊢
          omega
        rw [Bool.eq_iff_iff, decide_eq_true_iff, decide_eq_true_iff]
        exact e2
      · simp only [c1, c2, decide_false, cond_false]
        simp only [hl] at c1 c2
        exact decide_eq_false (by omega)
  rw [e]
  cases decide ((hl a).1 < (hl b).1) <;> cases decide ((hl a).1 = (hl b).1) <;> rfl

theorem Minus_ok {a b : Nat} (h : b ≤ a) (ha : a < 340282366920938463463374607431768211456) : ref02_Minus (hl a) (hl b) = some (hl (a - b)) := by
  simp only [ref02_Minus, ref02_Minus_b]
  by_cases hc : (hl a).2 < (hl b).2
  · rw [decide_eq_true hc, cond_true]
    simp only [IntKind.wrap_u64, hl] at hc ⊢
    congr 1
    ext <;> simp only <;> omega
  · rw [decide_eq_false hc, cond_false]
    simp only [IntKind.wrap_u64, hl] at hc ⊢
    congr 1
    ext <;> simp only <;> omega

/-- A difference that lost a bit in front. -/
theorem Minus_over {a b : Nat} (h : b ≤ a) (hb : a - b < 340282366920938463463374607431768211456) (_ : b < 340282366920938463463374607431768211456) : ref02_Minus (hl (a % 340282366920938463463374607431768211456)) (hl b) = some (hl (a - b)) := by
  simp only [ref02_Minus, ref02_Minus_b]
  by_cases hc : (hl (a % 340282366920938463463374607431768211456)).2 < (hl b).2
  · rw [decide_eq_true hc, cond_true]
    simp only [IntKind.wrap_u64, hl] at hc ⊢
    congr 1
    ext <;> simp only <;> omega
  · rw [decide_eq_false hc, cond_false]
    simp only [IntKind.wrap_u64, hl] at hc ⊢
    congr 1
    ext <;> simp only <;> omega

theorem Plus_ok {m n : Nat} (h : m + n < 340282366920938463463374607431768211456) : ref02_Plus (hl m) (hl n) = some (hl (m + n)) := by
  simp only [ref02_Plus, ref02_Plus_b]
  by_cases hc : IntKind.wrap .u64 ((hl m).2 + (hl n).2) < (hl m).2
  · rw [decide_eq_true hc, cond_true]
    simp only [IntKind.wrap_u64, hl] at hc ⊢
    congr 1
    ext <;> simp only <;> omega
  · rw [decide_eq_false hc, cond_false]
    simp only [IntKind.wrap_u64, hl] at hc ⊢
    congr 1
    ext <;> simp only <;> omega

theorem low1 {x : Int} (h1 : 0 ≤ x) (h2 : x < 18446744073709551616) : IntKind.wrap .u64 ((Nat.land (Int.toNat (x % Int.ofNat 18446744073709551616)) (Int.toNat ((1 : Int) % Int.ofNat 18446744073709551616)) : Nat) : Int) = x % 2 := by
  have e1 : x % Int.ofNat 18446744073709551616 = x := Int.emod_eq_of_lt h1 h2
  have e2 : Int.toNat ((1 : Int) % Int.ofNat 18446744073709551616) = 2 ^ 1 - 1 := by decide
  rw [e1, e2]
  have : Nat.land x.toNat (2 ^ 1 - 1) = x.toNat % 2 ^ 1 := Nat.and_two_pow_sub_one_eq_mod x.toNat 1
  rw [this, IntKind.wrap_u64]
  omega
theorem even_hl {n : Nat} : decide (IntKind.wrap .u64 ((Nat.land (Int.toNat ((hl n).2 % Int.ofNat 18446744073709551616)) (Int.toNat ((1 : Int) % Int.ofNat 18446744073709551616)) : Nat) : Int) = 0) = decide (n % 2 = 0) := by
  rw [low1 (by simp only [hl]; omega) (by simp only [hl]; omega)]
  rw [Bool.eq_iff_iff, decide_eq_true_iff, decide_eq_true_iff]
  simp only [hl]
  omega
theorem zero_hl {n : Nat} (h : n < 340282366920938463463374607431768211456) : (decide ((hl n).1 = 0) && (decide ((hl n).2 = 0) && true)) = decide (n = 0) := by
  rw [Bool.and_true, Bool.eq_iff_iff, Bool.and_eq_true, decide_eq_true_iff, decide_eq_true_iff, decide_eq_true_iff]
  simp only [hl]
  omega

/-- The number that two words are. -/
def unhl (p : Int × Int) : Nat := p.1.toNat * 18446744073709551616 + p.2.toNat
theorem unhl_hl {n : Nat} : unhl (hl n) = n := by
  simp only [unhl, hl]; omega

theorem gcd_half {a b : Nat} (ha : a % 2 = 0) (h : Nat.gcd a b % 2 = 1) : Nat.gcd (a / 2) b = Nat.gcd a b := by
  have h2 : a / 2 ∣ a := Nat.div_dvd_of_dvd (Nat.dvd_of_mod_eq_zero ha)
  refine Nat.dvd_antisymm (Nat.dvd_gcd (Nat.dvd_trans (Nat.gcd_dvd_left _ _) h2) (Nat.gcd_dvd_right _ _)) (Nat.dvd_gcd ?_ (Nat.gcd_dvd_right _ _))
  have h3 : Nat.gcd a b ∣ 2 * (a / 2) := by rw [show 2 * (a / 2) = a by omega]; exact Nat.gcd_dvd_left _ _
  refine Nat.Coprime.dvd_of_dvd_mul_left ?_ h3
  show Nat.gcd (Nat.gcd a b) 2 = 1
  rw [Nat.gcd_comm, Nat.gcd_rec, h]
  rfl

theorem log2_half {a : Nat} (h : 2 ≤ a) : Nat.log2 (a / 2) + 1 = Nat.log2 a := by
  conv => rhs; rw [Nat.log2_def]
  rw [if_pos h]
theorem log2_mono {a b : Nat} (h : a ≤ b) : Nat.log2 a ≤ Nat.log2 b := by
  by_cases ha : a = 0
  · subst ha; simp
  · have hb : b ≠ 0 := by omega
    rw [Nat.le_log2 hb]
    exact Nat.le_trans ((Nat.le_log2 ha).1 (Nat.le_refl _)) h
theorem log2_dbl {a b : Nat} (ha : 0 < a) (h : 2 * a ≤ b) : Nat.log2 a + 1 ≤ Nat.log2 b := by
  have h1 := log2_half (a := b) (by omega)
  have := log2_mono (show a ≤ b / 2 by omega)
  omega
theorem log2_128 {a : Nat} (h : a < 340282366920938463463374607431768211456) : Nat.log2 a ≤ 127 := by
  by_cases ha : a = 0
  · subst ha; simp
  · have : Nat.log2 a < 128 := (Nat.log2_lt ha).2 h
    omega

theorem Gcd_ok {A B : Nat} (hA : A < 340282366920938463463374607431768211456) (hB0 : 0 < B) (hB : B < 340282366920938463463374607431768211456) : ref02_Gcd (hl A) (hl B) = some (hl (Nat.gcd A B)) := by
  simp only [ref02_Gcd, ref02_Gcd_b]
  rw [zero_hl hA]
  by_cases hA0 : A = 0
  · rw [decide_eq_true hA0, cond_true, hA0, Nat.gcd_zero_left]
  rw [decide_eq_false hA0, cond_false]
  have hG : Nat.gcd A B ≤ B := Nat.le_of_dvd hB0 (Nat.gcd_dvd_right A B)
  have hGdef : ∃ G, G = Nat.gcd A B := ⟨_, rfl⟩
  obtain ⟨G, hGd⟩ := hGdef
  rw [← hGd]
  refine lpK_loop (g := fun _ => some (hl G)) (I := fun (x : Int × (Int × Int) × (Int × Int) × PUnit) => ∃ t a b : Nat, x = ((t : Int), hl a, hl b, ⟨⟩) ∧ 0 < a ∧ a < 340282366920938463463374607431768211456 ∧ 0 < b ∧ b < 340282366920938463463374607431768211456 ∧ 2 ^ t * Nat.gcd a b = G ∧ t + Nat.log2 a ≤ 127)
    (μ := fun (x : Int × (Int × Int) × (Int × Int) × PUnit) => Nat.log2 (unhl x.2.1)) (x := ((0 : Int), hl A, hl B, PUnit.unit)) ?_ ⟨0, A, B, rfl, by omega, hA, hB0, hB, by rw [hGd]; simp, by have := log2_128 hA; omega⟩ (by simp only [unhl_hl]; have := log2_128 hA; omega)
  rintro _ rec ⟨t, a, b, rfl, a0, a1, b0, b1, hg, ht⟩ hrec
  simp only [even_hl, not_or_self', cond_true]
  by_cases hev : a % 2 = 0 ∧ b % 2 = 0
  · rw [decide_eq_true hev.1, cond_true, decide_eq_true hev.2, cond_true, Half_ok a1, obind_some', Half_ok b1, obind_some', wrap_id (by omega) (by omega)]
    have hl2 := log2_half (a := a) (by omega)
    refine hrec _ ⟨t + 1, a / 2, b / 2, by rfl, by omega, by omega, by omega, by omega, ?_, by omega⟩ (by simp only [unhl_hl]; omega)
    rw [← hg, Nat.pow_succ, Nat.mul_assoc, ← Nat.gcd_mul_left, show 2 * (a / 2) = a by omega, show 2 * (b / 2) = b by omega]
  have hodd : Nat.gcd a b % 2 = 1 := by
    rcases Nat.mod_two_eq_zero_or_one (Nat.gcd a b) with h | h
    · exfalso
      have h2 := Nat.dvd_of_mod_eq_zero h
      exact hev ⟨Nat.mod_eq_zero_of_dvd (Nat.dvd_trans h2 (Nat.gcd_dvd_left a b)), Nat.mod_eq_zero_of_dvd (Nat.dvd_trans h2 (Nat.gcd_dvd_right a b))⟩
    · exact h
  have hcond : (bif decide (a % 2 = 0) then decide (b % 2 = 0) else false) = false := by
    rw [Bool.eq_false_iff]
    intro h
    by_cases h2 : a % 2 = 0
    · rw [decide_eq_true h2, cond_true, decide_eq_true_iff] at h
      exact hev ⟨h2, h⟩
    · rw [decide_eq_false h2, cond_false] at h
      cases h
  rw [hcond, cond_false]
  clear hcond hrec
  generalize hgd : Nat.gcd a b = g at *
  refine lpK_loop (g := fun _ => some (hl G)) (I := fun (x : (Int × Int) × (Int × Int) × PUnit) => ∃ a b : Nat, x = (hl a, hl b, ⟨⟩) ∧ a < 340282366920938463463374607431768211456 ∧ 0 < b ∧ b < 340282366920938463463374607431768211456 ∧ Nat.gcd a b = g)
    (μ := fun (x : (Int × Int) × (Int × Int) × PUnit) => Nat.log2 (unhl x.1) + Nat.log2 (unhl x.2.1) + unhl x.1 % 2) (x := (hl a, hl b, PUnit.unit)) ?_ ⟨a, b, rfl, a1, b0, b1, hgd⟩ (by simp only [unhl_hl]; have := log2_128 a1; have := log2_128 b1; omega)
  clear hgd hev a0 a1 b0 b1
  rintro _ rec ⟨a, b, rfl, a1, b0, b1, hgd⟩ hrec
  simp only [zero_hl a1]
  by_cases ha0 : a = 0
  · rw [decide_eq_true ha0, Bool.not_true, cond_false]
    have hbg : b = g := by rw [← hgd, ha0, Nat.gcd_zero_left]
    refine lpK_loop (g := fun _ => some (hl G)) (I := fun (x : Int × (Int × Int) × PUnit) => ∃ t b : Nat, x = ((t : Int), hl b, ⟨⟩) ∧ 0 < b ∧ 2 ^ t * b = G ∧ t ≤ 127)
      (μ := fun (x : Int × (Int × Int) × PUnit) => x.1.toNat) (x := ((t : Int), hl b, PUnit.unit)) ?_ ⟨t, b, rfl, b0, by rw [hbg]; exact hg, by omega⟩ (by simp only; omega)
    rintro _ rec ⟨t, b, rfl, b0, hg, ht⟩ hrec
    simp only
    by_cases ht0 : t = 0
    · rw [decide_eq_false (by omega), cond_false, ← hg, ht0]; simp
    · rw [decide_eq_true (by omega), cond_true]
      obtain ⟨s, rfl⟩ : ∃ s, t = s + 1 := ⟨t - 1, by omega⟩
      have h2 : 2 ^ s * (b + b) = G := by rw [← hg, Nat.pow_succ, Nat.mul_assoc]; congr 1; omega
      have h3 : b + b ≤ G := by
        rw [← h2]
        exact Nat.le_mul_of_pos_left _ (Nat.pow_pos (by omega))
      rw [Plus_ok (by omega), obind_some', wrap_id (by omega) (by omega)]
      exact hrec _ ⟨s, b + b, by simp only [Prod.mk.injEq, and_true]; omega, by omega, h2, by omega⟩ (by simp only; omega)
  rw [decide_eq_false ha0, Bool.not_false, cond_true]
  refine lpK_loop (g := fun _ => some (hl G)) (I := fun (x : (Int × Int) × PUnit) => ∃ c : Nat, x = (hl c, ⟨⟩) ∧ 0 < c ∧ c < 340282366920938463463374607431768211456 ∧ Nat.gcd c b = g ∧ (c = a ∨ 2 * c ≤ a))
    (μ := fun (x : (Int × Int) × PUnit) => Nat.log2 (unhl x.1)) (x := (hl a, PUnit.unit)) ?_ ⟨a, rfl, by omega, a1, hgd, .inl rfl⟩ (by simp only [unhl_hl]; have := log2_128 a1; omega)
  rintro _ rec3 ⟨c, rfl, c0, c1, hgc, hca⟩ hrec3
  simp only [even_hl]
  by_cases hce : c % 2 = 0
  · rw [decide_eq_true hce, cond_true, Half_ok c1, obind_some']
    have hl2 := log2_half (a := c) (by omega)
    exact hrec3 _ ⟨c / 2, rfl, by omega, by omega, by rw [gcd_half hce (by rw [hgc]; exact hodd), hgc], .inr (by omega)⟩ (by simp only [unhl_hl]; omega)
  rw [decide_eq_false hce, cond_false]
  clear hrec3
  refine lpK_loop (g := fun _ => some (hl G)) (I := fun (x : (Int × Int) × PUnit) => ∃ d : Nat, x = (hl d, ⟨⟩) ∧ 0 < d ∧ d ≤ b ∧ Nat.gcd c d = g)
    (μ := fun (x : (Int × Int) × PUnit) => Nat.log2 (unhl x.1)) (x := (hl b, PUnit.unit)) ?_ ⟨b, rfl, b0, Nat.le_refl _, hgc⟩ (by simp only [unhl_hl]; have := log2_128 b1; omega)
  rintro _ rec4 ⟨d, rfl, d0, d1, hgd'⟩ hrec4
  simp only [even_hl]
  by_cases hde : d % 2 = 0
  · rw [decide_eq_true hde, cond_true, Half_ok (by omega), obind_some']
    have hl2 := log2_half (a := d) (by omega)
    exact hrec4 _ ⟨d / 2, rfl, by omega, by omega, by rw [Nat.gcd_comm, gcd_half hde (by rw [Nat.gcd_comm, hgd']; exact hodd), Nat.gcd_comm, hgd']⟩ (by simp only [unhl_hl]; omega)
  rw [decide_eq_false hde, cond_false, Less_ok, obind_some']
  clear hrec4
  have lb := log2_mono d1
  have la : Nat.log2 c + 1 ≤ Nat.log2 a + a % 2 := by
    rcases hca with rfl | h
    · omega
    · have := log2_dbl c0 h; omega
  by_cases hlt : c < d
  · rw [decide_eq_true hlt, cond_true, Minus_ok (by omega) (by omega), obind_some']
    have l1 := log2_mono (show d - c ≤ d by omega)
    exact hrec _ ⟨d - c, c, rfl, by omega, c0, c1, by rw [Nat.gcd_sub_self_left (by omega), Nat.gcd_comm, hgd']⟩ (by simp only [unhl_hl]; omega)
  · rw [decide_eq_false hlt, cond_false, Minus_ok (by omega) (by omega), obind_some']
    have l1 := log2_mono (show c - d ≤ c by omega)
    exact hrec _ ⟨c - d, d, rfl, by omega, d0, by omega, by rw [Nat.gcd_sub_self_left (by omega), hgd']⟩ (by simp only [unhl_hl]; omega)

end Go.Proofs.Ytpkphcnebkfjdaa

namespace Go.Proofs.Ytpkphcnebkfjdaa
open Try Dn Dn.Sh

theorem dbl_hl {n : Nat} : (IntKind.wrap .u64 (IntKind.wrap .u64 ((hl n).1 * 2) + (hl n).2 / 9223372036854775808), IntKind.wrap .u64 ((hl n).2 * 2)) = hl (2 * n % 340282366920938463463374607431768211456) := by
  simp only [IntKind.wrap_u64, hl]
  ext <;> simp only <;> omega
theorem dblb_hl {r a : Nat} (_ : r < 340282366920938463463374607431768211456) (ha : a < 340282366920938463463374607431768211456) : (IntKind.wrap .u64 (IntKind.wrap .u64 ((hl r).1 * 2) + (hl r).2 / 9223372036854775808), IntKind.wrap .u64 (IntKind.wrap .u64 ((hl r).2 * 2) + (hl a).1 / 9223372036854775808)) = hl ((2 * r + 2 * a / 340282366920938463463374607431768211456) % 340282366920938463463374607431768211456) := by
  simp only [IntKind.wrap_u64, hl]
  ext <;> simp only <;> omega
theorem dbl1_hl {q : Nat} (hq : 2 * q + 1 < 340282366920938463463374607431768211456) : (IntKind.wrap .u64 (IntKind.wrap .u64 ((hl q).1 * 2) + (hl q).2 / 9223372036854775808), IntKind.wrap .u64 (IntKind.wrap .u64 ((hl q).2 * 2) + 1)) = hl (2 * q + 1) := by
  simp only [IntKind.wrap_u64, hl]
  ext <;> simp only <;> omega
theorem over_hl {r a : Nat} (hr : r < 340282366920938463463374607431768211456) (ha : a < 340282366920938463463374607431768211456) : decide ((hl r).1 / 9223372036854775808 > 0) = decide (340282366920938463463374607431768211456 ≤ 2 * r + 2 * a / 340282366920938463463374607431768211456) := by
  rw [Bool.eq_iff_iff, decide_eq_true_iff, decide_eq_true_iff]
  simp only [hl]
  omega

theorem divMod_of {t b q r : Nat} (hr : r < b) (h : t = q * b + r) : t / b = q ∧ t % b = r := by
  subst h
  constructor
  · rw [Nat.mul_comm, Nat.mul_add_div (by omega), Nat.div_eq_of_lt hr, Nat.add_zero]
  · rw [Nat.mul_comm, Nat.mul_add_mod, Nat.mod_eq_of_lt hr]

theorem RDiv_ok {A B : Nat} (hA : A < 340282366920938463463374607431768211456) (hB0 : 0 < B) (hB : B < 340282366920938463463374607431768211456) : ref02_Div (hl A) (hl B) = some (hl (A / B), hl (A % B), ()) := by
  simp only [ref02_Div, ref02_Div_b, show decide ((0 : Int) ≤ 1) = true from rfl, show decide ((0 : Int) ≤ 63) = true from rfl, cond_true, not_or_self', show (2 : Int) ^ (1 : Nat) = 2 from rfl, show (2 : Int) ^ (63 : Nat) = 9223372036854775808 from rfl, fdiv_of (show (0 : Int) ≤ 9223372036854775808 by omega), Bool.and_self]
  by_cases hs : A < 18446744073709551616 ∧ B < 18446744073709551616
  · rw [hl_small hs.1, hl_small hs.2]
    have q1 : A / B ≤ A := Nat.div_le_self _ _
    have q2 : A % B ≤ A := Nat.mod_le _ _
    simp only [decide_true, cond_true, nzB_of (show (B : Int) ≠ 0 by omega), tdiv_nat]
    have hq : ((A / B : Nat) : Int) < 18446744073709551616 := by
      generalize A / B = z at *
      omega
    rw [hl_small (show A / B < 18446744073709551616 by omega), hl_small (show A % B < 18446744073709551616 by omega), u_wrap (Int.natCast_nonneg _) hq, Int.tmod_eq_emod_of_nonneg (by omega), Int.natCast_emod]
  · have hc : (bif decide ((hl A).1 = 0) then decide ((hl B).1 = 0) else false) = false := by
      rw [Bool.eq_false_iff]
      intro h
      by_cases h1 : (hl A).1 = 0
      · rw [decide_eq_true h1, cond_true, decide_eq_true_iff] at h
        simp only [hl] at h1 h
        omega
      · rw [decide_eq_false h1, cond_false] at h
        cases h
    rw [hc, cond_false]
    refine lpK_loop (g := fun _ => some (hl (A / B), hl (A % B), ())) (I := fun (x : Int × (Int × Int) × (Int × Int) × (Int × Int) × PUnit) => ∃ i X : Nat, i ≤ 128 ∧ X = A * 2 ^ i ∧ x = ((i : Int), hl (X % 340282366920938463463374607431768211456), hl (X / 340282366920938463463374607431768211456 / B), hl (X / 340282366920938463463374607431768211456 % B), ⟨⟩))
      (μ := fun (x : Int × (Int × Int) × (Int × Int) × (Int × Int) × PUnit) => (128 - x.1).toNat) (x := ((0 : Int), hl A, ((0 : Int), (0 : Int)), ((0 : Int), (0 : Int)), PUnit.unit)) ?_ ⟨0, A, by omega, by simp, by
        rw [Nat.mod_eq_of_lt hA, Nat.div_eq_of_lt hA, Nat.zero_div, Nat.zero_mod]; rfl⟩ (by simp only; omega)
    rintro _ rec ⟨i, X, hi, hX, rfl⟩ hrec
    simp only
    by_cases hlt : i < 128
    · rw [decide_eq_true (show (i : Int) < 128 by omega), cond_true]
      have hX2 : 2 * X = A * 2 ^ (i + 1) := by rw [hX, Nat.pow_succ]; grind
      have hT : 2 * X / 340282366920938463463374607431768211456 ≤ A := by
        have : A * 2 ^ (i + 1) ≤ A * 2 ^ 128 := Nat.mul_le_mul_left _ (Nat.pow_le_pow_right (by omega) (by omega))
        rw [hX2]
        refine Nat.div_le_of_le_mul ?_
        rw [show (2 : Nat) ^ 128 = 340282366920938463463374607431768211456 from rfl, Nat.mul_comm A 340282366920938463463374607431768211456] at this
        exact this
      have ha := Nat.mod_lt X (show 340282366920938463463374607431768211456 > 0 by omega)
      have hr := Nat.mod_lt (X / 340282366920938463463374607431768211456) hB0
      have e1 : 2 * X % 340282366920938463463374607431768211456 = 2 * (X % 340282366920938463463374607431768211456) % 340282366920938463463374607431768211456 := by omega
      have e2 : 2 * X / 340282366920938463463374607431768211456 = 2 * (X / 340282366920938463463374607431768211456) + 2 * (X % 340282366920938463463374607431768211456) / 340282366920938463463374607431768211456 := by omega
      have e3 : X / 340282366920938463463374607431768211456 = X / 340282366920938463463374607431768211456 / B * B + X / 340282366920938463463374607431768211456 % B := by rw [Nat.mul_comm]; exact (Nat.div_add_mod _ _).symm
      have hq : X / 340282366920938463463374607431768211456 / B ≤ X / 340282366920938463463374607431768211456 := Nat.div_le_self _ _
      rw [wrap_id (x := (i : Int) + 1) (by omega) (by omega)]
      have bit : 2 * (X % 340282366920938463463374607431768211456) / 340282366920938463463374607431768211456 ≤ 1 := by omega
      have step : ∀ q r, r < B → 2 * X / 340282366920938463463374607431768211456 = q * B + r → rec ((i : Int) + 1, hl (2 * (X % 340282366920938463463374607431768211456) % 340282366920938463463374607431768211456), hl q, hl r, PUnit.unit) = some (hl (A / B), hl (A % B), ()) := fun q r h1 h2 => by
        obtain ⟨h3, h4⟩ := divMod_of h1 h2
        exact hrec _ ⟨i + 1, 2 * X, by omega, hX2, by rw [h3, h4, e1]; rfl⟩ (by simp only; omega)
      generalize hTd : X / 340282366920938463463374607431768211456 = T at *
      generalize hαd : X % 340282366920938463463374607431768211456 = α at *
      generalize hqd : T / B = q at *
      generalize hrd : T % B = r at *
      have hq2 : 2 * q + 1 < 340282366920938463463374607431768211456 := by
        by_cases hq0 : q = 0
        · omega
        · have h1 : q * 1 ≤ q * B := Nat.mul_le_mul_left _ hB0
          have h2 : A ≤ 340282366920938463463374607431768211455 := by omega
          omega
      rw [over_hl (r := r) (a := α) (by omega) ha, dbl_hl (n := α), dblb_hl (r := r) (a := α) (by omega) ha]
      have hmul2 : 2 * (q * B) = 2 * q * B := by rw [Nat.mul_assoc]
      have hmul3 : (2 * q + 1) * B = 2 * q * B + B := by rw [Nat.add_mul, Nat.one_mul]
      by_cases ho : 340282366920938463463374607431768211456 ≤ 2 * r + 2 * α / 340282366920938463463374607431768211456
      · simp only [decide_eq_true ho, Bool.not_true, Bool.not_false, cond_true, cond_false, Bool.or_self, Bool.and_self, obind_some', Bool.or_true]
        rw [Minus_over (a := 2 * r + 2 * α / 340282366920938463463374607431768211456) (b := B) (by omega) (by omega) hB, obind_some', dbl1_hl hq2]
        exact step _ _ (by omega) (by rw [hmul3]; omega)
      · have hR : (2 * r + 2 * α / 340282366920938463463374607431768211456) % 340282366920938463463374607431768211456 = 2 * r + 2 * α / 340282366920938463463374607431768211456 := Nat.mod_eq_of_lt (by omega)
        simp only [decide_eq_false ho, hR, Bool.not_true, Bool.not_false, cond_true, cond_false, Bool.or_self, Bool.and_self, obind_some', Bool.or_true, Less_ok]
        by_cases hl2 : 2 * r + 2 * α / 340282366920938463463374607431768211456 < B
        · simp only [decide_eq_true hl2, Bool.not_true, cond_false]
          have e := dbl_hl (n := q)
          rw [Nat.mod_eq_of_lt (show 2 * q < 340282366920938463463374607431768211456 by omega)] at e
          rw [e]
          exact step _ _ (by omega) (by omega)
        · simp only [decide_eq_false hl2, Bool.not_false, cond_true]
          rw [Minus_ok (by omega) (by omega), obind_some', dbl1_hl hq2]
          exact step _ _ (by omega) (by rw [hmul3]; omega)
    · have : i = 128 := by omega
      subst this
      have hx : X / 340282366920938463463374607431768211456 = A := by
        rw [hX]
        exact Nat.mul_div_cancel A (by decide)
      rw [decide_eq_false (by omega), cond_false, hx]

theorem RMade_ok {s : Bool} {n d : Nat} (hn : n < 340282366920938463463374607431768211456) (hd0 : 0 < d) (hd : d < 340282366920938463463374607431768211456) : ref02_Made (hl n) s (hl d) = some (fitQ (mkRat (sgn s n) d)) := by
  have hG0 : 0 < Nat.gcd n d := Nat.gcd_pos_of_pos_right _ hd0
  have hG : Nat.gcd n d ≤ d := Nat.le_of_dvd hd0 (Nat.gcd_dvd_right n d)
  simp only [ref02_Made, ref02_Made_b, not_or_self', or_self_not, cond_true]
  rw [zero_hl hd, decide_eq_false (show ¬ d = 0 by omega), cond_false, Gcd_ok hn hd0 hd, obind_some', RDiv_ok hn hG0 (by omega), obind_some', RDiv_ok hd hG0 (by omega), obind_some']
  obtain ⟨m1, m2, m3⟩ := mkQ_div (s := s) (n := n) (d := d) hd0
  rw [m1, fit_low m2 m3]
  have q1 : n / Nat.gcd n d ≤ n := Nat.div_le_self _ _
  have q2 : d / Nat.gcd n d ≤ d := Nat.div_le_self _ _
  generalize n / Nat.gcd n d = p at *
  generalize d / Nat.gcd n d = q at *
  simp only
  have big : ∀ {x : Nat}, x < 340282366920938463463374607431768211456 → (bif decide ((hl x).1 > 0) then true else decide ((hl x).2 > 1152921504606846976)) = decide (¬ x ≤ 1152921504606846976) := fun {x} hx => by
    by_cases h1 : (hl x).1 > 0
    · rw [decide_eq_true h1, cond_true]
      simp only [hl] at h1
      exact (decide_eq_true (by omega)).symm
    · rw [decide_eq_false h1, cond_false, Bool.eq_iff_iff, decide_eq_true_iff, decide_eq_true_iff]
      simp only [hl] at h1 ⊢
      omega
  rw [big (show p < 340282366920938463463374607431768211456 by omega)]
  by_cases hp : p ≤ 1152921504606846976
  · simp only [hp, not_true_eq_false, decide_false, cond_false, true_and]
    rw [big (show q < 340282366920938463463374607431768211456 by omega)]
    by_cases hq : q ≤ 1152921504606846976
    · simp only [hq, not_true_eq_false, decide_false, cond_false, if_true]
      rw [hl_small (show p < 18446744073709551616 by omega), hl_small (show q < 18446744073709551616 by omega)]
      simp only
      rw [wrap_id (x := (p : Int)) (by omega) (by omega), wrap_id (x := (q : Int)) (by omega) (by omega), wrap_id (x := 0 - (p : Int)) (by omega) (by omega)]
      cases s <;> simp [sgn]
    · simp only [hq, not_false_eq_true, decide_true, cond_true, if_false]
  · simp only [hp, not_false_eq_true, decide_true, cond_true, false_and, if_false]

theorem RMade_zero {s : Bool} {n : Int × Int} : ref02_Made n s (0, 0) = some ((0, 0), 16, ()) := by
  simp only [ref02_Made, ref02_Made_b]
  rfl

theorem RSize_ok {x : Int} (h1 : -9223372036854775808 ≤ x) (h2 : x < 9223372036854775808) : ref02_Size x = some (x.natAbs : Int) := by
  simp only [ref02_Size, ref02_Size_b]
  by_cases h : x < 0
  · simp only [h, decide_true, cond_true]
    rw [IntKind.wrap_u64, IntKind.wrap_u64]
    congr 1; omega
  · simp only [h, decide_false, cond_false]
    rw [u_wrap (by omega) (by omega)]
    congr 1; omega

theorem not_dec_eq {a b : Prop} [Decidable a] [Decidable b] : (!decide (decide a = decide b)) = (decide a != decide b) := by
  cases decide a <;> cases decide b <;> rfl

theorem RMake_ok {n d : Int} (h1 : -9223372036854775808 ≤ n) (h2 : n < 9223372036854775808) (h3 : -9223372036854775808 ≤ d) (h4 : d < 9223372036854775808) :
    ref02_Make n d = some (if d = 0 then ((0, 0), 16, ()) else fitQ (divQ n d)) := by
  simp only [ref02_Make, ref02_Make_b]
  rw [RSize_ok h1 h2, obind_some', RSize_ok h3 h4, obind_some', not_dec_eq]
  by_cases hd : d = 0
  · subst hd
    rw [if_pos rfl, show ((0 : Int), (((0 : Int).natAbs : Nat) : Int)) = (0, 0) from rfl, RMade_zero, obind_some']
  · rw [if_neg hd, ← hl_small (show n.natAbs < 18446744073709551616 by omega), ← hl_small (show d.natAbs < 18446744073709551616 by omega), RMade_ok (by omega) (by omega) (by omega), obind_some']
    rfl

theorem RMul_ok {m n : Nat} (hm : m < 18446744073709551616) (hn : n < 18446744073709551616) : ref02_Mul (m : Int) (n : Int) = some (hl (m * n)) := by
  have x0 : 0 ≤ (m : Int) := by omega
  have x1 : (m : Int) < 18446744073709551616 := by omega
  have y0 : 0 ≤ (n : Int) := by omega
  have y1 : (n : Int) < 18446744073709551616 := by omega
  have hmn : ((m * n : Nat) : Int) = (m : Int) * n := Int.natCast_mul m n
  simp only [hl, Int.natCast_ediv, Int.natCast_emod, hmn]
  generalize (m : Int) = x at *
  generalize (n : Int) = y at *
  have p32 : (2 : Int) ^ (32 : Nat) = 4294967296 := by decide
  simp only [ref02_Mul, ref02_Mul_b, p32, show decide ((0 : Int) ≤ 32) = true from rfl, cond_true]
  obtain ⟨a, b, ha, hb, hx⟩ : ∃ a b, a = x / 4294967296 ∧ b = x % 4294967296 ∧ x = a * 4294967296 + b := ⟨_, _, rfl, rfl, by omega⟩
  obtain ⟨c, d, hc, hd, hy⟩ : ∃ c d, c = y / 4294967296 ∧ d = y % 4294967296 ∧ y = c * 4294967296 + d := ⟨_, _, rfl, rfl, by omega⟩
  rw [land32 x0 x1, land32 y0 y1, ← hb, ← hd]
  simp only [fdiv_of (show (0 : Int) ≤ 4294967296 by omega), ← ha, ← hc]
  have a0 : 0 ≤ a ∧ a ≤ 4294967295 := by omega
  have b0 : 0 ≤ b ∧ b ≤ 4294967295 := by omega
  have c0 : 0 ≤ c ∧ c ≤ 4294967295 := by omega
  have d0 : 0 ≤ d ∧ d ≤ 4294967295 := by omega
  have mb : ∀ {m n : Int}, 0 ≤ m ∧ m ≤ 4294967295 → 0 ≤ n ∧ n ≤ 4294967295 → 0 ≤ m * n ∧ m * n ≤ 18446744065119617025 := fun {m n} hm hn => ⟨Int.mul_nonneg hm.1 hn.1, Int.le_trans (Int.mul_le_mul hm.2 hn.2 hn.1 (by omega)) (by decide)⟩
  have e1 := mb a0 c0
  have e2 := mb a0 d0
  have e3 := mb b0 c0
  have e4 := mb b0 d0
  have hxy : x * y = a * c * 18446744073709551616 + (a * d + b * c) * 4294967296 + b * d := by rw [hx, hy]; grind
  rw [hxy]
  rw [u_wrap (x := b) (by omega) (by omega), u_wrap (x := d) (by omega) (by omega)]
  rw [u_wrap (x := b * d) (by omega) (by omega), u_wrap (x := a * d) (by omega) (by omega), u_wrap (x := b * c) (by omega) (by omega), u_wrap (x := a * c) (by omega) (by omega)]
  generalize b * d = bd at *
  generalize a * d = ad at *
  generalize b * c = bc at *
  generalize a * c = ac at *
  rw [u_wrap (x := ad + bd / 4294967296) (by omega) (by omega)]
  generalize ht : ad + bd / 4294967296 = t
  rw [land32 (by omega) (by omega), land32 (by omega) (by omega)]
  rw [u_wrap (x := t % 4294967296) (by omega) (by omega), u_wrap (x := bd % 4294967296) (by omega) (by omega)]
  rw [u_wrap (x := bc + t % 4294967296) (by omega) (by omega), u_wrap (x := ac + t / 4294967296) (by omega) (by omega)]
  rw [u_wrap (x := ac + t / 4294967296 + (bc + t % 4294967296) / 4294967296) (by omega) (by omega)]
  rw [IntKind.wrap_u64 ((bc + t % 4294967296) * 4294967296), IntKind.wrap_u64]
  congr 1
  ext <;> simp only <;> omega

theorem RTimes_ok {a b : Fq} (ha : okF a) (hb : okF b) : ref02_Times a b = some (fitQ (qv a * qv b)) := by
  have ha' := ha
  have hb' := hb
  obtain ⟨⟨a1, a2⟩, ⟨a3, a4⟩, _⟩ := ha'
  obtain ⟨⟨b1, b2⟩, ⟨b3, b4⟩, _⟩ := hb'
  simp only [ref02_Times, ref02_Times_b]
  rw [RSize_ok (by omega) (by omega), obind_some', RSize_ok (by omega) (by omega), obind_some', RMul_ok (by omega) (by omega), obind_some', RSize_ok (by omega) (by omega), obind_some', RSize_ok (by omega) (by omega), obind_some', RMul_ok (by omega) (by omega), obind_some', not_dec_eq]
  have bd : ∀ {x y : Nat}, x ≤ 1152921504606846976 → y ≤ 1152921504606846976 → x * y < 340282366920938463463374607431768211456 := fun {x y} hx hy => Nat.lt_of_le_of_lt (Nat.mul_le_mul hx hy) (by decide)
  rw [RMade_ok (bd (by omega) (by omega)) (Nat.mul_pos (by omega) (by omega)) (bd (by omega) (by omega)), obind_some', okF_mkQ a, okF_mkQ b, mkQ_mul, show a.2.natAbs = a.2.toNat by omega, show b.2.natAbs = b.2.toNat by omega]

theorem RNeg_ok {a : Fq} (ha : okF a) : ref02_Neg a = some (-a.1, a.2) ∧ okF (-a.1, a.2) ∧ qv (-a.1, a.2) = - qv a := by
  obtain ⟨⟨a1, a2⟩, ⟨a3, a4⟩, a5⟩ := ha
  refine ⟨?_, ⟨⟨a1, a2⟩, ⟨by simp only; omega, by simp only; omega⟩, by simpa using a5⟩, ?_⟩
  · simp only [ref02_Neg, ref02_Neg_b]
    rw [wrap_id (by omega) (by omega), Int.zero_sub]
  · simp only [qv]
    rw [Rat.neg_mkRat]

end Go.Proofs.Ytpkphcnebkfjdaa

namespace Go.Proofs.Ytpkphcnebkfjdaa
open Try Dn Dn.Sh

theorem rLess_ok {a b : Nat} : ratio_less (hl a) (hl b) = some (decide (a < b)) := by
  simp only [ratio_less, ratio_less_b]
  have e : decide (a < b) = (bif decide ((hl a).1 < (hl b).1) then true else bif decide ((hl a).1 = (hl b).1) then decide ((hl a).2 < (hl b).2) else false) := by
    by_cases c1 : (hl a).1 < (hl b).1
    · simp only [c1, decide_true, cond_true]
      simp only [hl] at c1
      exact decide_eq_true (by omega)
    · by_cases c2 : (hl a).1 = (hl b).1
      · rw [decide_eq_false c1, decide_eq_true c2, cond_true, cond_false]
        have e2 : a < b ↔ (hl a).2 < (hl b).2 := by
          simp only [hl] at c1 c2 ⊢
          omega
        rw [Bool.eq_iff_iff, decide_eq_true_iff, decide_eq_true_iff]
        exact e2
      · simp only [c1, c2, decide_false, cond_false]
        simp only [hl] at c1 c2
        exact decide_eq_false (by omega)
  rw [e]
  cases decide ((hl a).1 < (hl b).1) <;> cases decide ((hl a).1 = (hl b).1) <;> rfl

theorem addC_hl {m n : Nat} : addC (hl m).2 (hl n).2 0 = (((m % 18446744073709551616 + n % 18446744073709551616) / 18446744073709551616 : Nat) : Int) := by
  simp only [addC, hl, Int.toNat_natCast, Int.toNat_zero, Nat.add_zero]
  rfl
theorem subC_hl {m n : Nat} : subC (hl m).2 (hl n).2 0 = (((if m % 18446744073709551616 < n % 18446744073709551616 then 1 else 0 : Nat) : Nat) : Int) := by
  simp only [subC, hl, Int.toNat_natCast, Int.toNat_zero, Nat.add_zero]
  cases h : Nat.blt (m % 18446744073709551616) (n % 18446744073709551616) with
  | true =>
    have h' : m % 18446744073709551616 < n % 18446744073709551616 := by simpa [Nat.blt_eq] using h
    rw [if_pos h']; rfl
  | false =>
    have h' : ¬ m % 18446744073709551616 < n % 18446744073709551616 := by
      intro h2
      have : Nat.blt (m % 18446744073709551616) (n % 18446744073709551616) = true := by simpa [Nat.blt_eq] using h2
      rw [this] at h; cases h
    rw [if_neg h']; rfl

theorem rPlus_ok {m n : Nat} (h : m + n < 340282366920938463463374607431768211456) : ratio_plus (hl m) (hl n) = some (hl (m + n)) := by
  simp only [ratio_plus, ratio_plus_b, addC_hl]
  have c1 : decide ((0 : Int) ≤ (0 : Int)) = true := rfl
  have c2 : decide ((0 : Int) ≤ (1 : Int)) = true := rfl
  rw [c1, c2, decide_eq_true (show (0 : Int) ≤ (((m % 18446744073709551616 + n % 18446744073709551616) / 18446744073709551616 : Nat) : Int) by omega), decide_eq_true (show (((m % 18446744073709551616 + n % 18446744073709551616) / 18446744073709551616 : Nat) : Int) ≤ 1 by omega)]
  simp only [Bool.and_self, cT, Option.some.injEq, addO, hl, Int.toNat_natCast, Int.toNat_zero, Nat.add_zero, Prod.mk.injEq]
  constructor
  · show ((_ : Nat) : Int) = ((_ : Nat) : Int)
    omega
  · show ((_ : Nat) : Int) = ((_ : Nat) : Int)
    omega
theorem rMinus_ok {m n : Nat} (h : n ≤ m) (hm : m < 340282366920938463463374607431768211456) : ratio_minus (hl m) (hl n) = some (hl (m - n)) := by
  simp only [ratio_minus, ratio_minus_b, subC_hl]
  have c1 : decide ((0 : Int) ≤ (0 : Int)) = true := rfl
  have c2 : decide ((0 : Int) ≤ (1 : Int)) = true := rfl
  have hb : (if m % 18446744073709551616 < n % 18446744073709551616 then 1 else 0 : Nat) ≤ 1 := by split <;> omega
  have hc : (if m % 18446744073709551616 < n % 18446744073709551616 then 1 else 0 : Nat) = 1 ∧ m % 18446744073709551616 < n % 18446744073709551616 ∨ (if m % 18446744073709551616 < n % 18446744073709551616 then 1 else 0 : Nat) = 0 ∧ ¬ m % 18446744073709551616 < n % 18446744073709551616 := by split <;> simp_all
  generalize (if m % 18446744073709551616 < n % 18446744073709551616 then 1 else 0 : Nat) = c at *
  rw [c1, c2, decide_eq_true (show (0 : Int) ≤ (c : Int) by omega), decide_eq_true (show (c : Int) ≤ 1 by omega)]
  simp only [Bool.and_self, cT, Option.some.injEq, subO, hl, Int.toNat_natCast, Int.toNat_zero, Nat.sub_zero, Prod.mk.injEq]
  constructor
  · show ((_ : Nat) : Int) = ((_ : Nat) : Int)
    omega
  · show ((_ : Nat) : Int) = ((_ : Nat) : Int)
    omega

noncomputable def lenT (T : ByteArray) (a b : Int) : Option Int :=
  bif decide (a ≥ (256 : Int)) then bif decide ((0 : Int) ≤ (8 : Int)) then bif inB (IntKind.wrap .u8 (Int.fdiv a ((2 : Int) ^ (8 : Nat)))) (256 : Nat) then
    some (IntKind.wrap .i64 (IntKind.wrap .i64 (b + (8 : Int)) + IntKind.wrap .i64 (byteAt T (Int.toNat (IntKind.wrap .u8 (Int.fdiv a ((2 : Int) ^ (8 : Nat)))))))) else none else none
  else bif inB (IntKind.wrap .u8 a) (256 : Nat) then some (IntKind.wrap .i64 (b + IntKind.wrap .i64 (byteAt T (Int.toNat (IntKind.wrap .u8 a))))) else none
noncomputable def lenU (T : ByteArray) (a b : Int) : Option Int := bif decide (a ≥ (65536 : Int)) then bif decide ((0 : Int) ≤ (16 : Int)) then lenT T (Int.fdiv a ((2 : Int) ^ (16 : Nat))) (IntKind.wrap .i64 (b + (16 : Int))) else none else lenT T a b
theorem len_table : ∃ T : ByteArray, (∀ i, i < 256 → 0 ≤ byteAt T i ∧ byteAt T i ≤ 8 ∧ (0 < i → i < 2 ^ (byteAt T i).toNat ∧ 2 ^ (byteAt T i).toNat ≤ 2 * i)) ∧
    ∀ x, bits_Len64 x = bif decide (x ≥ (4294967296 : Int)) then bif decide ((0 : Int) ≤ (32 : Int)) then lenU T (Int.fdiv x ((2 : Int) ^ (32 : Nat))) 32 else none else lenU T x 0 :=
  ⟨_, by decide +kernel, fun _ => rfl⟩

/-- The length of a number that is not 0. -/
def isLen (n L : Nat) : Prop := n < 2 ^ L ∧ 2 ^ L ≤ 2 * n
theorem isLen_shift {n k L : Nat} (h : isLen (n / 2 ^ k) L) : isLen n (L + k) := by
  obtain ⟨h1, h2⟩ := h
  have hk : 0 < 2 ^ k := Nat.two_pow_pos k
  unfold isLen
  rw [Nat.pow_add]
  constructor
  · exact (Nat.div_lt_iff_lt_mul hk).1 h1
  · have h3 : n / 2 ^ k * 2 ^ k ≤ n := Nat.div_mul_le_self n _
    have h4 := Nat.mul_le_mul_right (2 ^ k) h2
    rw [Nat.mul_assoc] at h4
    omega
theorem u8_wrap {x : Int} (h1 : 0 ≤ x) (h2 : x < 256) : IntKind.wrap .u8 x = x := by
  rw [IntKind.wrap_u8]; omega
theorem Len64_ok {n : Nat} (h0 : 0 < n) (h1 : n < 18446744073709551616) : ∃ L : Nat, bits_Len64 (n : Int) = some (L : Int) ∧ isLen n L ∧ L ≤ 64 := by
  obtain ⟨T, hT, hx⟩ := len_table
  have tab : ∀ i : Nat, 0 < i → i < 256 → ∃ L : Nat, byteAt T i = L ∧ L ≤ 8 ∧ isLen i L := fun i h2 h3 => by
    obtain ⟨a1, a2, a3⟩ := hT i h3
    exact ⟨(byteAt T i).toNat, by omega, by omega, a3 h2⟩
  have p8 : (2 : Int) ^ (8 : Nat) = 256 := by decide
  have p16 : (2 : Int) ^ (16 : Nat) = 65536 := by decide
  have p32 : (2 : Int) ^ (32 : Nat) = 4294967296 := by decide
  have stepT : ∀ a b : Nat, 0 < a → a < 65536 → b ≤ 48 → ∃ L : Nat, lenT T (a : Int) (b : Int) = some ((L + b : Nat) : Int) ∧ isLen a L ∧ L ≤ 16 := fun a b ha hb hb2 => by
    unfold lenT
    by_cases h : a < 256
    · obtain ⟨L, e1, e2, e3⟩ := tab a ha h
      rw [decide_eq_false (show ¬ (a : Int) ≥ 256 by omega), cond_false, u8_wrap (by omega) (by omega), inB_of (by omega) (by omega), cond_true, Int.toNat_natCast, e1, wrap_id (x := (L : Int)) (by omega) (by omega), wrap_id (by omega) (by omega)]
      exact ⟨L, by congr 1; omega, e3, by omega⟩
    · obtain ⟨L, e1, e2, e3⟩ := tab (a / 256) (by omega) (by omega)
      rw [decide_eq_true (show (a : Int) ≥ 256 by omega), cond_true, show decide ((0 : Int) ≤ 8) = true from rfl, cond_true, p8, fdiv_of (by omega), u8_wrap (by omega) (by omega), inB_of (by omega) (by omega), cond_true, show ((a : Int) / 256).toNat = a / 256 by omega, e1, wrap_id (x := (L : Int)) (by omega) (by omega), wrap_id (x := (b : Int) + 8) (by omega) (by omega), wrap_id (by omega) (by omega)]
      exact ⟨L + 8, by congr 1; omega, isLen_shift (k := 8) e3, by omega⟩
  have stepU : ∀ a b : Nat, 0 < a → a < 4294967296 → b ≤ 32 → ∃ L : Nat, lenU T (a : Int) (b : Int) = some ((L + b : Nat) : Int) ∧ isLen a L ∧ L ≤ 32 := fun a b ha hb hb2 => by
    unfold lenU
    by_cases h : a < 65536
    · obtain ⟨L, e1, e2, e3⟩ := stepT a b ha h (by omega)
      rw [decide_eq_false (show ¬ (a : Int) ≥ 65536 by omega), cond_false, e1]
      exact ⟨L, rfl, e2, by omega⟩
    · obtain ⟨L, e1, e2, e3⟩ := stepT (a / 65536) (b + 16) (by omega) (by omega) (by omega)
      rw [decide_eq_true (show (a : Int) ≥ 65536 by omega), cond_true, show decide ((0 : Int) ≤ 16) = true from rfl, cond_true, p16, fdiv_of (by omega), wrap_id (by omega) (by omega), show (a : Int) / 65536 = ((a / 65536 : Nat) : Int) by omega, show (b : Int) + 16 = ((b + 16 : Nat) : Int) by omega, e1]
      exact ⟨L + 16, by congr 1; omega, isLen_shift (k := 16) e2, by omega⟩
  rw [hx]
  by_cases h : n < 4294967296
  · obtain ⟨L, e1, e2, e3⟩ := stepU n 0 h0 h (by omega)
    rw [decide_eq_false (show ¬ (n : Int) ≥ 4294967296 by omega), cond_false]
    exact ⟨L, e1, e2, by omega⟩
  · obtain ⟨L, e1, e2, e3⟩ := stepU (n / 4294967296) 32 (by omega) (by omega) (by omega)
    rw [decide_eq_true (show (n : Int) ≥ 4294967296 by omega), cond_true, show decide ((0 : Int) ≤ 32) = true from rfl, cond_true, p32, fdiv_of (by omega), show (n : Int) / 4294967296 = ((n / 4294967296 : Nat) : Int) by omega]
    exact ⟨L + 32, e1, isLen_shift (k := 32) e2, by omega⟩

end Go.Proofs.Ytpkphcnebkfjdaa

namespace Go.Proofs.Ytpkphcnebkfjdaa
open Try Dn Dn.Sh

/-- One digit: the guess is not too small; what a round may conclude. -/
theorem digit_stop {q r U u y1 y0 : Int} (hq : q * y1 + r = U) (hu : 0 ≤ u) (hy : 0 < y1 * 4294967296 + y0) (hge : (U * 4294967296 + u) / (y1 * 4294967296 + y0) ≤ q) (ht : q * y0 ≤ 4294967296 * r + u) : q = (U * 4294967296 + u) / (y1 * 4294967296 + y0) := by
  refine Int.le_antisymm (Int.le_ediv_of_mul_le hy ?_) hge
  rw [Int.mul_add, ← Int.mul_assoc]
  omega
theorem digit_less {q r U u y1 y0 : Int} (hq : q * y1 + r = U) (hy : 0 < y1 * 4294967296 + y0) (hU : U * 4294967296 + u < (y1 * 4294967296 + y0) * 4294967296) (ht : q ≥ 4294967296 ∨ q * y0 > 4294967296 * r + u) : (U * 4294967296 + u) / (y1 * 4294967296 + y0) ≤ q - 1 := by
  have : (U * 4294967296 + u) / (y1 * 4294967296 + y0) < q := by
    refine Int.ediv_lt_of_lt_mul hy ?_
    rcases ht with ht | ht
    · exact Int.lt_of_lt_of_le hU (by rw [Int.mul_comm q]; exact Int.mul_le_mul_of_nonneg_left ht (by omega))
    · rw [Int.mul_add, ← Int.mul_assoc]
      omega
  omega
theorem digit_end {q r U u y1 y0 : Int} (hq : q * y1 + r = U) (hu : 0 ≤ u) (hy : 0 < y1 * 4294967296 + y0) (h0 : 0 ≤ y0 ∧ y0 < 4294967296) (hge : (U * 4294967296 + u) / (y1 * 4294967296 + y0) ≤ q - 1) (hr : r + y1 ≥ 4294967296) (hq2 : 1 ≤ q ∧ q ≤ 4294967297) : q - 1 = (U * 4294967296 + u) / (y1 * 4294967296 + y0) := by
  refine Int.le_antisymm (Int.le_ediv_of_mul_le hy ?_) hge
  have e1 : (q - 1) * y0 ≤ 4294967296 * 4294967295 := Int.mul_le_mul (by omega) (by omega) h0.1 (by omega)
  rw [Int.mul_add, ← Int.mul_assoc, Int.sub_mul q 1 y1, Int.one_mul]
  omega

theorem lor_add {s : Nat} {a b : Nat} (h : b < 2 ^ s) : Nat.lor (a * 2 ^ s) b = a * 2 ^ s + b := by
  have := Nat.two_pow_add_eq_or_of_lt h a
  rw [Nat.mul_comm a]
  exact this.symm

theorem digit_loop {α R : Type} {F : (α → Option R) → α → Option R} {J : Int → Option R} {U u y1 y0 : Int} (enc : Int → Int → α) (dec : α → Int) (hdec : ∀ q r, dec (enc q r) = q)
    (hu : 0 ≤ u) (h0 : 0 ≤ y0 ∧ y0 < 4294967296) (h1 : 2147483648 ≤ y1 ∧ y1 < 4294967296) (hU0 : 0 ≤ U) (hU : U * 4294967296 + u < (y1 * 4294967296 + y0) * 4294967296)
    (hF1 : ∀ again q r, 1 ≤ q → q ≤ 4294967297 → 0 ≤ r → r < 4294967296 → (q ≥ 4294967296 ∨ q * y0 > 4294967296 * r + u) → F again (enc q r) = bif decide (r + y1 ≥ 4294967296) then J (q - 1) else again (enc (q - 1) (r + y1)))
    (hF2 : ∀ again q r, 0 ≤ q → q < 4294967296 → 0 ≤ r → r < 4294967296 → ¬ q * y0 > 4294967296 * r + u → F again (enc q r) = J q)
    {q r : Int} (hq : q * y1 + r = U) (hq0 : 0 ≤ q) (hq2 : q ≤ 4294967297) (hr0 : 0 ≤ r) (hr1 : r < 4294967296) (hge : (U * 4294967296 + u) / (y1 * 4294967296 + y0) ≤ q) :
    lpK α R F (enc q r) = J ((U * 4294967296 + u) / (y1 * 4294967296 + y0)) := by
  have hD : 0 ≤ (U * 4294967296 + u) / (y1 * 4294967296 + y0) := Int.ediv_nonneg (by omega) (by omega)
  refine lpK_loop (g := fun _ => J ((U * 4294967296 + u) / (y1 * 4294967296 + y0))) (I := fun x => ∃ q r, x = enc q r ∧ q * y1 + r = U ∧ 0 ≤ q ∧ q ≤ 4294967297 ∧ 0 ≤ r ∧ r < 4294967296 ∧ (U * 4294967296 + u) / (y1 * 4294967296 + y0) ≤ q) (μ := fun x => (dec x).toNat) ?_ ⟨q, r, rfl, hq, hq0, hq2, hr0, hr1, hge⟩ (by rw [hdec]; omega)
  rintro _ rec ⟨q, r, rfl, hq, hq0, hq2, hr0, hr1, hge⟩ hrec
  have hy : 0 < y1 * 4294967296 + y0 := by omega
  by_cases ht : q ≥ 4294967296 ∨ q * y0 > 4294967296 * r + u
  · have hl := digit_less hq hy hU ht
    rw [hF1 _ _ _ (by omega) hq2 hr0 hr1 ht]
    by_cases hr : r + y1 ≥ 4294967296
    · rw [decide_eq_true hr, cond_true, digit_end hq hu hy h0 hl hr ⟨by omega, hq2⟩]
    · rw [decide_eq_false hr, cond_false]
      refine hrec _ ⟨q - 1, r + y1, rfl, ?_, by omega, by omega, by omega, by omega, hl⟩ (by rw [hdec, hdec]; omega)
      rw [Int.sub_mul, Int.one_mul]; omega
  · rw [not_or] at ht
    rw [hF2 _ _ _ hq0 (by omega) hr0 hr1 ht.2, ← digit_stop hq hu hy hge (by omega)]

/-- What the first guess of a digit is. -/
theorem digit_init {U u y1 y0 : Int} (hu : 0 ≤ u ∧ u < 4294967296) (h0 : 0 ≤ y0 ∧ y0 < 4294967296) (h1 : 2147483648 ≤ y1 ∧ y1 < 4294967296) (hU0 : 0 ≤ U) (hU : U < y1 * 4294967296 + y0) :
    (U / y1) * y1 + (U - U / y1 * y1) = U ∧ 0 ≤ U / y1 ∧ U / y1 ≤ 4294967297 ∧ 0 ≤ U - U / y1 * y1 ∧ U - U / y1 * y1 < 4294967296 ∧ (U * 4294967296 + u) / (y1 * 4294967296 + y0) ≤ U / y1 := by
  have e1 := Int.mul_ediv_add_emod U y1
  have e2 := Int.emod_nonneg U (show y1 ≠ 0 by omega)
  have e3 := Int.emod_lt_of_pos U (show 0 < y1 by omega)
  rw [Int.mul_comm] at e1
  refine ⟨by omega, Int.ediv_nonneg hU0 (by omega), ?_, by omega, by omega, ?_⟩
  · have : U / y1 < 4294967298 := Int.ediv_lt_of_lt_mul (by omega) (by omega)
    omega
  · have : (U * 4294967296 + u) / (y1 * 4294967296 + y0) < U / y1 + 1 := by
      refine Int.ediv_lt_of_lt_mul (by omega) ?_
      have hq : 0 ≤ U / y1 := Int.ediv_nonneg hU0 (by omega)
      have e4 : 0 ≤ (U / y1 + 1) * y0 := Int.mul_nonneg (by omega) h0.1
      rw [Int.mul_add, ← Int.mul_assoc, Int.add_mul (U / y1) 1 y1, Int.one_mul]
      omega
    omega

/-- The second loop of 'Div64', and what follows it. -/
noncomputable def dv2E (y1 y0 Y u0 P q1 un : Int) (q : Int) : Option (Int × Int × Unit) := some (IntKind.wrap .u64 (IntKind.wrap .u64 (q1 * 4294967296) + q), Int.fdiv (IntKind.wrap .u64 (IntKind.wrap .u64 (IntKind.wrap .u64 (un * 4294967296) + u0) - IntKind.wrap .u64 (q * Y))) P, ())
noncomputable def dv2 (y1 y0 Y u0 P q1 un : Int) : Option (Int × Int × Unit) := lpK (Int × Int × PUnit) (Int × Int × PUnit) (fun again x => bif (bif decide (x.2.1 ≥ 4294967296) then true else decide (IntKind.wrap .u64 (x.2.1 * y0) > IntKind.wrap .u64 (IntKind.wrap .u64 (4294967296 * x.1) + u0))) then
  (bif decide (IntKind.wrap .u64 (x.1 + y1) ≥ 4294967296) then dv2E y1 y0 Y u0 P q1 un (IntKind.wrap .u64 (x.2.1 - 1)) else again (IntKind.wrap .u64 (x.1 + y1), IntKind.wrap .u64 (x.2.1 - 1), PUnit.unit)) else dv2E y1 y0 Y u0 P q1 un x.2.1)
  (IntKind.wrap .u64 (un - IntKind.wrap .u64 (IntKind.wrap .u64 (Int.tdiv un y1) * y1)), IntKind.wrap .u64 (Int.tdiv un y1), PUnit.unit)
theorem dv2_ok {y1 y0 u0 P q1 un : Int} (hu : 0 ≤ u0 ∧ u0 < 4294967296) (h0 : 0 ≤ y0 ∧ y0 < 4294967296) (h1 : 2147483648 ≤ y1 ∧ y1 < 4294967296) (hU0 : 0 ≤ un) (hU : un < y1 * 4294967296 + y0) :
    dv2 y1 y0 (y1 * 4294967296 + y0) u0 P q1 un = dv2E y1 y0 (y1 * 4294967296 + y0) u0 P q1 un ((un * 4294967296 + u0) / (y1 * 4294967296 + y0)) := by
  obtain ⟨i1, i2, i3, i4, i5, i6⟩ := digit_init (U := un) hu h0 h1 hU0 hU
  unfold dv2
  rw [Int.tdiv_eq_ediv_of_nonneg hU0]
  have hm : un / y1 * y1 ≤ un := by omega
  have hm0 : 0 ≤ un / y1 * y1 := Int.mul_nonneg i2 (by omega)
  rw [u_wrap (x := un / y1) i2 (by omega), u_wrap (x := un / y1 * y1) hm0 (by omega), u_wrap (x := un - un / y1 * y1) (by omega) (by omega)]
  refine digit_loop (α := Int × Int × PUnit) (enc := fun q r => (r, q, PUnit.unit)) (dec := fun x => x.2.1) (fun _ _ => rfl) hu.1 h0 h1 hU0 (by omega) ?_ ?_ i1 i2 i3 i4 i5 i6
  · intro again q r g1 g2 g3 g4 g5
    have e1 : 0 ≤ q * y0 := Int.mul_nonneg (by omega) h0.1
    have e2 : q * y0 ≤ 4294967297 * 4294967295 := Int.mul_le_mul g2 (by omega) h0.1 (by omega)
    simp only
    rw [u_wrap (x := q * y0) e1 (by omega), u_wrap (x := 4294967296 * r) (by omega) (by omega), u_wrap (x := 4294967296 * r + u0) (by omega) (by omega), u_wrap (x := r + y1) (by omega) (by omega), u_wrap (x := q - 1) (by omega) (by omega)]
    have e : (bif decide (q ≥ 4294967296) then true else decide (q * y0 > 4294967296 * r + u0)) = true := by
      rcases g5 with ht | ht
      · rw [decide_eq_true ht]; rfl
      · rw [decide_eq_true ht]; cases decide (q ≥ 4294967296) <;> rfl
    rw [e, cT]
  · intro again q r g1 g2 g3 g4 g5
    have e1 : 0 ≤ q * y0 := Int.mul_nonneg (by omega) h0.1
    have e2 : q * y0 ≤ 4294967297 * 4294967295 := Int.mul_le_mul (by omega) (by omega) h0.1 (by omega)
    simp only
    rw [u_wrap (x := q * y0) e1 (by omega), u_wrap (x := 4294967296 * r) (by omega) (by omega), u_wrap (x := 4294967296 * r + u0) (by omega) (by omega)]
    rw [decide_eq_false (show ¬ q ≥ 4294967296 by omega), decide_eq_false g5, cF, cF]

/-- The first loop of 'Div64', and what follows it. -/
noncomputable def dv1E (y1 y0 Y u1 u0 P U : Int) (q1 : Int) : Option (Int × Int × Unit) := dv2 y1 y0 Y u0 P q1 (IntKind.wrap .u64 (IntKind.wrap .u64 (IntKind.wrap .u64 (U * 4294967296) + u1) - IntKind.wrap .u64 (q1 * Y)))
noncomputable def dv1 (y1 y0 Y u1 u0 P U : Int) : Option (Int × Int × Unit) := lpK (Int × Int × PUnit) (Int × Int × PUnit) (fun again x => bif (bif decide (x.1 ≥ 4294967296) then true else decide (IntKind.wrap .u64 (x.1 * y0) > IntKind.wrap .u64 (IntKind.wrap .u64 (4294967296 * x.2.1) + u1))) then
  (bif decide (IntKind.wrap .u64 (x.2.1 + y1) ≥ 4294967296) then dv1E y1 y0 Y u1 u0 P U (IntKind.wrap .u64 (x.1 - 1)) else again (IntKind.wrap .u64 (x.1 - 1), IntKind.wrap .u64 (x.2.1 + y1), PUnit.unit)) else dv1E y1 y0 Y u1 u0 P U x.1)
  (IntKind.wrap .u64 (Int.tdiv U y1), IntKind.wrap .u64 (U - IntKind.wrap .u64 (IntKind.wrap .u64 (Int.tdiv U y1) * y1)), PUnit.unit)
theorem dv1_ok {y1 y0 u1 u0 P U : Int} (hu : 0 ≤ u1 ∧ u1 < 4294967296) (h0 : 0 ≤ y0 ∧ y0 < 4294967296) (h1 : 2147483648 ≤ y1 ∧ y1 < 4294967296) (hU0 : 0 ≤ U) (hU : U < y1 * 4294967296 + y0) :
    dv1 y1 y0 (y1 * 4294967296 + y0) u1 u0 P U = dv1E y1 y0 (y1 * 4294967296 + y0) u1 u0 P U ((U * 4294967296 + u1) / (y1 * 4294967296 + y0)) := by
  obtain ⟨i1, i2, i3, i4, i5, i6⟩ := digit_init (U := U) hu h0 h1 hU0 hU
  unfold dv1
  rw [Int.tdiv_eq_ediv_of_nonneg hU0]
  have hm : U / y1 * y1 ≤ U := by omega
  have hm0 : 0 ≤ U / y1 * y1 := Int.mul_nonneg i2 (by omega)
  rw [u_wrap (x := U / y1) i2 (by omega), u_wrap (x := U / y1 * y1) hm0 (by omega), u_wrap (x := U - U / y1 * y1) (by omega) (by omega)]
  refine digit_loop (α := Int × Int × PUnit) (enc := fun q r => (q, r, PUnit.unit)) (dec := fun x => x.1) (fun _ _ => rfl) hu.1 h0 h1 hU0 (by omega) ?_ ?_ i1 i2 i3 i4 i5 i6
  · intro again q r g1 g2 g3 g4 g5
    have e1 : 0 ≤ q * y0 := Int.mul_nonneg (by omega) h0.1
    have e2 : q * y0 ≤ 4294967297 * 4294967295 := Int.mul_le_mul g2 (by omega) h0.1 (by omega)
    simp only
    rw [u_wrap (x := q * y0) e1 (by omega), u_wrap (x := 4294967296 * r) (by omega) (by omega), u_wrap (x := 4294967296 * r + u1) (by omega) (by omega), u_wrap (x := r + y1) (by omega) (by omega), u_wrap (x := q - 1) (by omega) (by omega)]
    have e : (bif decide (q ≥ 4294967296) then true else decide (q * y0 > 4294967296 * r + u1)) = true := by
      rcases g5 with ht | ht
      · rw [decide_eq_true ht]; rfl
      · rw [decide_eq_true ht]; cases decide (q ≥ 4294967296) <;> rfl
    rw [e, cT]
  · intro again q r g1 g2 g3 g4 g5
    have e1 : 0 ≤ q * y0 := Int.mul_nonneg (by omega) h0.1
    have e2 : q * y0 ≤ 4294967297 * 4294967295 := Int.mul_le_mul (by omega) (by omega) h0.1 (by omega)
    simp only
    rw [u_wrap (x := q * y0) e1 (by omega), u_wrap (x := 4294967296 * r) (by omega) (by omega), u_wrap (x := 4294967296 * r + u1) (by omega) (by omega)]
    rw [decide_eq_false (show ¬ q ≥ 4294967296 by omega), decide_eq_false g5, cF, cF]

/-- Both digits. -/
theorem dv_ok {U W Y P : Nat} (hY : 9223372036854775808 ≤ Y) (hY2 : Y < 18446744073709551616) (hW : W < 18446744073709551616) (hU : U < Y) :
    dv1 ((Y : Int) / 4294967296) ((Y : Int) % 4294967296) (Y : Int) ((W : Int) / 4294967296) ((W : Int) % 4294967296) (P : Int) (U : Int) = some ((((U * 18446744073709551616 + W) / Y : Nat) : Int), (((U * 18446744073709551616 + W) % Y / P : Nat) : Int), ()) := by
  have eY : (Y : Int) / 4294967296 * 4294967296 + (Y : Int) % 4294967296 = Y := by omega
  have h1 := dv1_ok (y1 := (Y : Int) / 4294967296) (y0 := (Y : Int) % 4294967296) (u1 := (W : Int) / 4294967296) (u0 := (W : Int) % 4294967296) (P := (P : Int)) (U := (U : Int)) (by omega) (by omega) (by omega) (by omega) (by omega)
  rw [eY] at h1
  rw [h1]
  unfold dv1E
  obtain ⟨A, hA⟩ : ∃ A : Nat, A = U * 4294967296 + W / 4294967296 := ⟨_, rfl⟩
  have hAi : (U : Int) * 4294967296 + (W : Int) / 4294967296 = (A : Int) := by omega
  rw [hAi]
  have hq1 : A / Y < 4294967296 := (Nat.div_lt_iff_lt_mul (by omega)).2 (by omega)
  have d1 := Nat.div_add_mod A Y
  have d2 := Nat.mod_lt A (show Y > 0 by omega)
  rw [show (A : Int) / (Y : Int) = ((A / Y : Nat) : Int) from rfl]
  have hun : IntKind.wrap .u64 (IntKind.wrap .u64 (IntKind.wrap .u64 ((U : Int) * 4294967296) + (W : Int) / 4294967296) - IntKind.wrap .u64 (((A / Y : Nat) : Int) * (Y : Int))) = ((A % Y : Nat) : Int) := by
    rw [← Int.natCast_mul, Nat.mul_comm (A / Y)]
    generalize A / Y = q1 at *
    generalize Y * q1 = m at *
    rw [IntKind.wrap_u64, IntKind.wrap_u64, IntKind.wrap_u64, IntKind.wrap_u64]
    omega
  rw [hun]
  have h2 := dv2_ok (y1 := (Y : Int) / 4294967296) (y0 := (Y : Int) % 4294967296) (u0 := (W : Int) % 4294967296) (P := (P : Int)) (q1 := ((A / Y : Nat) : Int)) (un := ((A % Y : Nat) : Int)) (by omega) (by omega) (by omega) (by omega) (by omega)
  rw [eY] at h2
  rw [h2]
  unfold dv2E
  obtain ⟨B, hB⟩ : ∃ B : Nat, B = A % Y * 4294967296 + W % 4294967296 := ⟨_, rfl⟩
  have hBi : ((A % Y : Nat) : Int) * 4294967296 + (W : Int) % 4294967296 = (B : Int) := by omega
  rw [hBi, show (B : Int) / (Y : Int) = ((B / Y : Nat) : Int) from rfl]
  have hq0 : B / Y < 4294967296 := (Nat.div_lt_iff_lt_mul (by omega)).2 (by omega)
  have d3 := Nat.div_add_mod B Y
  have d4 := Nat.mod_lt B (show Y > 0 by omega)
  have hN : U * 18446744073709551616 + W = (A / Y * 4294967296 + B / Y) * Y + B % Y := by
    rw [Nat.add_mul, Nat.mul_right_comm, Nat.mul_comm (A / Y), Nat.mul_comm (B / Y)]
    omega
  obtain ⟨n1, n2⟩ := divMod_of d4 hN
  rw [n1, n2]
  have hrest : IntKind.wrap .u64 (IntKind.wrap .u64 (IntKind.wrap .u64 (((A % Y : Nat) : Int) * 4294967296) + (W : Int) % 4294967296) - IntKind.wrap .u64 (((B / Y : Nat) : Int) * (Y : Int))) = ((B % Y : Nat) : Int) := by
    rw [← Int.natCast_mul, Nat.mul_comm (B / Y)]
    generalize B / Y = q0 at *
    generalize Y * q0 = m at *
    generalize A % Y = r1 at *
    rw [IntKind.wrap_u64, IntKind.wrap_u64, IntKind.wrap_u64, IntKind.wrap_u64]
    omega
  rw [hrest, fdiv_of (by omega)]
  generalize A / Y = q1 at *
  generalize B / Y = q0 at *
  rw [u_wrap (x := (q1 : Int) * 4294967296) (by omega) (by omega), u_wrap (by omega) (by omega)]
  rfl

theorem tmod_nat (m n : Nat) : Int.tmod (m : Int) (n : Int) = ((m % n : Nat) : Int) := by
  rw [Int.tmod_eq_emod_of_nonneg (by omega)]
  rfl

/-- As 'jnK_eq'', but not by computation. -/
theorem jnT {α R : Type} (j : α → Option R) (f : (α → Option R) → Option R) : jnK α R j f = f j := Eq.trans rfl rfl

theorem Div64_ok {h l y : Nat} (hy : h < y) (hy2 : y < 18446744073709551616) (hl0 : l < 18446744073709551616) : bits_Div64 (h : Int) (l : Int) (y : Int) = some ((((h * 18446744073709551616 + l) / y : Nat) : Int), (((h * 18446744073709551616 + l) % y : Nat) : Int), ()) := by
  simp only [bits_Div64, bits_Div64_b, jnT]
  rw [decide_eq_false (show ¬ (y : Int) = 0 by omega), cF, decide_eq_false (show ¬ (y : Int) ≤ (h : Int) by omega), cF]
  have hz : nzB (y : Int) = true := nzB_of (by omega)
  by_cases h0 : h = 0
  · subst h0
    rw [decide_eq_true (show ((0 : Nat) : Int) = 0 from rfl), cT, hz, cT, cT, tdiv_nat, tmod_nat, Nat.zero_mul, Nat.zero_add]
    have := Nat.div_le_self l y
    generalize l / y = d at *
    rw [u_wrap (by omega) (by omega)]
  · rw [decide_eq_false (show ¬ (h : Int) = 0 by omega), cF]
    obtain ⟨L, e1, ⟨e2, e3⟩, e4⟩ := Len64_ok (n := y) (by omega) hy2
    simp only [bits_LeadingZeros64, bits_LeadingZeros64_b, e1, obind_some']
    rw [wrap_id (x := 64 - (L : Int)) (by omega) (by omega)]
    obtain ⟨s, hs⟩ : ∃ s : Nat, L + s = 64 := ⟨64 - L, by omega⟩
    have w1 : IntKind.wrap .u64 (64 - (L : Int)) = (s : Int) := by rw [u_wrap (by omega) (by omega)]; omega
    have w2 : IntKind.wrap .u64 (64 - (s : Int)) = (L : Int) := by rw [u_wrap (by omega) (by omega)]; omega
    have p2 : ∀ k : Nat, (2 : Int) ^ k = ((2 ^ k : Nat) : Int) := fun k => by rw [Int.natCast_pow]; rfl
    have p32 : (2 : Int) ^ (32 : Nat) = 4294967296 := by decide
    simp only [w1, w2, Int.toNat_natCast, Nat.min_eq_left (show s ≤ 64 by omega), Nat.min_eq_left (show L ≤ 64 by omega), p32]
    simp only [p2]
    have hPQ : 2 ^ s * 2 ^ L = 18446744073709551616 := by rw [← Nat.pow_add, show s + L = 64 by omega]
    have hP : 0 < 2 ^ s := Nat.two_pow_pos s
    have hQ : 0 < 2 ^ L := Nat.two_pow_pos L
    have hYlt : y * 2 ^ s < 18446744073709551616 := by rw [← hPQ, Nat.mul_comm (2 ^ s)]; exact Nat.mul_lt_mul_of_pos_right e2 hP
    have hYge : 9223372036854775808 ≤ y * 2 ^ s := by
      have := Nat.mul_le_mul_right (2 ^ s) e3
      rw [Nat.mul_comm (2 ^ L), hPQ, Nat.mul_assoc] at this
      omega
    have hhP : h * 2 ^ s + 2 ^ s ≤ y * 2 ^ s := by rw [← Nat.succ_mul]; exact Nat.mul_le_mul_right _ hy
    have hlQ : l / 2 ^ L < 2 ^ s := by rw [Nat.div_lt_iff_lt_mul hQ, hPQ]; exact hl0
    have hlor : IntKind.wrap .u64 ((Nat.lor (Int.toNat (IntKind.wrap .u64 ((h : Int) * ((2 ^ s : Nat) : Int)) % Int.ofNat 18446744073709551616)) (Int.toNat (Int.fdiv (l : Int) ((2 ^ L : Nat) : Int) % Int.ofNat 18446744073709551616)) : Nat) : Int) = ((h * 2 ^ s + l / 2 ^ L : Nat) : Int) := by
      have a1 : IntKind.wrap .u64 ((h : Int) * ((2 ^ s : Nat) : Int)) = ((h * 2 ^ s : Nat) : Int) := by rw [← Int.natCast_mul, u_wrap (by omega) (by omega)]
      have a2 : Int.fdiv (l : Int) ((2 ^ L : Nat) : Int) = ((l / 2 ^ L : Nat) : Int) := by rw [fdiv_of (by omega)]; rfl
      have a3 : ∀ n : Nat, n < 18446744073709551616 → Int.toNat ((n : Int) % Int.ofNat 18446744073709551616) = n := fun n hn => by
        rw [show Int.ofNat 18446744073709551616 = (18446744073709551616 : Int) from rfl]; omega
      rw [a1, a2, a3 (h * 2 ^ s) (by omega), a3 (l / 2 ^ L) (by omega), lor_add hlQ]
      exact u_wrap (Int.natCast_nonneg _) (by
        have h5 : h * 2 ^ s + l / 2 ^ L < 18446744073709551616 := by omega
        exact Int.ofNat_lt.2 h5)
    have hlo : IntKind.wrap .u64 ((l : Int) * ((2 ^ s : Nat) : Int)) = ((l % 2 ^ L * 2 ^ s : Nat) : Int) := by
      rw [← Int.natCast_mul, IntKind.wrap_u64]
      have a1 : l * 2 ^ s = (l / 2 ^ L) * 18446744073709551616 + l % 2 ^ L * 2 ^ s := by
        rw [← hPQ, Nat.mul_comm (2 ^ s), ← Nat.mul_assoc, ← Nat.add_mul, Nat.mul_comm (l / 2 ^ L), Nat.div_add_mod]
      have a2 : l % 2 ^ L * 2 ^ s < 18446744073709551616 := by rw [← hPQ, Nat.mul_comm (2 ^ s)]; exact Nat.mul_lt_mul_of_pos_right (Nat.mod_lt _ hQ) hP
      rw [a1]
      generalize l / 2 ^ L = A at *
      generalize l % 2 ^ L * 2 ^ s = B at *
      omega
    have hlolt : l % 2 ^ L * 2 ^ s < 18446744073709551616 := by rw [← hPQ, Nat.mul_comm (2 ^ s)]; exact Nat.mul_lt_mul_of_pos_right (Nat.mod_lt _ hQ) hP
    have hN : (h * 18446744073709551616 + l) * 2 ^ s = (h * 2 ^ s + l / 2 ^ L) * 18446744073709551616 + l % 2 ^ L * 2 ^ s := by
      have a1 : l * 2 ^ s = (l / 2 ^ L) * 18446744073709551616 + l % 2 ^ L * 2 ^ s := by
        rw [← hPQ, Nat.mul_comm (2 ^ s), ← Nat.mul_assoc, ← Nat.add_mul, Nat.mul_comm (l / 2 ^ L), Nat.div_add_mod]
      rw [Nat.add_mul, a1, Nat.add_mul, Nat.mul_right_comm]
      omega
    have hY : IntKind.wrap .u64 ((y : Int) * ((2 ^ s : Nat) : Int)) = ((y * 2 ^ s : Nat) : Int) := by rw [← Int.natCast_mul, u_wrap (by omega) (by omega)]
    have hdiv : (h * 18446744073709551616 + l) / y = ((h * 2 ^ s + l / 2 ^ L) * 18446744073709551616 + l % 2 ^ L * 2 ^ s) / (y * 2 ^ s) := by rw [← hN, Nat.mul_div_mul_right _ _ hP]
    have hmod : ((h * 18446744073709551616 + l) % y) * 2 ^ s = ((h * 2 ^ s + l / 2 ^ L) * 18446744073709551616 + l % 2 ^ L * 2 ^ s) % (y * 2 ^ s) := by rw [← hN, Nat.mul_mod_mul_right]
    rw [hlor, hlo, hY]
    have hU : h * 2 ^ s + l / 2 ^ L < y * 2 ^ s := by omega
    have hm : (h * 18446744073709551616 + l) % y = ((h * 2 ^ s + l / 2 ^ L) * 18446744073709551616 + l % 2 ^ L * 2 ^ s) % (y * 2 ^ s) / 2 ^ s := by rw [← hmod, Nat.mul_div_cancel _ hP]
    rw [hdiv, hm]
    generalize h * 2 ^ s + l / 2 ^ L = U at *
    generalize l % 2 ^ L * 2 ^ s = W at *
    generalize y * 2 ^ s = Y at *
    generalize 2 ^ s = P at *
    clear e2 e3 e1 hlor hlo hN hdiv hmod hm hlQ hPQ hhP hY
    have hdv := dv_ok (P := P) hYge hYlt hlolt hU
    rw [← hdv]
    have c1 : decide ((0 : Int) ≤ (s : Int)) = true := decide_eq_true (by omega)
    have c2 : decide ((0 : Int) ≤ (L : Int)) = true := decide_eq_true (by omega)
    have c3 : decide ((0 : Int) ≤ (32 : Int)) = true := rfl
    have c4 : nzB ((Y : Int) / 4294967296) = true := nzB_of (by omega)
    have m1 : ∀ n : Nat, n < 18446744073709551616 → IntKind.wrap .u64 ((Nat.land (Int.toNat ((n : Int) % Int.ofNat 18446744073709551616)) (Int.toNat ((4294967295 : Int) % Int.ofNat 18446744073709551616)) : Nat) : Int) = (n : Int) % 4294967296 := fun n hn => by
      rw [land32 (by omega) (by omega), u_wrap (by omega) (by omega)]
    simp only [fdiv_of (show (0 : Int) ≤ 4294967296 by omega), c1, c2, c3, c4, m1 Y hYlt, m1 W hlolt, not_or_self', or_self_not, Bool.not_not, Bool.and_self, cT]
    rfl

end Go.Proofs.Ytpkphcnebkfjdaa

namespace Go.Proofs.Ytpkphcnebkfjdaa
open Try Dn Dn.Sh

theorem over_ok {n b : Nat} (hb0 : 0 < b) (hb : b < 18446744073709551616) (hn : n < 340282366920938463463374607431768211456) : ratio_over (hl n) (b : Int) = some (hl (n / b), ((n % b : Nat) : Int), ()) := by
  have hz : nzB (b : Int) = true := nzB_of (by omega)
  obtain ⟨h, l, hh, hl', hnn⟩ : ∃ h l : Nat, h = n / 18446744073709551616 ∧ l = n % 18446744073709551616 ∧ n = h * 18446744073709551616 + l := ⟨_, _, rfl, rfl, by omega⟩
  have e : hl n = ((h : Int), (l : Int)) := by unfold hl; rw [hh, hl']
  rw [e]
  simp only [ratio_over, ratio_over_b]
  rw [hz, tmod_nat, Div64_ok (Nat.mod_lt h hb0) hb (by omega), obind_some']
  have d1 := Nat.div_add_mod h b
  have d2 := Nat.mod_lt h hb0
  obtain ⟨A, hA⟩ : ∃ A, A = h % b * 18446744073709551616 + l := ⟨_, rfl⟩
  rw [← hA]
  have d3 := Nat.div_add_mod A b
  have d4 := Nat.mod_lt A hb0
  have d5 : A / b < 18446744073709551616 := (Nat.div_lt_iff_lt_mul hb0).2 (by
    have : (h % b + 1) * 18446744073709551616 ≤ b * 18446744073709551616 := Nat.mul_le_mul_right _ d2
    rw [Nat.mul_comm 18446744073709551616 b]
    omega)
  have hN : n = (h / b * 18446744073709551616 + A / b) * b + A % b := by
    have e1 : (h / b * 18446744073709551616 + A / b) * b = b * (h / b) * 18446744073709551616 + b * (A / b) := by grind
    rw [e1, hnn]
    generalize b * (h / b) = x at *
    generalize b * (A / b) = y at *
    generalize A % b = r at *
    generalize h % b = r1 at *
    clear e hz hb0 hb hn hh hl' hnn d5 e1
    omega
  obtain ⟨n1, n2⟩ := divMod_of d4 hN
  rw [n1, n2, tdiv_nat]
  have d6 : h / b < 18446744073709551616 := Nat.lt_of_le_of_lt (Nat.div_le_self h b) (by omega)
  generalize h / b = x at *
  generalize A / b = y at *
  rw [u_wrap (x := (x : Int)) (by omega) (by omega)]
  unfold hl
  rw [show (x * 18446744073709551616 + y) / 18446744073709551616 = x by omega, show (x * 18446744073709551616 + y) % 18446744073709551616 = y by omega]
  rfl

theorem sum_cop {na nb : Int} {da A B : Nat} (ha : Nat.gcd na.natAbs da = 1) (hA : A ∣ da) (hAB : Nat.gcd A B = 1) : Nat.gcd (na * B + nb * A).natAbs A = 1 := by
  have d1 := Nat.gcd_dvd_left (na * B + nb * A).natAbs A
  have d2 := Nat.gcd_dvd_right (na * B + nb * A).natAbs A
  generalize Nat.gcd (na * B + nb * A).natAbs A = d at *
  have e1 : (d : Int) ∣ na * B + nb * A := Int.ofNat_dvd_left.2 d1
  have e2 : (d : Int) ∣ nb * A := Int.dvd_mul_of_dvd_right (Int.ofNat_dvd.2 d2)
  have e3 : (d : Int) ∣ na * B := (Int.dvd_iff_dvd_of_dvd_add e1).2 e2
  have e4 : d ∣ na.natAbs * B := by
    have := Int.ofNat_dvd_left.1 e3
    rwa [Int.natAbs_mul, Int.natAbs_natCast] at this
  have e5 : Nat.Coprime d na.natAbs := (Nat.Coprime.coprime_dvd_right (Nat.dvd_trans d2 hA) ha).symm
  have e6 : d ∣ B := Nat.Coprime.dvd_of_dvd_mul_left e5 e4
  have e7 := Nat.dvd_gcd d2 e6
  rw [hAB] at e7
  exact Nat.dvd_one.1 e7

theorem sum_plain {na nb : Int} {da db g A B : Nat} (ha : Nat.gcd na.natAbs da = 1) (hb : Nat.gcd nb.natAbs db = 1) (h1 : da = A * g) (h2 : db = B * g) (hAB : Nat.gcd A B = 1) (hg : 0 < g) (hA : 0 < A) (hB : 0 < B) {c : Nat} (hc : c = Nat.gcd g (na * B + nb * A).natAbs) :
    mkRat na da + mkRat nb db = mkRat (na * B + nb * A) (A * db) ∧ Nat.gcd ((na * B + nb * A).natAbs / c) (A * (db / c)) = 1 ∧ 0 < c ∧ c ∣ (na * B + nb * A).natAbs ∧ c ∣ db := by
  have hc0 : 0 < c := by rw [hc]; exact Nat.gcd_pos_of_pos_left _ hg
  have k1 : Nat.gcd (na * B + nb * A).natAbs A = 1 := sum_cop ha ⟨g, h1⟩ hAB
  have k2 : Nat.gcd (na * B + nb * A).natAbs B = 1 := by
    rw [Int.add_comm]
    exact sum_cop hb ⟨g, h2⟩ (by rw [Nat.gcd_comm]; exact hAB)
  have c1 : c ∣ (na * B + nb * A).natAbs := by rw [hc]; exact Nat.gcd_dvd_right _ _
  have c2 : c ∣ g := by rw [hc]; exact Nat.gcd_dvd_left _ _
  refine ⟨?_, ?_, hc0, c1, by rw [h2]; exact Nat.dvd_trans c2 (Nat.dvd_mul_left g B)⟩
  · have p1 : 0 < A * g := Nat.mul_pos hA hg
    have p2 : 0 < B * g := Nat.mul_pos hB hg
    have p3 : 0 < A * (B * g) := Nat.mul_pos hA p2
    rw [Rat.mkRat_add_mkRat _ _ (by omega) (by omega), h1, h2, Rat.mkRat_eq_iff (Nat.ne_of_gt (Nat.mul_pos p1 p2)) (by omega)]
    simp only [Int.natCast_mul]
    grind
  · have c3 : Nat.gcd ((na * B + nb * A).natAbs / c) (g / c) = 1 := by
      rw [hc, Nat.gcd_comm]
      exact Nat.gcd_div_gcd_div_gcd_of_pos_left hg
    have hdb : db / c = B * (g / c) := by rw [h2, Nat.mul_div_assoc _ c2]
    have dv : (na * B + nb * A).natAbs / c ∣ (na * B + nb * A).natAbs := Nat.div_dvd_of_dvd c1
    rw [hdb]
    exact Nat.Coprime.mul_right (Nat.Coprime.coprime_dvd_left dv k1) (Nat.Coprime.mul_right (Nat.Coprime.coprime_dvd_left dv k2) c3)

theorem zero_hl' {n : Nat} (h : n < 340282366920938463463374607431768211456) : (decide ((hl n).1 = 0) && (decide ((hl n).2 = 0) && true)) = decide (n = 0) := zero_hl h

theorem Add_ok {a b : Fq} (ha : okF a) (hb : okF b) : ratio_Add a b = some (fitQ (qv a + qv b)) := by
  obtain ⟨na, da'⟩ := a
  obtain ⟨nb, db'⟩ := b
  have ha' := ha
  have hb' := hb
  unfold okF at ha' hb'
  simp only at ha' hb'
  obtain ⟨⟨a1, a2⟩, ⟨a3, a4⟩, a5⟩ := ha'
  obtain ⟨⟨b1, b2⟩, ⟨b3, b4⟩, b5⟩ := hb'
  obtain ⟨da, rfl⟩ : ∃ da : Nat, da' = da := ⟨da'.toNat, by omega⟩
  obtain ⟨db, rfl⟩ : ∃ db : Nat, db' = db := ⟨db'.toNat, by omega⟩
  rw [Int.natAbs_natCast] at a5 b5
  simp only [ratio_Add, ratio_Add_b, Valid_ok, decide_eq_true ha, decide_eq_true hb, obind_some', Bool.not_true, Bool.not_false, Bool.or_false, Bool.or_true, Bool.false_or, Bool.true_or, cT, cF, jnT]
  rw [u_wrap (x := (da : Int)) (by omega) (by omega), u_wrap (x := (db : Int)) (by omega) (by omega), gcd_ok _ _ (by omega), obind_some', size_ok (by omega) (by omega), obind_some', size_ok (by omega) (by omega)]
  have hg : 0 < Nat.gcd da db := Nat.gcd_pos_of_pos_left _ (by omega)
  have hgl : Nat.gcd da db ≤ da := Nat.gcd_le_left _ (by omega)
  obtain ⟨A, hA⟩ : ∃ A, A = da / Nat.gcd da db := ⟨_, rfl⟩
  obtain ⟨B, hB⟩ : ∃ B, B = db / Nat.gcd da db := ⟨_, rfl⟩
  have hAg : da = A * Nat.gcd da db := by rw [hA, Nat.div_mul_cancel (Nat.gcd_dvd_left _ _)]
  have hBg : db = B * Nat.gcd da db := by rw [hB, Nat.div_mul_cancel (Nat.gcd_dvd_right _ _)]
  have hAB : Nat.gcd A B = 1 := by rw [hA, hB]; exact Nat.gcd_div_gcd_div_gcd_of_pos_left (by omega)
  have hA0 : 0 < A := by rw [hA]; exact Nat.div_pos (Nat.gcd_le_left _ (by omega)) hg
  have hB0 : 0 < B := by rw [hB]; exact Nat.div_pos (Nat.gcd_le_right _ (by omega)) hg
  have hAl : A ≤ da := by rw [hA]; exact Nat.div_le_self _ _
  have hBl : B ≤ db := by rw [hB]; exact Nat.div_le_self _ _
  have hz : nzB ((Nat.gcd da db : Nat) : Int) = true := nzB_of (by omega)
  rw [hz, cT, tdiv_nat, tdiv_nat, ← hA, ← hB, u_wrap (x := (A : Int)) (by omega) (by omega), u_wrap (x := (B : Int)) (by omega) (by omega)]
  have x1 : na.natAbs * B ≤ 1152921504606846976 * 1152921504606846976 := Nat.mul_le_mul (by omega) (by omega)
  have y1 : nb.natAbs * A ≤ 1152921504606846976 * 1152921504606846976 := Nat.mul_le_mul (by omega) (by omega)
  rw [product_ok (by omega) (by omega), obind_some', obind_some', cT, product_ok (by omega) (by omega), obind_some']
  have hsum := sum_plain (na := na) (nb := nb) a5 b5 hAg hBg hAB hg hA0 hB0 rfl
  generalize Nat.gcd da db = g at *
  have hv : qv (na, (da : Int)) + qv (nb, (db : Int)) = mkRat na da + mkRat nb db := rfl
  rw [hv, hsum.1]
  simp only [not_or_self', or_self_not, Bool.not_not, cT]
  have tail : ∀ (s : Bool) (N : Nat), N ≤ 2658455991569831745807614120560689152 → sgn s N = na * B + nb * A → (bif decide ((hl N).1 = 0) && (decide ((hl N).2 = 0) && true) then some (((0 : Int), (1 : Int)), (0 : Int), PUnit.unit) else
      obind (ratio_over (hl N) (g : Int)) fun t_5 => obind (ratio_gcd (g : Int) t_5.2.1) fun t_1 => obind (ratio_over (hl N) t_1) fun t_6 => bif nzB t_1 then obind (ratio_product (A : Int) (IntKind.wrap .u64 (Int.tdiv (db : Int) t_1))) fun t =>
        bif bif decide (t_6.1.1 > 0) then true else decide (t.1 > 0) then some (((0 : Int), (0 : Int)), (5 : Int), PUnit.unit) else obind (ratio_signed s t_6.1.2 t.2) fun t => some (t.1, t.2.1, PUnit.unit) else none) = some (fitQ (mkRat (na * B + nb * A) (A * db))) := by
    intro s N hN hs
    have hNT : (na * B + nb * A).natAbs = N := by rw [← hs]; unfold sgn; split <;> simp
    rw [hNT] at hsum
    rw [zero_hl (by omega)]
    by_cases h0 : N = 0
    · rw [decide_eq_true h0, cT, ← hs, h0, show sgn s 0 = 0 by unfold sgn; cases s <;> rfl, Rat.zero_mkRat]
      rfl
    · obtain ⟨c, hc⟩ : ∃ c, c = Nat.gcd g N := ⟨_, rfl⟩
      rw [← hc] at hsum
      obtain ⟨_, s2, s3, s4, s5⟩ := hsum
      have hcg : c ≤ g := by rw [hc]; exact Nat.gcd_le_left _ hg
      rw [decide_eq_false h0, cF, over_ok hg (by omega) (by omega), obind_some', gcd_ok _ _ (by have := Nat.mod_lt N hg; generalize N % g = w at *; omega), obind_some', Nat.gcd_comm, ← Nat.gcd_rec, ← hc, over_ok s3 (by omega) (by omega), obind_some', nzB_of (by omega), cT, tdiv_nat]
      have hdc : db / c ≤ db := Nat.div_le_self _ _
      have hdc0 : 0 < db / c := Nat.div_pos (Nat.le_of_dvd (by omega) s5) s3
      rw [u_wrap (by omega) (by generalize db / c = w at *; omega), product_ok (by omega) (by generalize db / c = w at *; omega), obind_some']
      have hNc : N / c ≤ N := Nat.div_le_self _ _
      have hval : mkRat (na * B + nb * A) (A * db) = mkRat (sgn s (N / c)) (A * (db / c)) := by
        rw [← hs]
        refine mkQ_congr (Nat.mul_pos hA0 (by omega)) (Nat.mul_pos hA0 hdc0) ?_
        obtain ⟨x, rfl⟩ := s4
        obtain ⟨y, rfl⟩ := s5
        rw [Nat.mul_div_cancel_left _ s3, Nat.mul_div_cancel_left _ s3]
        grind
      rw [hval, fit_low (Nat.mul_pos hA0 hdc0) s2]
      have hden : A * (db / c) ≤ 1152921504606846976 * 1152921504606846976 := Nat.mul_le_mul (by omega) (by omega)
      generalize N / c = n at *
      generalize A * (db / c) = d at *
      by_cases hn : n < 18446744073709551616
      · by_cases hd : d < 18446744073709551616
        · rw [hl_small hn, hl_small hd]
          simp only
          rw [show decide ((0 : Int) > 0) = false from rfl, cF, cF, signed_ok _ _ _ hn hd, obind_some']
        · rw [hl_small hn]
          simp only
          rw [show decide ((0 : Int) > 0) = false from rfl, decide_eq_true (hl_big hd), cF, cT, if_neg (by omega)]
      · rw [decide_eq_true (hl_big hn), cT, cT, if_neg (by omega)]
  have sx : ∀ {n : Int} {s : Bool}, s = decide (n < 0) → n = sgn s n.natAbs := fun {n s} h => by rw [h]; exact size_sgn n
  by_cases hsg : decide (na < 0) = decide (nb < 0)
  · rw [decide_eq_true hsg, cT, rPlus_ok (by omega), obind_some']
    refine tail _ _ (by omega) ?_
    have e1 : na = sgn (decide (na < 0)) na.natAbs := size_sgn na
    have e2 : nb = sgn (decide (na < 0)) nb.natAbs := by rw [hsg]; exact size_sgn nb
    generalize na.natAbs = m at *
    generalize nb.natAbs = n at *
    generalize decide (na < 0) = s at *
    rw [e1, e2]
    unfold sgn
    cases s
    · simp only [Bool.false_eq_true, if_false]
      rw [Int.natCast_add, Int.natCast_mul, Int.natCast_mul]
    · simp only [if_true]
      rw [Int.natCast_add, Int.natCast_mul, Int.natCast_mul]
      grind
  · have e1 : na = sgn (decide (na < 0)) na.natAbs := size_sgn na
    have e2 : nb = sgn (!decide (na < 0)) nb.natAbs := by
      have : (!decide (na < 0)) = decide (nb < 0) := by
        clear tail sx hsum hv ha hb
        revert hsg
        cases decide (na < 0) <;> cases decide (nb < 0) <;> simp
      rw [this]; exact size_sgn nb
    rw [decide_eq_false hsg, cF, rLess_ok, obind_some']
    by_cases hlt : na.natAbs * B < nb.natAbs * A
    · rw [decide_eq_true hlt, cT, rMinus_ok (by omega) (by omega), obind_some']
      refine tail _ _ (by omega) ?_
      generalize na.natAbs = m at *
      generalize nb.natAbs = n at *
      generalize decide (na < 0) = s at *
      rw [e1, e2]
      have e3 : (((n * A - m * B : Nat)) : Int) = (n : Int) * A - (m : Int) * B := by rw [Int.ofNat_sub (Nat.le_of_lt hlt), Int.natCast_mul, Int.natCast_mul]
      unfold sgn
      cases s
      · simp only [Bool.false_eq_true, if_false, Bool.not_false, if_true]
        grind
      · simp only [if_true, Bool.not_true, Bool.false_eq_true, if_false]
        grind
    · rw [decide_eq_false hlt, cF, rMinus_ok (by omega) (by omega), obind_some']
      refine tail _ _ (by omega) ?_
      generalize na.natAbs = m at *
      generalize nb.natAbs = n at *
      generalize decide (na < 0) = s at *
      rw [e1, e2]
      have e3 : (((m * B - n * A : Nat)) : Int) = (m : Int) * B - (n : Int) * A := by rw [Int.ofNat_sub (Nat.not_lt.1 hlt), Int.natCast_mul, Int.natCast_mul]
      unfold sgn
      cases s
      · simp only [Bool.false_eq_true, if_false, Bool.not_false, if_true]
        grind
      · simp only [if_true, Bool.not_true, Bool.false_eq_true, if_false]
        grind

end Go.Proofs.Ytpkphcnebkfjdaa

namespace Go.Proofs.Ytpkphcnebkfjdaa
open Try Dn Dn.Sh

theorem sgn_same {na nb : Int} {A B : Nat} (h : decide (na < 0) = decide (nb < 0)) : sgn (decide (na < 0)) (na.natAbs * B + nb.natAbs * A) = na * B + nb * A := by
  have e1 : na = sgn (decide (na < 0)) na.natAbs := size_sgn na
  have e2 : nb = sgn (decide (na < 0)) nb.natAbs := by rw [h]; exact size_sgn nb
  generalize na.natAbs = m at *
  generalize nb.natAbs = n at *
  generalize decide (na < 0) = s at *
  rw [e1, e2]
  unfold sgn
  cases s
  · simp only [Bool.false_eq_true, if_false]
    rw [Int.natCast_add, Int.natCast_mul, Int.natCast_mul]
  · simp only [if_true]
    rw [Int.natCast_add, Int.natCast_mul, Int.natCast_mul]
    grind
theorem not_same {na nb : Int} (h : ¬ decide (na < 0) = decide (nb < 0)) : nb = sgn (!decide (na < 0)) nb.natAbs := by
  have : (!decide (na < 0)) = decide (nb < 0) := by
    revert h
    cases decide (na < 0) <;> cases decide (nb < 0) <;> simp
  rw [this]; exact size_sgn nb
theorem sgn_less {na nb : Int} {A B : Nat} (h : ¬ decide (na < 0) = decide (nb < 0)) (hlt : na.natAbs * B < nb.natAbs * A) : sgn (!decide (na < 0)) (nb.natAbs * A - na.natAbs * B) = na * B + nb * A := by
  have e1 : na = sgn (decide (na < 0)) na.natAbs := size_sgn na
  have e2 := not_same h
  generalize na.natAbs = m at *
  generalize nb.natAbs = n at *
  generalize decide (na < 0) = s at *
  rw [e1, e2]
  have e3 : (((n * A - m * B : Nat)) : Int) = (n : Int) * A - (m : Int) * B := by rw [Int.ofNat_sub (Nat.le_of_lt hlt), Int.natCast_mul, Int.natCast_mul]
  unfold sgn
  cases s
  · simp only [Bool.false_eq_true, if_false, Bool.not_false, if_true]
    grind
  · simp only [if_true, Bool.not_true, Bool.false_eq_true, if_false]
    grind
theorem sgn_more {na nb : Int} {A B : Nat} (h : ¬ decide (na < 0) = decide (nb < 0)) (hlt : ¬ na.natAbs * B < nb.natAbs * A) : sgn (decide (na < 0)) (na.natAbs * B - nb.natAbs * A) = na * B + nb * A := by
  have e1 : na = sgn (decide (na < 0)) na.natAbs := size_sgn na
  have e2 := not_same h
  generalize na.natAbs = m at *
  generalize nb.natAbs = n at *
  generalize decide (na < 0) = s at *
  rw [e1, e2]
  have e3 : (((m * B - n * A : Nat)) : Int) = (m : Int) * B - (n : Int) * A := by rw [Int.ofNat_sub (Nat.not_lt.1 hlt), Int.natCast_mul, Int.natCast_mul]
  unfold sgn
  cases s
  · simp only [Bool.false_eq_true, if_false, Bool.not_false, if_true]
    grind
  · simp only [if_true, Bool.not_true, Bool.false_eq_true, if_false]
    grind

theorem RAdd_ok {a b : Fq} (ha : okF a) (hb : okF b) : ref02_Add a b = some (fitQ (qv a + qv b)) := by
  obtain ⟨na, da'⟩ := a
  obtain ⟨nb, db'⟩ := b
  have ha' := ha
  have hb' := hb
  unfold okF at ha' hb'
  simp only at ha' hb'
  obtain ⟨⟨a1, a2⟩, ⟨a3, a4⟩, a5⟩ := ha'
  obtain ⟨⟨b1, b2⟩, ⟨b3, b4⟩, b5⟩ := hb'
  obtain ⟨da, rfl⟩ : ∃ da : Nat, da' = da := ⟨da'.toNat, by omega⟩
  obtain ⟨db, rfl⟩ : ∃ db : Nat, db' = db := ⟨db'.toNat, by omega⟩
  simp only [ref02_Add, ref02_Add_b]
  rw [RSize_ok (by omega) (by omega), obind_some', RSize_ok (by omega) (by omega), obind_some', Int.natAbs_natCast, RMul_ok (by omega) (by omega), obind_some', RSize_ok (by omega) (by omega), obind_some', RSize_ok (by omega) (by omega), obind_some', Int.natAbs_natCast, RMul_ok (by omega) (by omega), obind_some', obind_some', obind_some', RMul_ok (by omega) (by omega), obind_some']
  have x1 : na.natAbs * db ≤ 1152921504606846976 * 1152921504606846976 := Nat.mul_le_mul (by omega) (by omega)
  have y1 : nb.natAbs * da ≤ 1152921504606846976 * 1152921504606846976 := Nat.mul_le_mul (by omega) (by omega)
  have d1 : da * db ≤ 1152921504606846976 * 1152921504606846976 := Nat.mul_le_mul (by omega) (by omega)
  have d0 : 0 < da * db := Nat.mul_pos (by omega) (by omega)
  have hv : qv (na, (da : Int)) + qv (nb, (db : Int)) = mkRat (na * db + nb * da) (da * db) := Rat.mkRat_add_mkRat _ _ (by omega) (by omega)
  rw [hv]
  by_cases hs : decide (na < 0) = decide (nb < 0)
  · rw [decide_eq_true hs, cT, Plus_ok (by omega), obind_some', RMade_ok (by omega) d0 (by omega), obind_some', sgn_same hs]
  · rw [decide_eq_false hs, cF, Less_ok, obind_some']
    by_cases hlt : na.natAbs * db < nb.natAbs * da
    · have e2 : decide (nb < 0) = !decide (na < 0) := by
        clear ha hb hv
        revert hs
        cases decide (na < 0) <;> cases decide (nb < 0) <;> simp
      rw [decide_eq_true hlt, cT, Minus_ok (by omega) (by omega), obind_some', RMade_ok (by omega) d0 (by omega), obind_some', e2, sgn_less hs hlt]
    · rw [decide_eq_false hlt, cF, Minus_ok (by omega) (by omega), obind_some', RMade_ok (by omega) d0 (by omega), obind_some', sgn_more hs hlt]

theorem one_hl {n : Nat} (h : n < 18446744073709551616) : (decide ((hl n).1 = 0) && (decide ((hl n).2 = 1) && true)) = decide (n = 1) := by
  rw [hl_small h]
  simp only [decide_true, Bool.true_and, Bool.and_true]
  rw [Bool.eq_iff_iff, decide_eq_true_eq, decide_eq_true_eq]
  omega

end Go.Proofs.Ytpkphcnebkfjdaa

namespace Go.Proofs.Ytpkphcnebkfjdaa
open Try Dn Dn.Sh

theorem Sub_ok {a b : Fq} (ha : okF a) (hb : okF b) : ratio_Sub a b = some (fitQ (qv a - qv b)) := by
  obtain ⟨_, h2, h3⟩ := RNeg_ok hb
  have hb' := hb
  obtain ⟨_, ⟨b1, b2⟩, _⟩ := hb'
  have hw : IntKind.wrap .i64 (0 - b.1) = -b.1 := by rw [wrap_id (by omega) (by omega)]; omega
  simp only [ratio_Sub, ratio_Sub_b, Valid_ok, decide_eq_true ha, decide_eq_true hb, obind_some', Bool.not_true, Bool.not_false, Bool.or_false, Bool.or_true, Bool.false_or, Bool.true_or, cT, cF]
  rw [hw, Add_ok ha h2, obind_some', h3, ← Rat.sub_eq_add_neg]

theorem RSub_ok {a b : Fq} (ha : okF a) (hb : okF b) : ref02_Sub a b = some (fitQ (qv a - qv b)) := by
  obtain ⟨h1, h2, h3⟩ := RNeg_ok hb
  simp only [ref02_Sub, ref02_Sub_b]
  rw [h1, obind_some', RAdd_ok ha h2, obind_some', h3, ← Rat.sub_eq_add_neg]

/-- How two numbers compare. -/
def cmpQ (p q : Rat) : Int := if p < q then -1 else if p = q then 0 else 1

theorem hl_beq {m n : Nat} : (decide ((hl m).1 = (hl n).1) && (decide ((hl m).2 = (hl n).2) && true)) = decide (m = n) := by
  rw [Bool.eq_iff_iff]
  simp only [Bool.and_eq_true, decide_eq_true_eq, and_true]
  unfold hl
  constructor
  · rintro ⟨h1, h2⟩
    have h1 : m / 18446744073709551616 = n / 18446744073709551616 := Int.ofNat.inj h1
    have h2 : m % 18446744073709551616 = n % 18446744073709551616 := Int.ofNat.inj h2
    omega
  · intro h
    rw [h]
    exact ⟨rfl, rfl⟩

/-- Two fractions compare as the products of their sizes, with the signs. -/
theorem cmp_signs {a b : Fq} (ha : okF a) (hb : okF b) {M N : Nat} (hM : M = a.1.natAbs * b.2.natAbs) (hN : N = b.1.natAbs * a.2.natAbs) :
    cmpQ (qv a) (qv b) = if a.1 < 0 then (if b.1 < 0 then (if N < M then -1 else if M = N then 0 else 1) else -1) else (if b.1 < 0 then 1 else (if M < N then -1 else if M = N then 0 else 1)) := by
  have e1 := okF_lt ha hb
  have e2 : qv a = qv b ↔ a.1 * b.2 = b.1 * a.2 := by
    have h1 := okF_le ha hb
    have h2 := okF_le hb ha
    constructor
    · intro h
      have h3 := h1.1 (by rw [h]; exact Rat.le_refl)
      have h4 := h2.1 (by rw [h]; exact Rat.le_refl)
      omega
    · intro h
      exact Rat.le_antisymm (h1.2 (by omega)) (h2.2 (by omega))
  obtain ⟨⟨a1, _⟩, _, _⟩ := ha
  obtain ⟨⟨b1, _⟩, _, _⟩ := hb
  have eM : (M : Int) = (a.1.natAbs : Int) * b.2 := by rw [hM, Int.natCast_mul, show ((b.2.natAbs : Nat) : Int) = b.2 by omega]
  have eN : (N : Int) = (b.1.natAbs : Int) * a.2 := by rw [hN, Int.natCast_mul, show ((a.2.natAbs : Nat) : Int) = a.2 by omega]
  have sa : a.1 * b.2 = if a.1 < 0 then -(M : Int) else M := by
    split
    · rw [eM, ← Int.neg_mul]; congr 1; omega
    · rw [eM]; congr 1; omega
  have sb : b.1 * a.2 = if b.1 < 0 then -(N : Int) else N := by
    split
    · rw [eN, ← Int.neg_mul]; congr 1; omega
    · rw [eN]; congr 1; omega
  have p1 : a.1 < 0 → 0 < M := fun h => by rw [hM]; exact Nat.mul_pos (by omega) (by omega)
  have p2 : b.1 < 0 → 0 < N := fun h => by rw [hN]; exact Nat.mul_pos (by omega) (by omega)
  unfold cmpQ
  simp only [e1, e2, sa, sb]
  clear e1 e2 sa sb eM eN hM hN
  by_cases c1 : a.1 < 0
  · by_cases c2 : b.1 < 0
    · simp only [c1, c2, if_true]
      repeat' split
      all_goals first | rfl | omega
    · have := p1 c1
      simp only [c1, c2, if_true, if_false]
      repeat' split
      all_goals first | rfl | omega
  · by_cases c2 : b.1 < 0
    · have := p2 c2
      simp only [c1, c2, if_true, if_false]
      repeat' split
      all_goals first | rfl | omega
    · simp only [c1, c2, if_false]
      repeat' split
      all_goals first | rfl | omega

theorem RCmp_ok {a b : Fq} (ha : okF a) (hb : okF b) : ref02_Cmp a b = some (cmpQ (qv a) (qv b)) := by
  have hs := cmp_signs ha hb rfl rfl
  obtain ⟨⟨a1, a2⟩, ⟨a3, a4⟩, _⟩ := ha
  obtain ⟨⟨b1, b2⟩, ⟨b3, b4⟩, _⟩ := hb
  simp only [ref02_Cmp, ref02_Cmp_b]
  rw [RSize_ok (by omega) (by omega), obind_some', RSize_ok (by omega) (by omega), obind_some', RMul_ok (by omega) (by omega), obind_some', RSize_ok (by omega) (by omega), obind_some', RSize_ok (by omega) (by omega), obind_some', RMul_ok (by omega) (by omega), obind_some']
  simp only [not_or_self', cT, hl_beq, Less_ok, obind_some']
  rw [hs]
  clear hs
  generalize a.1.natAbs * b.2.natAbs = M
  generalize b.1.natAbs * a.2.natAbs = N
  by_cases c1 : a.1 < 0
  · by_cases c2 : b.1 < 0
    · rw [if_pos c1, if_pos c2]
      simp only [decide_eq_true c1, decide_eq_false (show ¬ b.1 ≥ 0 by omega), decide_eq_false (show ¬ a.1 ≥ 0 by omega), cT, cF]
      by_cases e : M = N
      · simp only [decide_eq_true e, cT]; rw [if_neg (by omega), if_pos e]
      · simp only [decide_eq_false e, cF]
        by_cases e2 : M < N
        · rw [decide_eq_true e2, if_neg (by omega), if_neg e]; rfl
        · rw [decide_eq_false e2, if_pos (by omega)]; rfl
    · rw [if_pos c1, if_neg c2]
      simp only [decide_eq_true c1, decide_eq_true (show b.1 ≥ 0 by omega), cT]
  · by_cases c2 : b.1 < 0
    · rw [if_neg c1, if_pos c2]
      simp only [decide_eq_false c1, decide_eq_true c2, decide_eq_true (show a.1 ≥ 0 by omega), cT, cF]
    · rw [if_neg c1, if_neg c2]
      simp only [decide_eq_false c1, decide_eq_false c2, decide_eq_true (show a.1 ≥ 0 by omega), cT, cF]
      by_cases e : M = N
      · simp only [decide_eq_true e, cT]; rw [if_neg (by omega), if_pos e]
      · simp only [decide_eq_false e, cF]
        by_cases e2 : M < N
        · rw [decide_eq_true e2, if_pos e2]; rfl
        · rw [decide_eq_false e2, if_neg e2, if_neg e]; rfl

theorem Cmp_ok {a b : Fq} (ha : okF a) (hb : okF b) : ratio_Cmp a b = some (cmpQ (qv a) (qv b), 0, ()) := by
  have hs := cmp_signs ha hb rfl rfl
  have ha' := ha
  have hb' := hb
  obtain ⟨⟨a1, a2⟩, ⟨a3, a4⟩, _⟩ := ha'
  obtain ⟨⟨b1, b2⟩, ⟨b3, b4⟩, _⟩ := hb'
  simp only [ratio_Cmp, ratio_Cmp_b, Valid_ok, decide_eq_true ha, decide_eq_true hb, obind_some', Bool.not_true, Bool.not_false, Bool.or_false, Bool.or_true, Bool.false_or, Bool.true_or, cT, cF, jnT]
  rw [size_ok (by omega) (by omega), obind_some', u_wrap (by omega) (by omega), u_wrap (by omega) (by omega), show b.2 = ((b.2.natAbs : Nat) : Int) by omega, product_ok (by omega) (by omega), obind_some', size_ok (by omega) (by omega), obind_some', show a.2 = ((a.2.natAbs : Nat) : Int) by omega, product_ok (by omega) (by omega), obind_some']
  simp only [not_dec_eq]
  rw [hs]
  clear hs
  generalize a.1.natAbs * b.2.natAbs = M
  generalize b.1.natAbs * a.2.natAbs = N
  by_cases c1 : a.1 < 0
  · by_cases c2 : b.1 < 0
    · rw [if_pos c1, if_pos c2]
      simp only [decide_eq_true c1, decide_eq_true c2, bne_self_eq_false, cT, cF, rLess_ok, obind_some']
      by_cases e : N < M
      · simp only [decide_eq_true e, cT]; rw [if_pos e]
      · simp only [decide_eq_false e, cF]; rw [if_neg e]
        by_cases e2 : M < N
        · simp only [decide_eq_true e2, cT]; rw [if_neg (by omega)]
        · simp only [decide_eq_false e2, cF]; rw [if_pos (by omega)]
    · rw [if_pos c1, if_neg c2]
      simp only [decide_eq_true c1, decide_eq_false c2, Bool.true_bne, Bool.not_false, cT]
  · by_cases c2 : b.1 < 0
    · rw [if_neg c1, if_pos c2]
      simp only [decide_eq_false c1, decide_eq_true c2, Bool.false_bne, cT, cF]
    · rw [if_neg c1, if_neg c2]
      simp only [decide_eq_false c1, decide_eq_false c2, bne_self_eq_false, cT, cF, rLess_ok, obind_some']
      by_cases e : M < N
      · simp only [decide_eq_true e, cT]; rw [if_pos e]
      · simp only [decide_eq_false e, cF]; rw [if_neg e]
        by_cases e2 : N < M
        · simp only [decide_eq_true e2, cT]; rw [if_neg (by omega)]
        · simp only [decide_eq_false e2, cF]; rw [if_pos (by omega)]

theorem Cmp_bad {a : Fq} (ha : okF a) : ratio_Cmp a (0, 0) = some (0, 1, ()) := by
  have hb : ¬ okF (0, 0) := fun h => by obtain ⟨⟨h, _⟩, _⟩ := h; simp at h
  simp only [ratio_Cmp, ratio_Cmp_b, Valid_ok, decide_eq_true ha, decide_eq_false hb, obind_some', Bool.not_true, Bool.not_false, Bool.or_false, Bool.or_true, Bool.false_or, Bool.true_or, cT, cF]

end Go.Proofs.Ytpkphcnebkfjdaa

namespace Go.Proofs.Ytpkphcnebkfjdaa
open Try Dn Dn.Sh

theorem repeat_one (z : Fq) {n : Nat} (hn : n ≤ 1000000) : slices_Repeat_88 [z] (n : Int) = some (List.replicate n z) := by
  have hm : bits_Mul (IntKind.wrap .u64 ((List.length [z] : Nat) : Int)) (IntKind.wrap .u64 (n : Int)) = some (0, (n : Int), ()) := by
    simp only [bits_Mul, bits_Mul_b]
    rw [u_wrap (by simp) (by simp), u_wrap (by omega) (by omega), mulW (by simp) (by simp) (by omega) (by omega), obind_some']
    simp only [List.length_singleton]
    congr 1
    refine Prod.ext ?_ (Prod.ext ?_ rfl)
    · show ((1 : Nat) : Int) * n / 18446744073709551616 = 0
      omega
    · show ((1 : Nat) : Int) * n % 18446744073709551616 = n
      omega
  have hw : IntKind.wrap .i64 (n : Int) = (n : Int) := wrap_id (by omega) (by omega)
  simp only [slices_Repeat_88, slices_Repeat_88_b, jnT]
  rw [decide_eq_false (show ¬ (n : Int) < 0 by omega), cF, hm, obind_some']
  have h63 : decide ((n : Int) > 9223372036854775807) = false := decide_eq_false (by omega)
  have hz0 : decide ((0 : Int) > 0) = false := rfl
  have hz1 : decide ((0 : Int) ≤ (n : Int)) = true := decide_eq_true (by omega)
  have hfb : fitB n 16 = true := fitB_of (by omega)
  simp only [hw, hz0, h63, hz1, Int.toNat_natCast, hfb, Bool.not_false, Bool.not_true, Bool.or_true, Bool.or_false, Bool.and_self, Bool.true_or, Bool.false_or, cT, cF, List.drop_zero, List.take_zero, List.nil_append]
  refine lpK_loop (g := fun _ => some (List.replicate n z)) (I := fun (x : Int × List Fq × PUnit) => ∃ c : Nat, x.1 = c ∧ c ≤ n ∧ (0 < n → 0 < c) ∧ x.2.1.length = n ∧ x.2.1.take c = List.replicate c z) (μ := fun (x : Int × List Fq × PUnit) => n - x.1.toNat) ?_ ?_ (by simp only; omega)
  · rintro ⟨i, row, _⟩ rec ⟨c, h1, h2, h3, h4, h5⟩ hrec
    simp only at h1 h4 h5 hrec ⊢
    subst h1
    simp only [Int.toNat_natCast, h4]
    by_cases hc : c < n
    · have hl : (List.take (n - c) (List.take c row)).length = min (n - c) c := by rw [List.length_take, List.length_take, h4]; omega
      rw [decide_eq_true (show (c : Int) < n by omega), cT, slB_of (by omega) (by omega) (by omega), slB_of (by omega) (by omega) (by omega), decide_eq_true (show (0 : Int) < n by omega), ble_of (by omega), ble_of (Nat.le_refl n)]
      simp only [Bool.and_self, cT]
      rw [wrap_id (by omega) (by omega)]
      refine hrec _ ⟨c + min (n - c) c, ?_, by omega, by omega, ?_, ?_⟩ ?_
      · simp only; rw [hl]; omega
      · simp only [List.length_append, List.length_drop, hl, h4, List.length_take]; omega
      · simp only
        rw [List.take_append_of_le_length (by rw [List.length_append, hl, List.length_take, h4]; omega), h5, List.take_replicate, List.replicate_append_replicate, List.take_replicate]
        congr 1
        omega
      · simp only; rw [hl]; omega
    · have : c = n := by omega
      subst this
      rw [decide_eq_false (show ¬ (c : Int) < c by omega), cF]
      rw [← h5, List.take_of_length_le (by omega)]
  · refine ⟨(List.take n [z]).length, rfl, by rw [List.length_take]; omega, fun h => by rw [List.length_take]; simp; omega, ?_, ?_⟩
    · simp only [List.length_append, List.length_drop, List.length_replicate, List.length_take, List.length_singleton]; omega
    · simp only
      rcases Nat.eq_zero_or_pos n with h | h
      · subst h; rfl
      · obtain ⟨m, rfl⟩ : ∃ m, n = m + 1 := ⟨n - 1, by omega⟩
        simp

/-! ### The shares -/

/-- What each beam over the load bears of it. -/
def shareQ (l : List Bm) (x : Ld) : Rat := mkRat x.2 (cntB l x.1)
/-- The beams' loads with one more. -/
def stepQ (l : List Bm) (x : Ld) (S : Nat → Rat) : Nat → Rat := fun i => if isB x.1 (bmAt l i) then S i + shareQ l x else S i
/-- Whether what the beams before n bear fits. -/
def allFit (n : Nat) (S : Nat → Rat) : Bool := (List.range' 0 n).all fun i => decide (fitsQ (S i))
/-- What the beams bear at the end; none if something did not fit on the way. -/
def runQ (l : List Bm) : List Ld → (Nat → Rat) → Option (Nat → Rat)
  | [], S => some S
  | x :: r, S => if allFit l.length (stepQ l x S) then runQ l r (stepQ l x S) else none
/-- The fractions that the beams bear. -/
def outQ (n : Nat) (S : Nat → Rat) : List Fq := (List.range' 0 n).map fun i => prQ (S i)

theorem outQ_len (n : Nat) (S : Nat → Rat) : (outQ n S).length = n := by simp [outQ]
theorem outQ_get {n i : Nat} (h : i < n) (S : Nat → Rat) {d : Fq} : (outQ n S).getD i d = prQ (S i) := by
  rw [getD_nat (by rw [outQ_len]; exact h)]
  simp [outQ]
theorem allFit_iff {n : Nat} {S : Nat → Rat} : allFit n S = true ↔ ∀ i, i < n → fitsQ (S i) := by
  unfold allFit
  rw [List.all_eq_true]
  constructor
  · intro h i hi
    exact of_decide_eq_true (h i (List.mem_range'.2 ⟨i, hi, by omega⟩))
  · intro h i hi
    obtain ⟨k, hk, rfl⟩ := List.mem_range'.1 hi
    exact decide_eq_true (h _ (by omega))

end Go.Proofs.Ytpkphcnebkfjdaa

namespace Go.Proofs.Ytpkphcnebkfjdaa
open Try Dn Dn.Sh

abbrev Sg := List Fq × Int × Int × List Fq × PUnit
abbrev Rg := List Fq × Int × PUnit
noncomputable def addB (share : Fq) (a : Int × Unit) (s : Sg) (k : Sg → Option Rg) : Option Rg :=
  bif inB a.1 (List.length s.2.2.2.1) then bif Nat.ble (Nat.succ (Int.toNat a.1)) (List.length s.2.2.2.1) then obind (ratio_Add (List.getD s.2.2.2.1 (Int.toNat a.1) ((0 : Int), (0 : Int))) share) fun (t : (Int × Int) × Int × PUnit) =>
    bif inB a.1 (List.length s.2.2.2.1) then bif Nat.ble (Nat.succ (Int.toNat a.1)) (List.length s.2.2.2.1) then bif !decide (t.2.1 = (0 : Int)) then some ([], t.2.1, PUnit.unit) else
      k (s.1, s.2.1, t.2.1, List.set s.2.2.2.1 (Int.toNat a.1) t.1, PUnit.unit) else none else none else none else none

def updQ (S : Nat → Rat) (i : Nat) (v : Rat) : Nat → Rat := fun j => if j = i then v else S j
theorem outQ_set {n i : Nat} (S : Nat → Rat) (v : Rat) : (outQ n S).set i (prQ v) = outQ n (updQ S i v) := by
  apply List.ext_getElem
  · rw [List.length_set, outQ_len, outQ_len]
  · intro j h1 h2
    rw [List.getElem_set]
    simp only [outQ, List.getElem_map, List.getElem_range', updQ]
    by_cases e : i = j
    · subst e; simp
    · rw [if_neg e, if_neg (by omega)]

theorem add_step {n i : Nat} {S : Nat → Rat} {q : Rat} (hi : i < n) (hS : ∀ j, j < n → fitsQ (S j)) (hq : fitsQ q) {d1 : List Fq} {d2 e : Int} {k : Sg → Option Rg} :
    addB (prQ q) ((i : Int), ()) (d1, d2, e, outQ n S, ()) k = if fitsQ (S i + q) then k (d1, d2, 0, outQ n (updQ S i (S i + q)), ()) else some ([], 5, ()) := by
  unfold addB
  simp only [outQ_len, Int.toNat_natCast]
  rw [inB_of (by omega) (by omega), ble_of (by omega)]
  simp only [cT, outQ_get hi]
  rw [Add_ok (okF_prQ (hS i hi)) (okF_prQ hq), obind_some', qv_prQ, qv_prQ]
  rcases fitQ_cases (S i + q) with ⟨h1, h2⟩ | ⟨h1, h2⟩
  · rw [h2, if_pos h1, outQ_set]
    rfl
  · rw [h2, if_neg h1]
    rfl

/-- The places before k have had their share. -/
def mixQ (l : List Bm) (x : Ld) (S : Nat → Rat) (k : Nat) : Nat → Rat := fun j => if j < k then stepQ l x S j else S j

theorem inner_ok {l : List Bm} {x : Ld} {S : Nat → Rat} (hS : ∀ j, j < l.length → fitsQ (S j)) (hq : fitsQ (shareQ l x)) {d1 : List Fq} {d2 : Int} {f : Sg → Option Rg} :
    ∀ (m k : Nat), k + m = l.length → (∀ j, j < k → fitsQ (stepQ l x S j)) → upF (fun i s kk => bif isB x.1 (bmAt l i) then addB (prQ (shareQ l x)) ((i : Int), ()) s kk else kk s) f m k (d1, d2, 0, outQ l.length (mixQ l x S k), ()) =
      if allFit l.length (stepQ l x S) then f (d1, d2, 0, outQ l.length (stepQ l x S), ()) else some ([], 5, ())
  | 0, k, hk, hf => by
    have hk : k = l.length := by omega
    subst hk
    rw [if_pos (allFit_iff.2 hf)]
    simp only [upF]
    congr 3
    show (0, outQ _ _, ()) = (0, outQ _ _, ())
    congr 2
    unfold outQ
    apply List.map_congr_left
    intro i hi
    obtain ⟨j, hj, rfl⟩ := List.mem_range'.1 hi
    unfold mixQ
    rw [if_pos (by omega)]
  | m + 1, k, hk, hf => by
    have hk' : k < l.length := by omega
    simp only [upF]
    have hmix : ∀ j, j < l.length → fitsQ (mixQ l x S k j) := fun j hj => by
      unfold mixQ
      split
      · exact hf j (by assumption)
      · exact hS j hj
    have hmk : mixQ l x S k k = S k := by unfold mixQ; rw [if_neg (by omega)]
    cases hb : isB x.1 (bmAt l k) with
    | false =>
      rw [cond_false]
      have hst : stepQ l x S k = S k := by unfold stepQ; rw [hb]; rfl
      have e : mixQ l x S k = mixQ l x S (k + 1) := by
        funext j
        unfold mixQ
        by_cases h1 : j < k
        · rw [if_pos h1, if_pos (by omega)]
        · by_cases h2 : j = k
          · subst h2; rw [if_neg (by omega), if_pos (by omega), hst]
          · rw [if_neg h1, if_neg (by omega)]
      rw [e]
      exact inner_ok hS hq m (k + 1) (by omega) fun j hj => by
        by_cases h2 : j = k
        · subst h2; rw [hst]; exact hS j hk'
        · exact hf j (by omega)
    | true =>
      rw [cond_true, add_step hk' hmix hq, hmk]
      have hst : stepQ l x S k = S k + shareQ l x := by unfold stepQ; rw [hb]; rfl
      by_cases h1 : fitsQ (S k + shareQ l x)
      · rw [if_pos h1]
        have e : updQ (mixQ l x S k) k (S k + shareQ l x) = mixQ l x S (k + 1) := by
          funext j
          unfold mixQ updQ
          by_cases h2 : j = k
          · subst h2; rw [if_pos rfl, if_pos (by omega), hst]
          · rw [if_neg h2]
            dsimp only
            by_cases h3 : j < k
            · rw [if_pos h3, if_pos (by omega)]
            · rw [if_neg h3, if_neg (by omega)]
        rw [e]
        exact inner_ok hS hq m (k + 1) (by omega) fun j hj => by
          by_cases h2 : j = k
          · subst h2; rw [hst]; exact h1
          · exact hf j (by omega)
      · rw [if_neg h1, if_neg]
        intro h2
        exact h1 (hst ▸ allFit_iff.1 h2 k hk')

theorem share_fits {l : List Bm} {x : Ld} (hl : l.length ≤ 1000000) (hx : inW x.2 = true) (hc : cntB l x.1 ≠ 0) : fitsQ (shareQ l x) := by
  have := cntB_le l x.1
  simp only [inW, decide_eq_true_eq] at hx
  unfold shareQ fitsQ
  rw [Rat.num_mkRat, Rat.den_mkRat]
  rw [if_neg hc, if_neg hc]
  constructor
  · rw [Int.natAbs_ediv_of_dvd]
    · exact Nat.le_trans (Nat.div_le_self _ _) (by omega)
    · exact Int.ofNat_dvd_left.2 (Nat.gcd_dvd_right _ _)
  · exact Nat.le_trans (Nat.div_le_self _ _) (by omega)

end Go.Proofs.Ytpkphcnebkfjdaa

namespace Go.Proofs.Ytpkphcnebkfjdaa
open Try Dn Dn.Sh

theorem listF_all {α σ R : Type} {b : α → σ → (σ → Option R) → Option R} {f : σ → Option R} {p : α → Bool} {r : Option R} : ∀ {L : List α} {s : σ}, (∀ a ∈ L, ∀ s k, b a s k = bif p a then k s else r) → listF b f L s = bif L.all p then f s else r
  | [], _, _ => rfl
  | a :: L, s, h => by
    simp only [listF, List.all_cons]
    rw [h a (by simp)]
    cases p a with
    | true => exact listF_all fun a' ha => h a' (by simp [ha])
    | false => rfl

def noneB (l : List Bm) (at_ : List Ld) : Bool := at_.any fun x => decide (cntB l x.1 = 0)
def borneQ (l : List Bm) (at_ : List Ld) : Rg := if noneB l at_ then ([], 12, ()) else match runQ l at_ (fun _ => 0) with
  | some S => (outQ l.length S, 0, ())
  | none => ([], 5, ())

theorem outQ_zero (n : Nat) : outQ n (fun _ => 0) = List.replicate n ((0 : Int), (1 : Int)) := by
  apply List.ext_getElem
  · rw [outQ_len, List.length_replicate]
  · intro i h1 h2
    simp only [outQ, List.getElem_map, List.getElem_replicate]
    rfl

theorem make_share {l : List Bm} {x : Ld} (hl : l.length ≤ 1000000) (hx : inW x.2 = true) (hc : cntB l x.1 ≠ 0) : (if ((cntB l x.1 : Nat) : Int) = 0 then (((0 : Int), (0 : Int)), (16 : Int), ()) else fitQ (divQ x.2 (cntB l x.1 : Nat))) = (prQ (shareQ l x), 0, ()) := by
  have hle := cntB_le l x.1
  rw [if_neg (by omega)]
  have e : divQ x.2 (cntB l x.1 : Nat) = shareQ l x := by
    unfold divQ shareQ sgn
    simp only [inW, decide_eq_true_eq] at hx
    rw [show (decide (x.2 < 0) != decide (((cntB l x.1 : Nat) : Int) < 0)) = false by rw [decide_eq_false (by omega), decide_eq_false (by omega)]; rfl]
    simp only [Bool.false_eq_true, if_false, Int.natAbs_natCast]
    congr 1
    omega
  rw [e, ← fitQ_qv (okF_prQ (share_fits hl hx hc)), qv_prQ]

theorem borne_ok {l : List Bm} {at_ : List Ld} (hl : l.length ≤ 1000000) (ha : at_.length ≤ 1000000) (hw : ∀ x ∈ at_, inW x.2 = true) : grid_borne l at_ = some (borneQ l at_) := by
  simp only [grid_borne, grid_borne_b, grid_of, grid_of_b, obind_some']
  rw [repeat_one _ hl, obind_some', ← outQ_zero]
  refine' (lpK_int at_ ((0 : Int), (0 : Int)) (by omega) (fun i (s : List Fq × Int) => (((i : Nat) : Int), s.1, s.2, PUnit.unit)) (fun x s k => bif decide (((cntB l x.1 : Nat) : Int) = 0) then some ([], 12, ()) else k s) _ ?_ ?_ (([] : List Fq), (0 : Int))).trans ?_
  rotate_left
  · intro again i s hi
    have hwr : IntKind.wrap .i64 ((i : Int) + 1) = ((i + 1 : Nat) : Int) := by rw [wrap_id (by omega) (by omega)]; rfl
    simp only [inB_nat, decide_eq_true hi, decide_eq_true (show (i : Int) < at_.length by omega), cT, Int.toNat_natCast, hwr, count_ok hl, obind_some']
  · intro again s
    simp only [decide_eq_false (show ¬ (at_.length : Int) < at_.length by omega), cF]
    rfl
  · rw [listF_all (p := fun x => !decide (((cntB l x.1 : Nat) : Int) = 0)) (r := some ([], 12, ())) (fun x _ s k => by cases decide (((cntB l x.1 : Nat) : Int) = 0) <;> rfl)]
    unfold borneQ
    have hall : (at_.all fun x => !decide (((cntB l x.1 : Nat) : Int) = 0)) = !noneB l at_ := by
      unfold noneB
      rw [List.not_any_eq_all_not]
      congr 1
      funext x
      congr 1
      rw [Bool.eq_iff_iff, decide_eq_true_iff, decide_eq_true_iff]
      omega
    rw [hall]
    cases hn : noneB l at_ with
    | true => rfl
    | false =>
      simp only [Bool.not_false, cT, Bool.false_eq_true, if_false]
      have hc : ∀ x ∈ at_, cntB l x.1 ≠ 0 := fun x hx e => by
        unfold noneB at hn
        have := List.any_eq_false.1 hn x hx
        simp [e] at this
      refine (lpK_int at_ ((0 : Int), (0 : Int)) (by omega) (fun i (s : List Fq × Int × List Fq) => (((i : Nat) : Int), s.1, s.2.1, s.2.2, PUnit.unit))
        (fun x s k => bif decide (cntB l x.1 = 0) then none else upF (fun i s kk => bif isB x.1 (bmAt l i) then addB (prQ (shareQ l x)) ((i : Int), ()) s kk else kk s) (fun s => k (s.1, s.2.1, s.2.2.2.1)) l.length 0 (s.1, s.2.1, 0, s.2.2, ()))
        (fun s => some (s.2.2, 0, ())) ?_ (fun again s => ?_) (([] : List Fq), (0 : Int), outQ l.length (fun _ => 0))).trans ?_
      · intro again i s hi
        have hwr : IntKind.wrap .i64 ((i : Int) + 1) = ((i + 1 : Nat) : Int) := by rw [wrap_id (by omega) (by omega)]; rfl
        have hmem : at_.getD i ((0 : Int), (0 : Int)) ∈ at_ := by rw [getD_nat hi]; exact List.getElem_mem hi
        have hc' := hc _ hmem
        have hw' := hw _ hmem
        simp only [inB_nat, decide_eq_true hi, decide_eq_true (show (i : Int) < at_.length by omega), cT, Int.toNat_natCast, hwr, count_ok hl, obind_some']
        generalize at_.getD i ((0 : Int), (0 : Int)) = x at *
        have hle := cntB_le l x.1
        have hx := hw'
        simp only [inW, decide_eq_true_eq] at hx
        rw [decide_eq_false hc', cF, Make_ok (by omega) (by omega) (by omega) (by omega), obind_some', make_share hl hw' hc']
        simp only [decide_true, Bool.not_true, cF, overP_of hl, cT]
        refine (lpK_nat (overL l x.1) ((0 : Int), ()) (by rw [overL_len]; omega) (addB (prQ (shareQ l x))) (fun (s : Sg) => again (((i + 1 : Nat) : Int), s.1, s.2.1, s.2.2.2.1, PUnit.unit)) ?_ (fun again' s' => ?_) (s.1, s.2.1, (0 : Int), s.2.2, PUnit.unit)).trans ?_
        · intro again' j s' hj
          rw [show Nat.ble (Nat.succ j) (overL l x.1).length = true from ble_of (by omega), cT]
          rfl
        · rw [show Nat.ble (Nat.succ (overL l x.1).length) (overL l x.1).length = false by rw [Bool.eq_false_iff]; intro e; have := Nat.le_of_ble_eq_true e; omega, cF]
        · exact overG_walk (l := l) (c := fun i _ s k => addB (prQ (shareQ l x)) ((i : Int), ()) s k) (fun _ _ _ _ => rfl) l.length 0 _ (by omega)
      · simp only [decide_eq_false (show ¬ (at_.length : Int) < at_.length by omega), cF]
      · have key : ∀ (L : List Ld) (S : Nat → Rat), (∀ x ∈ L, inW x.2 = true) → (∀ x ∈ L, cntB l x.1 ≠ 0) → (∀ j, j < l.length → fitsQ (S j)) →
            listF (fun x (s : List Fq × Int × List Fq) (k : List Fq × Int × List Fq → Option Rg) => bif decide (cntB l x.1 = 0) then none else upF (fun i s kk => bif isB x.1 (bmAt l i) then addB (prQ (shareQ l x)) ((i : Int), ()) s kk else kk s) (fun s => k (s.1, s.2.1, s.2.2.2.1)) l.length 0 (s.1, s.2.1, 0, s.2.2, ()))
              (fun s => some (s.2.2, 0, ())) L (([] : List Fq), (0 : Int), outQ l.length S) = some (match runQ l L S with | some S => (outQ l.length S, 0, ()) | none => ([], 5, ())) := by
          intro L
          induction L with
          | nil => intro S _ _ _; rfl
          | cons x L ih =>
            intro S h1 h2 h3
            simp only [listF]
            have hx := h1 x (by simp)
            have hcx := h2 x (by simp)
            have := inner_ok (f := fun s => listF (fun x (s : List Fq × Int × List Fq) (k : List Fq × Int × List Fq → Option Rg) => bif decide (cntB l x.1 = 0) then none else upF (fun i s kk => bif isB x.1 (bmAt l i) then addB (prQ (shareQ l x)) ((i : Int), ()) s kk else kk s) (fun s => k (s.1, s.2.1, s.2.2.2.1)) l.length 0 (s.1, s.2.1, 0, s.2.2, ()))
              (fun s => some (s.2.2, 0, ())) L (s.1, s.2.1, s.2.2.2.1)) (d1 := ([] : List Fq)) (d2 := (0 : Int)) h3 (share_fits hl hx hcx) l.length 0 (by omega) (fun j hj => by omega)
            rw [decide_eq_false hcx, cF]
            have e0 : mixQ l x S 0 = S := by funext j; unfold mixQ; rw [if_neg (by omega)]
            rw [e0] at this
            rw [this]
            unfold runQ
            cases hf : allFit l.length (stepQ l x S) with
            | false => rfl
            | true =>
              simp only [if_true]
              exact ih (stepQ l x S) (fun y hy => h1 y (by simp [hy])) (fun y hy => h2 y (by simp [hy])) (allFit_iff.1 hf)
        exact key at_ (fun _ => 0) hw hc (fun j _ => by show fitsQ 0; decide)

end Go.Proofs.Ytpkphcnebkfjdaa

namespace Go.Proofs.Ytpkphcnebkfjdaa
open Try Dn Dn.Sh

/-- What the beam at i bears at the end; none if something did not fit on the way. -/
def beamQ (l : List Bm) (i : Nat) : List Ld → Rat → Option Rat
  | [], q => some q
  | x :: r, q => if isB x.1 (bmAt l i) then (if fitsQ (q + shareQ l x) then beamQ l i r (q + shareQ l x) else none) else beamQ l i r q

theorem run_beam {l : List Bm} : ∀ {L : List Ld} {S : Nat → Rat}, (∀ i, i < l.length → fitsQ (S i)) →
    match runQ l L S with | some S' => ∀ i, i < l.length → beamQ l i L (S i) = some (S' i) | none => ∃ i, i < l.length ∧ beamQ l i L (S i) = none
  | [], S, _ => fun i _ => rfl
  | x :: r, S, hS => by
    unfold runQ
    cases hf : allFit l.length (stepQ l x S) with
    | true =>
      simp only [if_true]
      have hf' := allFit_iff.1 hf
      have ih := run_beam (L := r) hf'
      have e : ∀ i, i < l.length → beamQ l i (x :: r) (S i) = beamQ l i r (stepQ l x S i) := fun i hi => by
        have := hf' i hi
        unfold stepQ at this ⊢
        simp only [beamQ]
        cases hb : isB x.1 (bmAt l i) with
        | true => rw [hb] at this; simp only [if_true] at this ⊢; rw [if_pos this]
        | false => simp
      split at ih
      · rename_i S' hS'
        intro i hi
        rw [e i hi]
        exact ih i hi
      · obtain ⟨i, hi, h⟩ := ih
        exact ⟨i, hi, by rw [e i hi]; exact h⟩
    | false =>
      simp only [Bool.false_eq_true, if_false]
      have : ∃ i, i < l.length ∧ ¬ fitsQ (stepQ l x S i) := by
        by_cases h : ∃ i, i < l.length ∧ ¬ fitsQ (stepQ l x S i)
        · exact h
        · rw [allFit_iff.2 fun i hi => by
            by_cases h2 : fitsQ (stepQ l x S i)
            · exact h2
            · exact (h ⟨i, hi, h2⟩).elim] at hf
          cases hf
      obtain ⟨i, hi, h⟩ := this
      refine ⟨i, hi, ?_⟩
      unfold stepQ at h
      simp only [beamQ]
      cases hb : isB x.1 (bmAt l i) with
      | true => rw [hb] at h; simp only [if_true] at h ⊢; rw [if_neg h]
      | false => rw [hb] at h; simp only [Bool.false_eq_true, if_false] at h; exact (h (hS i hi)).elim

/-- The walk over the loads of one beam. -/
theorem beam_walk {l : List Bm} {i : Nat} {f : Fq → Option Rg} : ∀ {L : List Ld} {q : Rat}, fitsQ q → (∀ x ∈ L, fitsQ (shareQ l x)) →
    listF (fun (x : Ld) (s : Fq) (k : Fq → Option Rg) => bif isB x.1 (bmAt l i) then obind (ref02_Add s (prQ (shareQ l x))) fun (t : (Int × Int) × Int × PUnit) => bif !decide (t.2.1 = (0 : Int)) then some ([], t.2.1, PUnit.unit) else k t.1 else k s) f L (prQ q) =
      match beamQ l i L q with | some q' => f (prQ q') | none => some ([], 5, ())
  | [], q, _, _ => rfl
  | x :: r, q, hq, hx => by
    simp only [listF, beamQ]
    cases hb : isB x.1 (bmAt l i) with
    | false => simp only [cF, Bool.false_eq_true, if_false]; exact beam_walk hq fun y hy => hx y (by simp [hy])
    | true =>
      simp only [cT, if_true]
      rw [RAdd_ok (okF_prQ hq) (okF_prQ (hx x (by simp))), obind_some', qv_prQ, qv_prQ]
      rcases fitQ_cases (q + shareQ l x) with ⟨h1, h2⟩ | ⟨h1, h2⟩
      · rw [h2, if_pos h1]
        exact beam_walk h1 fun y hy => hx y (by simp [hy])
      · rw [h2, if_neg h1]
        rfl

/-- A round of the walk over the beams. -/
def beamsB (l : List Bm) (L : List Ld) (i : Nat) (out : List Fq) (kk : List Fq → Option Rg) : Option Rg := match beamQ l i L 0 with
  | some q => bif fitB (out.length + 1) 16 then kk (out ++ [prQ q]) else none
  | none => some ([], 5, ())

theorem beams_all {l : List Bm} {L : List Ld} {S : Nat → Rat} {f : List Fq → Option Rg} (hl : l.length ≤ 1000000) (hS : ∀ i, i < l.length → beamQ l i L 0 = some (S i)) : ∀ (m k : Nat) (out : List Fq), k + m = l.length → out.length = k →
    upF (beamsB l L) f m k out = f (out ++ (List.range' k m).map fun i => prQ (S i))
  | 0, k, out, _, _ => by simp [upF]
  | m + 1, k, out, hk, ho => by
    simp only [upF, beamsB]
    rw [hS k (by omega)]
    simp only
    rw [fitB_of (by omega), cT, beams_all hl hS m (k + 1) _ (by omega) (by simp [ho]), List.range'_succ, List.map_cons, List.append_assoc]
    rfl
theorem beams_none {l : List Bm} {L : List Ld} {f : List Fq → Option Rg} (hl : l.length ≤ 1000000) : ∀ (m k : Nat) (out : List Fq), k + m = l.length → out.length = k → (∃ i, k ≤ i ∧ i < l.length ∧ beamQ l i L 0 = none) →
    upF (beamsB l L) f m k out = some ([], 5, ())
  | 0, k, out, hk, _, ⟨i, h1, h2, _⟩ => by omega
  | m + 1, k, out, hk, ho, ⟨i, h1, h2, h3⟩ => by
    simp only [upF, beamsB]
    cases hb : beamQ l k L 0 with
    | none => rfl
    | some q =>
      simp only
      rw [fitB_of (by omega), cT]
      refine beams_none hl m (k + 1) _ (by omega) (by simp [ho]) ⟨i, ?_, h2, h3⟩
      rcases Nat.lt_or_ge k i with h | h
      · omega
      · have : i = k := by omega
        subst this
        rw [hb] at h3; cases h3

theorem refLoads_ok {l : List Bm} {at_ : List Ld} (hl : l.length ≤ 1000000) (ha : at_.length ≤ 1000000) (hw : ∀ x ∈ at_, inW x.2 = true) : ref19_Loads l at_ = some (borneQ l at_) := by
  simp only [ref19_Loads, ref19_Loads_b]
  refine' (lpK_int at_ ((0 : Int), (0 : Int)) (by omega) (fun i (_ : Unit) => (((i : Nat) : Int), PUnit.unit)) (fun x s k => bif decide (((cntB l x.1 : Nat) : Int) = 0) then some ([], 12, ()) else k s) _ ?_ ?_ ()).trans ?_
  rotate_left
  · intro again i s hi
    have hwr : IntKind.wrap .i64 ((i : Int) + 1) = ((i + 1 : Nat) : Int) := by rw [wrap_id (by omega) (by omega)]; rfl
    simp only [inB_nat, decide_eq_true hi, decide_eq_true (show (i : Int) < at_.length by omega), cT, Int.toNat_natCast, hwr, refCount_ok hl, obind_some']
  · intro again s
    simp only [decide_eq_false (show ¬ (at_.length : Int) < at_.length by omega), cF]
    rfl
  · rw [listF_all (p := fun x => !decide (((cntB l x.1 : Nat) : Int) = 0)) (r := some ([], 12, ())) (fun x _ s k => by cases decide (((cntB l x.1 : Nat) : Int) = 0) <;> rfl)]
    unfold borneQ
    have hall : (at_.all fun x => !decide (((cntB l x.1 : Nat) : Int) = 0)) = !noneB l at_ := by
      unfold noneB
      rw [List.not_any_eq_all_not]
      congr 1
      funext x
      congr 1
      rw [Bool.eq_iff_iff, decide_eq_true_iff, decide_eq_true_iff]
      omega
    rw [hall]
    cases hn : noneB l at_ with
    | true => rfl
    | false =>
      simp only [Bool.not_false, cT, Bool.false_eq_true, if_false]
      have hc : ∀ x ∈ at_, cntB l x.1 ≠ 0 := fun x hx e => by
        unfold noneB at hn
        have := List.any_eq_false.1 hn x hx
        simp [e] at this
      have hsh : ∀ x ∈ at_, fitsQ (shareQ l x) := fun x hx => share_fits hl (hw x hx) (hc x hx)
      refine (lpK_up l.length (by omega) (fun i (s : List Fq) => (s, ((i : Nat) : Int), PUnit.unit))
        (beamsB l at_) (fun s => some (s, 0, ())) ?_ (fun again s => ?_) ([] : List Fq)).trans ?_
      · intro again i out hi
        have hwr : IntKind.wrap .i64 ((i : Int) + 1) = ((i + 1 : Nat) : Int) := by rw [wrap_id (by omega) (by omega)]; rfl
        simp only [decide_eq_true (show (i : Int) < l.length by omega), cT, ref02_Of, ref02_Of_b, obind_some', hwr]
        refine (lpK_int at_ ((0 : Int), (0 : Int)) (by omega) (fun j (s : Fq) => (((j : Nat) : Int), s, PUnit.unit))
          (fun (x : Ld) (s : Fq) (k : Fq → Option Rg) => bif decide (cntB l x.1 = 0) then none else bif isB x.1 (bmAt l i) then obind (ref02_Add s (prQ (shareQ l x))) fun (t : (Int × Int) × Int × PUnit) => bif !decide (t.2.1 = (0 : Int)) then some ([], t.2.1, PUnit.unit) else k t.1 else k s)
          (fun s => bif fitB (out.length + 1) 16 then again (out ++ [s], ((i + 1 : Nat) : Int), PUnit.unit) else none) ?_ (fun again' s => ?_) ((0 : Int), (1 : Int))).trans ?_
        · intro again' j s hj
          have hwr' : IntKind.wrap .i64 ((j : Int) + 1) = ((j + 1 : Nat) : Int) := by rw [wrap_id (by omega) (by omega)]; rfl
          have hmem : at_.getD j ((0 : Int), (0 : Int)) ∈ at_ := by rw [getD_nat hj]; exact List.getElem_mem hj
          have hc' := hc _ hmem
          have hw' := hw _ hmem
          simp only [inB_nat, decide_eq_true hj, decide_eq_true hi, decide_eq_true (show (j : Int) < at_.length by omega), cT, Int.toNat_natCast, hwr', is_ok, obind_some', refCount_ok hl, show List.getD l i bm0 = bmAt l i from rfl]
          generalize at_.getD j ((0 : Int), (0 : Int)) = x at *
          have hle := cntB_le l x.1
          have hx := hw'
          simp only [inW, decide_eq_true_eq] at hx
          rw [decide_eq_false hc', cF]
          cases isB x.1 (bmAt l i) with
          | false => rfl
          | true =>
            rw [RMake_ok (by omega) (by omega) (by omega) (by omega), obind_some', make_share hl hw' hc']
            rfl
        · simp only [decide_eq_false (show ¬ (at_.length : Int) < at_.length by omega), cF]
        · have hcg : ∀ {f : Fq → Option Rg} {s : Fq}, listF (fun (x : Ld) (s : Fq) (k : Fq → Option Rg) => bif decide (cntB l x.1 = 0) then none else bif isB x.1 (bmAt l i) then obind (ref02_Add s (prQ (shareQ l x))) fun (t : (Int × Int) × Int × PUnit) => bif !decide (t.2.1 = (0 : Int)) then some ([], t.2.1, PUnit.unit) else k t.1 else k s) f at_ s =
              listF (fun (x : Ld) (s : Fq) (k : Fq → Option Rg) => bif isB x.1 (bmAt l i) then obind (ref02_Add s (prQ (shareQ l x))) fun (t : (Int × Int) × Int × PUnit) => bif !decide (t.2.1 = (0 : Int)) then some ([], t.2.1, PUnit.unit) else k t.1 else k s) f at_ s := listF_congr fun x hx s k => by rw [decide_eq_false (hc x hx), cF]
          rw [hcg]
          exact beam_walk (i := i) (q := 0) (by decide) hsh
      · simp only [decide_eq_false (show ¬ (l.length : Int) < l.length by omega), cF]
      · have hrb := run_beam (l := l) (L := at_) (S := fun _ => 0) (fun _ _ => by show fitsQ 0; decide)
        cases hr : runQ l at_ (fun _ => 0) with
        | some S =>
          rw [hr] at hrb
          rw [beams_all hl hrb l.length 0 [] (by omega) rfl]
          rfl
        | none =>
          rw [hr] at hrb
          obtain ⟨i, h1, h2⟩ := hrb
          exact beams_none hl l.length 0 [] (by omega) rfl ⟨i, by omega, h1, h2⟩

end Go.Proofs.Ytpkphcnebkfjdaa

namespace Go.Proofs.Ytpkphcnebkfjdaa
open Try Dn Dn.Sh

theorem contains_of_idx {α : Type} {p : α → Bool} {l : List α} : decide (idxI p l 0 ≥ 0) = l.any p := by
  have := idxI_neg (p := p) (l := l) (i := 0) (by omega)
  rw [Bool.eq_iff_iff, decide_eq_true_iff, List.any_eq_true]
  constructor
  · intro h1
    by_cases h2 : ∃ a ∈ l, p a = true
    · exact h2
    · have : idxI p l 0 < 0 := this.2 fun a ha => by
        cases e : p a with
        | false => rfl
        | true => exact (h2 ⟨a, ha, e⟩).elim
      omega
  · rintro ⟨a, ha, h3⟩
    by_cases h2 : idxI p l 0 < 0
    · rw [this.1 h2 a ha] at h3; cases h3
    · omega
theorem contains31 {f : (Ld × Unit) → Option Bool} {p : Ld → Bool} {l : List Ld} (hl : l.length ≤ 1000000) (h : ∀ a, a ∈ l → f (a, ()) = some (p a)) : slices_ContainsFunc_31 l f = some (l.any p) := by
  simp only [slices_ContainsFunc_31, slices_ContainsFunc_31_b]
  unfold slices_IndexFunc_81 slices_IndexFunc_81_b
  rw [index_loop (f := f) (d := ((0 : Int), (0 : Int))) hl h, obind_some', contains_of_idx]
theorem contains43 {f : (List Ld × Unit) → Option Bool} {p : List Ld → Bool} {l : List (List Ld)} (hl : l.length ≤ 1000000) (h : ∀ a, a ∈ l → f (a, ()) = some (p a)) : slices_ContainsFunc_43 l f = some (l.any p) := by
  simp only [slices_ContainsFunc_43, slices_ContainsFunc_43_b]
  unfold slices_IndexFunc_86 slices_IndexFunc_86_b
  rw [index_loop (f := f) (d := ([] : List Ld)) hl h, obind_some', contains_of_idx]

theorem given1_ok (x : Ld) : grid_given_1 x = some (!loadB x) := by
  obtain ⟨a, w⟩ := x
  simp only [grid_given_1, grid_given_1_b, within_ok, obind_some', loadB]
  cases inL a with
  | false => rfl
  | true =>
    unfold inW
    by_cases h1 : w < 0
    · rw [decide_eq_true h1, decide_eq_false (show ¬ (0 ≤ w ∧ w ≤ 67108864) by omega)]; rfl
    · by_cases h2 : w > 67108864
      · rw [decide_eq_false h1, decide_eq_true h2, decide_eq_false (show ¬ (0 ≤ w ∧ w ≤ 67108864) by omega)]; rfl
      · rw [decide_eq_false h1, decide_eq_false h2, decide_eq_true (show (0 ≤ w ∧ w ≤ 67108864) by omega)]; rfl

theorem given_ok (l : List Bm) (at_ : List Ld) : grid_given l at_ = some (bif validG l && rightG at_ then 0 else 1) := by
  simp only [grid_given, grid_given_b, gValid_ok, obind_some']
  cases validG l with
  | false => cases decide (((at_.length : Nat) : Int) > 1000) <;> rfl
  | true =>
    by_cases h0 : at_.length ≤ 1000
    · have hr : rightG at_ = at_.all loadB := by unfold rightG; rw [decide_eq_true h0, Bool.true_and]
      rw [decide_eq_false (show ¬ ((at_.length : Nat) : Int) > 1000 by omega), hr]
      have hc : slices_ContainsFunc_31 at_ (fun x => grid_given_1 x.1) = some (at_.any fun x => !loadB x) := contains31 (p := fun x => !loadB x) (by omega) fun a _ => given1_ok a
      have e : (at_.any fun x => !loadB x) = !at_.all loadB := by rw [List.not_all_eq_any_not]
      simp only [Bool.not_true, Bool.not_false, cT, cF, Bool.or_false, Bool.false_or, Bool.or_true, Bool.true_or, hc, e, obind_some']
      cases at_.all loadB <;> rfl
    · have hr : rightG at_ = false := by unfold rightG; rw [decide_eq_false h0, Bool.false_and]
      rw [decide_eq_true (show ((at_.length : Nat) : Int) > 1000 by omega), hr]
      rfl

theorem refRight_ok (at_ : List Ld) : ref19_Right at_ = some (rightG at_) := by
  simp only [ref19_Right, ref19_Right_b, rightG]
  by_cases h0 : at_.length ≤ 1000
  · rw [decide_eq_false (show ¬ ((at_.length : Nat) : Int) > 1000 by omega), decide_eq_true h0]
    simp only [cF, Bool.true_and]
    refine (lpK_int at_ ((0 : Int), (0 : Int)) (by omega) (fun i (_ : Unit) => (((i : Nat) : Int), PUnit.unit)) (fun x s k => bif loadB x then k s else some false) (fun _ => some true) ?_ ?_ ()).trans ?_
    · intro again i _ hi
      have hw : IntKind.wrap .i64 ((i : Int) + 1) = ((i + 1 : Nat) : Int) := by rw [wrap_id (by omega) (by omega)]; rfl
      simp only [inB_nat, decide_eq_true hi, decide_eq_true (show (i : Int) < at_.length by omega), cT, Int.toNat_natCast, hw, depth_ok, between_ok, obind_some']
      generalize at_.getD i ((0 : Int), (0 : Int)) = x
      unfold loadB inW
      cases inL x.1 <;> cases decide (0 ≤ x.2 ∧ x.2 ≤ 67108864) <;> rfl
    · intro again _
      simp only [decide_eq_false (show ¬ (at_.length : Int) < at_.length by omega), cF]
    · rw [listF_all (p := loadB) (r := some false) (fun _ _ _ _ => rfl)]
      cases at_.all loadB <;> rfl
  · rw [decide_eq_true (show ((at_.length : Nat) : Int) > 1000 by omega), decide_eq_false h0]
    rfl

theorem lgiven_ok (l : List Bm) (at_ : List Ld) (d : Int) : law19_given l at_ d = some (bif validG l && rightG at_ then (bif inL d then 0 else 2) else 1) := by
  simp only [law19_given, law19_given_b, gRefValid_ok, refRight_ok, depth_ok, obind_some']
  cases validG l <;> cases rightG at_ <;> cases inL d <;> rfl

theorem few_some (l : List Bm) {ats : List (List Ld)} (h : ats.length ≤ 1000000) : ∃ b, law19_few l ats = some b := by
  have h2 : ∀ x : List Ld, law19_few_2 x = some (decide (x.length > 30) && (decide (x.length ≤ 1000) || decide (x.length > 1010))) := fun x => by
    simp only [law19_few_2, law19_few_2_b]
    rw [show decide (((x.length : Nat) : Int) > 30) = decide (x.length > 30) by rw [Bool.eq_iff_iff, decide_eq_true_iff, decide_eq_true_iff]; omega, show decide (((x.length : Nat) : Int) ≤ 1000) = decide (x.length ≤ 1000) by rw [Bool.eq_iff_iff, decide_eq_true_iff, decide_eq_true_iff]; omega,
      show decide (((x.length : Nat) : Int) > 1010) = decide (x.length > 1010) by rw [Bool.eq_iff_iff, decide_eq_true_iff, decide_eq_true_iff]; omega]
    cases decide (x.length > 30) <;> cases decide (x.length ≤ 1000) <;> cases decide (x.length > 1010) <;> rfl
  simp only [law19_few, law19_few_b]
  have hc := contains43 (f := fun x => law19_few_2 x.1) (l := ats) h (fun a _ => h2 a)
  by_cases h0 : l.length ≤ 25
  · have h1 := contains41 (f := fun x => law19_few_1 x.1) (p := fun x : Bm => decide (((ByteArray.size x.1 : Nat) : Int) > 60)) (l := l) (by omega) (fun a _ => by simp only [law19_few_1, law19_few_1_b])
    rw [decide_eq_true (show ((l.length : Nat) : Int) ≤ 25 by omega)]
    simp only [Bool.not_true, Bool.false_or, Bool.or_false, cT, h1, hc, obind_some']
    cases (l.any fun x : Bm => decide (((ByteArray.size x.1 : Nat) : Int) > 60)) <;> exact ⟨_, rfl⟩
  · rw [decide_eq_false (show ¬ ((l.length : Nat) : Int) ≤ 25 by omega)]
    exact ⟨_, rfl⟩

/-! ### Loads and Over -/

theorem validG_len {l : List Bm} (h : validG l = true) : l.length ≤ 20 := by
  simp only [validG, Bool.and_eq_true, decide_eq_true_eq] at h
  exact h.1
theorem rightG_len {at_ : List Ld} (h : rightG at_ = true) : at_.length ≤ 1000 ∧ ∀ x ∈ at_, inW x.2 = true := by
  simp only [rightG, Bool.and_eq_true, decide_eq_true_eq, List.all_eq_true] at h
  exact ⟨h.1, fun x hx => by have := h.2 x hx; simp only [loadB, Bool.and_eq_true] at this; exact this.2⟩

noncomputable def loadsQ (l : List Bm) (at_ : List Ld) : Rg := bif validG l && rightG at_ then borneQ l at_ else ([], 1, ())
theorem loads_ok (l : List Bm) (at_ : List Ld) : grid_Loads l at_ = some (loadsQ l at_) := by
  simp only [grid_Loads, grid_Loads_b, given_ok, obind_some', loadsQ]
  cases h : validG l && rightG at_ with
  | false => rfl
  | true =>
    rw [Bool.and_eq_true] at h
    have h1 := validG_len h.1
    have h2 := rightG_len h.2
    simp only [cT, decide_true, Bool.not_true, cF]
    rw [borne_ok (by omega) (by omega) h2.2, obind_some']

/-- A round of the walk over what the beams bear. -/
def overB {α : Type} (l : List Bm) (S : Nat → Rat) (i : Nat) (s : List (Int × ByteArray)) (k : List (Int × ByteArray) → Option α) : Option α :=
  bif decide (cmpQ (S i) ((bmAt l i).2.2.2 : Rat) > 0) then bif fitB (s.length + 1) 24 then k (s ++ [(1, (bmAt l i).1)]) else none else k s
def oversQ (l : List Bm) (S : Nat → Rat) : List (Int × ByteArray) := (List.range' 0 l.length).filterMap fun i => if cmpQ (S i) ((bmAt l i).2.2.2 : Rat) > 0 then some (1, (bmAt l i).1) else none
theorem over_walk {α : Type} {l : List Bm} {S : Nat → Rat} {f : List (Int × ByteArray) → Option α} (hl : l.length ≤ 1000000) : ∀ (m k : Nat) (s : List (Int × ByteArray)), k + m = l.length → s.length ≤ k →
    upF (overB l S) f m k s = f (s ++ (List.range' k m).filterMap fun i => if cmpQ (S i) ((bmAt l i).2.2.2 : Rat) > 0 then some (1, (bmAt l i).1) else none)
  | 0, k, s, _, _ => by simp [upF]
  | m + 1, k, s, hk, hs => by
    simp only [upF, overB]
    rw [List.range'_succ, List.filterMap_cons]
    by_cases h : cmpQ (S k) ((bmAt l k).2.2.2 : Rat) > 0
    · rw [decide_eq_true h, cT, fitB_of (by omega), cT, over_walk hl m (k + 1) _ (by omega) (by simp; omega), if_pos h, List.append_assoc]
      rfl
    · rw [decide_eq_false h, cF, over_walk hl m (k + 1) _ (by omega) (by omega), if_neg h]

theorem valid_beam {l : List Bm} (h : validG l = true) {i : Nat} (hi : i < l.length) : 0 ≤ (bmAt l i).2.1 ∧ (bmAt l i).2.1 ≤ (bmAt l i).2.2.1 ∧ (bmAt l i).2.2.1 ≤ 1048576 ∧ 0 ≤ (bmAt l i).2.2.2 ∧ (bmAt l i).2.2.2 ≤ 67108864 := by
  simp only [validG, Bool.and_eq_true, List.all_eq_true] at h
  have := h.2 i (List.mem_range'.2 ⟨i, hi, by omega⟩)
  simp only [beamB, inW, Bool.and_eq_true, decide_eq_true_eq] at this
  omega

theorem most_ok {l : List Bm} (h : validG l = true) {i : Nat} (hi : i < l.length) : okF ((bmAt l i).2.2.2, 1) := by
  have := valid_beam h hi
  exact okF_int (by omega) (by omega)

theorem run_fits {l : List Bm} : ∀ {L : List Ld} {S S' : Nat → Rat}, (∀ i, i < l.length → fitsQ (S i)) → runQ l L S = some S' → ∀ i, i < l.length → fitsQ (S' i)
  | [], S, S', h, e => by
    simp only [runQ, Option.some.injEq] at e
    subst e
    exact h
  | x :: r, S, S', h, e => by
    simp only [runQ] at e
    split at e
    · rename_i hf
      exact run_fits (allFit_iff.1 hf) e
    · cases e

noncomputable def overQ (l : List Bm) (at_ : List Ld) : List (Int × ByteArray) × Int × Unit := bif validG l && rightG at_ then (if noneB l at_ then ([], 12, ()) else match runQ l at_ (fun _ => 0) with
  | some S => (oversQ l S, 0, ())
  | none => ([], 5, ())) else ([], 1, ())

theorem over_ok' (l : List Bm) (at_ : List Ld) : grid_Over l at_ = some (overQ l at_) := by
  simp only [grid_Over, grid_Over_b, loads_ok, obind_some', loadsQ, overQ, borneQ]
  cases h : validG l && rightG at_ with
  | false => rfl
  | true =>
    simp only [cT]
    rw [Bool.and_eq_true] at h
    have hl := validG_len h.1
    cases noneB l at_ with
    | true => rfl
    | false =>
      simp only [Bool.false_eq_true, if_false]
      cases hr : runQ l at_ (fun _ => 0) with
      | none => rfl
      | some S =>
        have hS := run_fits (fun _ _ => by show fitsQ 0; decide) hr
        simp only [decide_true, Bool.not_true, cF, outQ_len]
        refine (lpK_up l.length (by omega) (fun i (s : List (Int × ByteArray)) => (s, ((i : Nat) : Int), PUnit.unit)) (overB l S) (fun s => some (s, 0, ())) ?_ (fun again s => ?_) ([] : List (Int × ByteArray))).trans ?_
        · intro again i s hi
          have hw : IntKind.wrap .i64 ((i : Int) + 1) = ((i + 1 : Nat) : Int) := by rw [wrap_id (by omega) (by omega)]; rfl
          simp only [inB_nat, decide_eq_true hi, decide_eq_true (show (i : Int) < l.length by omega), cT, Int.toNat_natCast, hw, grid_of, grid_of_b, obind_some', show List.getD l i bm0 = bmAt l i from rfl, outQ_get hi]
          rw [Cmp_ok (okF_prQ (hS i hi)) (most_ok h.1 hi), obind_some', qv_prQ, qv_int]
          rfl
        · simp only [decide_eq_false (show ¬ (l.length : Int) < l.length by omega), cF]
        · rw [over_walk (by omega) l.length 0 [] (by omega) (by simp)]
          rfl

end Go.Proofs.Ytpkphcnebkfjdaa

namespace Go.Proofs.Ytpkphcnebkfjdaa
open Try Dn Dn.Sh

abbrev Rs := Fq × Int × PUnit
def nextB (best : Option Rat) (y : Rat) : Option Rat := some (match best with | none => y | some b => if y < b then y else b)
def bestF : Option Rat → Fq
  | none => (0, 0)
  | some b => prQ b
def spX (l : List Bm) (S : Nat → Rat) (i : Nat) : Rat := ((bmAt l i).2.2.2 : Rat) - S i
/-- A round of the walk over the beams over a depth, of which there are n. -/
def spB (l : List Bm) (S : Nat → Rat) (n : Nat) (i : Nat) (best : Option Rat) (k : Option Rat → Option Rs) : Option Rs :=
  if fitsQ (spX l S i) then (if fitsQ (spX l S i * (n : Int)) then k (nextB best (spX l S i * (n : Int))) else some ((0, 0), 5, ())) else some ((0, 0), 5, ())
def spareW (l : List Bm) (S : Nat → Rat) (d : Int) (m k : Nat) (best : Option Rat) : Option Rs :=
  upF (fun i best kk => bif isB d (bmAt l i) then spB l S (cntB l d) i best kk else kk best) (fun best => some (bestF best, 0, ())) m k best

def fitsO : Option Rat → Prop
  | none => True
  | some b => fitsQ b
theorem next_fits {best : Option Rat} {y : Rat} (hb : fitsO best) (hy : fitsQ y) : fitsO (nextB best y) := by
  cases best with
  | none => exact hy
  | some b =>
    unfold nextB fitsO
    by_cases h : y < b
    · simp only [h, if_true]; exact hy
    · simp only [h, if_false]; exact hb

theorem spare_some (l : List Bm) (S : Nat → Rat) (d : Int) : ∀ (m k : Nat) (best : Option Rat), ∃ r, spareW l S d m k best = some r
  | 0, k, best => ⟨_, rfl⟩
  | m + 1, k, best => by
    show ∃ r, (bif isB d (bmAt l k) then spB l S (cntB l d) k best (spareW l S d m (k + 1)) else spareW l S d m (k + 1) best) = some r
    cases isB d (bmAt l k) with
    | false => exact spare_some l S d m (k + 1) best
    | true =>
      rw [cT]
      unfold spB
      split
      · split
        · exact spare_some l S d m (k + 1) _
        · exact ⟨_, rfl⟩
      · exact ⟨_, rfl⟩

/-- A walk whose rounds are these comes to the same. -/
theorem spare_walk {σ : Type} {l : List Bm} {S : Nat → Rat} {d : Int} {b : Nat → σ → (σ → Option Rs) → Option Rs} {f : σ → Option Rs} (R : Option Rat → σ → Prop)
    (hb : ∀ i best s kk, i < l.length → fitsO best → R best s → ∃ s', R (nextB best (spX l S i * (cntB l d : Int))) s' ∧ ∃ s'', R best s'' ∧ b i s kk = bif isB d (bmAt l i) then (if fitsQ (spX l S i) then (if fitsQ (spX l S i * (cntB l d : Int)) then kk s' else some ((0, 0), 5, ())) else some ((0, 0), 5, ())) else kk s'')
    (hf : ∀ best s, R best s → f s = some (bestF best, 0, ())) : ∀ (m k : Nat) (best : Option Rat) (s : σ), k + m = l.length → fitsO best → R best s → upF b f m k s = spareW l S d m k best
  | 0, k, best, s, _, _, hr => hf best s hr
  | m + 1, k, best, s, hk, hfit, hr => by
    show b k s (upF b f m (k + 1)) = (bif isB d (bmAt l k) then spB l S (cntB l d) k best (spareW l S d m (k + 1)) else spareW l S d m (k + 1) best)
    obtain ⟨s', h1, s'', h2, h3⟩ := hb k best s (upF b f m (k + 1)) (by omega) hfit hr
    rw [h3]
    cases isB d (bmAt l k) with
    | false => rw [cF, cF]; exact spare_walk R hb hf m (k + 1) best s'' (by omega) hfit h2
    | true =>
      rw [cT, cT]
      unfold spB
      by_cases g1 : fitsQ (spX l S k)
      · rw [if_pos g1, if_pos g1]
        by_cases g2 : fitsQ (spX l S k * (cntB l d : Int))
        · rw [if_pos g2, if_pos g2]
          exact spare_walk R hb hf m (k + 1) _ s' (by omega) (next_fits hfit g2) h1
        · rw [if_neg g2, if_neg g2]
      · rw [if_neg g1, if_neg g1]

theorem refSpare_walk {l : List Bm} {S : Nat → Rat} {d : Int} {f0 : Fq} (hv : validG l = true) (hS : ∀ i, i < l.length → fitsQ (S i)) :
    lpK (Bool × Int × Fq × Fq × PUnit) Rs (fun (again : Bool × Int × (Int × Int) × (Int × Int) × PUnit → Option ((Int × Int) × Int × PUnit)) (x : Bool × Int × (Int × Int) × (Int × Int) × PUnit) => bif decide (x.2.1 < ((l.length : Nat) : Int)) then
      bif inB x.2.1 l.length then obind (ref19_Is (l.getD x.2.1.toNat bm0) d) fun (t_2 : Bool) => bif !t_2 then again (x.1, IntKind.wrap .i64 (x.2.1 + 1), x.2.2.1, x.2.2.2.1, PUnit.unit) else bif inB x.2.1 l.length then obind (ref02_Of (l.getD x.2.1.toNat bm0).2.2.2) fun (t_3 : Int × Int) => bif inB x.2.1 (outQ l.length S).length
      then obind (ref02_Sub t_3 ((outQ l.length S).getD x.2.1.toNat ((0 : Int), (0 : Int)))) fun (t : (Int × Int) × Int × PUnit) => bif !decide (t.2.1 = (0 : Int)) then some (((0 : Int), (0 : Int)), t.2.1, PUnit.unit) else obind (ref19_Count l d) fun (t_4 : Int) => obind (ref02_Of t_4) fun (t_5 : Int × Int) => obind (ref02_Times t.1 t_5) fun (t : (Int × Int) × Int × PUnit) =>
      bif !decide (t.2.1 = (0 : Int)) then some (((0 : Int), (0 : Int)), t.2.1, PUnit.unit) else obind (bif x.1 then ref02_Cmp t.1 x.2.2.2.1 else some (0 : Int)) fun (t_6 : Int) => bif bif !x.1 then true else decide (t_6 < (0 : Int)) then again (true, IntKind.wrap .i64 (x.2.1 + 1), x.2.2.1, t.1, PUnit.unit) else
      again (true, IntKind.wrap .i64 (x.2.1 + 1), x.2.2.1, x.2.2.2.1, PUnit.unit) else none else none else none else some (x.2.2.2.1, (0 : Int), PUnit.unit)) (false, (0 : Int), f0, ((0 : Int), (0 : Int)), PUnit.unit) = spareW l S d l.length 0 none := by
  have hl := validG_len hv
  have hn := cntB_le l d
  refine (lpK_up l.length (by omega) (fun i (s : Bool × Fq) => (s.1, ((i : Nat) : Int), f0, s.2, PUnit.unit)) (fun i s k => bif isB d (bmAt l i) then
      obind (ref02_Sub ((bmAt l i).2.2.2, 1) ((outQ l.length S).getD i ((0 : Int), (0 : Int)))) fun (t : (Int × Int) × Int × PUnit) => bif !decide (t.2.1 = (0 : Int)) then some (((0 : Int), (0 : Int)), t.2.1, PUnit.unit) else obind (ref02_Times t.1 (((cntB l d : Nat) : Int), 1)) fun (t : (Int × Int) × Int × PUnit) =>
      bif !decide (t.2.1 = (0 : Int)) then some (((0 : Int), (0 : Int)), t.2.1, PUnit.unit) else obind (bif s.1 then ref02_Cmp t.1 s.2 else some (0 : Int)) fun (t_6 : Int) => bif bif !s.1 then true else decide (t_6 < (0 : Int)) then k (true, t.1) else k (true, s.2) else k s) (fun s => some (s.2, (0 : Int), PUnit.unit)) ?_ (fun again s => ?_) (false, ((0 : Int), (0 : Int)))).trans ?_
  · intro again i s hi
    have hw : IntKind.wrap .i64 ((i : Int) + 1) = ((i + 1 : Nat) : Int) := by rw [wrap_id (by omega) (by omega)]; rfl
    simp only [inB_nat, decide_eq_true hi, decide_eq_true (show (i : Int) < l.length by omega), cT, Int.toNat_natCast, hw, is_ok, obind_some', refCount_ok (show l.length ≤ 1000000 by omega), ref02_Of, ref02_Of_b, show List.getD l i bm0 = bmAt l i from rfl, outQ_len]
    cases isB d (bmAt l i) <;> rfl
  · simp only [decide_eq_false (show ¬ (l.length : Int) < l.length by omega), cF]
  · refine spare_walk (fun best (s : Bool × Fq) => s = (best.isSome, bestF best)) ?_ ?_ l.length 0 none _ (by omega) trivial rfl
    · rintro i best _ kk hi hfit rfl
      refine ⟨_, rfl, _, rfl, ?_⟩
      cases isB d (bmAt l i) with
      | false => rfl
      | true =>
        simp only [cT]
        rw [outQ_get hi, RSub_ok (most_ok hv hi) (okF_prQ (hS i hi)), obind_some', qv_prQ, qv_int]
        rcases fitQ_cases (((bmAt l i).2.2.2 : Rat) - S i) with ⟨g1, g2⟩ | ⟨g1, g2⟩
        · rw [g2, if_pos (show fitsQ (spX l S i) from g1)]
          simp only [decide_true, Bool.not_true, cF]
          rw [RTimes_ok (okF_prQ g1) (okF_int (by omega) (by omega)), obind_some', qv_prQ, qv_int]
          rcases fitQ_cases ((((bmAt l i).2.2.2 : Rat) - S i) * ((cntB l d : Nat) : Int)) with ⟨g3, g4⟩ | ⟨g3, g4⟩
          · rw [g4, if_pos (show fitsQ (spX l S i * (cntB l d : Int)) from g3)]
            simp only [decide_true, Bool.not_true, cF]
            cases best with
            | none => rfl
            | some b =>
              have hfb : fitsQ b := hfit
              simp only [Option.isSome_some, bestF, cT, Bool.not_true, cF]
              rw [RCmp_ok (okF_prQ g3) (okF_prQ hfb), obind_some', qv_prQ, qv_prQ]
              unfold cmpQ nextB spX
              by_cases h : (((bmAt l i).2.2.2 : Rat) - S i) * ((cntB l d : Nat) : Int) < b
              · simp only [h, if_true]; rfl
              · simp only [h, if_false]
                split <;> rfl
          · rw [g4, if_neg (show ¬ fitsQ (spX l S i * (cntB l d : Int)) from g3)]
            rfl
        · rw [g2, if_neg (show ¬ fitsQ (spX l S i) from g1)]
          rfl
    · rintro best _ rfl
      rfl

noncomputable def spareQ (l : List Bm) (at_ : List Ld) (d : Int) : Rs := if cntB l d = 0 ∨ noneB l at_ then ((0, 0), 12, ()) else match runQ l at_ (fun _ => 0) with
  | none => ((0, 0), 5, ())
  | some S => (spareW l S d l.length 0 none).getD ((0, 0), 0, ())

theorem refSpare_ok {l : List Bm} {at_ : List Ld} {d : Int} (hv : validG l = true) (hr : rightG at_ = true) : ref19_Spare l at_ d = some (spareQ l at_ d) := by
  have hl := validG_len hv
  have h2 := rightG_len hr
  simp only [ref19_Spare, ref19_Spare_b, refLoads_ok (show l.length ≤ 1000000 by omega) (show at_.length ≤ 1000000 by omega) h2.2, obind_some', borneQ, spareQ, refCount_ok (show l.length ≤ 1000000 by omega), not_or_self', or_self_not, Bool.and_self, cT]
  cases hn : noneB l at_ with
  | true => simp only [if_true, or_true]; rfl
  | false =>
    simp only [Bool.false_eq_true, if_false, or_false]
    cases hq : runQ l at_ (fun _ => 0) with
    | none =>
      simp only [show decide ((5 : Int) = 12) = false from rfl, Bool.not_false, cT, cF, obind_some', Bool.or_true]
      by_cases hc : cntB l d = 0
      · rw [decide_eq_true (show ((cntB l d : Nat) : Int) = 0 by omega), if_pos hc]; rfl
      · rw [decide_eq_false (show ¬ ((cntB l d : Nat) : Int) = 0 by omega), if_neg hc]; rfl
    | some S =>
      have hS := run_fits (fun _ _ => by show fitsQ 0; decide) hq
      simp only [show decide ((0 : Int) = 12) = false from rfl, Bool.not_false, cT, cF, obind_some', Bool.or_true, decide_true, Bool.not_true]
      by_cases hc : cntB l d = 0
      · rw [decide_eq_true (show ((cntB l d : Nat) : Int) = 0 by omega), if_pos hc]; rfl
      · rw [decide_eq_false (show ¬ ((cntB l d : Nat) : Int) = 0 by omega), if_neg hc, cF]
        obtain ⟨r, hr'⟩ := spare_some l S d l.length 0 none
        rw [hr', Option.getD_some, ← hr', ← refSpare_walk hv hS (f0 := ((0 : Int), (0 : Int)))]
        simp only [Bool.not_not, refCount_ok (show l.length ≤ 1000000 by omega), obind_some', or_self_not, cT]

abbrev Sp := Fq × Int × Fq × Bool × PUnit
/-- A round of the program's walk. -/
noncomputable def sprB (l : List Bm) (S : Nat → Rat) (d : Int) (a : Int × Unit) (s : Sp) (k : Sp → Option Rs) : Option Rs :=
  bif inB a.1 l.length then obind (grid_of (l.getD a.1.toNat bm0).2.2.2) fun (t_2 : Int × Int) => bif inB a.1 (outQ l.length S).length then obind (ratio_Sub t_2 ((outQ l.length S).getD a.1.toNat ((0 : Int), (0 : Int)))) fun (t_3 : (Int × Int) × Int × PUnit) =>
              bif !decide (t_3.2.1 = (0 : Int)) then some (((0 : Int), (0 : Int)), t_3.2.1, PUnit.unit) else obind (grid_of ((cntB l d : Nat) : Int)) fun (t : Int × Int) => obind (ratio_Mul t_3.1 t) fun (t : (Int × Int) × Int × PUnit) => bif !decide (t.2.1 = (0 : Int)) then some (((0 : Int), (0 : Int)), t.2.1, PUnit.unit) else
              obind (ratio_Cmp t.1 s.2.2.1) fun (t_4 : Int × Int × PUnit) => bif bif !s.2.2.2.1 then true else decide (t_4.1 < (0 : Int)) then k (s.1, s.2.1, t.1, true, PUnit.unit) else k s else none else none

theorem spare_ok {l : List Bm} {at_ : List Ld} {d : Int} : grid_Spare l at_ d = some (bif validG l && rightG at_ then (bif inL d then spareQ l at_ d else ((0, 0), 2, ())) else ((0, 0), 1, ())) := by
  simp only [grid_Spare, grid_Spare_b, given_ok, within_ok, obind_some']
  cases h : validG l && rightG at_ with
  | false => rfl
  | true =>
    rw [Bool.and_eq_true] at h
    have hv := h.1
    have hl := validG_len h.1
    have h2 := rightG_len h.2
    have hn := cntB_le l d
    simp only [cT, decide_true, Bool.not_true, cF]
    cases inL d with
    | false => rfl
    | true =>
      simp only [Bool.not_true, cT, cF, count_ok (show l.length ≤ 1000000 by omega), obind_some', borne_ok (show l.length ≤ 1000000 by omega) (show at_.length ≤ 1000000 by omega) h2.2, spareQ, borneQ]
      by_cases hc : cntB l d = 0
      · rw [decide_eq_true (show ((cntB l d : Nat) : Int) = 0 by omega), cT]
        simp only [hc, true_or, if_true]
      · rw [decide_eq_false (show ¬ ((cntB l d : Nat) : Int) = 0 by omega), cF]
        simp only [hc, false_or]
        cases hn : noneB l at_ with
        | true => rfl
        | false =>
          simp only [Bool.false_eq_true, if_false]
          cases hq : runQ l at_ (fun _ => 0) with
          | none => rfl
          | some S =>
            have hS := run_fits (fun _ _ => by show fitsQ 0; decide) hq
            simp only [decide_true, Bool.not_true, cF, overP_of (show l.length ≤ 1000000 by omega), cT]
            obtain ⟨r, hr'⟩ := spare_some l S d l.length 0 none
            rw [hr', Option.getD_some, ← hr']
            refine (lpK_nat (σ := Fq × Int × Fq × Bool × PUnit) (overL l d) ((0 : Int), ()) (by rw [overL_len]; omega) (sprB l S d) (fun s => some (s.2.2.1, (0 : Int), PUnit.unit)) ?_ (fun again s => ?_) (((0 : Int), (0 : Int)), (0 : Int), ((0 : Int), (0 : Int)), false, PUnit.unit)).trans ?_
            · intro again i s hi
              rw [show Nat.ble (Nat.succ i) (overL l d).length = true from ble_of (by omega), cT]
              simp only [Bool.not_not, not_or_self', or_self_not, cT]
              rfl
            · rw [show Nat.ble (Nat.succ (overL l d).length) (overL l d).length = false by rw [Bool.eq_false_iff]; intro e; have := Nat.le_of_ble_eq_true e; omega, cF]
            · refine (overG_walk (l := l) (d := d) (b := sprB l S d) (c := fun i _ s k => sprB l S d ((i : Int), ()) s k) (fun _ _ _ _ => rfl) l.length 0 _ (by omega)).trans ?_
              refine spare_walk (fun best (s : Fq × Int × Fq × Bool × PUnit) => s = ((0, 0), 0, bestF best, best.isSome, ())) ?_ ?_ l.length 0 none _ (by omega) trivial rfl
              · rintro i best _ kk hi hfit rfl
                refine ⟨_, rfl, _, rfl, ?_⟩
                cases isB d (bmAt l i) with
                | false => rfl
                | true =>
                  simp only [sprB, cT, Int.toNat_natCast, inB_nat, decide_eq_true hi, outQ_len, grid_of, grid_of_b, obind_some', show List.getD l i bm0 = bmAt l i from rfl]
                  rw [outQ_get hi, Sub_ok (most_ok hv hi) (okF_prQ (hS i hi)), obind_some', qv_prQ, qv_int]
                  rcases fitQ_cases (((bmAt l i).2.2.2 : Rat) - S i) with ⟨g1, g2⟩ | ⟨g1, g2⟩
                  · rw [g2, if_pos (show fitsQ (spX l S i) from g1)]
                    simp only [decide_true, Bool.not_true, cF]
                    rw [Mul_ok (okF_prQ g1) (okF_int (by omega) (by omega)), obind_some', qv_prQ, qv_int]
                    rcases fitQ_cases ((((bmAt l i).2.2.2 : Rat) - S i) * ((cntB l d : Nat) : Int)) with ⟨g3, g4⟩ | ⟨g3, g4⟩
                    · rw [g4, if_pos (show fitsQ (spX l S i * (cntB l d : Int)) from g3)]
                      simp only [decide_true, Bool.not_true, cF]
                      cases best with
                      | none =>
                        simp only [bestF]
                        rw [Cmp_bad (okF_prQ g3), obind_some']
                        rfl
                      | some b =>
                        have hfb : fitsQ b := hfit
                        simp only [Option.isSome_some, bestF, Bool.not_true, cF]
                        rw [Cmp_ok (okF_prQ g3) (okF_prQ hfb), obind_some', qv_prQ, qv_prQ]
                        unfold cmpQ nextB spX
                        by_cases h : (((bmAt l i).2.2.2 : Rat) - S i) * ((cntB l d : Nat) : Int) < b
                        · simp only [h, if_true]; rfl
                        · simp only [h, if_false]
                          split <;> rfl
                    · rw [g4, if_neg (show ¬ fitsQ (spX l S i * (cntB l d : Int)) from g3)]
                      rfl
                  · rw [g2, if_neg (show ¬ fitsQ (spX l S i) from g1)]
                    rfl
              · rintro best _ rfl
                rfl

end Go.Proofs.Ytpkphcnebkfjdaa

namespace Go.Proofs.Ytpkphcnebkfjdaa
open Try Dn Dn.Sh

theorem awakeG_ok : law19_awake = some true := by kernel_rfl

theorem fq_eq {a b : Fq} : (decide (a.1 = b.1) && (decide (a.2 = b.2) && true)) = decide (a = b) := by
  rw [Bool.eq_iff_iff]
  simp only [Bool.and_eq_true, decide_eq_true_eq, and_true, Prod.ext_iff]

theorem law3g (l : List Bm) (at_ : List Ld) (d : Int) : law19_GridSpares l at_ d = some true := by
  obtain ⟨b, hb⟩ := few_some l (ats := [at_]) (by simp)
  simp only [law19_GridSpares, law19_GridSpares_b, awakeG_ok, hb, obind_some', spare_ok, lgiven_ok, not_or_self', or_self_not, Bool.and_self, cT, Bool.not_true, cF, fq_eq]
  cases b with
  | false => rfl
  | true =>
    simp only [Bool.not_true, cF]
    cases h : validG l && rightG at_ with
    | false => rfl
    | true =>
      cases hd : inL d with
      | false => rfl
      | true =>
        rw [Bool.and_eq_true] at h
        simp only [cT, decide_true, Bool.not_true, cF]
        rw [refSpare_ok h.1 h.2, obind_some']
        simp only [decide_true, cT]

theorem equal22 (l : List Fq) (h : l.length ≤ 1000000) : slices_Equal_22 l l = some true := by
  simp only [slices_Equal_22, slices_Equal_22_b, decide_true, Bool.not_true, cF, Bool.and_self]
  refine (lpK_int l ((0 : Int), (0 : Int)) (by omega) (fun i (_ : Unit) => (((i : Nat) : Int), PUnit.unit)) (fun _ s k => k s) (fun _ => some true) ?_ (fun again s => ?_) ()).trans ?_
  · intro again i _ hi
    have hw : IntKind.wrap .i64 ((i : Int) + 1) = ((i + 1 : Nat) : Int) := by rw [wrap_id (by omega) (by omega)]; rfl
    simp only [inB_nat, decide_eq_true hi, decide_eq_true (show (i : Int) < l.length by omega), cT, Int.toNat_natCast, hw]
  · simp only [decide_eq_false (show ¬ (l.length : Int) < l.length by omega), cF]
  · exact listF_fold (fun _ _ => ()) (fun _ _ _ _ => rfl)
theorem equal25 (l : List (Int × ByteArray)) (h : l.length ≤ 1000000) : slices_Equal_25 l l = some true := by
  have hq : ∀ a : Array UInt8, Array.isEqv a a (fun (a b : UInt8) => decide (a = b)) = true := fun a => Array.isEqv_self a
  simp only [slices_Equal_25, slices_Equal_25_b, decide_true, Bool.not_true, cF, Bool.and_self, hq]
  refine (lpK_int l ((0 : Int), ({ data := { toList := [] } } : ByteArray)) (by omega) (fun i (_ : Unit) => (((i : Nat) : Int), PUnit.unit)) (fun _ s k => k s) (fun _ => some true) ?_ (fun again s => ?_) ()).trans ?_
  · intro again i _ hi
    have hw : IntKind.wrap .i64 ((i : Int) + 1) = ((i + 1 : Nat) : Int) := by rw [wrap_id (by omega) (by omega)]; rfl
    simp only [inB_nat, decide_eq_true hi, decide_eq_true (show (i : Int) < l.length by omega), cT, Int.toNat_natCast, hw]
  · simp only [decide_eq_false (show ¬ (l.length : Int) < l.length by omega), cF]
  · exact listF_fold (fun _ _ => ()) (fun _ _ _ _ => rfl)
theorem law3 : ∀ x : TsS [.sl T40, .sl T60, i64], wfs [.sl T40, .sl T60, i64] x → law19_GridSpares x.1 x.2.1 x.2.2.1 = some true := fun x _ => law3g x.1 x.2.1 x.2.2.1

end Go.Proofs.Ytpkphcnebkfjdaa

namespace Go.Proofs.Ytpkphcnebkfjdaa
open Try Dn Dn.Sh

def sumQ (S : Nat → Rat) : Nat → Rat
  | 0 => 0
  | n + 1 => sumQ S n + S n
def wsum : List Ld → Int
  | [] => 0
  | x :: r => x.2 + wsum r

theorem cntB_take {l : List Bm} {d : Int} {n : Nat} (h : n < l.length) : (cntB (l.take (n + 1)) d : Int) = cntB (l.take n) d + (if isB d (bmAt l n) then 1 else 0) := by
  have e : bmAt l n = l[n] := getD_nat h
  unfold cntB
  rw [List.take_succ_eq_append_getElem h, List.filter_append, List.length_append, e]
  cases hb : isB d l[n] <;> simp [List.filter_cons, hb]
theorem step_sum {l : List Bm} {x : Ld} {S : Nat → Rat} : ∀ n : Nat, n ≤ l.length → sumQ (stepQ l x S) n = sumQ S n + ((cntB (l.take n) x.1 : Int) : Rat) * shareQ l x
  | 0, _ => by
    simp only [sumQ, cntB, List.take_zero, List.filter_nil, List.length_nil]
    grind
  | n + 1, h => by
    have ih := step_sum (l := l) (x := x) (S := S) n (by omega)
    have hc := cntB_take (l := l) (d := x.1) (n := n) (by omega)
    simp only [sumQ]
    rw [ih, hc]
    unfold stepQ
    cases isB x.1 (bmAt l n) with
    | true =>
      simp only [if_true]
      rw [Rat.intCast_add]
      grind
    | false =>
      simp only [Bool.false_eq_true, if_false]
      rw [Rat.intCast_add]
      grind
theorem share_all {l : List Bm} {x : Ld} (hc : cntB l x.1 ≠ 0) : ((cntB l x.1 : Int) : Rat) * shareQ l x = (x.2 : Rat) := by
  unfold shareQ
  rw [Rat.mkRat_eq_div]
  have h : ((cntB l x.1 : Int) : Rat) ≠ 0 := by
    intro e
    have := (Rat.intCast_eq_zero_iff).1 e
    omega
  have h2 : ((cntB l x.1 : Nat) : Rat) = ((cntB l x.1 : Int) : Rat) := rfl
  rw [h2]
  generalize ((cntB l x.1 : Int) : Rat) = c at *
  grind
theorem run_sum {l : List Bm} : ∀ {L : List Ld} {S S' : Nat → Rat}, (∀ x ∈ L, cntB l x.1 ≠ 0) → runQ l L S = some S' → sumQ S' l.length = sumQ S l.length + (wsum L : Rat)
  | [], S, S', _, e => by
    simp only [runQ, Option.some.injEq] at e
    subst e
    simp only [wsum]
    grind
  | x :: r, S, S', h, e => by
    simp only [runQ] at e
    split at e
    · have ih := run_sum (L := r) (fun y hy => h y (by simp [hy])) e
      have h1 := step_sum (l := l) (x := x) (S := S) l.length (Nat.le_refl _)
      rw [List.take_length, share_all (h x (by simp))] at h1
      rw [ih, h1]
      simp only [wsum]
      rw [Rat.intCast_add]
      grind
    · cases e
theorem share_nonneg {l : List Bm} {x : Ld} (h : 0 ≤ x.2) : 0 ≤ shareQ l x := by
  unfold shareQ
  rw [← Rat.num_nonneg, Rat.num_mkRat]
  split
  · exact Int.le_refl 0
  · exact Int.ediv_nonneg h (by omega)
theorem run_nonneg {l : List Bm} : ∀ {L : List Ld} {S S' : Nat → Rat}, (∀ x ∈ L, 0 ≤ x.2) → (∀ i, 0 ≤ S i) → runQ l L S = some S' → ∀ i, 0 ≤ S' i
  | [], S, S', _, h, e => by
    simp only [runQ, Option.some.injEq] at e
    subst e
    exact h
  | x :: r, S, S', hw, h, e => by
    simp only [runQ] at e
    split at e
    · refine run_nonneg (L := r) (fun y hy => hw y (by simp [hy])) (fun i => ?_) e
      unfold stepQ
      have h1 := h i
      have h2 := share_nonneg (l := l) (hw x (by simp))
      split
      · grind
      · exact h1
    · cases e

theorem sum_range (S : Nat → Rat) : ∀ n : Nat, ((List.range' 0 n).map S).foldl (· + ·) 0 = sumQ S n
  | 0 => rfl
  | n + 1 => by
    rw [List.range'_1_concat, List.map_append, List.foldl_append, sum_range S n]
    simp [sumQ]

theorem sum_walk {d : Fq} {f : Fq × Fq → Option Rs} : ∀ {L : List Rat} {q : Rat}, fitsQ q → (∀ y ∈ L, fitsQ y) →
    (listF (fun (x : Fq) (s : Fq × Fq) (k : Fq × Fq → Option Rs) => obind (ratio_Add s.2 x) fun (t : (Int × Int) × Int × PUnit) => bif !decide (t.2.1 = (0 : Int)) then some (((0 : Int), (0 : Int)), t.2.1, PUnit.unit) else k (s.1, t.1)) f (L.map prQ) (d, prQ q) = some ((0, 0), 5, ())) ∨
    (fitsQ (L.foldl (· + ·) q) ∧ listF (fun (x : Fq) (s : Fq × Fq) (k : Fq × Fq → Option Rs) => obind (ratio_Add s.2 x) fun (t : (Int × Int) × Int × PUnit) => bif !decide (t.2.1 = (0 : Int)) then some (((0 : Int), (0 : Int)), t.2.1, PUnit.unit) else k (s.1, t.1)) f (L.map prQ) (d, prQ q) = f (d, prQ (L.foldl (· + ·) q)))
  | [], q, hq, _ => .inr ⟨hq, rfl⟩
  | y :: L, q, hq, hy => by
    simp only [List.map_cons, listF, List.foldl_cons]
    rw [Add_ok (okF_prQ hq) (okF_prQ (hy y (by simp))), obind_some', qv_prQ, qv_prQ]
    rcases fitQ_cases (q + y) with ⟨h1, h2⟩ | ⟨h1, h2⟩
    · rw [h2]
      exact sum_walk h1 fun z hz => hy z (by simp [hz])
    · rw [h2]
      exact .inl rfl

theorem contains27 {f : (Fq × Unit) → Option Bool} {p : Fq → Bool} {l : List Fq} (hl : l.length ≤ 1000000) (h : ∀ a, a ∈ l → f (a, ()) = some (p a)) : slices_ContainsFunc_27 l f = some (l.any p) := by
  simp only [slices_ContainsFunc_27, slices_ContainsFunc_27_b]
  unfold slices_IndexFunc_71 slices_IndexFunc_71_b
  rw [index_loop (f := f) (d := ((0 : Int), (0 : Int))) hl h, obind_some', contains_of_idx]

theorem outQ_mem {n : Nat} {S : Nat → Rat} {a : Fq} (h : a ∈ outQ n S) : ∃ i, i < n ∧ a = prQ (S i) := by
  unfold outQ at h
  obtain ⟨i, hi, rfl⟩ := List.mem_map.1 h
  obtain ⟨k, hk, rfl⟩ := List.mem_range'.1 hi
  exact ⟨_, by omega, rfl⟩

theorem sumF_ok {n : Nat} {S : Nat → Rat} (hn : n ≤ 1000) (hS : ∀ i, i < n → fitsQ (S i)) : ratio_Sum (outQ n S) = some ((0, 0), 5, ()) ∨ (fitsQ (sumQ S n) ∧ ratio_Sum (outQ n S) = some (prQ (sumQ S n), 0, ())) := by
  have hlen := outQ_len n S
  have hc : slices_ContainsFunc_27 (outQ n S) (fun x => ratio_Sum_1 x.1) = some false := by
    rw [contains27 (p := fun a => !decide (okF a)) (by omega) (fun a _ => by simp only [ratio_Sum_1, ratio_Sum_1_b, Valid_ok, obind_some'])]
    congr 1
    rw [List.any_eq_false]
    intro a ha
    obtain ⟨i, hi, rfl⟩ := outQ_mem ha
    simp [decide_eq_true (okF_prQ (hS i hi))]
  have hw := sum_walk (d := ((0 : Int), (0 : Int))) (f := fun s => some (s.2, (0 : Int), PUnit.unit)) (L := (List.range' 0 n).map S) (q := 0) (by decide) (fun y hy => by
    obtain ⟨i, hi, rfl⟩ := List.mem_map.1 hy
    obtain ⟨k, hk, rfl⟩ := List.mem_range'.1 hi
    exact hS _ (by omega))
  rw [sum_range, show ((List.range' 0 n).map S).map prQ = outQ n S by unfold outQ; rw [List.map_map]; rfl] at hw
  have key : ratio_Sum (outQ n S) = listF (fun (x : Fq) (s : Fq × Fq) (k : Fq × Fq → Option Rs) => obind (ratio_Add s.2 x) fun (t : (Int × Int) × Int × PUnit) => bif !decide (t.2.1 = (0 : Int)) then some (((0 : Int), (0 : Int)), t.2.1, PUnit.unit) else k (s.1, t.1)) (fun s => some (s.2, (0 : Int), PUnit.unit)) (outQ n S) (((0 : Int), (0 : Int)), prQ 0) := by
    simp only [ratio_Sum, ratio_Sum_b, hc, obind_some', cF]
    rw [decide_eq_false (show ¬ (((outQ n S).length : Nat) : Int) > 1000 by omega), cF]
    refine lpK_int (outQ n S) ((0 : Int), (0 : Int)) (by omega) (fun i (s : Fq × Fq) => (((i : Nat) : Int), s.1, s.2, PUnit.unit)) _ _ (fun again i s hi => ?_) (fun again s => ?_) (((0 : Int), (0 : Int)), ((0 : Int), (1 : Int)))
    · have hwr : IntKind.wrap .i64 ((i : Int) + 1) = ((i + 1 : Nat) : Int) := by rw [wrap_id (by omega) (by omega)]; rfl
      simp only [inB_nat, decide_eq_true hi, decide_eq_true (show (i : Int) < (outQ n S).length by omega), cT, Int.toNat_natCast, hwr]
    · simp only [decide_eq_false (show ¬ (((outQ n S).length : Nat) : Int) < (outQ n S).length by omega), cF]
  rw [key]
  exact hw

theorem wsum_bound : ∀ {L : List Ld}, (∀ x ∈ L, inW x.2 = true) → 0 ≤ wsum L ∧ wsum L ≤ 67108864 * L.length
  | [], _ => by simp [wsum]
  | x :: r, h => by
    have ih := wsum_bound (L := r) fun y hy => h y (by simp [hy])
    have h1 := h x (by simp)
    simp only [inW, decide_eq_true_eq] at h1
    simp only [wsum, List.length_cons]
    omega

theorem wsum_walk {R : Type} {f : Int → Option R} : ∀ {L : List Ld} {s : Int}, (∀ x ∈ L, inW x.2 = true) → 0 ≤ s → s + 67108864 * L.length ≤ 1000000000000 →
    listF (fun (x : Ld) (s : Int) (k : Int → Option R) => k (IntKind.wrap .i64 (s + x.2))) f L s = f (s + wsum L)
  | [], s, _, _, _ => by simp [listF, wsum]
  | x :: r, s, h, h0, hb => by
    have h1 := h x (by simp)
    simp only [inW, decide_eq_true_eq] at h1
    simp only [List.length_cons] at hb
    simp only [listF]
    rw [wrap_id (by omega) (by omega), wsum_walk (fun y hy => h y (by simp [hy])) (by omega) (by omega)]
    congr 1
    simp only [wsum]
    omega

theorem law6g (l : List Bm) (at_ : List Ld) : law19_GridSums l at_ = some true := by
  obtain ⟨b, hb⟩ := few_some l (ats := [at_]) (by simp)
  simp only [law19_GridSums, law19_GridSums_b, awakeG_ok, hb, obind_some', loads_ok, not_or_self', or_self_not, Bool.and_self, cT, Bool.not_true, cF, fq_eq]
  cases b with
  | false => rfl
  | true =>
    simp only [Bool.not_true, cF, loadsQ, borneQ]
    by_cases h : (validG l && rightG at_) = true
    case neg => simp only [Bool.eq_false_iff.2 h, cF]; rfl
    case pos =>
      simp only [h, cT]
      rw [Bool.and_eq_true] at h
      have hl := validG_len h.1
      have h2 := rightG_len h.2
      by_cases hn : noneB l at_ = true
      case pos => simp only [hn, if_true]; rfl
      case neg =>
        simp only [hn, if_false, Bool.false_eq_true]
        have hc : ∀ x ∈ at_, cntB l x.1 ≠ 0 := fun x hx e => by
          unfold noneB at hn
          have := List.any_eq_false.1 (Bool.eq_false_iff.2 hn) x hx
          simp [e] at this
        cases hr : runQ l at_ (fun _ => 0) with
        | none => rfl
        | some S =>
          have hS := run_fits (fun _ _ => by show fitsQ 0; decide) hr
          have hp := run_nonneg (fun x hx => by have := h2.2 x hx; simp only [inW, decide_eq_true_eq] at this; exact this.1) (fun _ => Rat.le_refl) hr
          have hsum := run_sum hc hr
          have hz : ∀ n, sumQ (fun _ => 0) n = 0 := fun n => by
            induction n with
            | zero => rfl
            | succ n ih => simp only [sumQ, ih]; grind
          rw [hz, Rat.zero_add] at hsum
          have hwb := wsum_bound h2.2
          have hneg : slices_ContainsFunc_27 (outQ l.length S) (fun x => law19_GridSums_1 x.1) = some false := by
            rw [contains27 (p := fun a => decide (a.1 < 0)) (by rw [outQ_len]; omega) (fun a _ => by simp only [law19_GridSums_1, law19_GridSums_1_b])]
            congr 1
            rw [List.any_eq_false]
            intro a ha
            obtain ⟨i, hi, rfl⟩ := outQ_mem ha
            have := (okF_nonneg (okF_prQ (hS i hi))).1 (by rw [qv_prQ]; exact hp i)
            simp; omega
          simp only [decide_true, Bool.not_true, cF, outQ_len, cT, hneg, obind_some', Bool.not_false, Bool.true_and, Bool.false_or, Bool.true_or, Bool.or_true, Bool.or_false, law19_whole, law19_whole_b]
          refine' (lpK_int at_ ((0 : Int), (0 : Int)) (by omega) (fun i (s : Int) => (s, ((i : Nat) : Int), PUnit.unit)) (fun (x : Ld) (s : Int) (k : Int → Option Bool) => k (IntKind.wrap .i64 (s + x.2))) _ ?_ ?_ (0 : Int)).trans ?_
          rotate_left
          · intro again i s hi
            have hwr : IntKind.wrap .i64 ((i : Int) + 1) = ((i + 1 : Nat) : Int) := by rw [wrap_id (by omega) (by omega)]; rfl
            simp only [inB_nat, decide_eq_true hi, decide_eq_true (show (i : Int) < at_.length by omega), cT, Int.toNat_natCast, hwr]
          · intro again s
            simp only [decide_eq_false (show ¬ (at_.length : Int) < at_.length by omega), cF]
            rfl
          · rw [wsum_walk h2.2 (by omega) (by omega)]
            rcases sumF_ok (show l.length ≤ 1000 by omega) hS with h3 | ⟨h3, h4⟩
            · rw [h3]; rfl
            · rw [h4, hsum, prQ_int, obind_some', Int.zero_add]
              simp [obind_some']

theorem law6 : ∀ x : TsS [.sl T40, .sl T60], wfs [.sl T40, .sl T60] x → law19_GridSums x.1 x.2.1 = some true := fun x _ => law6g x.1 x.2.1

end Go.Proofs.Ytpkphcnebkfjdaa

namespace Go.Proofs.Ytpkphcnebkfjdaa
open Try Dn Dn.Sh

theorem concat_ok {a b : List Ld} (ha : a.length ≤ 1000000) (hb : b.length ≤ 1000000) : slices_Concat_29 [a, b] = some (a ++ b) := by
  have two : lpK (List Ld × Int × PUnit) (List Ld) (fun (again : List Ld × Int × PUnit → Option (List Ld)) (x : List Ld × Int × PUnit) => bif decide (x.2.1 < (([a, b].length : Nat) : Int)) then bif inB x.2.1 [a, b].length then
      bif fitB (x.1.length + ([a, b].getD x.2.1.toNat []).length) 16 then again (x.1 ++ [a, b].getD x.2.1.toNat [], IntKind.wrap .i64 (x.2.1 + 1), PUnit.unit) else none else none else some x.1) ([], (0 : Int), PUnit.unit) = some (a ++ b) := by
    refine (lpK_int [a, b] ([] : List Ld) (by simp) (fun i (s : List Ld) => (s, ((i : Nat) : Int), PUnit.unit)) (fun (x : List Ld) (s : List Ld) k => bif fitB (s.length + x.length) 16 then k (s ++ x) else none) (fun s => some s) (fun again i s hi => ?_) (fun again s => ?_) ([] : List Ld)).trans ?_
    · have hi' : i < 2 := hi
      have hwr : IntKind.wrap .i64 ((i : Int) + 1) = ((i + 1 : Nat) : Int) := by rw [wrap_id (by omega) (by omega)]; rfl
      simp only [inB_nat, decide_eq_true hi, decide_eq_true (show (i : Int) < (([a, b].length : Nat) : Int) by omega), cT, Int.toNat_natCast, hwr]
    · simp only [decide_eq_false (show ¬ (([a, b].length : Nat) : Int) < (([a, b].length : Nat) : Int) by omega), cF]
    · simp only [listF, List.length_nil, Nat.zero_add, List.nil_append]
      rw [fitB_of (by omega), cT, fitB_of (by omega), cT]
  simp only [slices_Concat_29, slices_Concat_29_b, jnT]
  refine' (lpK_int [a, b] ([] : List Ld) (by simp) (fun i (s : Int) => (s, ((i : Nat) : Int), PUnit.unit)) (fun (x : List Ld) (s : Int) k => bif decide (IntKind.wrap .i64 (s + ((x.length : Nat) : Int)) < 0) then none else k (IntKind.wrap .i64 (s + ((x.length : Nat) : Int)))) _ ?_ ?_ (0 : Int)).trans ?_
  rotate_left
  · intro again i s hi
    have hi' : i < 2 := hi
    have hwr : IntKind.wrap .i64 ((i : Int) + 1) = ((i + 1 : Nat) : Int) := by rw [wrap_id (by omega) (by omega)]; rfl
    simp only [inB_nat, decide_eq_true hi, decide_eq_true (show (i : Int) < (([a, b].length : Nat) : Int) by omega), cT, Int.toNat_natCast, hwr]
  · intro again s
    simp only [decide_eq_false (show ¬ (([a, b].length : Nat) : Int) < (([a, b].length : Nat) : Int) by omega), cF]
    rfl
  · simp only [listF]
    rw [wrap_id (x := 0 + ((a.length : Nat) : Int)) (by omega) (by omega), decide_eq_false (show ¬ 0 + ((a.length : Nat) : Int) < 0 by omega), cF, wrap_id (x := 0 + ((a.length : Nat) : Int) + ((b.length : Nat) : Int)) (by omega) (by omega)]
    simp only [decide_eq_false (show ¬ 0 + ((a.length : Nat) : Int) + ((b.length : Nat) : Int) < 0 by omega), cF]
    have e0 : IntKind.wrap .i64 (((0 : Nat) : Int) - ((0 : Nat) : Int)) = 0 := rfl
    rw [e0, wrap_id (by omega) (by omega)]
    simp only [Int.sub_zero]
    by_cases h : 0 + ((a.length : Nat) : Int) + ((b.length : Nat) : Int) > 0
    · rw [decide_eq_true h, cT, show slB (0 : Int) ((0 : Nat) : Int) 0 = true from rfl, cT, fitB_of (by omega), slB_of (by omega) (by omega) (by omega), decide_eq_true (show 0 < (0 + ((a.length : Nat) : Int) + ((b.length : Nat) : Int)).toNat by omega)]
      simp only [Bool.and_self, cT]
      exact two
    · rw [decide_eq_false h, cF]
      exact two

theorem few_len {l : List Bm} {ats : List (List Ld)} (h : ats.length ≤ 1000000) (hf : law19_few l ats = some true) : ∀ x ∈ ats, x.length ≤ 1010 := by
  have h2 : ∀ x : List Ld, law19_few_2 x = some (decide (x.length > 30) && (decide (x.length ≤ 1000) || decide (x.length > 1010))) := fun x => by
    simp only [law19_few_2, law19_few_2_b]
    rw [show decide (((x.length : Nat) : Int) > 30) = decide (x.length > 30) by rw [Bool.eq_iff_iff, decide_eq_true_iff, decide_eq_true_iff]; omega, show decide (((x.length : Nat) : Int) ≤ 1000) = decide (x.length ≤ 1000) by rw [Bool.eq_iff_iff, decide_eq_true_iff, decide_eq_true_iff]; omega,
      show decide (((x.length : Nat) : Int) > 1010) = decide (x.length > 1010) by rw [Bool.eq_iff_iff, decide_eq_true_iff, decide_eq_true_iff]; omega]
    cases decide (x.length > 30) <;> cases decide (x.length ≤ 1000) <;> cases decide (x.length > 1010) <;> rfl
  have hc := contains43 (f := fun x => law19_few_2 x.1) (l := ats) h (fun a _ => h2 a)
  simp only [law19_few, law19_few_b] at hf
  by_cases h0 : l.length ≤ 25
  · have h1 := contains41 (f := fun x => law19_few_1 x.1) (p := fun x : Bm => decide (((ByteArray.size x.1 : Nat) : Int) > 60)) (l := l) (by omega) (fun a _ => by simp only [law19_few_1, law19_few_1_b])
    rw [decide_eq_true (show ((l.length : Nat) : Int) ≤ 25 by omega)] at hf
    simp only [Bool.not_true, Bool.false_or, Bool.or_false, cT, h1, hc, obind_some'] at hf
    cases h3 : (l.any fun x : Bm => decide (((ByteArray.size x.1 : Nat) : Int) > 60)) with
    | true => rw [h3] at hf; cases hf
    | false =>
      rw [h3] at hf
      cases h4 : (ats.any fun x => decide (x.length > 30) && (decide (x.length ≤ 1000) || decide (x.length > 1010))) with
      | true => rw [h4] at hf; cases hf
      | false =>
        intro x hx
        have := List.any_eq_false.1 h4 x hx
        simp only [Bool.and_eq_true, Bool.or_eq_true, decide_eq_true_eq] at this
        omega
  · rw [decide_eq_false (show ¬ ((l.length : Nat) : Int) ≤ 25 by omega)] at hf
    cases hf

/-! ### Sums -/

def totQ (l : List Bm) : List Ld → Nat → Rat
  | [], _ => 0
  | x :: r, i => (if isB x.1 (bmAt l i) then shareQ l x else 0) + totQ l r i
theorem tot_append (l : List Bm) (i : Nat) : ∀ (a b : List Ld), totQ l (a ++ b) i = totQ l a i + totQ l b i
  | [], b => by simp only [List.nil_append, totQ]; grind
  | x :: a, b => by simp only [List.cons_append, totQ, tot_append l i a b]; grind
theorem run_tot {l : List Bm} : ∀ {L : List Ld} {S S' : Nat → Rat}, runQ l L S = some S' → ∀ i, S' i = S i + totQ l L i
  | [], S, S', e, i => by
    simp only [runQ, Option.some.injEq] at e
    subst e
    simp only [totQ]; grind
  | x :: r, S, S', e, i => by
    simp only [runQ] at e
    split at e
    · rw [run_tot e i]
      simp only [totQ, stepQ]
      split <;> grind
    · cases e
theorem run_append {l : List Bm} : ∀ {a b : List Ld} {S : Nat → Rat}, runQ l (a ++ b) S = (runQ l a S).bind (runQ l b)
  | [], b, S => rfl
  | x :: a, b, S => by
    simp only [List.cons_append, runQ]
    split
    · exact run_append
    · rfl

end Go.Proofs.Ytpkphcnebkfjdaa

namespace Go.Proofs.Ytpkphcnebkfjdaa
open Try Dn Dn.Sh

theorem loads_cases (l : List Bm) (L : List Ld) : (∃ S, validG l = true ∧ rightG L = true ∧ noneB l L = false ∧ runQ l L (fun _ => 0) = some S ∧ loadsQ l L = (outQ l.length S, 0, ())) ∨ (∃ e : Int, e ≠ 0 ∧ loadsQ l L = ([], e, ())) := by
  unfold loadsQ borneQ
  cases h1 : validG l with
  | false => exact .inr ⟨1, by decide, rfl⟩
  | true =>
    cases h2 : rightG L with
    | false => exact .inr ⟨1, by decide, rfl⟩
    | true =>
      cases h3 : noneB l L with
      | true => exact .inr ⟨12, by decide, rfl⟩
      | false =>
        cases h4 : runQ l L (fun _ => 0) with
        | none => exact .inr ⟨5, by decide, rfl⟩
        | some S => exact .inl ⟨S, rfl, rfl, rfl, rfl, rfl⟩
theorem right_left {a b : List Ld} (h : rightG (a ++ b) = true) : rightG a = true := by
  simp only [rightG, Bool.and_eq_true, decide_eq_true_eq, List.all_append, List.length_append] at h ⊢
  exact ⟨by omega, h.2.1⟩
/-- What a list of loads does, its beginning does. -/
theorem loads_left {l : List Bm} {a b : List Ld} {e : Int} (he : e ≠ 0) (h : loadsQ l a = ([], e, ())) : ∃ e' : Int, e' ≠ 0 ∧ loadsQ l (a ++ b) = ([], e', ()) := by
  rcases loads_cases l (a ++ b) with ⟨S, h1, h2, h3, h4, _⟩ | h5
  · exfalso
    rcases loads_cases l a with ⟨S', _, _, _, _, g5⟩ | ⟨e', _, g2⟩
    · rw [h] at g5
      simp only [Prod.mk.injEq] at g5
      exact he g5.2.1
    · have r1 := right_left h2
      have n1 : noneB l a = false := by
        unfold noneB at h3 ⊢
        rw [List.any_append, Bool.or_eq_false_iff] at h3
        exact h3.1
      rw [run_append] at h4
      cases hr : runQ l a (fun _ => 0) with
      | none => rw [hr] at h4; cases h4
      | some S' =>
        have : loadsQ l a = (outQ l.length S', 0, ()) := by
          unfold loadsQ borneQ
          rw [h1, r1, n1, hr]
          rfl
        rw [this] at h
        simp only [Prod.mk.injEq] at h
        exact he h.2.1.symm
  · exact h5
theorem adds1_ok {l : List Bm} {i : Nat} (hi : i < l.length) (q : Ld) : law19_GridAdds_1 q l (i : Int) = some (isB q.1 (bmAt l i)) := by
  simp only [law19_GridAdds_1, law19_GridAdds_1_b]
  rw [inB_of (by omega) (by omega), cT, Int.toNat_natCast, show List.getD l i bm0 = bmAt l i from rfl, is_ok, obind_some']
theorem tot_none {l : List Bm} {i : Nat} : ∀ {L : List Ld}, (L.any fun q => isB q.1 (bmAt l i)) = false → totQ l L i = 0
  | [], _ => rfl
  | x :: r, h => by
    simp only [List.any_cons, Bool.or_eq_false_iff] at h
    simp only [totQ, h.1, Bool.false_eq_true, if_false, tot_none h.2]
    grind

theorem law7g (l : List Bm) (a b : List Ld) : law19_GridAdds l a b = some true := by
  obtain ⟨f, hf⟩ := few_some l (ats := [a, b]) (by simp)
  cases f with
  | false => simp only [law19_GridAdds, law19_GridAdds_b, awakeG_ok, hf, obind_some', Bool.not_true, Bool.not_false, cT, cF]
  | true =>
    have hlen := few_len (by simp) hf
    have ha := hlen a (by simp)
    have hb := hlen b (by simp)
    simp only [law19_GridAdds, law19_GridAdds_b, awakeG_ok, hf, obind_some', loads_ok, concat_ok (show a.length ≤ 1000000 by omega) (show b.length ≤ 1000000 by omega), concat_ok (show b.length ≤ 1000000 by omega) (show a.length ≤ 1000000 by omega), Bool.not_true, cF, not_or_self', or_self_not, Bool.and_self, cT]
    rcases loads_cases l a with ⟨Sa, v1, r1, n1, q1, e1⟩ | ⟨ea, na, e1⟩
    · rcases loads_cases l b with ⟨Sb, _, r2, n2, q2, e2⟩ | ⟨eb, nb, e2⟩
      · rcases loads_cases l (a ++ b) with ⟨Sc, _, r3, n3, q3, e3⟩ | ⟨ec, nc, e3⟩
        · rcases loads_cases l (b ++ a) with ⟨Sd, _, r4, n4, q4, e4⟩ | ⟨ed, nd, e4⟩
          · have hl := validG_len v1
            have z0 : ∀ i, i < l.length → fitsQ ((fun _ => 0 : Nat → Rat) i) := fun _ _ => by show fitsQ 0; decide
            have fa := run_fits z0 q1
            have fb := run_fits z0 q2
            have fc := run_fits z0 q3
            have ta := run_tot q1
            have tb := run_tot q2
            have tc := run_tot q3
            have td := run_tot q4
            have hc : ∀ i, Sc i = Sa i + Sb i := fun i => by rw [ta, tb, tc, tot_append]; grind
            have hd : Sd = Sc := by funext i; rw [td, tc, tot_append, tot_append]; grind
            subst hd
            simp only [e1, e2, e3, e4, outQ_len, decide_true, Bool.not_true, Bool.not_false, cF, cT, Bool.and_self, Bool.or_true, Bool.true_or, Bool.false_or, Bool.or_false, equal22 _ (show (outQ l.length Sd).length ≤ 1000000 by rw [outQ_len]; omega), obind_some']
            refine (lpK_up l.length (by omega) (fun i (_ : Unit) => (((i : Nat) : Int), PUnit.unit)) (fun i s k => k s) (fun _ => some true) ?_ (fun again s => ?_) ()).trans ?_
            · intro again i s hi
              have hw : IntKind.wrap .i64 ((i : Int) + 1) = ((i + 1 : Nat) : Int) := by rw [wrap_id (by omega) (by omega)]; rfl
              have hk : slices_ContainsFunc_31 b (fun x => law19_GridAdds_1 x.1 l (i : Int)) = some (b.any fun q => isB q.1 (bmAt l i)) := contains31 (by omega) fun q _ => adds1_ok hi q
              simp only [inB_nat, decide_eq_true hi, decide_eq_true (show (i : Int) < l.length by omega), cT, Int.toNat_natCast, hw, outQ_get hi]
              rw [Add_ok (okF_prQ (fa i hi)) (okF_prQ (fb i hi)), obind_some', qv_prQ, qv_prQ, ← hc]
              have hfit : fitQ (Sd i) = (prQ (Sd i), 0, ()) := by unfold fitQ; rw [if_pos (fc i hi)]
              rw [hfit]
              simp only [decide_true, Bool.not_true, Bool.not_false, cF, cT, Bool.and_self, Bool.or_true, Bool.true_or, Bool.false_or, Bool.or_false, hk, obind_some']
              cases hany : (b.any fun q => isB q.1 (bmAt l i)) with
              | true => rfl
              | false =>
                have : Sd i = Sa i := by rw [hc, tb i, tot_none hany]; grind
                rw [this]
                simp
            · simp only [decide_eq_false (show ¬ (l.length : Int) < l.length by omega), cF]
            · rw [upF_all (p := fun _ => true) (r := none) l.length (fun _ _ _ => rfl) l.length 0 (by omega), List.all_eq_true.2 (fun _ _ => rfl)]
              rfl
          · simp [e1, e2, e3, e4, nd]
        · simp [e1, e2, e3, nc]
      · simp [e1, e2, nb]
    · obtain ⟨ec, nc, e3⟩ := loads_left (b := b) na e1
      rcases loads_cases l b with ⟨Sb, _, r2, n2, q2, e2⟩ | ⟨eb, nb, e2⟩
      · simp [e1, e2, e3, na, nc]
      · simp [e1, e2, e3, na, nb, nc]

theorem law7 : ∀ x : TsS [.sl T40, .sl T60, .sl T60], wfs [.sl T40, .sl T60, .sl T60] x → law19_GridAdds x.1 x.2.1 x.2.2.1 = some true := fun x _ => law7g x.1 x.2.1 x.2.2.1

end Go.Proofs.Ytpkphcnebkfjdaa

namespace Go.Proofs.Ytpkphcnebkfjdaa
open Try Dn Dn.Sh

theorem oversQ_len (l : List Bm) (S : Nat → Rat) : (oversQ l S).length ≤ l.length := by
  unfold oversQ
  exact Nat.le_trans (List.length_filterMap_le _ _) (by simp)

theorem inL0 : inL 0 = true := rfl

theorem law5g (l : List Bm) (at_ : List Ld) : law19_GridLoads l at_ = some true := by
  obtain ⟨b, hb⟩ := few_some l (ats := [at_]) (by simp)
  simp only [law19_GridLoads, law19_GridLoads_b, awakeG_ok, hb, obind_some', loads_ok, over_ok', lgiven_ok, not_or_self', or_self_not, Bool.and_self, cT, Bool.not_true, cF, inL0]
  cases b with
  | false => rfl
  | true =>
    simp only [Bool.not_true, cF, loadsQ, overQ, borneQ]
    by_cases h : (validG l && rightG at_) = true
    case neg =>
      have h' := Bool.eq_false_iff.2 h
      simp only [h', cF]
      rfl
    case pos =>
      simp only [h, cT, decide_true, Bool.not_true, cF]
      rw [Bool.and_eq_true] at h
      have hl := validG_len h.1
      have h2 := rightG_len h.2
      rw [refLoads_ok (by omega) (by omega) h2.2, obind_some']
      unfold borneQ
      by_cases hn : noneB l at_ = true
      · simp only [hn, if_true, obind_some', equal22 [] (by simp), Bool.not_true, cF, decide_true, Bool.not_false, cT]
        refine (lpK_up (α := List (Int × ByteArray) × Int × PUnit) 0 (by omega) (fun i (s : List (Int × ByteArray)) => (s, ((i : Nat) : Int), PUnit.unit)) (fun i s k => k s) (fun s => slices_Equal_25 [] s) (fun again i s hi => by omega) (fun again s => ?_) []).trans (equal25 [] (by simp))
        simp only [List.length_nil, decide_eq_false (show ¬ (((0 : Nat) : Int)) < ((0 : Nat) : Int) by omega), cF]
        cases slices_Equal_25 [] s <;> rfl
      · simp only [hn, if_false]
        cases hr : runQ l at_ (fun _ => 0) with
        | none =>
          simp only [Bool.false_eq_true, if_false, obind_some', equal22 [] (by simp), Bool.not_true, cF, decide_true, Bool.not_false, cT]
          refine (lpK_up (α := List (Int × ByteArray) × Int × PUnit) 0 (by omega) (fun i (s : List (Int × ByteArray)) => (s, ((i : Nat) : Int), PUnit.unit)) (fun i s k => k s) (fun s => slices_Equal_25 [] s) (fun again i s hi => by omega) (fun again s => ?_) []).trans (equal25 [] (by simp))
          simp only [List.length_nil, decide_eq_false (show ¬ (((0 : Nat) : Int)) < ((0 : Nat) : Int) by omega), cF]
          cases slices_Equal_25 [] s <;> rfl
        | some S =>
          have hS := run_fits (fun _ _ => by show fitsQ 0; decide) hr
          have ho := oversQ_len l S
          simp only [Bool.false_eq_true, if_false, obind_some', equal22 _ (show (outQ l.length S).length ≤ 1000000 by rw [outQ_len]; omega), Bool.not_true, cF, decide_true, Bool.not_false, cT, outQ_len]
          refine (lpK_up l.length (by omega) (fun i (s : List (Int × ByteArray)) => (s, ((i : Nat) : Int), PUnit.unit)) (overB l S) (fun s => slices_Equal_25 (oversQ l S) s) ?_ (fun again s => ?_) ([] : List (Int × ByteArray))).trans ?_
          · intro again i s hi
            have hw : IntKind.wrap .i64 ((i : Int) + 1) = ((i + 1 : Nat) : Int) := by rw [wrap_id (by omega) (by omega)]; rfl
            simp only [inB_nat, decide_eq_true hi, decide_eq_true (show (i : Int) < l.length by omega), cT, Int.toNat_natCast, hw, law19_whole, law19_whole_b, obind_some', show List.getD l i bm0 = bmAt l i from rfl, outQ_get hi]
            rw [RCmp_ok (okF_prQ (hS i hi)) (most_ok h.1 hi), obind_some', qv_prQ, qv_int]
            rfl
          · simp only [decide_eq_false (show ¬ (l.length : Int) < l.length by omega), cF]
            cases slices_Equal_25 (oversQ l S) s <;> rfl
          · rw [over_walk (by omega) l.length 0 [] (by omega) (by simp)]
            exact equal25 _ (by omega)

theorem law5 : ∀ x : TsS [.sl T40, .sl T60], wfs [.sl T40, .sl T60] x → law19_GridLoads x.1 x.2.1 = some true := fun x _ => law5g x.1 x.2.1

end Go.Proofs.Ytpkphcnebkfjdaa

namespace Go.Proofs.Ytpkphcnebkfjdaa
open Try Dn Dn.Sh

/-- A round of the walk over the beams over a depth. -/
def nmB {α : Type} (l : List Bm) (i : Nat) (s : List ByteArray) (k : List ByteArray → Option α) : Option α := bif fitB (s.length + 1) 16 then k (s ++ [(bmAt l i).1]) else none
def namesQ (l : List Bm) (d : Int) (k m : Nat) : List ByteArray := (List.range' k m).filterMap fun i => if isB d (bmAt l i) then some (bmAt l i).1 else none
theorem names_walk {α : Type} {l : List Bm} {d : Int} {f : List ByteArray → Option α} (hl : l.length ≤ 1000000) : ∀ (m k : Nat) (s : List ByteArray), k + m = l.length → s.length ≤ k →
    upF (fun i s k => bif isB d (bmAt l i) then nmB l i s k else k s) f m k s = f (s ++ namesQ l d k m)
  | 0, k, s, _, _ => by simp [upF, namesQ]
  | m + 1, k, s, hk, hs => by
    simp only [upF, nmB, namesQ]
    rw [List.range'_succ, List.filterMap_cons]
    cases h : isB d (bmAt l k) with
    | true =>
      have := names_walk (d := d) (f := f) hl m (k + 1) (s ++ [(bmAt l k).1]) (by omega) (by simp; omega)
      simp only [nmB] at this
      rw [cT, fitB_of (by omega), cT, this, List.append_assoc]
      rfl
    | false =>
      have := names_walk (d := d) (f := f) hl m (k + 1) s (by omega) (by omega)
      simp only [nmB] at this
      rw [cF, this]
      rfl
theorem namesQ_len (l : List Bm) (d : Int) (k m : Nat) : (namesQ l d k m).length ≤ m := by
  unfold namesQ
  exact Nat.le_trans (List.length_filterMap_le _ _) (by simp)

theorem under_ok (l : List Bm) (d : Int) : grid_Under l d = some (bif validG l then (bif inL d then (namesQ l d 0 l.length, 0, ()) else ([], 2, ())) else ([], 1, ())) := by
  simp only [grid_Under, grid_Under_b, gValid_ok, within_ok, obind_some']
  by_cases h : validG l = true
  case neg => simp only [Bool.eq_false_iff.2 h, Bool.not_false, cT, cF]
  case pos =>
    have hl := validG_len h
    simp only [h, Bool.not_true, cF, cT]
    by_cases hd : inL d = true
    case neg => simp only [Bool.eq_false_iff.2 hd, Bool.not_false, cT, cF]
    case pos =>
      have hn := cntB_le l d
      simp only [hd, Bool.not_true, cF, cT, overP_of (show l.length ≤ 1000000 by omega)]
      refine (lpK_nat (σ := List ByteArray × PUnit) (overL l d) ((0 : Int), ()) (by rw [overL_len]; omega) (fun a s k => bif inB a.1 l.length then bif fitB (s.1.length + 1) 16 then k (s.1 ++ [(l.getD a.1.toNat bm0).1], PUnit.unit) else none else none) (fun s => some (s.1, (0 : Int), PUnit.unit)) ?_ (fun again s => ?_) ([], PUnit.unit)).trans ?_
      · intro again i s hi
        rw [show Nat.ble (Nat.succ i) (overL l d).length = true from ble_of (by omega), cT]
      · rw [show Nat.ble (Nat.succ (overL l d).length) (overL l d).length = false by rw [Bool.eq_false_iff]; intro e; have := Nat.le_of_ble_eq_true e; omega, cF]
      · refine (overG_walk (l := l) (d := d) (b := fun a (s : List ByteArray × PUnit) k => bif inB a.1 l.length then bif fitB (s.1.length + 1) 16 then k (s.1 ++ [(l.getD a.1.toNat bm0).1], PUnit.unit) else none else none) (c := fun i _ s k => bif fitB (s.1.length + 1) 16 then k (s.1 ++ [(bmAt l i).1], PUnit.unit) else none) (fun i s k hi => by
          simp only [inB_nat, decide_eq_true hi, cT, Int.toNat_natCast]
          rfl) l.length 0 _ (by omega)).trans ?_
        have key : ∀ (m k : Nat) (s : List ByteArray), upF (fun i (s : List ByteArray × PUnit) k => bif isB d (bmAt l i) then (bif fitB (s.1.length + 1) 16 then k (s.1 ++ [(bmAt l i).1], PUnit.unit) else none) else k s) (fun s => some (s.1, (0 : Int), PUnit.unit)) m k (s, PUnit.unit) =
            upF (fun i s k => bif isB d (bmAt l i) then nmB l i s k else k s) (fun s => some (s, (0 : Int), PUnit.unit)) m k s := by
          intro m
          induction m with
          | zero => intro k s; rfl
          | succ m ih =>
            intro k s
            simp only [upF, nmB]
            cases isB d (bmAt l k) with
            | false => simp only [cF]; exact ih (k + 1) s
            | true =>
              simp only [cT]
              cases fitB (s.length + 1) 16 with
              | false => rfl
              | true => simp only [cT]; exact ih (k + 1) _
        rw [key, names_walk (by omega) l.length 0 [] (by omega) (by simp)]
        rfl

theorem equal18 (l : List ByteArray) (h : l.length ≤ 1000000) : slices_Equal_18 l l = some true := by
  simp only [slices_Equal_18, slices_Equal_18_b, decide_true, Bool.not_true, cF, str_beq]
  refine (lpK_int l ({ data := { toList := [] } } : ByteArray) (by omega) (fun i (_ : Unit) => (((i : Nat) : Int), PUnit.unit)) (fun _ s k => k s) (fun _ => some true) ?_ (fun again s => ?_) ()).trans ?_
  · intro again i _ hi
    have hw : IntKind.wrap .i64 ((i : Int) + 1) = ((i + 1 : Nat) : Int) := by rw [wrap_id (by omega) (by omega)]; rfl
    simp only [inB_nat, decide_eq_true hi, decide_eq_true (show (i : Int) < l.length by omega), cT, Int.toNat_natCast, hw]
  · simp only [decide_eq_false (show ¬ (l.length : Int) < l.length by omega), cF]
  · exact listF_fold (fun _ _ => ()) (fun _ _ _ _ => rfl)

theorem rightG_nil : rightG [] = true := rfl

theorem law4g (l : List Bm) (d : Int) : law19_GridForms l d = some true := by
  obtain ⟨b, hb⟩ := few_some l (ats := []) (by simp)
  simp only [law19_GridForms, law19_GridForms_b, awakeG_ok, hb, obind_some', under_ok, lgiven_ok, gValid_ok, gRefValid_ok, rightG_nil, Bool.and_true, not_or_self', or_self_not, Bool.and_self, cT, Bool.not_true, cF, decide_true]
  cases b with
  | false => rfl
  | true =>
    simp only [Bool.not_true, cF]
    by_cases h : validG l = true
    case neg => simp only [Bool.eq_false_iff.2 h, cF]; rfl
    case pos =>
      have hl := validG_len h
      by_cases hd : inL d = true
      case neg => simp only [h, Bool.eq_false_iff.2 hd, cT, cF]; rfl
      case pos =>
        simp only [h, hd, cT, decide_true, Bool.not_true, cF]
        refine (lpK_up l.length (by omega) (fun i (s : List ByteArray) => (s, ((i : Nat) : Int), PUnit.unit)) (fun i s k => bif isB d (bmAt l i) then nmB l i s k else k s) (fun s => slices_Equal_18 (namesQ l d 0 l.length) s) ?_ (fun again s => ?_) ([] : List ByteArray)).trans ?_
        · intro again i s hi
          have hw : IntKind.wrap .i64 ((i : Int) + 1) = ((i + 1 : Nat) : Int) := by rw [wrap_id (by omega) (by omega)]; rfl
          simp only [inB_nat, decide_eq_true hi, decide_eq_true (show (i : Int) < l.length by omega), cT, Int.toNat_natCast, hw, is_ok, obind_some', show List.getD l i bm0 = bmAt l i from rfl]
          rfl
        · simp only [decide_eq_false (show ¬ (l.length : Int) < l.length by omega), cF]
          cases slices_Equal_18 (namesQ l d 0 l.length) s with
          | none => rfl
          | some b => cases b <;> rfl
        · rw [names_walk (by omega) l.length 0 [] (by omega) (by simp)]
          exact equal18 _ (by have := namesQ_len l d 0 l.length; omega)

theorem law4 : ∀ x : TsS [.sl T40, i64], wfs [.sl T40, i64] x → law19_GridForms x.1 x.2.1 = some true := fun x _ => law4g x.1 x.2.1

end Go.Proofs.Ytpkphcnebkfjdaa

namespace Go.Proofs.Ytpkphcnebkfjdaa
open Try Dn Dn.Sh

theorem contains34 {f : ((Int × ByteArray) × Unit) → Option Bool} {p : (Int × ByteArray) → Bool} {l : List (Int × ByteArray)} (hl : l.length ≤ 1000000) (h : ∀ a, a ∈ l → f (a, ()) = some (p a)) : slices_ContainsFunc_34 l f = some (l.any p) := by
  simp only [slices_ContainsFunc_34, slices_ContainsFunc_34_b]
  unfold slices_IndexFunc_83 slices_IndexFunc_83_b
  rw [index_loop (f := f) (d := ((0 : Int), ({ data := { toList := [] } } : ByteArray))) hl h, obind_some', contains_of_idx]
theorem contains36 {s : ByteArray} {l : List ByteArray} (hl : l.length ≤ 1000000) : slices_Contains_36 l s = some (l.any fun a => decide (s = a)) := by
  simp only [slices_Contains_36, slices_Contains_36_b]
  unfold slices_Index_84 slices_Index_84_b
  simp only [str_beq]
  rw [find_loop (p := fun a => decide (s = a)) (d := ({ data := { toList := [] } } : ByteArray)) hl, obind_some', contains_of_idx]
theorem clone37 {l : List Ld} (h : l.length ≤ 1010) : slices_Clone_37 l = some l := by
  simp only [slices_Clone_37, slices_Clone_37_b]
  rw [fitB_of (by omega), cT]

theorem rlt_trans {a b c : Rat} (h : a < b) (h' : b < c) : a < c := by grind
theorem rlt_le {a b c : Rat} (h : a < b) (h' : b ≤ c) : a < c := by grind
theorem next_le (best : Option Rat) (y : Rat) : ∃ v, nextB best y = some v ∧ v ≤ y ∧ ∀ b0, best = some b0 → v ≤ b0 := by
  cases best with
  | none => exact ⟨y, rfl, Rat.le_refl, fun _ e => by cases e⟩
  | some b =>
    by_cases h : y < b
    · exact ⟨y, by unfold nextB; simp only [h, if_true], Rat.le_refl, fun b0 e => by injection e with e; subst e; exact Rat.le_of_lt h⟩
    · exact ⟨b, by unfold nextB; simp only [h, if_false], Rat.not_lt.1 h, fun b0 e => by injection e with e; subst e; exact Rat.le_refl⟩

/-- What the spare weight is: the least over the beams over the depth, and it is one of these. -/
theorem spareW_spec {l : List Bm} {S : Nat → Rat} {d : Int} : ∀ {m k : Nat} {best : Option Rat} {r : Fq}, spareW l S d m k best = some (r, 0, ()) → fitsO best →
    ∃ bo, r = bestF bo ∧ fitsO bo ∧ (∀ i, k ≤ i → i < k + m → isB d (bmAt l i) = true → ∃ b, bo = some b ∧ b ≤ spX l S i * (cntB l d : Int)) ∧ (∀ b0, best = some b0 → ∃ b, bo = some b ∧ b ≤ b0) ∧
      (bo = best ∨ ∃ i, k ≤ i ∧ i < k + m ∧ isB d (bmAt l i) = true ∧ bo = some (spX l S i * (cntB l d : Int)))
  | 0, k, best, r, h, hf => by
    have h : some (bestF best, (0 : Int), ()) = some (r, 0, ()) := h
    injection h with h
    injection h with h
    exact ⟨best, h.symm, hf, fun i h1 h2 => by omega, fun b0 e => ⟨b0, e, Rat.le_refl⟩, .inl rfl⟩
  | m + 1, k, best, r, h, hf => by
    have h : (bif isB d (bmAt l k) then spB l S (cntB l d) k best (spareW l S d m (k + 1)) else spareW l S d m (k + 1) best) = some (r, 0, ()) := h
    cases hb : isB d (bmAt l k) with
    | false =>
      rw [hb, cF] at h
      obtain ⟨bo, h1, h2, h3, h4, h5⟩ := spareW_spec h hf
      refine ⟨bo, h1, h2, fun i g1 g2 g3 => ?_, h4, ?_⟩
      · by_cases e : i = k
        · subst e; rw [hb] at g3; cases g3
        · exact h3 i (by omega) (by omega) g3
      · rcases h5 with h5 | ⟨i, g1, g2, g3⟩
        · exact .inl h5
        · exact .inr ⟨i, by omega, by omega, g3⟩
    | true =>
      rw [hb, cT] at h
      unfold spB at h
      split at h
      case isFalse => injection h with h; injection h with _ h; injection h with h _; cases h
      case isTrue g1 =>
        split at h
        case isFalse => injection h with h; injection h with _ h; injection h with h _; cases h
        case isTrue g2 =>
          obtain ⟨bo, h1, h2, h3, h4, h5⟩ := spareW_spec h (next_fits hf g2)
          obtain ⟨v, hv1, hv2, hv3⟩ := next_le best (spX l S k * ((cntB l d : Nat) : Int))
          obtain ⟨b, h6, h7⟩ := h4 _ hv1
          refine ⟨bo, h1, h2, fun i k1 k2 k3 => ?_, fun b0 e => ⟨b, h6, Rat.le_trans h7 (hv3 b0 e)⟩, ?_⟩
          · by_cases e : i = k
            · subst e; exact ⟨b, h6, Rat.le_trans h7 hv2⟩
            · exact h3 i (by omega) (by omega) k3
          · rcases h5 with h5 | ⟨i, k1, k2, k3⟩
            · unfold nextB at h5
              cases best with
              | none => exact .inr ⟨k, by omega, by omega, hb, h5⟩
              | some b0 =>
                simp only at h5
                split at h5
                · exact .inr ⟨k, by omega, by omega, hb, h5⟩
                · exact .inl h5
            · exact .inr ⟨i, by omega, by omega, k3⟩

theorem cmp_pos {p q : Rat} : cmpQ p q > 0 ↔ q < p := by
  unfold cmpQ
  by_cases h : p < q
  · rw [if_pos h]
    exact ⟨fun h' => by omega, fun h' => absurd (rlt_trans h h') Rat.lt_irrefl⟩
  · rw [if_neg h]
    by_cases h2 : p = q
    · rw [if_pos h2]
      exact ⟨fun h' => by omega, fun h' => by rw [h2] at h'; exact absurd h' Rat.lt_irrefl⟩
    · rw [if_neg h2]
      exact ⟨fun _ => Rat.lt_of_le_of_ne (Rat.not_lt.1 h) (Ne.symm h2), fun _ => by omega⟩

theorem over_mem {l : List Bm} {S : Nat → Rat} {y : Int × ByteArray} : y ∈ oversQ l S ↔ ∃ i, i < l.length ∧ ((bmAt l i).2.2.2 : Rat) < S i ∧ y = (1, (bmAt l i).1) := by
  unfold oversQ
  rw [List.mem_filterMap]
  constructor
  · rintro ⟨i, h1, h2⟩
    rw [List.mem_range'] at h1
    obtain ⟨j, h3, h4⟩ := h1
    split at h2
    · rename_i h5
      injection h2 with h2
      exact ⟨i, by omega, cmp_pos.1 h5, h2.symm⟩
    · cases h2
  · rintro ⟨i, h1, h2, h3⟩
    exact ⟨i, List.mem_range'.2 ⟨i, h1, by omega⟩, by rw [if_pos (cmp_pos.2 h2), h3]⟩
theorem names_mem {l : List Bm} {d : Int} {s : ByteArray} : s ∈ namesQ l d 0 l.length ↔ ∃ i, i < l.length ∧ isB d (bmAt l i) = true ∧ s = (bmAt l i).1 := by
  unfold namesQ
  rw [List.mem_filterMap]
  constructor
  · rintro ⟨i, h1, h2⟩
    rw [List.mem_range'] at h1
    obtain ⟨j, h3, h4⟩ := h1
    split at h2
    · rename_i h5
      injection h2 with h2
      exact ⟨i, by omega, h5, h2.symm⟩
    · cases h2
  · rintro ⟨i, h1, h2, h3⟩
    exact ⟨i, List.mem_range'.2 ⟨i, h1, by omega⟩, by rw [if_pos h2, h3]⟩
/-- No two beams have one name. -/
theorem name_inj {l : List Bm} (h : validG l = true) {i j : Nat} (hi : i < j) (hj : j < l.length) (e : (bmAt l i).1 = (bmAt l j).1) : False := by
  simp only [validG, Bool.and_eq_true, List.all_eq_true] at h
  have h1 := h.2 j (List.mem_range'.2 ⟨j, hj, by omega⟩)
  simp only [beamB, Bool.and_eq_true, decide_eq_true_eq] at h1
  have h2 := (idxI_neg (p := fun a : Bm => decide (a.1 = (bmAt l j).1)) (l := l.take j) (i := 0) (by omega)).1 h1.2.2.2 (bmAt l i) (by
    have : bmAt l i = l[i] := getD_nat (by omega)
    rw [this, List.mem_take_iff_getElem]
    exact ⟨i, by omega, rfl⟩)
  rw [e, decide_eq_true rfl] at h2
  cases h2

/-- A beam that is overloaded and over the depth. -/
theorem both_any {l : List Bm} {S : Nat → Rat} {d : Int} {i : Nat} (hi : i < l.length) (h1 : ((bmAt l i).2.2.2 : Rat) < S i) (h2 : isB d (bmAt l i) = true) : ((oversQ l S).any fun y => (namesQ l d 0 l.length).any fun a => decide (y.2 = a)) = true := by
  rw [List.any_eq_true]
  refine ⟨_, over_mem.2 ⟨i, hi, h1, rfl⟩, ?_⟩
  rw [List.any_eq_true]
  exact ⟨_, names_mem.2 ⟨i, hi, h2, rfl⟩, decide_eq_true rfl⟩
theorem both_none {l : List Bm} {S : Nat → Rat} {d : Int} (hv : validG l = true) (h : ∀ i, i < l.length → isB d (bmAt l i) = true → S i ≤ ((bmAt l i).2.2.2 : Rat)) : ((oversQ l S).any fun y => (namesQ l d 0 l.length).any fun a => decide (y.2 = a)) = false := by
  rw [List.any_eq_false]
  intro y hy
  rw [Bool.not_eq_true, List.any_eq_false]
  intro a ha
  rw [Bool.not_eq_true]
  apply decide_eq_false
  obtain ⟨i, h1, h2, rfl⟩ := over_mem.1 hy
  obtain ⟨j, h3, h4, rfl⟩ := names_mem.1 ha
  intro e
  have e : (bmAt l i).1 = (bmAt l j).1 := e
  rcases Nat.lt_trichotomy i j with h5 | h5 | h5
  · exact name_inj hv h5 h3 e
  · subst h5
    exact Rat.lt_irrefl (rlt_le h2 (h i h1 h4))
  · exact name_inj hv h5 h1 e.symm
theorem over_eq {l : List Bm} {S T : Nat → Rat} {d : Int} (h1 : ∀ i, i < l.length → isB d (bmAt l i) = true → S i ≤ ((bmAt l i).2.2.2 : Rat) ∧ T i ≤ ((bmAt l i).2.2.2 : Rat)) (h2 : ∀ i, isB d (bmAt l i) = false → S i = T i) : oversQ l S = oversQ l T := by
  unfold oversQ
  have gen : ∀ (L : List Nat) (f g : Nat → Option (Int × ByteArray)), (∀ i ∈ L, f i = g i) → L.filterMap f = L.filterMap g := by
    intro L f g h
    induction L with
    | nil => rfl
    | cons a L ih => rw [List.filterMap_cons, List.filterMap_cons, h a (by simp), ih fun i hi => h i (by simp [hi])]
  apply gen
  intro i hi
  rw [List.mem_range'] at hi
  obtain ⟨j, h3, h4⟩ := hi
  cases hb : isB d (bmAt l i) with
  | false => rw [h2 i hb]
  | true =>
    have := h1 i (by omega) hb
    rw [if_neg fun h => Rat.lt_irrefl (rlt_le (cmp_pos.1 h) this.1), if_neg fun h => Rat.lt_irrefl (rlt_le (cmp_pos.1 h) this.2)]

/-- The overloaded beams with one more load. -/
theorem over_more {l : List Bm} {at_ : List Ld} {S : Nat → Rat} {d w : Int} (hv : validG l = true) (hr : rightG at_ = true) (hn : noneB l at_ = false) (hq : runQ l at_ (fun _ => 0) = some S) (h29 : at_.length ≤ 29) (hd : inL d = true) (hc : cntB l d ≠ 0) (hw : inW w = true) :
    overQ l (at_ ++ [(d, w)]) = if allFit l.length (stepQ l (d, w) S) then (oversQ l (stepQ l (d, w) S), 0, ()) else ([], 5, ()) := by
  have r2 : rightG (at_ ++ [(d, w)]) = true := by
    simp only [rightG, Bool.and_eq_true, decide_eq_true_eq, List.all_append, List.length_append, List.length_singleton] at hr ⊢
    refine ⟨by omega, hr.2, ?_⟩
    simp [loadB, hd, hw]
  have n2 : noneB l (at_ ++ [(d, w)]) = false := by
    unfold noneB at hn ⊢
    rw [List.any_append, hn]
    simp [hc]
  unfold overQ
  rw [hv, r2, n2, run_append, hq]
  simp only [Bool.and_self, cT, Bool.false_eq_true, if_false, Option.bind_some, runQ]
  by_cases hf : allFit l.length (stepQ l (d, w) S) = true
  · rw [if_pos hf, if_pos hf]
  · rw [if_neg hf, if_neg hf]

theorem law8g (l : List Bm) (at_ : List Ld) (d : Int) : law19_GridBears l at_ d = some true := by
  obtain ⟨b, hb⟩ := few_some l (ats := [at_]) (by simp)
  simp only [law19_GridBears, law19_GridBears_b, awakeG_ok, hb, obind_some', spare_ok, over_ok', under_ok, Bool.not_true, Bool.not_not, cF, not_or_self', or_self_not, Bool.and_self, cT]
  cases b with
  | false => simp only [Bool.not_false, cT]
  | true =>
    simp only [Bool.not_true, cF]
    by_cases h29 : ((at_.length : Nat) : Int) > 29
    case pos => rw [decide_eq_true h29, cT]
    case neg =>
      rw [decide_eq_false h29, cF]
      by_cases hv : (validG l && rightG at_) = true
      case neg => simp only [Bool.eq_false_iff.2 hv, cF]; rfl
      case pos =>
        by_cases hd : inL d = true
        case neg => simp only [hv, Bool.eq_false_iff.2 hd, cF, cT]; rfl
        case pos =>
          simp only [hv, hd, cT]
          rw [Bool.and_eq_true] at hv
          unfold spareQ
          by_cases hc : cntB l d = 0 ∨ noneB l at_ = true
          case pos => rw [if_pos hc]; rfl
          case neg =>
            rw [if_neg hc]
            have hc1 : cntB l d ≠ 0 := fun e => hc (.inl e)
            have hn : noneB l at_ = false := Bool.eq_false_iff.2 fun e => hc (.inr e)
            cases hq : runQ l at_ (fun _ => 0) with
            | none => rfl
            | some S =>
              obtain ⟨⟨sr, se, su⟩, hs⟩ := spare_some l S d l.length 0 none
              simp only [hs, Option.getD_some]
              by_cases hse : se = 0
              case neg =>
                rw [decide_eq_false hse, Bool.not_false, cT]
                have : sr = ((0 : Int), (0 : Int)) := by
                  have gen : ∀ (m k : Nat) (best : Option Rat) (r : Fq) (e : Int), spareW l S d m k best = some (r, e, ()) → e ≠ 0 → r = ((0 : Int), (0 : Int)) := by
                    intro m
                    induction m with
                    | zero =>
                      intro k best r e h he
                      have h : some (bestF best, (0 : Int), ()) = some (r, e, ()) := h
                      injection h with h; injection h with _ h; injection h with h _
                      exact absurd h.symm he
                    | succ m ih =>
                      intro k best r e h he
                      have h : (bif isB d (bmAt l k) then spB l S (cntB l d) k best (spareW l S d m (k + 1)) else spareW l S d m (k + 1) best) = some (r, e, ()) := h
                      cases hb : isB d (bmAt l k) with
                      | false => rw [hb, cF] at h; exact ih _ _ _ _ h he
                      | true =>
                        rw [hb, cT] at h
                        unfold spB at h
                        split at h
                        · split at h
                          · exact ih _ _ _ _ h he
                          · injection h with h; injection h with h; exact h.symm
                        · injection h with h; injection h with h; exact h.symm
                  exact gen _ _ _ _ _ hs hse
                rw [this]
                rfl
              case pos =>
                subst hse
                have hS := run_fits (fun _ _ => by show fitsQ 0; decide) hq
                have hl := validG_len hv.1
                have hcle := cntB_le l d
                obtain ⟨bo, e1, e2, e3, _, e5⟩ := spareW_spec hs trivial
                -- the beam with the least
                obtain ⟨i0, hi0, hb0, x, hx, hxe⟩ : ∃ i, i < l.length ∧ isB d (bmAt l i) = true ∧ ∃ x, bo = some x ∧ x = spX l S i * (cntB l d : Int) := by
                  rcases e5 with e5 | ⟨i, g1, g2, g3, g4⟩
                  · exfalso
                    have : ∃ i, i < l.length ∧ isB d (bmAt l i) = true := by
                      obtain ⟨a, ha⟩ := List.exists_mem_of_length_pos (l := l.filter (isB d)) (by have : (l.filter (isB d)).length ≠ 0 := hc1; omega)
                      rw [List.mem_filter] at ha
                      obtain ⟨i, hi, rfl⟩ := List.getElem_of_mem ha.1
                      exact ⟨i, hi, by rw [show bmAt l i = l[i] from getD_nat hi]; exact ha.2⟩
                    obtain ⟨i, h1, h2⟩ := this
                    obtain ⟨b, h3, _⟩ := e3 i (by omega) (by omega) h2
                    rw [e5] at h3; cases h3
                  · exact ⟨i, by omega, g3, _, g4, rfl⟩
                subst hx
                have hfx : fitsQ x := e2
                have hmin : ∀ i, i < l.length → isB d (bmAt l i) = true → x ≤ spX l S i * (cntB l d : Int) := fun i h1 h2 => by
                  obtain ⟨b, h3, h4⟩ := e3 i (by omega) (by omega) h2
                  injection h3 with h3
                  rw [h3]; exact h4
                have hcp : (0 : Rat) < (cntB l d : Int) := by
                  have : (0 : Int) < (cntB l d : Int) := by omega
                  exact_mod_cast this
                subst e1
                simp only [bestF, decide_true, Bool.not_true, cF]
                have ho : overQ l at_ = (oversQ l S, 0, ()) := by
                  unfold overQ
                  rw [hv.1, hv.2, hn, hq]
                  rfl
                have hnm : (namesQ l d 0 l.length).length ≠ 0 := by
                  have := names_mem.2 ⟨i0, hi0, hb0, rfl⟩
                  intro e
                  rw [List.eq_nil_of_length_eq_zero e] at this
                  cases this
                have hnl := namesQ_len l d 0 l.length
                rw [ho]
                simp only [hv.1, cT, decide_true, Bool.not_true, cF]
                rw [decide_eq_false (show ¬ (((namesQ l d 0 l.length).length : Nat) : Int) = 0 by omega), cF, Floor_ok (okF_prQ hfx), obind_some', qv_prQ]
                simp only [decide_true, Bool.not_true, Bool.not_false, cF, cT, Bool.or_false, Bool.false_or, Bool.or_true, Bool.true_or]
                have hg1 : ∀ y : Int × ByteArray, law19_GridBears_1 y (namesQ l d 0 l.length) = some ((namesQ l d 0 l.length).any fun a => decide (y.2 = a)) := fun y => by
                  simp only [law19_GridBears_1, law19_GridBears_1_b, contains36 (show (namesQ l d 0 l.length).length ≤ 1000000 by omega), obind_some']
                have hg2 : ∀ y : Int × ByteArray, law19_GridBears_2 y (namesQ l d 0 l.length) = some ((namesQ l d 0 l.length).any fun a => decide (y.2 = a)) := fun y => by
                  simp only [law19_GridBears_2, law19_GridBears_2_b, contains36 (show (namesQ l d 0 l.length).length ≤ 1000000 by omega), obind_some']
                have hg3 : ∀ y : Int × ByteArray, law19_GridBears_3 y (namesQ l d 0 l.length) = some ((namesQ l d 0 l.length).any fun a => decide (y.2 = a)) := fun y => by
                  simp only [law19_GridBears_3, law19_GridBears_3_b, contains36 (show (namesQ l d 0 l.length).length ≤ 1000000 by omega), obind_some']
                by_cases hbig : x.floor ≥ 67108864
                case pos => rw [decide_eq_true hbig, cT]
                case neg =>
                  rw [decide_eq_false hbig, cF]
                  have hox : ∀ T, (oversQ l T).length ≤ 1000000 := fun T => by have := oversQ_len l T; omega
                  by_cases hneg : x.floor < 0
                  case pos =>
                    rw [decide_eq_true hneg, cT, contains34 (hox S) (fun a _ => hg1 a), obind_some']
                    have hx0 : x < ((0 : Int) : Rat) := Rat.floor_lt_iff.1 hneg
                    rw [hxe] at hx0
                    have : spX l S i0 < 0 := by
                      rcases (Rat.le_total : 0 ≤ spX l S i0 ∨ _) with h | h
                      · exact absurd (rlt_le hx0 (by have := Rat.mul_nonneg h (Rat.le_of_lt hcp); simpa using this)) Rat.lt_irrefl
                      · exact Rat.lt_of_le_of_ne h fun e => by rw [e] at hx0; simp [Rat.zero_mul] at hx0
                    unfold spX at this
                    rw [both_any hi0 (by grind) hb0]
                  case neg =>
                    rw [decide_eq_false hneg, cF, clone37 (show at_.length ≤ 1010 by omega), obind_some', fitB_of (by omega), cT, obind_some']
                    have hw1 : IntKind.wrap .i64 (x.floor + 1) = x.floor + 1 := wrap_id (by omega) (by omega)
                    rw [hw1, over_more hv.1 hv.2 hn hq (by omega) hd hc1 (by simp only [inW, decide_eq_true_eq]; omega), over_more hv.1 hv.2 hn hq (by omega) hd hc1 (by simp only [inW, decide_eq_true_eq]; omega)]
                    by_cases hf1 : allFit l.length (stepQ l (d, x.floor) S) = true
                    case neg =>
                      rw [if_neg hf1, fitB_of (by omega), cT]
                      split <;> rfl
                    case pos =>
                      rw [if_pos hf1]
                      by_cases hf2 : allFit l.length (stepQ l (d, x.floor + 1) S) = true
                      case neg => rw [if_neg hf2, fitB_of (by omega), cT]; rfl
                      case pos =>
                        rw [if_pos hf2, fitB_of (by omega), cT]
                        have hs1 := share_all (l := l) (x := (d, x.floor)) hc1
                        have hs2 := share_all (l := l) (x := (d, x.floor + 1)) hc1
                        have hfl := Rat.floor_le x
                        have hlf := Rat.lt_floor_add_one x
                        have hnn : (0 : Rat) ≤ ((x.floor : Int) : Rat) := by
                          have : (0 : Int) ≤ x.floor := by omega
                          exact_mod_cast this
                        have le1 : ∀ i, i < l.length → isB d (bmAt l i) = true → stepQ l (d, x.floor) S i ≤ ((bmAt l i).2.2.2 : Rat) ∧ S i ≤ ((bmAt l i).2.2.2 : Rat) := fun i h1 h2 => by
                          have h3 := hmin i h1 h2
                          have hp : stepQ l (d, x.floor) S i = S i + shareQ l (d, x.floor) := by unfold stepQ; rw [if_pos h2]
                          rw [hp]
                          unfold spX at h3
                          have g1 : shareQ l (d, x.floor) ≤ ((bmAt l i).2.2.2 : Rat) - S i := by
                            apply Rat.le_of_mul_le_mul_right (c := ((cntB l d : Int) : Rat)) _ hcp
                            grind
                          have g2 : 0 ≤ ((bmAt l i).2.2.2 : Rat) - S i := by
                            apply Rat.le_of_mul_le_mul_right (c := ((cntB l d : Int) : Rat)) _ hcp
                            grind
                          constructor <;> grind
                        have heq : oversQ l (stepQ l (d, x.floor) S) = oversQ l S := over_eq le1 fun i h => by
                          unfold stepQ
                          rw [if_neg (by rw [h]; decide)]
                        rw [heq, equal25 _ (hox S), obind_some']
                        simp only [cT, Bool.not_true, Bool.or_true, Bool.and_self, decide_true, cF, Bool.not_false, Bool.true_or]
                        rw [contains34 (hox S) (fun a _ => hg2 a), obind_some', both_none hv.1 (fun i h1 h2 => (le1 i h1 h2).2)]
                        simp only [cT, Bool.not_true, Bool.or_true, Bool.and_self, decide_true, cF, Bool.not_false, Bool.true_or, Bool.or_false]
                        rw [contains34 (hox _) (fun a _ => hg3 a), obind_some']
                        have : ((bmAt l i0).2.2.2 : Rat) < stepQ l (d, x.floor + 1) S i0 := by
                          have hp : stepQ l (d, x.floor + 1) S i0 = S i0 + shareQ l (d, x.floor + 1) := by unfold stepQ; rw [if_pos hb0]
                          rw [hp]
                          unfold spX at hxe
                          have g1 : ((bmAt l i0).2.2.2 : Rat) - S i0 < shareQ l (d, x.floor + 1) := by
                            apply Rat.lt_of_mul_lt_mul_right (c := ((cntB l d : Int) : Rat)) _ (Rat.le_of_lt hcp)
                            grind
                          grind
                        rw [both_any hi0 this hb0]

theorem law8 : ∀ x : TsS [.sl T40, .sl T60, i64], wfs [.sl T40, .sl T60, i64] x → law19_GridBears x.1 x.2.1 x.2.2.1 = some true := fun x _ => law8g x.1 x.2.1 x.2.2.1

end Go.Proofs.Ytpkphcnebkfjdaa
