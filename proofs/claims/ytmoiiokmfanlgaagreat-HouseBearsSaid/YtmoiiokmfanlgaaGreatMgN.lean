/- Houses: what the sets load. Beams over a depth: how many, which. Fractions: rational numbers, and the pairs of numbers that stand for them. Fractions: what 'Make', 'Valid', 'Mul', 'Floor', 'Ceil' of package ratio answer. Fractions: products of two words, 'Mul', 'Floor', 'Ceil' of package ratio. Fractions of the reference: numbers of two words, their greatest common divisors and quotients. Fractions of the reference: 'Div', 'Made', 'Make', 'Times', 'Floor', 'Ceil'. Numbers of 128 bits: sums, differences, comparisons; the length of a number. The quotient of a number of 128 bits by one of 64. Fractions: 'Add' of package ratio. Fractions: 'Add', 'Valid', 'All' of the reference. Fractions: 'Sub' and 'Cmp' of both. What beams bear: the program's walk. What beams bear: the program's walk comes to the sums. What beams bear: the program's answer. What beams bear: the reference's answer. Beams and loads: what is wrong with them; Loads, Over. Houses: 'HouseLoads'. Houses: the reference's Loads; the law 'HouseLoads'. Houses: the law 'HouseLoads'. The spare weight at a depth: both programs' answer. Laws on beams: 'GridSpares', 'GridLoads'. Laws on beams: 'GridSums'. Houses: the law 'HouseBears'. -/
import Derived.Test.YtmoiiokmfanlgaaGreatMgM

namespace Go.Proofs.YtmoiiokmfanlgaaGreat
open Tryz Dn Dn.Sh

/-- A walk that answers at a place with a property, and else adds to a list. -/
theorem upF_app {α R : Type} {f : List α → Option R} {g : Nat → α} {c : Nat → Bool} {r : Option R} {n w : Nat} (hn : n ≤ 1000000) (hw : w ≤ 1000) {b : Nat → List α → (List α → Option R) → Option R}
    (hb : ∀ i s k, i < n → b i s k = bif c i then r else bif fitB (s.length + 1) w then k (s ++ [g i]) else none) : ∀ (k i : Nat) (s : List α), i + k ≤ n → s.length ≤ i → upF b f k i s = bif (List.range' i k).any c then r else f (s ++ (List.range' i k).map g)
  | 0, i, s, _, _ => by simp [upF]
  | k + 1, i, s, h, hs => by
    simp only [upF, hb i s _ (by omega), List.range'_succ, List.any_cons, List.map_cons]
    cases hc : c i with
    | true => rfl
    | false =>
      have : (s.length + 1) * w ≤ 1000001 * 1000 := Nat.mul_le_mul (by omega) hw
      rw [fitB_of (by omega), cT, cF, upF_app hn hw hb k (i + 1) (s ++ [g i]) (by omega) (by rw [List.length_append, List.length_singleton]; omega), Bool.false_or, List.append_assoc]
      rfl

theorem upF_foldl {α σ R : Type} {d : α} {l : List α} {f : σ → Option R} {g : σ → α → σ} {b : Nat → σ → (σ → Option R) → Option R} (hb : ∀ i s k, i < l.length → b i s k = k (g s (l.getD i d))) (s : σ) : upF b f l.length 0 s = f (l.foldl g s) := by
  rw [upF_chk (q := fun _ => true) (g := fun i s => g s (l.getD i d)) (r := none) l.length (fun i s k h => hb i s k h) l.length 0 s (by omega), range_fold (g := g) (d := d) l.length 0 s (by omega), List.drop_zero]
  rw [show (List.range' 0 l.length).all (fun _ => true) = true from List.all_eq_true.2 fun _ _ => rfl, cT]

/-! ### The weight of a set, and of its bricks -/

def wPipe (s : HS) : Int := IntKind.wrap .i64 (s.2.2.2.2.2.2.1 * IntKind.wrap .i64 (Int.tdiv s.2.2.2.2.1 1000))
def addI (a : Int) (x : Itm) : Int := IntKind.wrap .i64 (a + x.2.2.2.1)
def weightI (s : HS) : Int := s.2.2.2.2.2.2.2.2.2.2.2.1.foldl addI (wPipe s)
theorem pipeA_ok (s : HS) : batten_pipe s = some (wPipe s) := by simp only [batten_pipe, batten_pipe_b, wPipe]
theorem weightA_ok (s : HS) (hl : s.2.2.2.2.2.2.2.2.2.2.2.1.length ≤ 1000000) : batten_weight s = some (weightI s) := by
  obtain ⟨nm, dp, lo, hi, len, ls, pi, ar, pu, mo, br, l, bs⟩ := s
  simp only at hl
  simp only [batten_weight, batten_weight_b, pipeA_ok, obind_some', weightI]
  generalize wPipe (nm, dp, lo, hi, len, ls, pi, ar, pu, mo, br, l, bs) = a0
  refine (lpK_up (α := Int × Int × PUnit) l.length (by omega) (fun i (s : Int) => (s, (i : Int), PUnit.unit)) (fun i s k => k (addI s (l.getD i itm0))) (fun s => some s) ?_ ?_ _).trans ?_
  · intro again i s hi
    have hw : IntKind.wrap .i64 ((i : Int) + 1) = ((i + 1 : Nat) : Int) := by rw [wrap_id (by omega) (by omega)]; rfl
    simp only [inB_nat, decide_eq_true hi, decide_eq_true (show (i : Int) < l.length by omega), cT, Int.toNat_natCast, hw]
    rfl
  · intro again s
    simp only [decide_eq_false (show ¬ (l.length : Int) < l.length by omega), cF]
  · exact upF_foldl (g := addI) (d := itm0) (fun _ _ _ _ => rfl) _
def addBk (a : Int) (b : Brk) : Int := IntKind.wrap .i64 (a + IntKind.wrap .i64 (b.2.1 * b.2.2))
def sumI (l : List Brk) : Int := l.foldl addBk 0
def cntsB (l : List Brk) : List Int := l.map fun b => b.2.2
theorem cnts_at (l : List Brk) (i : Nat) (h : i < l.length) : (cntsB l).getD i 0 = (l.getD i brk0).2.2 := by
  rw [getD_nat (by unfold cntsB; rw [List.length_map]; exact h), getD_nat h]
  unfold cntsB
  rw [List.getElem_map]
theorem range_map {α β : Type} {d : α} {g : α → β} {l : List α} : (List.range' 0 l.length).map (fun i => g (l.getD i d)) = l.map g := by
  apply List.ext_getElem
  · simp
  · intro i h1 h2
    simp only [List.length_map, List.length_range'] at h1
    rw [List.getElem_map, List.getElem_map, List.getElem_range', Nat.one_mul, Nat.zero_add, getD_nat h1]
theorem arborValid_ok (l : List Brk) : arbor_Valid l = some (bricksB l) := by
  simp only [arbor_Valid, arbor_Valid_b, bricksB]
  by_cases h0 : l.length ≤ 8
  · rw [decide_eq_false (show ¬ ((l.length : Nat) : Int) > 8 by omega), decide_eq_true h0]
    simp only [cF, Bool.true_and]
    refine (lpK_up (α := Int × Int × PUnit) l.length (by omega) (fun i (s : Int) => (s, (i : Int), PUnit.unit)) (fun i s k => bif brickB (l.getD i brk0) && earlyN (fun a b => decide (a.1 = b.1)) brk0 l i then k (addW s (l.getD i brk0)) else some false) (fun s => some (decide (s ≤ 60))) ?_ ?_ 0).trans ?_
    · intro again i s hi
      have hw : IntKind.wrap .i64 ((i : Int) + 1) = ((i + 1 : Nat) : Int) := by rw [wrap_id (by omega) (by omega)]; rfl
      have hs : slB (0 : Int) (i : Int) l.length = true := slB_of (by omega) (by omega) (by omega)
      have hc : slices_ContainsFunc_104 (List.drop 0 (List.take i l)) (fun x => arbor_Valid_1 x.1 (l.getD i brk0)) = some ((l.take i).any fun a => decide (a.1 = (l.getD i brk0).1)) :=
        containsB (l := List.drop 0 (List.take i l)) (by rw [List.drop_zero, List.length_take]; omega) fun a _ => by
          simp only [arbor_Valid_1, arbor_Valid_1_b, str_beq]
      simp only [inB_nat, decide_eq_true hi, decide_eq_true (show (i : Int) < l.length by omega), cT, Int.toNat_natCast, hw, show List.getD l i ({ data := { toList := [] } }, (0 : Int), (0 : Int)) = l.getD i brk0 from rfl, isName_ok, obind_some', hs, hc]
      unfold earlyN brickB btw addW
      generalize (l.take i).any (fun a => decide (a.1 = (l.getD i brk0).1)) = q
      generalize l.getD i brk0 = b
      cases nameB b.1 with
      | false => rfl
      | true =>
        by_cases g1 : b.2.1 < 1
        · rw [decide_eq_true g1, decide_eq_false (show ¬ 1 ≤ b.2.1 by omega)]; rfl
        · rw [decide_eq_false g1, decide_eq_true (show 1 ≤ b.2.1 by omega)]
          by_cases g2 : b.2.1 > 1048576
          · rw [decide_eq_true g2, decide_eq_false (show ¬ b.2.1 ≤ 1048576 by omega)]; rfl
          · rw [decide_eq_false g2, decide_eq_true (show b.2.1 ≤ 1048576 by omega)]
            by_cases g3 : b.2.2 < 0
            · rw [decide_eq_true g3, decide_eq_false (show ¬ 0 ≤ b.2.2 by omega)]; rfl
            · rw [decide_eq_false g3, decide_eq_true (show 0 ≤ b.2.2 by omega)]
              by_cases g4 : b.2.2 > 60
              · rw [decide_eq_true g4, decide_eq_false (show ¬ b.2.2 ≤ 60 by omega)]; rfl
              · rw [decide_eq_false g4, decide_eq_true (show b.2.2 ≤ 60 by omega)]
                cases q <;> rfl
    · intro again s
      simp only [decide_eq_false (show ¬ (l.length : Int) < l.length by omega), cF]
    · rw [upF_chk (q := fun i => brickB (l.getD i brk0) && earlyN (fun a b => decide (a.1 = b.1)) brk0 l i) (g := fun i s => addW s (l.getD i brk0)) (r := some false) l.length (fun i s k _ => rfl) l.length 0 0 (by omega), all_and, all_range, early_nodup (f := fun x : Brk => x.1), range_fold (g := addW) (d := brk0) l.length 0 0 (by omega), List.drop_zero]
      cases l.all brickB <;> cases nodupB (l.map fun x => x.1) <;> rfl
  · rw [decide_eq_true (show ((l.length : Nat) : Int) > 8 by omega), decide_eq_false h0]
    rfl

theorem bricks_all {l : List Brk} (h : bricksB l = true) : l.length ≤ 8 ∧ ∀ b ∈ l, 1 ≤ b.2.1 ∧ b.2.1 ≤ 1048576 ∧ 0 ≤ b.2.2 ∧ b.2.2 ≤ 60 := by
  unfold bricksB at h
  rw [Bool.and_eq_true, Bool.and_eq_true, decide_eq_true_iff, List.all_eq_true] at h
  refine ⟨h.1, fun b hb => ?_⟩
  have := h.2.1 b hb
  unfold brickB btw at this
  simp only [Bool.and_eq_true, decide_eq_true_iff] at this
  omega

theorem arborWeight_ok {l : List Brk} (h : bricksB l = true) : arbor_Weight l (cntsB l) = some (sumI l, 0, ()) := by
  have hc : (cntsB l).length = l.length := by unfold cntsB; rw [List.length_map]
  obtain ⟨h1, h2⟩ := bricks_all h
  simp only [arbor_Weight, arbor_Weight_b, arborValid_ok, h, obind_some', hc, decide_true, Bool.not_true, cF]
  refine (lpK_up (α := Int × Int × PUnit) l.length (by omega) (fun i (s : Int) => (s, (i : Int), PUnit.unit)) (fun i s k => k (addBk s (l.getD i brk0))) (fun s => some (s, 0, ())) ?_ ?_ 0).trans ?_
  · intro again i s hi
    have hw : IntKind.wrap .i64 ((i : Int) + 1) = ((i + 1 : Nat) : Int) := by rw [wrap_id (by omega) (by omega)]; rfl
    have hm := h2 (l.getD i brk0) (by rw [getD_nat hi]; exact List.getElem_mem _)
    simp only [inB_nat, decide_eq_true hi, decide_eq_true (show (i : Int) < l.length by omega), cT, Int.toNat_natCast, hw, cnts_at l i hi, show List.getD l i ({ data := { toList := [] } }, (0 : Int), (0 : Int)) = l.getD i brk0 from rfl, decide_eq_false (show ¬ (l.getD i brk0).2.2 < 0 by omega), decide_eq_false (show ¬ (l.getD i brk0).2.2 > (l.getD i brk0).2.2 by omega)]
    simp only [Bool.not_true, Bool.not_false, Bool.or_true, Bool.true_or, Bool.or_false, Bool.false_or, Bool.and_self, cT, cF]
    unfold addBk
    rw [Int.mul_comm]
  · intro again s
    simp only [decide_eq_false (show ¬ (l.length : Int) < l.length by omega), cF]
  · exact upF_foldl (g := addBk) (d := brk0) (fun _ _ _ _ => rfl) _

end Go.Proofs.YtmoiiokmfanlgaaGreat

namespace Go.Proofs.YtmoiiokmfanlgaaGreat
open Tryz Dn Dn.Sh

def isB (d : Int) (b : Bm) : Bool := decide (b.2.1 ≤ d) && decide (d ≤ b.2.2.1)
def cntB (l : List Bm) (d : Int) : Nat := (l.filter (isB d)).length

theorem overG_cons' (d : Int) (b : Bm) (r : List Bm) (i : Int) : overG d (b :: r) i = bif isB d b then (i, ()) :: overG d r (i + 1) else overG d r (i + 1) := rfl
theorem overG_len (d : Int) : ∀ (r : List Bm) (i : Int), (overG d r i).length = cntB r d
  | [], _ => rfl
  | b :: r, i => by
    rw [overG_cons']
    unfold cntB
    rw [List.filter_cons]
    cases isB d b with
    | true => simp only [cond_true, List.length_cons, if_true]; rw [overG_len d r (i + 1)]; rfl
    | false => simp only [cond_false, Bool.false_eq_true, if_false]; rw [overG_len d r (i + 1)]; rfl
theorem overL_len (l : List Bm) (d : Int) : (overL l d).length = cntB l d := overG_len d l 0
theorem cntB_le (l : List Bm) (d : Int) : cntB l d ≤ l.length := List.length_filter_le _ _

/-- What a walk over the places of the beams over a depth sees: these beams, in order. -/
theorem overG_walk {σ R : Type} {d : Int} {l : List Bm} {b : Int × Unit → σ → (σ → Option R) → Option R} {c : Nat → Bm → σ → (σ → Option R) → Option R} {f : σ → Option R} (h : ∀ i s k, i < l.length → b ((i : Int), ()) s k = c i (bmAt l i) s k) :
    ∀ (n k : Nat) (s : σ), k + n = l.length → listF b f (overG d (l.drop k) k) s = upF (fun i s k => bif isB d (bmAt l i) then c i (bmAt l i) s k else k s) f n k s
  | 0, k, s, hk => by
    rw [List.drop_of_length_le (by omega)]
    rfl
  | n + 1, k, s, hk => by
    have hk' : k < l.length := by omega
    rw [List.drop_eq_getElem_cons hk', overG_cons']
    have e : l[k] = bmAt l k := (getD_nat hk').symm
    rw [e]
    simp only [upF]
    have ih := fun s' => overG_walk (d := d) (f := f) h n (k + 1) s' (by omega)
    cases isB d (bmAt l k) with
    | false => rw [cond_false, cond_false]; exact ih s
    | true =>
      rw [cond_true, cond_true]
      simp only [listF]
      rw [h k s _ hk']
      congr 1
      funext s'
      exact ih s'

theorem overP_of {l : List Bm} (h : l.length ≤ 1000000) : overP l = true := ble_of (by omega)

theorem count_ok {l : List Bm} (h : l.length ≤ 1000000) (d : Int) : grid_beams_count l d = some (cntB l d : Int) := by
  simp only [grid_beams_count, grid_beams_count_b]
  rw [overP_of h, cT]
  have hle := cntB_le l d
  refine (lpK_nat (overL l d) ((0 : Int), ()) (by rw [overL_len]; omega) (fun (_ : Int × Unit) (s : Int × PUnit) k => k (IntKind.wrap .i64 (s.1 + 1), PUnit.unit)) (fun s => some s.1) ?_ ?_ ((0 : Int), PUnit.unit)).trans ?_
  · intro again i s hi
    rw [show Nat.ble (Nat.succ i) (overL l d).length = true from ble_of (by omega), cT]
  · intro again s
    rw [show Nat.ble (Nat.succ (overL l d).length) (overL l d).length = false by rw [Bool.eq_false_iff]; intro e; have := Nat.le_of_ble_eq_true e; omega, cF]
  · have key : ∀ (L : List (Int × Unit)) (n : Nat), n + L.length ≤ 1000000 → listF (fun (_ : Int × Unit) (s : Int × PUnit) (k : Int × PUnit → Option Int) => k (IntKind.wrap .i64 (s.1 + 1), PUnit.unit)) (fun s => some s.1) L ((n : Int), PUnit.unit) = some ((n + L.length : Nat) : Int) := by
      intro L
      induction L with
      | nil => intro n _; rfl
      | cons a L ih =>
        intro n hn
        simp only [List.length_cons] at hn
        simp only [listF]
        rw [wrap_id (by omega) (by omega)]
        have := ih (n + 1) (by omega)
        rw [show ((n + 1 : Nat) : Int) = (n : Int) + 1 by omega] at this
        rw [this]
        congr 1
        simp only [List.length_cons]
        omega
    rw [← overL_len]
    have := key (overL l d) 0 (by rw [overL_len]; omega)
    rw [Nat.zero_add] at this
    exact this

end Go.Proofs.YtmoiiokmfanlgaaGreat

namespace Go.Proofs.YtmoiiokmfanlgaaGreat
namespace Dn

abbrev Fq := Int × Int

/-- A pair in lowest terms that fits. -/
def okF (a : Fq) : Prop := (1 ≤ a.2 ∧ a.2 ≤ 1152921504606846976) ∧ (-1152921504606846976 ≤ a.1 ∧ a.1 ≤ 1152921504606846976) ∧ Nat.gcd a.1.natAbs a.2.natAbs = 1
instance (a : Fq) : Decidable (okF a) := by unfold okF; infer_instance

def qv (a : Fq) : Rat := mkRat a.1 a.2.toNat
def fitsQ (q : Rat) : Prop := q.num.natAbs ≤ 1152921504606846976 ∧ q.den ≤ 1152921504606846976
instance (q : Rat) : Decidable (fitsQ q) := by unfold fitsQ; infer_instance
def prQ (q : Rat) : Fq := (q.num, (q.den : Int))
/-- What an operation with the result 'q' answers. -/
def fitQ (q : Rat) : Fq × Int × Unit := if fitsQ q then (prQ q, 0, ()) else ((0, 0), 5, ())

theorem okF_num {a : Fq} (h : okF a) : (qv a).num = a.1 := by
  obtain ⟨⟨h1, h2⟩, _, h3⟩ := h
  have h0 : a.2.toNat ≠ 0 := by omega
  have h4 : Nat.gcd a.2.toNat a.1.natAbs = 1 := by rw [Nat.gcd_comm, show a.2.toNat = a.2.natAbs by omega]; exact h3
  rw [qv, Rat.num_mkRat, if_neg h0, h4]
  simp
theorem okF_den {a : Fq} (h : okF a) : ((qv a).den : Int) = a.2 := by
  obtain ⟨⟨h1, h2⟩, _, h3⟩ := h
  have h0 : a.2.toNat ≠ 0 := by omega
  have h4 : Nat.gcd a.2.toNat a.1.natAbs = 1 := by rw [Nat.gcd_comm, show a.2.toNat = a.2.natAbs by omega]; exact h3
  rw [qv, Rat.den_mkRat, if_neg h0, h4]
  simp; omega
theorem prQ_qv {a : Fq} (h : okF a) : prQ (qv a) = a := by
  unfold prQ
  rw [okF_num h, okF_den h]
theorem qv_prQ (q : Rat) : qv (prQ q) = q := by
  unfold qv prQ
  simp only [Int.toNat_natCast]
  exact Rat.mkRat_self q
theorem okF_prQ {q : Rat} (h : fitsQ q) : okF (prQ q) := by
  obtain ⟨h1, h2⟩ := h
  have := q.den_pos
  refine ⟨⟨?_, ?_⟩, ⟨?_, ?_⟩, ?_⟩
  · simp only [prQ]; omega
  · simp only [prQ]; omega
  · simp only [prQ]; omega
  · simp only [prQ]; omega
  · simp only [prQ]
    rw [Int.natAbs_natCast]
    exact q.reduced
theorem fitsQ_qv {a : Fq} (h : okF a) : fitsQ (qv a) := by
  unfold fitsQ
  have h1 := okF_num h
  have h2 := okF_den h
  obtain ⟨⟨_, _⟩, ⟨_, _⟩, _⟩ := h
  rw [h1]
  omega
theorem fitQ_qv {a : Fq} (h : okF a) : fitQ (qv a) = (a, 0, ()) := by
  unfold fitQ
  rw [if_pos (fitsQ_qv h), prQ_qv h]
theorem fitQ_cases (q : Rat) : (fitsQ q ∧ fitQ q = (prQ q, 0, ())) ∨ (¬ fitsQ q ∧ fitQ q = ((0, 0), 5, ())) := by
  unfold fitQ
  by_cases h : fitsQ q
  · exact .inl ⟨h, by rw [if_pos h]⟩
  · exact .inr ⟨h, by rw [if_neg h]⟩

theorem prQ_int (n : Int) : prQ (n : Rat) = (n, 1) := rfl

/-- A number with a sign. -/
def sgn (s : Bool) (n : Nat) : Int := if s then -(n : Int) else n

/-- A quotient in lowest terms is the rational number. -/
theorem mkQ_low {s : Bool} {n d : Nat} (hd : 0 < d) (hc : Nat.gcd n d = 1) : (mkRat (sgn s n) d).num = sgn s n ∧ (mkRat (sgn s n) d).den = d := by
  have h0 : d ≠ 0 := by omega
  have ha : (sgn s n).natAbs = n := by unfold sgn; split <;> simp
  have hg : Nat.gcd d (sgn s n).natAbs = 1 := by rw [ha, Nat.gcd_comm]; exact hc
  rw [Rat.num_mkRat, Rat.den_mkRat, if_neg h0, if_neg h0, hg]
  simp

theorem mkQ_div {s : Bool} {n d : Nat} (hd : 0 < d) : mkRat (sgn s n) d = mkRat (sgn s (n / Nat.gcd n d)) (d / Nat.gcd n d) ∧ 0 < d / Nat.gcd n d ∧ Nat.gcd (n / Nat.gcd n d) (d / Nat.gcd n d) = 1 := by
  have hg : 0 < Nat.gcd n d := Nat.gcd_pos_of_pos_right _ hd
  have h1 : n / Nat.gcd n d * Nat.gcd n d = n := Nat.div_mul_cancel (Nat.gcd_dvd_left n d)
  have h2 : d / Nat.gcd n d * Nat.gcd n d = d := Nat.div_mul_cancel (Nat.gcd_dvd_right n d)
  refine ⟨?_, Nat.div_pos (Nat.le_of_dvd hd (Nat.gcd_dvd_right n d)) hg, Nat.gcd_div_gcd_div_gcd_of_pos_right hd⟩
  have h3 : sgn s n = sgn s (n / Nat.gcd n d) * (Nat.gcd n d : Int) := by
    unfold sgn
    split
    · rw [Int.neg_mul, ← Int.natCast_mul, h1]
    · rw [← Int.natCast_mul, h1]
  have h4 : mkRat (sgn s n) d = mkRat (sgn s (n / Nat.gcd n d) * (Nat.gcd n d : Int)) (d / Nat.gcd n d * Nat.gcd n d) := by rw [← h3, h2]
  rw [h4]
  exact Rat.mkRat_mul_right (by omega)

theorem mkQ_congr {s : Bool} {n d m e : Nat} (hd : 0 < d) (he : 0 < e) (h : n * e = m * d) : mkRat (sgn s n) d = mkRat (sgn s m) e := by
  rw [Rat.mkRat_eq_iff (by omega) (by omega)]
  unfold sgn
  split
  · rw [Int.neg_mul, Int.neg_mul, ← Int.natCast_mul, ← Int.natCast_mul, h]
  · rw [← Int.natCast_mul, ← Int.natCast_mul, h]

/-- What the two sizes in lowest terms answer. -/
theorem fit_low {s : Bool} {n d : Nat} (hd : 0 < d) (hc : Nat.gcd n d = 1) : fitQ (mkRat (sgn s n) d) = if n ≤ 1152921504606846976 ∧ d ≤ 1152921504606846976 then ((sgn s n, (d : Int)), 0, ()) else ((0, 0), 5, ()) := by
  obtain ⟨h1, h2⟩ := mkQ_low (s := s) hd hc
  have ha : (sgn s n).natAbs = n := by unfold sgn; split <;> simp
  unfold fitQ
  have e : fitsQ (mkRat (sgn s n) d) ↔ n ≤ 1152921504606846976 ∧ d ≤ 1152921504606846976 := by unfold fitsQ; rw [h1, h2, ha]
  have e2 : prQ (mkRat (sgn s n) d) = (sgn s n, (d : Int)) := by unfold prQ; rw [h1, h2]
  rw [e2]
  by_cases h : n ≤ 1152921504606846976 ∧ d ≤ 1152921504606846976
  · rw [if_pos h, if_pos (e.2 h)]
  · rw [if_neg h, if_neg (fun hh => h (e.1 hh))]

theorem size_sgn (n : Int) : n = sgn (decide (n < 0)) n.natAbs := by
  unfold sgn
  by_cases h : n < 0
  · simp [h]; omega
  · simp [h]; omega

theorem sgn_zero (s t : Bool) : sgn s 0 = sgn t 0 := by unfold sgn; cases s <;> cases t <;> rfl

end Dn
end Go.Proofs.YtmoiiokmfanlgaaGreat

namespace Go.Proofs.YtmoiiokmfanlgaaGreat
open Tryz Dn Dn.Sh

theorem u_wrap {x : Int} (h1 : 0 ≤ x) (h2 : x < 18446744073709551616) : IntKind.wrap .u64 x = x := by
  rw [IntKind.wrap_u64]; omega

theorem size_ok {x : Int} (h1 : -9223372036854775808 ≤ x) (h2 : x < 9223372036854775808) : ratio_size x = some (x.natAbs : Int) := by
  simp only [ratio_size, ratio_size_b]
  by_cases h : x < 0
  · simp only [h, decide_true, cond_true]
    rw [IntKind.wrap_u64, IntKind.wrap_u64]
    congr 1; omega
  · simp only [h, decide_false, cond_false]
    rw [u_wrap (by omega) (by omega)]
    congr 1; omega

theorem gcd_ok (m n : Nat) (hn : n < 18446744073709551616) : ratio_gcd (m : Int) (n : Int) = some ((Nat.gcd m n : Nat) : Int) := by
  simp only [ratio_gcd, ratio_gcd_b]
  refine lpK_loop (g := fun x => some ((Nat.gcd x.1.toNat x.2.1.toNat : Nat) : Int)) (I := fun (x : Int × Int × PUnit) => 0 ≤ x.1 ∧ 0 ≤ x.2.1) (μ := fun (x : Int × Int × PUnit) => x.2.1.toNat) (x := ((m : Int), (n : Int), PUnit.unit)) ?_ ⟨Int.natCast_nonneg _, Int.natCast_nonneg _⟩ (by simp only; omega)
  rintro ⟨a, b, _⟩ rec ⟨h1, h2⟩ hrec
  simp only at h1 h2 ⊢
  by_cases hb : b = 0
  · subst hb
    simp only [decide_true, Bool.not_true, cond_false, Int.toNat_zero, Nat.gcd_zero_right]
    congr 1; omega
  · rw [decide_eq_false hb, nzB_of hb, Int.tmod_eq_emod_of_nonneg h1]
    simp only [Bool.not_false, cT]
    have h3 : 0 ≤ a % b := Int.emod_nonneg _ hb
    have h4 : a % b < b := Int.emod_lt_of_pos _ (by omega)
    rw [hrec _ ⟨by simp only; omega, by simp only; omega⟩ (by simp only; omega)]
    simp only
    congr 2
    rw [Int.toNat_emod h1 h2, Nat.gcd_comm a.toNat, Nat.gcd_rec b.toNat a.toNat, Nat.gcd_comm]

theorem signed_ok (s : Bool) (n d : Nat) (h1 : n < 18446744073709551616) (h2 : d < 18446744073709551616) :
    ratio_signed s (n : Int) (d : Int) = some (if n ≤ 1152921504606846976 ∧ d ≤ 1152921504606846976 then ((sgn s n, (d : Int)), 0, ()) else ((0, 0), 5, ())) := by
  simp only [ratio_signed, ratio_signed_b, not_or_self', or_self_not, cond_true]
  by_cases hn : n ≤ 1152921504606846976
  · by_cases hd : d ≤ 1152921504606846976
    · have e1 : decide ((n : Int) > 1152921504606846976) = false := decide_eq_false (by omega)
      have e2 : decide ((d : Int) > 1152921504606846976) = false := decide_eq_false (by omega)
      rw [wrap_id (x := (n : Int)) (by omega) (by omega), wrap_id (x := (d : Int)) (by omega) (by omega), wrap_id (x := 0 - (n : Int)) (by omega) (by omega)]
      simp only [e1, e2, cond_false, hn, hd, and_self, if_true]
      cases s <;> simp [sgn]
    · have e2 : decide ((d : Int) > 1152921504606846976) = true := decide_eq_true (by omega)
      simp only [e2, bif_true', Bool.or_true, cond_true, hd, and_false, if_false]
  · have e1 : decide ((n : Int) > 1152921504606846976) = true := decide_eq_true (by omega)
    simp only [e1, cond_true, hn, false_and, if_false]

/-- The quotient of two numbers. -/
def divQ (n d : Int) : Rat := mkRat (sgn (decide (n < 0) != decide (d < 0)) n.natAbs) d.natAbs

theorem tdiv_nat (m n : Nat) : Int.tdiv (m : Int) (n : Int) = ((m / n : Nat) : Int) := by
  rw [Int.tdiv_eq_ediv_of_nonneg (by omega)]
  rfl

theorem Make_ok {n d : Int} (h1 : -9223372036854775808 ≤ n) (h2 : n < 9223372036854775808) (h3 : -9223372036854775808 ≤ d) (h4 : d < 9223372036854775808) :
    ratio_Make n d = some (if d = 0 then ((0, 0), 16, ()) else fitQ (divQ n d)) := by
  simp only [ratio_Make, ratio_Make_b, not_or_self', Bool.and_self, cond_true]
  by_cases hd : d = 0
  · simp only [hd, decide_true, cond_true, if_true]
  · simp only [hd, decide_false, cond_false, if_false]
    rw [size_ok h1 h2, obind_some', size_ok h3 h4, obind_some', gcd_ok _ _ (by omega), obind_some']
    have hg : 0 < Nat.gcd n.natAbs d.natAbs := Nat.gcd_pos_of_pos_right _ (by omega)
    have a1 : n.natAbs / Nat.gcd n.natAbs d.natAbs ≤ n.natAbs := Nat.div_le_self _ _
    have a2 : d.natAbs / Nat.gcd n.natAbs d.natAbs ≤ d.natAbs := Nat.div_le_self _ _
    have hz : nzB ((Nat.gcd n.natAbs d.natAbs : Nat) : Int) = true := nzB_of (by omega)
    obtain ⟨m1, m2, m3⟩ := mkQ_div (s := decide (n < 0) != decide (d < 0)) (n := n.natAbs) (d := d.natAbs) (by omega)
    have hs : n = 0 → n.natAbs / Nat.gcd n.natAbs d.natAbs = 0 := fun h => by subst h; simp
    rw [hz, cond_true, cond_true, tdiv_nat, tdiv_nat]
    unfold divQ
    rw [m1]
    generalize n.natAbs / Nat.gcd n.natAbs d.natAbs = p at *
    generalize d.natAbs / Nat.gcd n.natAbs d.natAbs = q at *
    rw [u_wrap (by omega) (by omega), u_wrap (by omega) (by omega), signed_ok _ _ _ (by omega) (by omega), obind_some', fit_low m2 m3]
    have hs : sgn (bif !decide (n = 0) then !decide (decide (n < 0) = decide (d < 0)) else false) p = sgn (decide (n < 0) != decide (d < 0)) p := by
      by_cases h0 : n = 0
      · rw [hs h0]
        exact sgn_zero _ _
      · simp only [h0, decide_false, Bool.not_false, cond_true]
        cases decide (n < 0) <;> cases decide (d < 0) <;> rfl
    rw [hs]

theorem Valid_ok {a : Fq} : ratio_Valid a = some (decide (okF a)) := by
  simp only [ratio_Valid, ratio_Valid_b, not_or_self', Bool.and_self, cond_true, bif_false']
  unfold okF
  by_cases h1 : 1 ≤ a.2
  · by_cases h2 : a.2 ≤ 1152921504606846976
    · by_cases h3 : -1152921504606846976 ≤ a.1
      · by_cases h4 : a.1 ≤ 1152921504606846976
        · have e : IntKind.wrap .u64 a.2 = ((a.2.natAbs : Nat) : Int) := by rw [u_wrap (by omega) (by omega)]; omega
          simp only [ge_iff_le, h1, h2, h3, h4, decide_true, Bool.and_self, cond_true]
          rw [size_ok (by omega) (by omega), obind_some', e, gcd_ok _ _ (by omega), obind_some']
          congr 1
          rw [Bool.eq_iff_iff]
          simp only [Bool.true_and, decide_eq_true_eq, true_and]
          generalize Nat.gcd a.1.natAbs a.2.natAbs = g
          omega
        · simp [obind_some', h4]
      · simp [obind_some', h3]
    · simp [obind_some', h2]
  · simp [obind_some', h1]

end Go.Proofs.YtmoiiokmfanlgaaGreat

namespace Go.Proofs.YtmoiiokmfanlgaaGreat
open Tryz Dn Dn.Sh

theorem land32 {x : Int} (h1 : 0 ≤ x) (h2 : x < 18446744073709551616) : ((Nat.land (Int.toNat (x % Int.ofNat 18446744073709551616)) (Int.toNat ((4294967295 : Int) % Int.ofNat 18446744073709551616)) : Nat) : Int) = x % 4294967296 := by
  have e1 : x % Int.ofNat 18446744073709551616 = x := Int.emod_eq_of_lt h1 h2
  have e2 : Int.toNat ((4294967295 : Int) % Int.ofNat 18446744073709551616) = 2 ^ 32 - 1 := by decide
  rw [e1, e2]
  have : Nat.land x.toNat (2 ^ 32 - 1) = x.toNat % 2 ^ 32 := Nat.and_two_pow_sub_one_eq_mod x.toNat 32
  rw [this]
  omega

/-- A number of two words. -/
def hl (n : Nat) : Int × Int := (((n / 18446744073709551616 : Nat) : Int), ((n % 18446744073709551616 : Nat) : Int))

theorem mulW {x y : Int} (x0 : 0 ≤ x) (x1 : x < 18446744073709551616) (y0 : 0 ≤ y) (y1 : y < 18446744073709551616) : bits_Mul64 x y = some (x * y / 18446744073709551616, x * y % 18446744073709551616, ()) := by
  have p32 : (2 : Int) ^ (32 : Nat) = 4294967296 := by decide
  simp only [bits_Mul64, bits_Mul64_b, p32, show decide ((0 : Int) ≤ 32) = true from rfl, cond_true]
  obtain ⟨a, b, ha, hb, hx⟩ : ∃ a b, a = x / 4294967296 ∧ b = x % 4294967296 ∧ x = a * 4294967296 + b := ⟨_, _, rfl, rfl, by omega⟩
  obtain ⟨c, d, hc, hd, hy⟩ : ∃ c d, c = y / 4294967296 ∧ d = y % 4294967296 ∧ y = c * 4294967296 + d := ⟨_, _, rfl, rfl, by omega⟩
  have fd : ∀ n : Int, Int.fdiv n 4294967296 = n / 4294967296 := fun n => Int.fdiv_eq_ediv_of_nonneg n (by omega)
  rw [land32 x0 x1, land32 y0 y1, ← hb, ← hd]
  simp only [fd, ← ha, ← hc]
  have a0 : 0 ≤ a ∧ a ≤ 4294967295 := by omega
  have b0 : 0 ≤ b ∧ b ≤ 4294967295 := by omega
  have c0 : 0 ≤ c ∧ c ≤ 4294967295 := by omega
  have d0 : 0 ≤ d ∧ d ≤ 4294967295 := by omega
  have mb : ∀ {m n : Int}, 0 ≤ m ∧ m ≤ 4294967295 → 0 ≤ n ∧ n ≤ 4294967295 → 0 ≤ m * n ∧ m * n ≤ 18446744065119617025 := fun {m n} hm hn => ⟨Int.mul_nonneg hm.1 hn.1, Int.le_trans (Int.mul_le_mul hm.2 hn.2 hn.1 (by omega)) (by decide)⟩
  have e1 := mb a0 c0
  have e2 := mb a0 d0
  have e3 := mb b0 c0
  have e4 := mb b0 d0
  have hxy : x * y = a * c * 18446744073709551616 + (a * d + b * c) * 4294967296 + b * d := by rw [hx, hy]; grind
  rw [IntKind.wrap_u64 (x * y)]
  rw [hxy]
  rw [u_wrap (x := b) (by omega) (by omega), u_wrap (x := d) (by omega) (by omega)]
  rw [u_wrap (x := b * d) (by omega) (by omega), u_wrap (x := a * d) (by omega) (by omega), u_wrap (x := b * c) (by omega) (by omega), u_wrap (x := a * c) (by omega) (by omega)]
  generalize b * d = bd at *
  generalize a * d = ad at *
  generalize b * c = bc at *
  generalize a * c = ac at *
  rw [u_wrap (x := ad + bd / 4294967296) (by omega) (by omega)]
  generalize ht : ad + bd / 4294967296 = t
  rw [land32 (by omega) (by omega)]
  rw [u_wrap (x := t % 4294967296) (by omega) (by omega)]
  rw [u_wrap (x := t % 4294967296 + bc) (by omega) (by omega), u_wrap (x := ac + t / 4294967296) (by omega) (by omega)]
  rw [u_wrap (x := ac + t / 4294967296 + (t % 4294967296 + bc) / 4294967296) (by omega) (by omega)]
  congr 1
  ext
  · simp only; omega
  · rfl

theorem product_ok {m n : Nat} (hm : m < 18446744073709551616) (hn : n < 18446744073709551616) : ratio_product (m : Int) (n : Int) = some (hl (m * n)) := by
  simp only [ratio_product, ratio_product_b]
  rw [mulW (by omega) (by omega) (by omega) (by omega), obind_some', ← Int.natCast_mul]
  rfl

theorem hl_small {n : Nat} (h : n < 18446744073709551616) : hl n = (0, (n : Int)) := by
  unfold hl
  rw [Nat.div_eq_of_lt h, Nat.mod_eq_of_lt h]
  rfl
theorem hl_big {n : Nat} (h : ¬ n < 18446744073709551616) : (hl n).1 > 0 := by
  unfold hl
  simp only
  omega

end Go.Proofs.YtmoiiokmfanlgaaGreat

namespace Go.Proofs.YtmoiiokmfanlgaaGreat
open Tryz Dn Dn.Sh

theorem fdiv_of {n d : Int} (h : 0 ≤ d) : Int.fdiv n d = n / d := Int.fdiv_eq_ediv_of_nonneg n h

theorem zero_hl {n : Nat} (h : n < 340282366920938463463374607431768211456) : (decide ((hl n).1 = 0) && (decide ((hl n).2 = 0) && true)) = decide (n = 0) := by
  rw [Bool.and_true, Bool.eq_iff_iff, Bool.and_eq_true, decide_eq_true_iff, decide_eq_true_iff, decide_eq_true_iff]
  simp only [hl]
  omega

end Go.Proofs.YtmoiiokmfanlgaaGreat

namespace Go.Proofs.YtmoiiokmfanlgaaGreat
open Tryz Dn Dn.Sh

theorem divMod_of {t b q r : Nat} (hr : r < b) (h : t = q * b + r) : t / b = q ∧ t % b = r := by
  subst h
  constructor
  · rw [Nat.mul_comm, Nat.mul_add_div (by omega), Nat.div_eq_of_lt hr, Nat.add_zero]
  · rw [Nat.mul_comm, Nat.mul_add_mod, Nat.mod_eq_of_lt hr]

end Go.Proofs.YtmoiiokmfanlgaaGreat

namespace Go.Proofs.YtmoiiokmfanlgaaGreat
open Tryz Dn Dn.Sh

theorem rLess_ok {a b : Nat} : ratio_less (hl a) (hl b) = some (decide (a < b)) := by
  simp only [ratio_less, ratio_less_b]
  have e : decide (a < b) = (bif decide ((hl a).1 < (hl b).1) then true else bif decide ((hl a).1 = (hl b).1) then decide ((hl a).2 < (hl b).2) else false) := by
    by_cases c1 : (hl a).1 < (hl b).1
    · simp only [c1, decide_true, cond_true]
      simp only [hl] at c1
      exact decide_eq_true (by omega)
    · by_cases c2 : (hl a).1 = (hl b).1
      · rw [decide_eq_false c1, decide_eq_true c2, cond_true, cond_false]
        have e2 : a < b ↔ (hl a).2 < (hl b).2 := by
          simp only [hl] at c1 c2 ⊢
          omega
        rw [Bool.eq_iff_iff, decide_eq_true_iff, decide_eq_true_iff]
        exact e2
      · simp only [c1, c2, decide_false, cond_false]
        simp only [hl] at c1 c2
        exact decide_eq_false (by omega)
  rw [e]
  cases decide ((hl a).1 < (hl b).1) <;> cases decide ((hl a).1 = (hl b).1) <;> rfl

theorem addC_hl {m n : Nat} : addC (hl m).2 (hl n).2 0 = (((m % 18446744073709551616 + n % 18446744073709551616) / 18446744073709551616 : Nat) : Int) := by
  simp only [addC, hl, Int.toNat_natCast, Int.toNat_zero, Nat.add_zero]
  rfl
theorem subC_hl {m n : Nat} : subC (hl m).2 (hl n).2 0 = (((if m % 18446744073709551616 < n % 18446744073709551616 then 1 else 0 : Nat) : Nat) : Int) := by
  simp only [subC, hl, Int.toNat_natCast, Int.toNat_zero, Nat.add_zero]
  cases h : Nat.blt (m % 18446744073709551616) (n % 18446744073709551616) with
  | true =>
    have h' : m % 18446744073709551616 < n % 18446744073709551616 := by simpa [Nat.blt_eq] using h
    rw [if_pos h']; rfl
  | false =>
    have h' : ¬ m % 18446744073709551616 < n % 18446744073709551616 := by
      intro h2
      have : Nat.blt (m % 18446744073709551616) (n % 18446744073709551616) = true := by simpa [Nat.blt_eq] using h2
      rw [this] at h; cases h
    rw [if_neg h']; rfl

theorem rPlus_ok {m n : Nat} (h : m + n < 340282366920938463463374607431768211456) : ratio_plus (hl m) (hl n) = some (hl (m + n)) := by
  simp only [ratio_plus, ratio_plus_b, addC_hl]
  have c1 : decide ((0 : Int) ≤ (0 : Int)) = true := rfl
  have c2 : decide ((0 : Int) ≤ (1 : Int)) = true := rfl
  rw [c1, c2, decide_eq_true (show (0 : Int) ≤ (((m % 18446744073709551616 + n % 18446744073709551616) / 18446744073709551616 : Nat) : Int) by omega), decide_eq_true (show (((m % 18446744073709551616 + n % 18446744073709551616) / 18446744073709551616 : Nat) : Int) ≤ 1 by omega)]
  simp only [Bool.and_self, cT, Option.some.injEq, addO, hl, Int.toNat_natCast, Int.toNat_zero, Nat.add_zero, Prod.mk.injEq]
  constructor
  · show ((_ : Nat) : Int) = ((_ : Nat) : Int)
    omega
  · show ((_ : Nat) : Int) = ((_ : Nat) : Int)
    omega
theorem rMinus_ok {m n : Nat} (h : n ≤ m) (hm : m < 340282366920938463463374607431768211456) : ratio_minus (hl m) (hl n) = some (hl (m - n)) := by
  simp only [ratio_minus, ratio_minus_b, subC_hl]
  have c1 : decide ((0 : Int) ≤ (0 : Int)) = true := rfl
  have c2 : decide ((0 : Int) ≤ (1 : Int)) = true := rfl
  have hb : (if m % 18446744073709551616 < n % 18446744073709551616 then 1 else 0 : Nat) ≤ 1 := by split <;> omega
  have hc : (if m % 18446744073709551616 < n % 18446744073709551616 then 1 else 0 : Nat) = 1 ∧ m % 18446744073709551616 < n % 18446744073709551616 ∨ (if m % 18446744073709551616 < n % 18446744073709551616 then 1 else 0 : Nat) = 0 ∧ ¬ m % 18446744073709551616 < n % 18446744073709551616 := by split <;> simp_all
  generalize (if m % 18446744073709551616 < n % 18446744073709551616 then 1 else 0 : Nat) = c at *
  rw [c1, c2, decide_eq_true (show (0 : Int) ≤ (c : Int) by omega), decide_eq_true (show (c : Int) ≤ 1 by omega)]
  simp only [Bool.and_self, cT, Option.some.injEq, subO, hl, Int.toNat_natCast, Int.toNat_zero, Nat.sub_zero, Prod.mk.injEq]
  constructor
  · show ((_ : Nat) : Int) = ((_ : Nat) : Int)
    omega
  · show ((_ : Nat) : Int) = ((_ : Nat) : Int)
    omega

noncomputable def lenT (T : ByteArray) (a b : Int) : Option Int :=
  bif decide (a ≥ (256 : Int)) then bif decide ((0 : Int) ≤ (8 : Int)) then bif inB (IntKind.wrap .u8 (Int.fdiv a ((2 : Int) ^ (8 : Nat)))) (256 : Nat) then
    some (IntKind.wrap .i64 (IntKind.wrap .i64 (b + (8 : Int)) + IntKind.wrap .i64 (byteAt T (Int.toNat (IntKind.wrap .u8 (Int.fdiv a ((2 : Int) ^ (8 : Nat)))))))) else none else none
  else bif inB (IntKind.wrap .u8 a) (256 : Nat) then some (IntKind.wrap .i64 (b + IntKind.wrap .i64 (byteAt T (Int.toNat (IntKind.wrap .u8 a))))) else none
noncomputable def lenU (T : ByteArray) (a b : Int) : Option Int := bif decide (a ≥ (65536 : Int)) then bif decide ((0 : Int) ≤ (16 : Int)) then lenT T (Int.fdiv a ((2 : Int) ^ (16 : Nat))) (IntKind.wrap .i64 (b + (16 : Int))) else none else lenT T a b
theorem len_table : ∃ T : ByteArray, (∀ i, i < 256 → 0 ≤ byteAt T i ∧ byteAt T i ≤ 8 ∧ (0 < i → i < 2 ^ (byteAt T i).toNat ∧ 2 ^ (byteAt T i).toNat ≤ 2 * i)) ∧
    ∀ x, bits_Len64 x = bif decide (x ≥ (4294967296 : Int)) then bif decide ((0 : Int) ≤ (32 : Int)) then lenU T (Int.fdiv x ((2 : Int) ^ (32 : Nat))) 32 else none else lenU T x 0 :=
  ⟨_, by decide +kernel, fun _ => rfl⟩

/-- The length of a number that is not 0. -/
def isLen (n L : Nat) : Prop := n < 2 ^ L ∧ 2 ^ L ≤ 2 * n
theorem isLen_shift {n k L : Nat} (h : isLen (n / 2 ^ k) L) : isLen n (L + k) := by
  obtain ⟨h1, h2⟩ := h
  have hk : 0 < 2 ^ k := Nat.two_pow_pos k
  unfold isLen
  rw [Nat.pow_add]
  constructor
  · exact (Nat.div_lt_iff_lt_mul hk).1 h1
  · have h3 : n / 2 ^ k * 2 ^ k ≤ n := Nat.div_mul_le_self n _
    have h4 := Nat.mul_le_mul_right (2 ^ k) h2
    rw [Nat.mul_assoc] at h4
    omega
theorem u8_wrap {x : Int} (h1 : 0 ≤ x) (h2 : x < 256) : IntKind.wrap .u8 x = x := by
  rw [IntKind.wrap_u8]; omega
theorem Len64_ok {n : Nat} (h0 : 0 < n) (h1 : n < 18446744073709551616) : ∃ L : Nat, bits_Len64 (n : Int) = some (L : Int) ∧ isLen n L ∧ L ≤ 64 := by
  obtain ⟨T, hT, hx⟩ := len_table
  have tab : ∀ i : Nat, 0 < i → i < 256 → ∃ L : Nat, byteAt T i = L ∧ L ≤ 8 ∧ isLen i L := fun i h2 h3 => by
    obtain ⟨a1, a2, a3⟩ := hT i h3
    exact ⟨(byteAt T i).toNat, by omega, by omega, a3 h2⟩
  have p8 : (2 : Int) ^ (8 : Nat) = 256 := by decide
  have p16 : (2 : Int) ^ (16 : Nat) = 65536 := by decide
  have p32 : (2 : Int) ^ (32 : Nat) = 4294967296 := by decide
  have stepT : ∀ a b : Nat, 0 < a → a < 65536 → b ≤ 48 → ∃ L : Nat, lenT T (a : Int) (b : Int) = some ((L + b : Nat) : Int) ∧ isLen a L ∧ L ≤ 16 := fun a b ha hb hb2 => by
    unfold lenT
    by_cases h : a < 256
    · obtain ⟨L, e1, e2, e3⟩ := tab a ha h
      rw [decide_eq_false (show ¬ (a : Int) ≥ 256 by omega), cond_false, u8_wrap (by omega) (by omega), inB_of (by omega) (by omega), cond_true, Int.toNat_natCast, e1, wrap_id (x := (L : Int)) (by omega) (by omega), wrap_id (by omega) (by omega)]
      exact ⟨L, by congr 1; omega, e3, by omega⟩
    · obtain ⟨L, e1, e2, e3⟩ := tab (a / 256) (by omega) (by omega)
      rw [decide_eq_true (show (a : Int) ≥ 256 by omega), cond_true, show decide ((0 : Int) ≤ 8) = true from rfl, cond_true, p8, fdiv_of (by omega), u8_wrap (by omega) (by omega), inB_of (by omega) (by omega), cond_true, show ((a : Int) / 256).toNat = a / 256 by omega, e1, wrap_id (x := (L : Int)) (by omega) (by omega), wrap_id (x := (b : Int) + 8) (by omega) (by omega), wrap_id (by omega) (by omega)]
      exact ⟨L + 8, by congr 1; omega, isLen_shift (k := 8) e3, by omega⟩
  have stepU : ∀ a b : Nat, 0 < a → a < 4294967296 → b ≤ 32 → ∃ L : Nat, lenU T (a : Int) (b : Int) = some ((L + b : Nat) : Int) ∧ isLen a L ∧ L ≤ 32 := fun a b ha hb hb2 => by
    unfold lenU
    by_cases h : a < 65536
    · obtain ⟨L, e1, e2, e3⟩ := stepT a b ha h (by omega)
      rw [decide_eq_false (show ¬ (a : Int) ≥ 65536 by omega), cond_false, e1]
      exact ⟨L, rfl, e2, by omega⟩
    · obtain ⟨L, e1, e2, e3⟩ := stepT (a / 65536) (b + 16) (by omega) (by omega) (by omega)
      rw [decide_eq_true (show (a : Int) ≥ 65536 by omega), cond_true, show decide ((0 : Int) ≤ 16) = true from rfl, cond_true, p16, fdiv_of (by omega), wrap_id (by omega) (by omega), show (a : Int) / 65536 = ((a / 65536 : Nat) : Int) by omega, show (b : Int) + 16 = ((b + 16 : Nat) : Int) by omega, e1]
      exact ⟨L + 16, by congr 1; omega, isLen_shift (k := 16) e2, by omega⟩
  rw [hx]
  by_cases h : n < 4294967296
  · obtain ⟨L, e1, e2, e3⟩ := stepU n 0 h0 h (by omega)
    rw [decide_eq_false (show ¬ (n : Int) ≥ 4294967296 by omega), cond_false]
    exact ⟨L, e1, e2, by omega⟩
  · obtain ⟨L, e1, e2, e3⟩ := stepU (n / 4294967296) 32 (by omega) (by omega) (by omega)
    rw [decide_eq_true (show (n : Int) ≥ 4294967296 by omega), cond_true, show decide ((0 : Int) ≤ 32) = true from rfl, cond_true, p32, fdiv_of (by omega), show (n : Int) / 4294967296 = ((n / 4294967296 : Nat) : Int) by omega]
    exact ⟨L + 32, e1, isLen_shift (k := 32) e2, by omega⟩

end Go.Proofs.YtmoiiokmfanlgaaGreat

namespace Go.Proofs.YtmoiiokmfanlgaaGreat
open Tryz Dn Dn.Sh

/-- One digit: the guess is not too small; what a round may conclude. -/
theorem digit_stop {q r U u y1 y0 : Int} (hq : q * y1 + r = U) (hu : 0 ≤ u) (hy : 0 < y1 * 4294967296 + y0) (hge : (U * 4294967296 + u) / (y1 * 4294967296 + y0) ≤ q) (ht : q * y0 ≤ 4294967296 * r + u) : q = (U * 4294967296 + u) / (y1 * 4294967296 + y0) := by
  refine Int.le_antisymm (Int.le_ediv_of_mul_le hy ?_) hge
  rw [Int.mul_add, ← Int.mul_assoc]
  omega
theorem digit_less {q r U u y1 y0 : Int} (hq : q * y1 + r = U) (hy : 0 < y1 * 4294967296 + y0) (hU : U * 4294967296 + u < (y1 * 4294967296 + y0) * 4294967296) (ht : q ≥ 4294967296 ∨ q * y0 > 4294967296 * r + u) : (U * 4294967296 + u) / (y1 * 4294967296 + y0) ≤ q - 1 := by
  have : (U * 4294967296 + u) / (y1 * 4294967296 + y0) < q := by
    refine Int.ediv_lt_of_lt_mul hy ?_
    rcases ht with ht | ht
    · exact Int.lt_of_lt_of_le hU (by rw [Int.mul_comm q]; exact Int.mul_le_mul_of_nonneg_left ht (by omega))
    · rw [Int.mul_add, ← Int.mul_assoc]
      omega
  omega
theorem digit_end {q r U u y1 y0 : Int} (hq : q * y1 + r = U) (hu : 0 ≤ u) (hy : 0 < y1 * 4294967296 + y0) (h0 : 0 ≤ y0 ∧ y0 < 4294967296) (hge : (U * 4294967296 + u) / (y1 * 4294967296 + y0) ≤ q - 1) (hr : r + y1 ≥ 4294967296) (hq2 : 1 ≤ q ∧ q ≤ 4294967297) : q - 1 = (U * 4294967296 + u) / (y1 * 4294967296 + y0) := by
  refine Int.le_antisymm (Int.le_ediv_of_mul_le hy ?_) hge
  have e1 : (q - 1) * y0 ≤ 4294967296 * 4294967295 := Int.mul_le_mul (by omega) (by omega) h0.1 (by omega)
  rw [Int.mul_add, ← Int.mul_assoc, Int.sub_mul q 1 y1, Int.one_mul]
  omega

theorem lor_add {s : Nat} {a b : Nat} (h : b < 2 ^ s) : Nat.lor (a * 2 ^ s) b = a * 2 ^ s + b := by
  have := Nat.two_pow_add_eq_or_of_lt h a
  rw [Nat.mul_comm a]
  exact this.symm

theorem digit_loop {α R : Type} {F : (α → Option R) → α → Option R} {J : Int → Option R} {U u y1 y0 : Int} (enc : Int → Int → α) (dec : α → Int) (hdec : ∀ q r, dec (enc q r) = q)
    (hu : 0 ≤ u) (h0 : 0 ≤ y0 ∧ y0 < 4294967296) (h1 : 2147483648 ≤ y1 ∧ y1 < 4294967296) (hU0 : 0 ≤ U) (hU : U * 4294967296 + u < (y1 * 4294967296 + y0) * 4294967296)
    (hF1 : ∀ again q r, 1 ≤ q → q ≤ 4294967297 → 0 ≤ r → r < 4294967296 → (q ≥ 4294967296 ∨ q * y0 > 4294967296 * r + u) → F again (enc q r) = bif decide (r + y1 ≥ 4294967296) then J (q - 1) else again (enc (q - 1) (r + y1)))
    (hF2 : ∀ again q r, 0 ≤ q → q < 4294967296 → 0 ≤ r → r < 4294967296 → ¬ q * y0 > 4294967296 * r + u → F again (enc q r) = J q)
    {q r : Int} (hq : q * y1 + r = U) (hq0 : 0 ≤ q) (hq2 : q ≤ 4294967297) (hr0 : 0 ≤ r) (hr1 : r < 4294967296) (hge : (U * 4294967296 + u) / (y1 * 4294967296 + y0) ≤ q) :
    lpK α R F (enc q r) = J ((U * 4294967296 + u) / (y1 * 4294967296 + y0)) := by
  have hD : 0 ≤ (U * 4294967296 + u) / (y1 * 4294967296 + y0) := Int.ediv_nonneg (by omega) (by omega)
  refine lpK_loop (g := fun _ => J ((U * 4294967296 + u) / (y1 * 4294967296 + y0))) (I := fun x => ∃ q r, x = enc q r ∧ q * y1 + r = U ∧ 0 ≤ q ∧ q ≤ 4294967297 ∧ 0 ≤ r ∧ r < 4294967296 ∧ (U * 4294967296 + u) / (y1 * 4294967296 + y0) ≤ q) (μ := fun x => (dec x).toNat) ?_ ⟨q, r, rfl, hq, hq0, hq2, hr0, hr1, hge⟩ (by rw [hdec]; omega)
  rintro _ rec ⟨q, r, rfl, hq, hq0, hq2, hr0, hr1, hge⟩ hrec
  have hy : 0 < y1 * 4294967296 + y0 := by omega
  by_cases ht : q ≥ 4294967296 ∨ q * y0 > 4294967296 * r + u
  · have hl := digit_less hq hy hU ht
    rw [hF1 _ _ _ (by omega) hq2 hr0 hr1 ht]
    by_cases hr : r + y1 ≥ 4294967296
    · rw [decide_eq_true hr, cond_true, digit_end hq hu hy h0 hl hr ⟨by omega, hq2⟩]
    · rw [decide_eq_false hr, cond_false]
      refine hrec _ ⟨q - 1, r + y1, rfl, ?_, by omega, by omega, by omega, by omega, hl⟩ (by rw [hdec, hdec]; omega)
      rw [Int.sub_mul, Int.one_mul]; omega
  · rw [not_or] at ht
    rw [hF2 _ _ _ hq0 (by omega) hr0 hr1 ht.2, ← digit_stop hq hu hy hge (by omega)]

/-- What the first guess of a digit is. -/
theorem digit_init {U u y1 y0 : Int} (hu : 0 ≤ u ∧ u < 4294967296) (h0 : 0 ≤ y0 ∧ y0 < 4294967296) (h1 : 2147483648 ≤ y1 ∧ y1 < 4294967296) (hU0 : 0 ≤ U) (hU : U < y1 * 4294967296 + y0) :
    (U / y1) * y1 + (U - U / y1 * y1) = U ∧ 0 ≤ U / y1 ∧ U / y1 ≤ 4294967297 ∧ 0 ≤ U - U / y1 * y1 ∧ U - U / y1 * y1 < 4294967296 ∧ (U * 4294967296 + u) / (y1 * 4294967296 + y0) ≤ U / y1 := by
  have e1 := Int.mul_ediv_add_emod U y1
  have e2 := Int.emod_nonneg U (show y1 ≠ 0 by omega)
  have e3 := Int.emod_lt_of_pos U (show 0 < y1 by omega)
  rw [Int.mul_comm] at e1
  refine ⟨by omega, Int.ediv_nonneg hU0 (by omega), ?_, by omega, by omega, ?_⟩
  · have : U / y1 < 4294967298 := Int.ediv_lt_of_lt_mul (by omega) (by omega)
    omega
  · have : (U * 4294967296 + u) / (y1 * 4294967296 + y0) < U / y1 + 1 := by
      refine Int.ediv_lt_of_lt_mul (by omega) ?_
      have hq : 0 ≤ U / y1 := Int.ediv_nonneg hU0 (by omega)
      have e4 : 0 ≤ (U / y1 + 1) * y0 := Int.mul_nonneg (by omega) h0.1
      rw [Int.mul_add, ← Int.mul_assoc, Int.add_mul (U / y1) 1 y1, Int.one_mul]
      omega
    omega

/-- The second loop of 'Div64', and what follows it. -/
noncomputable def dv2E (y1 y0 Y u0 P q1 un : Int) (q : Int) : Option (Int × Int × Unit) := some (IntKind.wrap .u64 (IntKind.wrap .u64 (q1 * 4294967296) + q), Int.fdiv (IntKind.wrap .u64 (IntKind.wrap .u64 (IntKind.wrap .u64 (un * 4294967296) + u0) - IntKind.wrap .u64 (q * Y))) P, ())
noncomputable def dv2 (y1 y0 Y u0 P q1 un : Int) : Option (Int × Int × Unit) := lpK (Int × Int × PUnit) (Int × Int × PUnit) (fun again x => bif (bif decide (x.2.1 ≥ 4294967296) then true else decide (IntKind.wrap .u64 (x.2.1 * y0) > IntKind.wrap .u64 (IntKind.wrap .u64 (4294967296 * x.1) + u0))) then
  (bif decide (IntKind.wrap .u64 (x.1 + y1) ≥ 4294967296) then dv2E y1 y0 Y u0 P q1 un (IntKind.wrap .u64 (x.2.1 - 1)) else again (IntKind.wrap .u64 (x.1 + y1), IntKind.wrap .u64 (x.2.1 - 1), PUnit.unit)) else dv2E y1 y0 Y u0 P q1 un x.2.1)
  (IntKind.wrap .u64 (un - IntKind.wrap .u64 (IntKind.wrap .u64 (Int.tdiv un y1) * y1)), IntKind.wrap .u64 (Int.tdiv un y1), PUnit.unit)
theorem dv2_ok {y1 y0 u0 P q1 un : Int} (hu : 0 ≤ u0 ∧ u0 < 4294967296) (h0 : 0 ≤ y0 ∧ y0 < 4294967296) (h1 : 2147483648 ≤ y1 ∧ y1 < 4294967296) (hU0 : 0 ≤ un) (hU : un < y1 * 4294967296 + y0) :
    dv2 y1 y0 (y1 * 4294967296 + y0) u0 P q1 un = dv2E y1 y0 (y1 * 4294967296 + y0) u0 P q1 un ((un * 4294967296 + u0) / (y1 * 4294967296 + y0)) := by
  obtain ⟨i1, i2, i3, i4, i5, i6⟩ := digit_init (U := un) hu h0 h1 hU0 hU
  unfold dv2
  rw [Int.tdiv_eq_ediv_of_nonneg hU0]
  have hm : un / y1 * y1 ≤ un := by omega
  have hm0 : 0 ≤ un / y1 * y1 := Int.mul_nonneg i2 (by omega)
  rw [u_wrap (x := un / y1) i2 (by omega), u_wrap (x := un / y1 * y1) hm0 (by omega), u_wrap (x := un - un / y1 * y1) (by omega) (by omega)]
  refine digit_loop (α := Int × Int × PUnit) (enc := fun q r => (r, q, PUnit.unit)) (dec := fun x => x.2.1) (fun _ _ => rfl) hu.1 h0 h1 hU0 (by omega) ?_ ?_ i1 i2 i3 i4 i5 i6
  · intro again q r g1 g2 g3 g4 g5
    have e1 : 0 ≤ q * y0 := Int.mul_nonneg (by omega) h0.1
    have e2 : q * y0 ≤ 4294967297 * 4294967295 := Int.mul_le_mul g2 (by omega) h0.1 (by omega)
    simp only
    rw [u_wrap (x := q * y0) e1 (by omega), u_wrap (x := 4294967296 * r) (by omega) (by omega), u_wrap (x := 4294967296 * r + u0) (by omega) (by omega), u_wrap (x := r + y1) (by omega) (by omega), u_wrap (x := q - 1) (by omega) (by omega)]
    have e : (bif decide (q ≥ 4294967296) then true else decide (q * y0 > 4294967296 * r + u0)) = true := by
      rcases g5 with ht | ht
      · rw [decide_eq_true ht]; rfl
      · rw [decide_eq_true ht]; cases decide (q ≥ 4294967296) <;> rfl
    rw [e, cT]
  · intro again q r g1 g2 g3 g4 g5
    have e1 : 0 ≤ q * y0 := Int.mul_nonneg (by omega) h0.1
    have e2 : q * y0 ≤ 4294967297 * 4294967295 := Int.mul_le_mul (by omega) (by omega) h0.1 (by omega)
    simp only
    rw [u_wrap (x := q * y0) e1 (by omega), u_wrap (x := 4294967296 * r) (by omega) (by omega), u_wrap (x := 4294967296 * r + u0) (by omega) (by omega)]
    rw [decide_eq_false (show ¬ q ≥ 4294967296 by omega), decide_eq_false g5, cF, cF]

/-- The first loop of 'Div64', and what follows it. -/
noncomputable def dv1E (y1 y0 Y u1 u0 P U : Int) (q1 : Int) : Option (Int × Int × Unit) := dv2 y1 y0 Y u0 P q1 (IntKind.wrap .u64 (IntKind.wrap .u64 (IntKind.wrap .u64 (U * 4294967296) + u1) - IntKind.wrap .u64 (q1 * Y)))
noncomputable def dv1 (y1 y0 Y u1 u0 P U : Int) : Option (Int × Int × Unit) := lpK (Int × Int × PUnit) (Int × Int × PUnit) (fun again x => bif (bif decide (x.1 ≥ 4294967296) then true else decide (IntKind.wrap .u64 (x.1 * y0) > IntKind.wrap .u64 (IntKind.wrap .u64 (4294967296 * x.2.1) + u1))) then
  (bif decide (IntKind.wrap .u64 (x.2.1 + y1) ≥ 4294967296) then dv1E y1 y0 Y u1 u0 P U (IntKind.wrap .u64 (x.1 - 1)) else again (IntKind.wrap .u64 (x.1 - 1), IntKind.wrap .u64 (x.2.1 + y1), PUnit.unit)) else dv1E y1 y0 Y u1 u0 P U x.1)
  (IntKind.wrap .u64 (Int.tdiv U y1), IntKind.wrap .u64 (U - IntKind.wrap .u64 (IntKind.wrap .u64 (Int.tdiv U y1) * y1)), PUnit.unit)
theorem dv1_ok {y1 y0 u1 u0 P U : Int} (hu : 0 ≤ u1 ∧ u1 < 4294967296) (h0 : 0 ≤ y0 ∧ y0 < 4294967296) (h1 : 2147483648 ≤ y1 ∧ y1 < 4294967296) (hU0 : 0 ≤ U) (hU : U < y1 * 4294967296 + y0) :
    dv1 y1 y0 (y1 * 4294967296 + y0) u1 u0 P U = dv1E y1 y0 (y1 * 4294967296 + y0) u1 u0 P U ((U * 4294967296 + u1) / (y1 * 4294967296 + y0)) := by
  obtain ⟨i1, i2, i3, i4, i5, i6⟩ := digit_init (U := U) hu h0 h1 hU0 hU
  unfold dv1
  rw [Int.tdiv_eq_ediv_of_nonneg hU0]
  have hm : U / y1 * y1 ≤ U := by omega
  have hm0 : 0 ≤ U / y1 * y1 := Int.mul_nonneg i2 (by omega)
  rw [u_wrap (x := U / y1) i2 (by omega), u_wrap (x := U / y1 * y1) hm0 (by omega), u_wrap (x := U - U / y1 * y1) (by omega) (by omega)]
  refine digit_loop (α := Int × Int × PUnit) (enc := fun q r => (q, r, PUnit.unit)) (dec := fun x => x.1) (fun _ _ => rfl) hu.1 h0 h1 hU0 (by omega) ?_ ?_ i1 i2 i3 i4 i5 i6
  · intro again q r g1 g2 g3 g4 g5
    have e1 : 0 ≤ q * y0 := Int.mul_nonneg (by omega) h0.1
    have e2 : q * y0 ≤ 4294967297 * 4294967295 := Int.mul_le_mul g2 (by omega) h0.1 (by omega)
    simp only
    rw [u_wrap (x := q * y0) e1 (by omega), u_wrap (x := 4294967296 * r) (by omega) (by omega), u_wrap (x := 4294967296 * r + u1) (by omega) (by omega), u_wrap (x := r + y1) (by omega) (by omega), u_wrap (x := q - 1) (by omega) (by omega)]
    have e : (bif decide (q ≥ 4294967296) then true else decide (q * y0 > 4294967296 * r + u1)) = true := by
      rcases g5 with ht | ht
      · rw [decide_eq_true ht]; rfl
      · rw [decide_eq_true ht]; cases decide (q ≥ 4294967296) <;> rfl
    rw [e, cT]
  · intro again q r g1 g2 g3 g4 g5
    have e1 : 0 ≤ q * y0 := Int.mul_nonneg (by omega) h0.1
    have e2 : q * y0 ≤ 4294967297 * 4294967295 := Int.mul_le_mul (by omega) (by omega) h0.1 (by omega)
    simp only
    rw [u_wrap (x := q * y0) e1 (by omega), u_wrap (x := 4294967296 * r) (by omega) (by omega), u_wrap (x := 4294967296 * r + u1) (by omega) (by omega)]
    rw [decide_eq_false (show ¬ q ≥ 4294967296 by omega), decide_eq_false g5, cF, cF]

/-- Both digits. -/
theorem dv_ok {U W Y P : Nat} (hY : 9223372036854775808 ≤ Y) (hY2 : Y < 18446744073709551616) (hW : W < 18446744073709551616) (hU : U < Y) :
    dv1 ((Y : Int) / 4294967296) ((Y : Int) % 4294967296) (Y : Int) ((W : Int) / 4294967296) ((W : Int) % 4294967296) (P : Int) (U : Int) = some ((((U * 18446744073709551616 + W) / Y : Nat) : Int), (((U * 18446744073709551616 + W) % Y / P : Nat) : Int), ()) := by
  have eY : (Y : Int) / 4294967296 * 4294967296 + (Y : Int) % 4294967296 = Y := by omega
  have h1 := dv1_ok (y1 := (Y : Int) / 4294967296) (y0 := (Y : Int) % 4294967296) (u1 := (W : Int) / 4294967296) (u0 := (W : Int) % 4294967296) (P := (P : Int)) (U := (U : Int)) (by omega) (by omega) (by omega) (by omega) (by omega)
  rw [eY] at h1
  rw [h1]
  unfold dv1E
  obtain ⟨A, hA⟩ : ∃ A : Nat, A = U * 4294967296 + W / 4294967296 := ⟨_, rfl⟩
  have hAi : (U : Int) * 4294967296 + (W : Int) / 4294967296 = (A : Int) := by omega
  rw [hAi]
  have hq1 : A / Y < 4294967296 := (Nat.div_lt_iff_lt_mul (by omega)).2 (by omega)
  have d1 := Nat.div_add_mod A Y
  have d2 := Nat.mod_lt A (show Y > 0 by omega)
  rw [show (A : Int) / (Y : Int) = ((A / Y : Nat) : Int) from rfl]
  have hun : IntKind.wrap .u64 (IntKind.wrap .u64 (IntKind.wrap .u64 ((U : Int) * 4294967296) + (W : Int) / 4294967296) - IntKind.wrap .u64 (((A / Y : Nat) : Int) * (Y : Int))) = ((A % Y : Nat) : Int) := by
    rw [← Int.natCast_mul, Nat.mul_comm (A / Y)]
    generalize A / Y = q1 at *
    generalize Y * q1 = m at *
    rw [IntKind.wrap_u64, IntKind.wrap_u64, IntKind.wrap_u64, IntKind.wrap_u64]
    omega
  rw [hun]
  have h2 := dv2_ok (y1 := (Y : Int) / 4294967296) (y0 := (Y : Int) % 4294967296) (u0 := (W : Int) % 4294967296) (P := (P : Int)) (q1 := ((A / Y : Nat) : Int)) (un := ((A % Y : Nat) : Int)) (by omega) (by omega) (by omega) (by omega) (by omega)
  rw [eY] at h2
  rw [h2]
  unfold dv2E
  obtain ⟨B, hB⟩ : ∃ B : Nat, B = A % Y * 4294967296 + W % 4294967296 := ⟨_, rfl⟩
  have hBi : ((A % Y : Nat) : Int) * 4294967296 + (W : Int) % 4294967296 = (B : Int) := by omega
  rw [hBi, show (B : Int) / (Y : Int) = ((B / Y : Nat) : Int) from rfl]
  have hq0 : B / Y < 4294967296 := (Nat.div_lt_iff_lt_mul (by omega)).2 (by omega)
  have d3 := Nat.div_add_mod B Y
  have d4 := Nat.mod_lt B (show Y > 0 by omega)
  have hN : U * 18446744073709551616 + W = (A / Y * 4294967296 + B / Y) * Y + B % Y := by
    rw [Nat.add_mul, Nat.mul_right_comm, Nat.mul_comm (A / Y), Nat.mul_comm (B / Y)]
    omega
  obtain ⟨n1, n2⟩ := divMod_of d4 hN
  rw [n1, n2]
  have hrest : IntKind.wrap .u64 (IntKind.wrap .u64 (IntKind.wrap .u64 (((A % Y : Nat) : Int) * 4294967296) + (W : Int) % 4294967296) - IntKind.wrap .u64 (((B / Y : Nat) : Int) * (Y : Int))) = ((B % Y : Nat) : Int) := by
    rw [← Int.natCast_mul, Nat.mul_comm (B / Y)]
    generalize B / Y = q0 at *
    generalize Y * q0 = m at *
    generalize A % Y = r1 at *
    rw [IntKind.wrap_u64, IntKind.wrap_u64, IntKind.wrap_u64, IntKind.wrap_u64]
    omega
  rw [hrest, fdiv_of (by omega)]
  generalize A / Y = q1 at *
  generalize B / Y = q0 at *
  rw [u_wrap (x := (q1 : Int) * 4294967296) (by omega) (by omega), u_wrap (by omega) (by omega)]
  rfl

theorem tmod_nat (m n : Nat) : Int.tmod (m : Int) (n : Int) = ((m % n : Nat) : Int) := by
  rw [Int.tmod_eq_emod_of_nonneg (by omega)]
  rfl

/-- As 'jnK_eq'', but not by computation. -/
theorem jnT {α R : Type} (j : α → Option R) (f : (α → Option R) → Option R) : jnK α R j f = f j := Eq.trans rfl rfl

theorem Div64_ok {h l y : Nat} (hy : h < y) (hy2 : y < 18446744073709551616) (hl0 : l < 18446744073709551616) : bits_Div64 (h : Int) (l : Int) (y : Int) = some ((((h * 18446744073709551616 + l) / y : Nat) : Int), (((h * 18446744073709551616 + l) % y : Nat) : Int), ()) := by
  simp only [bits_Div64, bits_Div64_b, jnT]
  rw [decide_eq_false (show ¬ (y : Int) = 0 by omega), cF, decide_eq_false (show ¬ (y : Int) ≤ (h : Int) by omega), cF]
  have hz : nzB (y : Int) = true := nzB_of (by omega)
  by_cases h0 : h = 0
  · subst h0
    rw [decide_eq_true (show ((0 : Nat) : Int) = 0 from rfl), cT, hz, cT, cT, tdiv_nat, tmod_nat, Nat.zero_mul, Nat.zero_add]
    have := Nat.div_le_self l y
    generalize l / y = d at *
    rw [u_wrap (by omega) (by omega)]
  · rw [decide_eq_false (show ¬ (h : Int) = 0 by omega), cF]
    obtain ⟨L, e1, ⟨e2, e3⟩, e4⟩ := Len64_ok (n := y) (by omega) hy2
    simp only [bits_LeadingZeros64, bits_LeadingZeros64_b, e1, obind_some']
    rw [wrap_id (x := 64 - (L : Int)) (by omega) (by omega)]
    obtain ⟨s, hs⟩ : ∃ s : Nat, L + s = 64 := ⟨64 - L, by omega⟩
    have w1 : IntKind.wrap .u64 (64 - (L : Int)) = (s : Int) := by rw [u_wrap (by omega) (by omega)]; omega
    have w2 : IntKind.wrap .u64 (64 - (s : Int)) = (L : Int) := by rw [u_wrap (by omega) (by omega)]; omega
    have p2 : ∀ k : Nat, (2 : Int) ^ k = ((2 ^ k : Nat) : Int) := fun k => by rw [Int.natCast_pow]; rfl
    have p32 : (2 : Int) ^ (32 : Nat) = 4294967296 := by decide
    simp only [w1, w2, Int.toNat_natCast, Nat.min_eq_left (show s ≤ 64 by omega), Nat.min_eq_left (show L ≤ 64 by omega), p32]
    simp only [p2]
    have hPQ : 2 ^ s * 2 ^ L = 18446744073709551616 := by rw [← Nat.pow_add, show s + L = 64 by omega]
    have hP : 0 < 2 ^ s := Nat.two_pow_pos s
    have hQ : 0 < 2 ^ L := Nat.two_pow_pos L
    have hYlt : y * 2 ^ s < 18446744073709551616 := by rw [← hPQ, Nat.mul_comm (2 ^ s)]; exact Nat.mul_lt_mul_of_pos_right e2 hP
    have hYge : 9223372036854775808 ≤ y * 2 ^ s := by
      have := Nat.mul_le_mul_right (2 ^ s) e3
      rw [Nat.mul_comm (2 ^ L), hPQ, Nat.mul_assoc] at this
      omega
    have hhP : h * 2 ^ s + 2 ^ s ≤ y * 2 ^ s := by rw [← Nat.succ_mul]; exact Nat.mul_le_mul_right _ hy
    have hlQ : l / 2 ^ L < 2 ^ s := by rw [Nat.div_lt_iff_lt_mul hQ, hPQ]; exact hl0
    have hlor : IntKind.wrap .u64 ((Nat.lor (Int.toNat (IntKind.wrap .u64 ((h : Int) * ((2 ^ s : Nat) : Int)) % Int.ofNat 18446744073709551616)) (Int.toNat (Int.fdiv (l : Int) ((2 ^ L : Nat) : Int) % Int.ofNat 18446744073709551616)) : Nat) : Int) = ((h * 2 ^ s + l / 2 ^ L : Nat) : Int) := by
      have a1 : IntKind.wrap .u64 ((h : Int) * ((2 ^ s : Nat) : Int)) = ((h * 2 ^ s : Nat) : Int) := by rw [← Int.natCast_mul, u_wrap (by omega) (by omega)]
      have a2 : Int.fdiv (l : Int) ((2 ^ L : Nat) : Int) = ((l / 2 ^ L : Nat) : Int) := by rw [fdiv_of (by omega)]; rfl
      have a3 : ∀ n : Nat, n < 18446744073709551616 → Int.toNat ((n : Int) % Int.ofNat 18446744073709551616) = n := fun n hn => by
        rw [show Int.ofNat 18446744073709551616 = (18446744073709551616 : Int) from rfl]; omega
      rw [a1, a2, a3 (h * 2 ^ s) (by omega), a3 (l / 2 ^ L) (by omega), lor_add hlQ]
      exact u_wrap (Int.natCast_nonneg _) (by
        have h5 : h * 2 ^ s + l / 2 ^ L < 18446744073709551616 := by omega
        exact Int.ofNat_lt.2 h5)
    have hlo : IntKind.wrap .u64 ((l : Int) * ((2 ^ s : Nat) : Int)) = ((l % 2 ^ L * 2 ^ s : Nat) : Int) := by
      rw [← Int.natCast_mul, IntKind.wrap_u64]
      have a1 : l * 2 ^ s = (l / 2 ^ L) * 18446744073709551616 + l % 2 ^ L * 2 ^ s := by
        rw [← hPQ, Nat.mul_comm (2 ^ s), ← Nat.mul_assoc, ← Nat.add_mul, Nat.mul_comm (l / 2 ^ L), Nat.div_add_mod]
      have a2 : l % 2 ^ L * 2 ^ s < 18446744073709551616 := by rw [← hPQ, Nat.mul_comm (2 ^ s)]; exact Nat.mul_lt_mul_of_pos_right (Nat.mod_lt _ hQ) hP
      rw [a1]
      generalize l / 2 ^ L = A at *
      generalize l % 2 ^ L * 2 ^ s = B at *
      omega
    have hlolt : l % 2 ^ L * 2 ^ s < 18446744073709551616 := by rw [← hPQ, Nat.mul_comm (2 ^ s)]; exact Nat.mul_lt_mul_of_pos_right (Nat.mod_lt _ hQ) hP
    have hN : (h * 18446744073709551616 + l) * 2 ^ s = (h * 2 ^ s + l / 2 ^ L) * 18446744073709551616 + l % 2 ^ L * 2 ^ s := by
      have a1 : l * 2 ^ s = (l / 2 ^ L) * 18446744073709551616 + l % 2 ^ L * 2 ^ s := by
        rw [← hPQ, Nat.mul_comm (2 ^ s), ← Nat.mul_assoc, ← Nat.add_mul, Nat.mul_comm (l / 2 ^ L), Nat.div_add_mod]
      rw [Nat.add_mul, a1, Nat.add_mul, Nat.mul_right_comm]
      omega
    have hY : IntKind.wrap .u64 ((y : Int) * ((2 ^ s : Nat) : Int)) = ((y * 2 ^ s : Nat) : Int) := by rw [← Int.natCast_mul, u_wrap (by omega) (by omega)]
    have hdiv : (h * 18446744073709551616 + l) / y = ((h * 2 ^ s + l / 2 ^ L) * 18446744073709551616 + l % 2 ^ L * 2 ^ s) / (y * 2 ^ s) := by rw [← hN, Nat.mul_div_mul_right _ _ hP]
    have hmod : ((h * 18446744073709551616 + l) % y) * 2 ^ s = ((h * 2 ^ s + l / 2 ^ L) * 18446744073709551616 + l % 2 ^ L * 2 ^ s) % (y * 2 ^ s) := by rw [← hN, Nat.mul_mod_mul_right]
    rw [hlor, hlo, hY]
    have hU : h * 2 ^ s + l / 2 ^ L < y * 2 ^ s := by omega
    have hm : (h * 18446744073709551616 + l) % y = ((h * 2 ^ s + l / 2 ^ L) * 18446744073709551616 + l % 2 ^ L * 2 ^ s) % (y * 2 ^ s) / 2 ^ s := by rw [← hmod, Nat.mul_div_cancel _ hP]
    rw [hdiv, hm]
    generalize h * 2 ^ s + l / 2 ^ L = U at *
    generalize l % 2 ^ L * 2 ^ s = W at *
    generalize y * 2 ^ s = Y at *
    generalize 2 ^ s = P at *
    clear e2 e3 e1 hlor hlo hN hdiv hmod hm hlQ hPQ hhP hY
    have hdv := dv_ok (P := P) hYge hYlt hlolt hU
    rw [← hdv]
    have c1 : decide ((0 : Int) ≤ (s : Int)) = true := decide_eq_true (by omega)
    have c2 : decide ((0 : Int) ≤ (L : Int)) = true := decide_eq_true (by omega)
    have c3 : decide ((0 : Int) ≤ (32 : Int)) = true := rfl
    have c4 : nzB ((Y : Int) / 4294967296) = true := nzB_of (by omega)
    have m1 : ∀ n : Nat, n < 18446744073709551616 → IntKind.wrap .u64 ((Nat.land (Int.toNat ((n : Int) % Int.ofNat 18446744073709551616)) (Int.toNat ((4294967295 : Int) % Int.ofNat 18446744073709551616)) : Nat) : Int) = (n : Int) % 4294967296 := fun n hn => by
      rw [land32 (by omega) (by omega), u_wrap (by omega) (by omega)]
    simp only [fdiv_of (show (0 : Int) ≤ 4294967296 by omega), c1, c2, c3, c4, m1 Y hYlt, m1 W hlolt, not_or_self', or_self_not, Bool.not_not, Bool.and_self, cT]
    rfl

end Go.Proofs.YtmoiiokmfanlgaaGreat

namespace Go.Proofs.YtmoiiokmfanlgaaGreat
open Tryz Dn Dn.Sh

theorem over_ok {n b : Nat} (hb0 : 0 < b) (hb : b < 18446744073709551616) (hn : n < 340282366920938463463374607431768211456) : ratio_over (hl n) (b : Int) = some (hl (n / b), ((n % b : Nat) : Int), ()) := by
  have hz : nzB (b : Int) = true := nzB_of (by omega)
  obtain ⟨h, l, hh, hl', hnn⟩ : ∃ h l : Nat, h = n / 18446744073709551616 ∧ l = n % 18446744073709551616 ∧ n = h * 18446744073709551616 + l := ⟨_, _, rfl, rfl, by omega⟩
  have e : hl n = ((h : Int), (l : Int)) := by unfold hl; rw [hh, hl']
  rw [e]
  simp only [ratio_over, ratio_over_b]
  rw [hz, tmod_nat, Div64_ok (Nat.mod_lt h hb0) hb (by omega), obind_some']
  have d1 := Nat.div_add_mod h b
  have d2 := Nat.mod_lt h hb0
  obtain ⟨A, hA⟩ : ∃ A, A = h % b * 18446744073709551616 + l := ⟨_, rfl⟩
  rw [← hA]
  have d3 := Nat.div_add_mod A b
  have d4 := Nat.mod_lt A hb0
  have d5 : A / b < 18446744073709551616 := (Nat.div_lt_iff_lt_mul hb0).2 (by
    have : (h % b + 1) * 18446744073709551616 ≤ b * 18446744073709551616 := Nat.mul_le_mul_right _ d2
    rw [Nat.mul_comm 18446744073709551616 b]
    omega)
  have hN : n = (h / b * 18446744073709551616 + A / b) * b + A % b := by
    have e1 : (h / b * 18446744073709551616 + A / b) * b = b * (h / b) * 18446744073709551616 + b * (A / b) := by grind
    rw [e1, hnn]
    generalize b * (h / b) = x at *
    generalize b * (A / b) = y at *
    generalize A % b = r at *
    generalize h % b = r1 at *
    clear e hz hb0 hb hn hh hl' hnn d5 e1
    omega
  obtain ⟨n1, n2⟩ := divMod_of d4 hN
  rw [n1, n2, tdiv_nat]
  have d6 : h / b < 18446744073709551616 := Nat.lt_of_le_of_lt (Nat.div_le_self h b) (by omega)
  generalize h / b = x at *
  generalize A / b = y at *
  rw [u_wrap (x := (x : Int)) (by omega) (by omega)]
  unfold hl
  rw [show (x * 18446744073709551616 + y) / 18446744073709551616 = x by omega, show (x * 18446744073709551616 + y) % 18446744073709551616 = y by omega]
  rfl

theorem sum_cop {na nb : Int} {da A B : Nat} (ha : Nat.gcd na.natAbs da = 1) (hA : A ∣ da) (hAB : Nat.gcd A B = 1) : Nat.gcd (na * B + nb * A).natAbs A = 1 := by
  have d1 := Nat.gcd_dvd_left (na * B + nb * A).natAbs A
  have d2 := Nat.gcd_dvd_right (na * B + nb * A).natAbs A
  generalize Nat.gcd (na * B + nb * A).natAbs A = d at *
  have e1 : (d : Int) ∣ na * B + nb * A := Int.ofNat_dvd_left.2 d1
  have e2 : (d : Int) ∣ nb * A := Int.dvd_mul_of_dvd_right (Int.ofNat_dvd.2 d2)
  have e3 : (d : Int) ∣ na * B := (Int.dvd_iff_dvd_of_dvd_add e1).2 e2
  have e4 : d ∣ na.natAbs * B := by
    have := Int.ofNat_dvd_left.1 e3
    rwa [Int.natAbs_mul, Int.natAbs_natCast] at this
  have e5 : Nat.Coprime d na.natAbs := (Nat.Coprime.coprime_dvd_right (Nat.dvd_trans d2 hA) ha).symm
  have e6 : d ∣ B := Nat.Coprime.dvd_of_dvd_mul_left e5 e4
  have e7 := Nat.dvd_gcd d2 e6
  rw [hAB] at e7
  exact Nat.dvd_one.1 e7

theorem sum_plain {na nb : Int} {da db g A B : Nat} (ha : Nat.gcd na.natAbs da = 1) (hb : Nat.gcd nb.natAbs db = 1) (h1 : da = A * g) (h2 : db = B * g) (hAB : Nat.gcd A B = 1) (hg : 0 < g) (hA : 0 < A) (hB : 0 < B) {c : Nat} (hc : c = Nat.gcd g (na * B + nb * A).natAbs) :
    mkRat na da + mkRat nb db = mkRat (na * B + nb * A) (A * db) ∧ Nat.gcd ((na * B + nb * A).natAbs / c) (A * (db / c)) = 1 ∧ 0 < c ∧ c ∣ (na * B + nb * A).natAbs ∧ c ∣ db := by
  have hc0 : 0 < c := by rw [hc]; exact Nat.gcd_pos_of_pos_left _ hg
  have k1 : Nat.gcd (na * B + nb * A).natAbs A = 1 := sum_cop ha ⟨g, h1⟩ hAB
  have k2 : Nat.gcd (na * B + nb * A).natAbs B = 1 := by
    rw [Int.add_comm]
    exact sum_cop hb ⟨g, h2⟩ (by rw [Nat.gcd_comm]; exact hAB)
  have c1 : c ∣ (na * B + nb * A).natAbs := by rw [hc]; exact Nat.gcd_dvd_right _ _
  have c2 : c ∣ g := by rw [hc]; exact Nat.gcd_dvd_left _ _
  refine ⟨?_, ?_, hc0, c1, by rw [h2]; exact Nat.dvd_trans c2 (Nat.dvd_mul_left g B)⟩
  · have p1 : 0 < A * g := Nat.mul_pos hA hg
    have p2 : 0 < B * g := Nat.mul_pos hB hg
    have p3 : 0 < A * (B * g) := Nat.mul_pos hA p2
    rw [Rat.mkRat_add_mkRat _ _ (by omega) (by omega), h1, h2, Rat.mkRat_eq_iff (Nat.ne_of_gt (Nat.mul_pos p1 p2)) (by omega)]
    simp only [Int.natCast_mul]
    grind
  · have c3 : Nat.gcd ((na * B + nb * A).natAbs / c) (g / c) = 1 := by
      rw [hc, Nat.gcd_comm]
      exact Nat.gcd_div_gcd_div_gcd_of_pos_left hg
    have hdb : db / c = B * (g / c) := by rw [h2, Nat.mul_div_assoc _ c2]
    have dv : (na * B + nb * A).natAbs / c ∣ (na * B + nb * A).natAbs := Nat.div_dvd_of_dvd c1
    rw [hdb]
    exact Nat.Coprime.mul_right (Nat.Coprime.coprime_dvd_left dv k1) (Nat.Coprime.mul_right (Nat.Coprime.coprime_dvd_left dv k2) c3)

theorem Add_ok {a b : Fq} (ha : okF a) (hb : okF b) : ratio_Add a b = some (fitQ (qv a + qv b)) := by
  obtain ⟨na, da'⟩ := a
  obtain ⟨nb, db'⟩ := b
  have ha' := ha
  have hb' := hb
  unfold okF at ha' hb'
  simp only at ha' hb'
  obtain ⟨⟨a1, a2⟩, ⟨a3, a4⟩, a5⟩ := ha'
  obtain ⟨⟨b1, b2⟩, ⟨b3, b4⟩, b5⟩ := hb'
  obtain ⟨da, rfl⟩ : ∃ da : Nat, da' = da := ⟨da'.toNat, by omega⟩
  obtain ⟨db, rfl⟩ : ∃ db : Nat, db' = db := ⟨db'.toNat, by omega⟩
  rw [Int.natAbs_natCast] at a5 b5
  simp only [ratio_Add, ratio_Add_b, Valid_ok, decide_eq_true ha, decide_eq_true hb, obind_some', Bool.not_true, Bool.not_false, Bool.or_false, Bool.or_true, Bool.false_or, Bool.true_or, cT, cF, jnT]
  rw [u_wrap (x := (da : Int)) (by omega) (by omega), u_wrap (x := (db : Int)) (by omega) (by omega), gcd_ok _ _ (by omega), obind_some', size_ok (by omega) (by omega), obind_some', size_ok (by omega) (by omega)]
  have hg : 0 < Nat.gcd da db := Nat.gcd_pos_of_pos_left _ (by omega)
  have hgl : Nat.gcd da db ≤ da := Nat.gcd_le_left _ (by omega)
  obtain ⟨A, hA⟩ : ∃ A, A = da / Nat.gcd da db := ⟨_, rfl⟩
  obtain ⟨B, hB⟩ : ∃ B, B = db / Nat.gcd da db := ⟨_, rfl⟩
  have hAg : da = A * Nat.gcd da db := by rw [hA, Nat.div_mul_cancel (Nat.gcd_dvd_left _ _)]
  have hBg : db = B * Nat.gcd da db := by rw [hB, Nat.div_mul_cancel (Nat.gcd_dvd_right _ _)]
  have hAB : Nat.gcd A B = 1 := by rw [hA, hB]; exact Nat.gcd_div_gcd_div_gcd_of_pos_left (by omega)
  have hA0 : 0 < A := by rw [hA]; exact Nat.div_pos (Nat.gcd_le_left _ (by omega)) hg
  have hB0 : 0 < B := by rw [hB]; exact Nat.div_pos (Nat.gcd_le_right _ (by omega)) hg
  have hAl : A ≤ da := by rw [hA]; exact Nat.div_le_self _ _
  have hBl : B ≤ db := by rw [hB]; exact Nat.div_le_self _ _
  have hz : nzB ((Nat.gcd da db : Nat) : Int) = true := nzB_of (by omega)
  rw [hz, cT, tdiv_nat, tdiv_nat, ← hA, ← hB, u_wrap (x := (A : Int)) (by omega) (by omega), u_wrap (x := (B : Int)) (by omega) (by omega)]
  have x1 : na.natAbs * B ≤ 1152921504606846976 * 1152921504606846976 := Nat.mul_le_mul (by omega) (by omega)
  have y1 : nb.natAbs * A ≤ 1152921504606846976 * 1152921504606846976 := Nat.mul_le_mul (by omega) (by omega)
  rw [product_ok (by omega) (by omega), obind_some', obind_some', cT, product_ok (by omega) (by omega), obind_some']
  have hsum := sum_plain (na := na) (nb := nb) a5 b5 hAg hBg hAB hg hA0 hB0 rfl
  generalize Nat.gcd da db = g at *
  have hv : qv (na, (da : Int)) + qv (nb, (db : Int)) = mkRat na da + mkRat nb db := rfl
  rw [hv, hsum.1]
  simp only [not_or_self', or_self_not, Bool.not_not, cT]
  have tail : ∀ (s : Bool) (N : Nat), N ≤ 2658455991569831745807614120560689152 → sgn s N = na * B + nb * A → (bif decide ((hl N).1 = 0) && (decide ((hl N).2 = 0) && true) then some (((0 : Int), (1 : Int)), (0 : Int), PUnit.unit) else
      obind (ratio_over (hl N) (g : Int)) fun t_5 => obind (ratio_gcd (g : Int) t_5.2.1) fun t_1 => obind (ratio_over (hl N) t_1) fun t_6 => bif nzB t_1 then obind (ratio_product (A : Int) (IntKind.wrap .u64 (Int.tdiv (db : Int) t_1))) fun t =>
        bif bif decide (t_6.1.1 > 0) then true else decide (t.1 > 0) then some (((0 : Int), (0 : Int)), (5 : Int), PUnit.unit) else obind (ratio_signed s t_6.1.2 t.2) fun t => some (t.1, t.2.1, PUnit.unit) else none) = some (fitQ (mkRat (na * B + nb * A) (A * db))) := by
    intro s N hN hs
    have hNT : (na * B + nb * A).natAbs = N := by rw [← hs]; unfold sgn; split <;> simp
    rw [hNT] at hsum
    rw [zero_hl (by omega)]
    by_cases h0 : N = 0
    · rw [decide_eq_true h0, cT, ← hs, h0, show sgn s 0 = 0 by unfold sgn; cases s <;> rfl, Rat.zero_mkRat]
      rfl
    · obtain ⟨c, hc⟩ : ∃ c, c = Nat.gcd g N := ⟨_, rfl⟩
      rw [← hc] at hsum
      obtain ⟨_, s2, s3, s4, s5⟩ := hsum
      have hcg : c ≤ g := by rw [hc]; exact Nat.gcd_le_left _ hg
      rw [decide_eq_false h0, cF, over_ok hg (by omega) (by omega), obind_some', gcd_ok _ _ (by have := Nat.mod_lt N hg; generalize N % g = w at *; omega), obind_some', Nat.gcd_comm, ← Nat.gcd_rec, ← hc, over_ok s3 (by omega) (by omega), obind_some', nzB_of (by omega), cT, tdiv_nat]
      have hdc : db / c ≤ db := Nat.div_le_self _ _
      have hdc0 : 0 < db / c := Nat.div_pos (Nat.le_of_dvd (by omega) s5) s3
      rw [u_wrap (by omega) (by generalize db / c = w at *; omega), product_ok (by omega) (by generalize db / c = w at *; omega), obind_some']
      have hNc : N / c ≤ N := Nat.div_le_self _ _
      have hval : mkRat (na * B + nb * A) (A * db) = mkRat (sgn s (N / c)) (A * (db / c)) := by
        rw [← hs]
        refine mkQ_congr (Nat.mul_pos hA0 (by omega)) (Nat.mul_pos hA0 hdc0) ?_
        obtain ⟨x, rfl⟩ := s4
        obtain ⟨y, rfl⟩ := s5
        rw [Nat.mul_div_cancel_left _ s3, Nat.mul_div_cancel_left _ s3]
        grind
      rw [hval, fit_low (Nat.mul_pos hA0 hdc0) s2]
      have hden : A * (db / c) ≤ 1152921504606846976 * 1152921504606846976 := Nat.mul_le_mul (by omega) (by omega)
      generalize N / c = n at *
      generalize A * (db / c) = d at *
      by_cases hn : n < 18446744073709551616
      · by_cases hd : d < 18446744073709551616
        · rw [hl_small hn, hl_small hd]
          simp only
          rw [show decide ((0 : Int) > 0) = false from rfl, cF, cF, signed_ok _ _ _ hn hd, obind_some']
        · rw [hl_small hn]
          simp only
          rw [show decide ((0 : Int) > 0) = false from rfl, decide_eq_true (hl_big hd), cF, cT, if_neg (by omega)]
      · rw [decide_eq_true (hl_big hn), cT, cT, if_neg (by omega)]
  have sx : ∀ {n : Int} {s : Bool}, s = decide (n < 0) → n = sgn s n.natAbs := fun {n s} h => by rw [h]; exact size_sgn n
  by_cases hsg : decide (na < 0) = decide (nb < 0)
  · rw [decide_eq_true hsg, cT, rPlus_ok (by omega), obind_some']
    refine tail _ _ (by omega) ?_
    have e1 : na = sgn (decide (na < 0)) na.natAbs := size_sgn na
    have e2 : nb = sgn (decide (na < 0)) nb.natAbs := by rw [hsg]; exact size_sgn nb
    generalize na.natAbs = m at *
    generalize nb.natAbs = n at *
    generalize decide (na < 0) = s at *
    rw [e1, e2]
    unfold sgn
    cases s
    · simp only [Bool.false_eq_true, if_false]
      rw [Int.natCast_add, Int.natCast_mul, Int.natCast_mul]
    · simp only [if_true]
      rw [Int.natCast_add, Int.natCast_mul, Int.natCast_mul]
      grind
  · have e1 : na = sgn (decide (na < 0)) na.natAbs := size_sgn na
    have e2 : nb = sgn (!decide (na < 0)) nb.natAbs := by
      have : (!decide (na < 0)) = decide (nb < 0) := by
        clear tail sx hsum hv ha hb
        revert hsg
        cases decide (na < 0) <;> cases decide (nb < 0) <;> simp
      rw [this]; exact size_sgn nb
    rw [decide_eq_false hsg, cF, rLess_ok, obind_some']
    by_cases hlt : na.natAbs * B < nb.natAbs * A
    · rw [decide_eq_true hlt, cT, rMinus_ok (by omega) (by omega), obind_some']
      refine tail _ _ (by omega) ?_
      generalize na.natAbs = m at *
      generalize nb.natAbs = n at *
      generalize decide (na < 0) = s at *
      rw [e1, e2]
      have e3 : (((n * A - m * B : Nat)) : Int) = (n : Int) * A - (m : Int) * B := by rw [Int.ofNat_sub (Nat.le_of_lt hlt), Int.natCast_mul, Int.natCast_mul]
      unfold sgn
      cases s
      · simp only [Bool.false_eq_true, if_false, Bool.not_false, if_true]
        grind
      · simp only [if_true, Bool.not_true, Bool.false_eq_true, if_false]
        grind
    · rw [decide_eq_false hlt, cF, rMinus_ok (by omega) (by omega), obind_some']
      refine tail _ _ (by omega) ?_
      generalize na.natAbs = m at *
      generalize nb.natAbs = n at *
      generalize decide (na < 0) = s at *
      rw [e1, e2]
      have e3 : (((m * B - n * A : Nat)) : Int) = (m : Int) * B - (n : Int) * A := by rw [Int.ofNat_sub (Nat.not_lt.1 hlt), Int.natCast_mul, Int.natCast_mul]
      unfold sgn
      cases s
      · simp only [Bool.false_eq_true, if_false, Bool.not_false, if_true]
        grind
      · simp only [if_true, Bool.not_true, Bool.false_eq_true, if_false]
        grind

end Go.Proofs.YtmoiiokmfanlgaaGreat

namespace Go.Proofs.YtmoiiokmfanlgaaGreat
open Tryz Dn Dn.Sh

end Go.Proofs.YtmoiiokmfanlgaaGreat

namespace Go.Proofs.YtmoiiokmfanlgaaGreat
open Tryz Dn Dn.Sh

end Go.Proofs.YtmoiiokmfanlgaaGreat

namespace Go.Proofs.YtmoiiokmfanlgaaGreat
open Tryz Dn Dn.Sh

theorem repeat_one (z : Fq) {n : Nat} (hn : n ≤ 1000000) : slices_Repeat_119 [z] (n : Int) = some (List.replicate n z) := by
  have hm : bits_Mul (IntKind.wrap .u64 ((List.length [z] : Nat) : Int)) (IntKind.wrap .u64 (n : Int)) = some (0, (n : Int), ()) := by
    simp only [bits_Mul, bits_Mul_b]
    rw [u_wrap (by simp) (by simp), u_wrap (by omega) (by omega), mulW (by simp) (by simp) (by omega) (by omega), obind_some']
    simp only [List.length_singleton]
    congr 1
    refine Prod.ext ?_ (Prod.ext ?_ rfl)
    · show ((1 : Nat) : Int) * n / 18446744073709551616 = 0
      omega
    · show ((1 : Nat) : Int) * n % 18446744073709551616 = n
      omega
  have hw : IntKind.wrap .i64 (n : Int) = (n : Int) := wrap_id (by omega) (by omega)
  simp only [slices_Repeat_119, slices_Repeat_119_b, jnT]
  rw [decide_eq_false (show ¬ (n : Int) < 0 by omega), cF, hm, obind_some']
  have h63 : decide ((n : Int) > 9223372036854775807) = false := decide_eq_false (by omega)
  have hz0 : decide ((0 : Int) > 0) = false := rfl
  have hz1 : decide ((0 : Int) ≤ (n : Int)) = true := decide_eq_true (by omega)
  have hfb : fitB n 16 = true := fitB_of (by omega)
  simp only [hw, hz0, h63, hz1, Int.toNat_natCast, hfb, Bool.not_false, Bool.not_true, Bool.or_true, Bool.or_false, Bool.and_self, Bool.true_or, Bool.false_or, cT, cF, List.drop_zero, List.take_zero, List.nil_append]
  refine lpK_loop (g := fun _ => some (List.replicate n z)) (I := fun (x : Int × List Fq × PUnit) => ∃ c : Nat, x.1 = c ∧ c ≤ n ∧ (0 < n → 0 < c) ∧ x.2.1.length = n ∧ x.2.1.take c = List.replicate c z) (μ := fun (x : Int × List Fq × PUnit) => n - x.1.toNat) ?_ ?_ (by simp only; omega)
  · rintro ⟨i, row, _⟩ rec ⟨c, h1, h2, h3, h4, h5⟩ hrec
    simp only at h1 h4 h5 hrec ⊢
    subst h1
    simp only [Int.toNat_natCast, h4]
    by_cases hc : c < n
    · have hl : (List.take (n - c) (List.take c row)).length = min (n - c) c := by rw [List.length_take, List.length_take, h4]; omega
      rw [decide_eq_true (show (c : Int) < n by omega), cT, slB_of (by omega) (by omega) (by omega), slB_of (by omega) (by omega) (by omega), decide_eq_true (show (0 : Int) < n by omega), ble_of (by omega), ble_of (Nat.le_refl n)]
      simp only [Bool.and_self, cT]
      rw [wrap_id (by omega) (by omega)]
      refine hrec _ ⟨c + min (n - c) c, ?_, by omega, by omega, ?_, ?_⟩ ?_
      · simp only; rw [hl]; omega
      · simp only [List.length_append, List.length_drop, hl, h4, List.length_take]; omega
      · simp only
        rw [List.take_append_of_le_length (by rw [List.length_append, hl, List.length_take, h4]; omega), h5, List.take_replicate, List.replicate_append_replicate, List.take_replicate]
        congr 1
        omega
      · simp only; rw [hl]; omega
    · have : c = n := by omega
      subst this
      rw [decide_eq_false (show ¬ (c : Int) < c by omega), cF]
      rw [← h5, List.take_of_length_le (by omega)]
  · refine ⟨(List.take n [z]).length, rfl, by rw [List.length_take]; omega, fun h => by rw [List.length_take]; simp; omega, ?_, ?_⟩
    · simp only [List.length_append, List.length_drop, List.length_replicate, List.length_take, List.length_singleton]; omega
    · simp only
      rcases Nat.eq_zero_or_pos n with h | h
      · subst h; rfl
      · obtain ⟨m, rfl⟩ : ∃ m, n = m + 1 := ⟨n - 1, by omega⟩
        simp

/-! ### The shares -/

/-- What each beam over the load bears of it. -/
def shareQ (l : List Bm) (x : Ld) : Rat := mkRat x.2 (cntB l x.1)
/-- The beams' loads with one more. -/
def stepQ (l : List Bm) (x : Ld) (S : Nat → Rat) : Nat → Rat := fun i => if isB x.1 (bmAt l i) then S i + shareQ l x else S i
/-- Whether what the beams before n bear fits. -/
def allFit (n : Nat) (S : Nat → Rat) : Bool := (List.range' 0 n).all fun i => decide (fitsQ (S i))
/-- What the beams bear at the end; none if something did not fit on the way. -/
def runQ (l : List Bm) : List Ld → (Nat → Rat) → Option (Nat → Rat)
  | [], S => some S
  | x :: r, S => if allFit l.length (stepQ l x S) then runQ l r (stepQ l x S) else none
/-- The fractions that the beams bear. -/
def outQ (n : Nat) (S : Nat → Rat) : List Fq := (List.range' 0 n).map fun i => prQ (S i)

theorem outQ_len (n : Nat) (S : Nat → Rat) : (outQ n S).length = n := by simp [outQ]
theorem outQ_get {n i : Nat} (h : i < n) (S : Nat → Rat) {d : Fq} : (outQ n S).getD i d = prQ (S i) := by
  rw [getD_nat (by rw [outQ_len]; exact h)]
  simp [outQ]
theorem allFit_iff {n : Nat} {S : Nat → Rat} : allFit n S = true ↔ ∀ i, i < n → fitsQ (S i) := by
  unfold allFit
  rw [List.all_eq_true]
  constructor
  · intro h i hi
    exact of_decide_eq_true (h i (List.mem_range'.2 ⟨i, hi, by omega⟩))
  · intro h i hi
    obtain ⟨k, hk, rfl⟩ := List.mem_range'.1 hi
    exact decide_eq_true (h _ (by omega))

end Go.Proofs.YtmoiiokmfanlgaaGreat

namespace Go.Proofs.YtmoiiokmfanlgaaGreat
open Tryz Dn Dn.Sh

abbrev Sg := List Fq × Int × Int × List Fq × PUnit
abbrev Rg := List Fq × Int × PUnit
noncomputable def addB (share : Fq) (a : Int × Unit) (s : Sg) (k : Sg → Option Rg) : Option Rg :=
  bif inB a.1 (List.length s.2.2.2.1) then bif Nat.ble (Nat.succ (Int.toNat a.1)) (List.length s.2.2.2.1) then obind (ratio_Add (List.getD s.2.2.2.1 (Int.toNat a.1) ((0 : Int), (0 : Int))) share) fun (t : (Int × Int) × Int × PUnit) =>
    bif inB a.1 (List.length s.2.2.2.1) then bif Nat.ble (Nat.succ (Int.toNat a.1)) (List.length s.2.2.2.1) then bif !decide (t.2.1 = (0 : Int)) then some ([], t.2.1, PUnit.unit) else
      k (s.1, s.2.1, t.2.1, List.set s.2.2.2.1 (Int.toNat a.1) t.1, PUnit.unit) else none else none else none else none

def updQ (S : Nat → Rat) (i : Nat) (v : Rat) : Nat → Rat := fun j => if j = i then v else S j
theorem outQ_set {n i : Nat} (S : Nat → Rat) (v : Rat) : (outQ n S).set i (prQ v) = outQ n (updQ S i v) := by
  apply List.ext_getElem
  · rw [List.length_set, outQ_len, outQ_len]
  · intro j h1 h2
    rw [List.getElem_set]
    simp only [outQ, List.getElem_map, List.getElem_range', updQ]
    by_cases e : i = j
    · subst e; simp
    · rw [if_neg e, if_neg (by omega)]

theorem add_step {n i : Nat} {S : Nat → Rat} {q : Rat} (hi : i < n) (hS : ∀ j, j < n → fitsQ (S j)) (hq : fitsQ q) {d1 : List Fq} {d2 e : Int} {k : Sg → Option Rg} :
    addB (prQ q) ((i : Int), ()) (d1, d2, e, outQ n S, ()) k = if fitsQ (S i + q) then k (d1, d2, 0, outQ n (updQ S i (S i + q)), ()) else some ([], 5, ()) := by
  unfold addB
  simp only [outQ_len, Int.toNat_natCast]
  rw [inB_of (by omega) (by omega), ble_of (by omega)]
  simp only [cT, outQ_get hi]
  rw [Add_ok (okF_prQ (hS i hi)) (okF_prQ hq), obind_some', qv_prQ, qv_prQ]
  rcases fitQ_cases (S i + q) with ⟨h1, h2⟩ | ⟨h1, h2⟩
  · rw [h2, if_pos h1, outQ_set]
    rfl
  · rw [h2, if_neg h1]
    rfl

/-- The places before k have had their share. -/
def mixQ (l : List Bm) (x : Ld) (S : Nat → Rat) (k : Nat) : Nat → Rat := fun j => if j < k then stepQ l x S j else S j

theorem inner_ok {l : List Bm} {x : Ld} {S : Nat → Rat} (hS : ∀ j, j < l.length → fitsQ (S j)) (hq : fitsQ (shareQ l x)) {d1 : List Fq} {d2 : Int} {f : Sg → Option Rg} :
    ∀ (m k : Nat), k + m = l.length → (∀ j, j < k → fitsQ (stepQ l x S j)) → upF (fun i s kk => bif isB x.1 (bmAt l i) then addB (prQ (shareQ l x)) ((i : Int), ()) s kk else kk s) f m k (d1, d2, 0, outQ l.length (mixQ l x S k), ()) =
      if allFit l.length (stepQ l x S) then f (d1, d2, 0, outQ l.length (stepQ l x S), ()) else some ([], 5, ())
  | 0, k, hk, hf => by
    have hk : k = l.length := by omega
    subst hk
    rw [if_pos (allFit_iff.2 hf)]
    simp only [upF]
    congr 3
    show (0, outQ _ _, ()) = (0, outQ _ _, ())
    congr 2
    unfold outQ
    apply List.map_congr_left
    intro i hi
    obtain ⟨j, hj, rfl⟩ := List.mem_range'.1 hi
    unfold mixQ
    rw [if_pos (by omega)]
  | m + 1, k, hk, hf => by
    have hk' : k < l.length := by omega
    simp only [upF]
    have hmix : ∀ j, j < l.length → fitsQ (mixQ l x S k j) := fun j hj => by
      unfold mixQ
      split
      · exact hf j (by assumption)
      · exact hS j hj
    have hmk : mixQ l x S k k = S k := by unfold mixQ; rw [if_neg (by omega)]
    cases hb : isB x.1 (bmAt l k) with
    | false =>
      rw [cond_false]
      have hst : stepQ l x S k = S k := by unfold stepQ; rw [hb]; rfl
      have e : mixQ l x S k = mixQ l x S (k + 1) := by
        funext j
        unfold mixQ
        by_cases h1 : j < k
        · rw [if_pos h1, if_pos (by omega)]
        · by_cases h2 : j = k
          · subst h2; rw [if_neg (by omega), if_pos (by omega), hst]
          · rw [if_neg h1, if_neg (by omega)]
      rw [e]
      exact inner_ok hS hq m (k + 1) (by omega) fun j hj => by
        by_cases h2 : j = k
        · subst h2; rw [hst]; exact hS j hk'
        · exact hf j (by omega)
    | true =>
      rw [cond_true, add_step hk' hmix hq, hmk]
      have hst : stepQ l x S k = S k + shareQ l x := by unfold stepQ; rw [hb]; rfl
      by_cases h1 : fitsQ (S k + shareQ l x)
      · rw [if_pos h1]
        have e : updQ (mixQ l x S k) k (S k + shareQ l x) = mixQ l x S (k + 1) := by
          funext j
          unfold mixQ updQ
          by_cases h2 : j = k
          · subst h2; rw [if_pos rfl, if_pos (by omega), hst]
          · rw [if_neg h2]
            dsimp only
            by_cases h3 : j < k
            · rw [if_pos h3, if_pos (by omega)]
            · rw [if_neg h3, if_neg (by omega)]
        rw [e]
        exact inner_ok hS hq m (k + 1) (by omega) fun j hj => by
          by_cases h2 : j = k
          · subst h2; rw [hst]; exact h1
          · exact hf j (by omega)
      · rw [if_neg h1, if_neg]
        intro h2
        exact h1 (hst ▸ allFit_iff.1 h2 k hk')

theorem share_fits {l : List Bm} {x : Ld} (hl : l.length ≤ 1000000) (hx : inW x.2 = true) (hc : cntB l x.1 ≠ 0) : fitsQ (shareQ l x) := by
  have := cntB_le l x.1
  simp only [inW, decide_eq_true_eq] at hx
  unfold shareQ fitsQ
  rw [Rat.num_mkRat, Rat.den_mkRat]
  rw [if_neg hc, if_neg hc]
  constructor
  · rw [Int.natAbs_ediv_of_dvd]
    · exact Nat.le_trans (Nat.div_le_self _ _) (by omega)
    · exact Int.ofNat_dvd_left.2 (Nat.gcd_dvd_right _ _)
  · exact Nat.le_trans (Nat.div_le_self _ _) (by omega)

end Go.Proofs.YtmoiiokmfanlgaaGreat

namespace Go.Proofs.YtmoiiokmfanlgaaGreat
open Tryz Dn Dn.Sh

theorem listF_all {α σ R : Type} {b : α → σ → (σ → Option R) → Option R} {f : σ → Option R} {p : α → Bool} {r : Option R} : ∀ {L : List α} {s : σ}, (∀ a ∈ L, ∀ s k, b a s k = bif p a then k s else r) → listF b f L s = bif L.all p then f s else r
  | [], _, _ => rfl
  | a :: L, s, h => by
    simp only [listF, List.all_cons]
    rw [h a (by simp)]
    cases p a with
    | true => exact listF_all fun a' ha => h a' (by simp [ha])
    | false => rfl

def noneB (l : List Bm) (at_ : List Ld) : Bool := at_.any fun x => decide (cntB l x.1 = 0)
def borneQ (l : List Bm) (at_ : List Ld) : Rg := if noneB l at_ then ([], 12, ()) else match runQ l at_ (fun _ => 0) with
  | some S => (outQ l.length S, 0, ())
  | none => ([], 5, ())

theorem outQ_zero (n : Nat) : outQ n (fun _ => 0) = List.replicate n ((0 : Int), (1 : Int)) := by
  apply List.ext_getElem
  · rw [outQ_len, List.length_replicate]
  · intro i h1 h2
    simp only [outQ, List.getElem_map, List.getElem_replicate]
    rfl

theorem make_share {l : List Bm} {x : Ld} (hl : l.length ≤ 1000000) (hx : inW x.2 = true) (hc : cntB l x.1 ≠ 0) : (if ((cntB l x.1 : Nat) : Int) = 0 then (((0 : Int), (0 : Int)), (16 : Int), ()) else fitQ (divQ x.2 (cntB l x.1 : Nat))) = (prQ (shareQ l x), 0, ()) := by
  have hle := cntB_le l x.1
  rw [if_neg (by omega)]
  have e : divQ x.2 (cntB l x.1 : Nat) = shareQ l x := by
    unfold divQ shareQ sgn
    simp only [inW, decide_eq_true_eq] at hx
    rw [show (decide (x.2 < 0) != decide (((cntB l x.1 : Nat) : Int) < 0)) = false by rw [decide_eq_false (by omega), decide_eq_false (by omega)]; rfl]
    simp only [Bool.false_eq_true, if_false, Int.natAbs_natCast]
    congr 1
    omega
  rw [e, ← fitQ_qv (okF_prQ (share_fits hl hx hc)), qv_prQ]

theorem borne_ok {l : List Bm} {at_ : List Ld} (hl : l.length ≤ 1000000) (ha : at_.length ≤ 1000000) (hw : ∀ x ∈ at_, inW x.2 = true) : grid_borne l at_ = some (borneQ l at_) := by
  simp only [grid_borne, grid_borne_b, grid_of, grid_of_b, obind_some']
  rw [repeat_one _ hl, obind_some', ← outQ_zero]
  refine' (lpK_int at_ ((0 : Int), (0 : Int)) (by omega) (fun i (s : List Fq × Int) => (((i : Nat) : Int), s.1, s.2, PUnit.unit)) (fun x s k => bif decide (((cntB l x.1 : Nat) : Int) = 0) then some ([], 12, ()) else k s) _ ?_ ?_ (([] : List Fq), (0 : Int))).trans ?_
  rotate_left
  · intro again i s hi
    have hwr : IntKind.wrap .i64 ((i : Int) + 1) = ((i + 1 : Nat) : Int) := by rw [wrap_id (by omega) (by omega)]; rfl
    simp only [inB_nat, decide_eq_true hi, decide_eq_true (show (i : Int) < at_.length by omega), cT, Int.toNat_natCast, hwr, count_ok hl, obind_some']
  · intro again s
    simp only [decide_eq_false (show ¬ (at_.length : Int) < at_.length by omega), cF]
    rfl
  · rw [listF_all (p := fun x => !decide (((cntB l x.1 : Nat) : Int) = 0)) (r := some ([], 12, ())) (fun x _ s k => by cases decide (((cntB l x.1 : Nat) : Int) = 0) <;> rfl)]
    unfold borneQ
    have hall : (at_.all fun x => !decide (((cntB l x.1 : Nat) : Int) = 0)) = !noneB l at_ := by
      unfold noneB
      rw [List.not_any_eq_all_not]
      congr 1
      funext x
      congr 1
      rw [Bool.eq_iff_iff, decide_eq_true_iff, decide_eq_true_iff]
      omega
    rw [hall]
    cases hn : noneB l at_ with
    | true => rfl
    | false =>
      simp only [Bool.not_false, cT, Bool.false_eq_true, if_false]
      have hc : ∀ x ∈ at_, cntB l x.1 ≠ 0 := fun x hx e => by
        unfold noneB at hn
        have := List.any_eq_false.1 hn x hx
        simp [e] at this
      refine (lpK_int at_ ((0 : Int), (0 : Int)) (by omega) (fun i (s : List Fq × Int × List Fq) => (((i : Nat) : Int), s.1, s.2.1, s.2.2, PUnit.unit))
        (fun x s k => bif decide (cntB l x.1 = 0) then none else upF (fun i s kk => bif isB x.1 (bmAt l i) then addB (prQ (shareQ l x)) ((i : Int), ()) s kk else kk s) (fun s => k (s.1, s.2.1, s.2.2.2.1)) l.length 0 (s.1, s.2.1, 0, s.2.2, ()))
        (fun s => some (s.2.2, 0, ())) ?_ (fun again s => ?_) (([] : List Fq), (0 : Int), outQ l.length (fun _ => 0))).trans ?_
      · intro again i s hi
        have hwr : IntKind.wrap .i64 ((i : Int) + 1) = ((i + 1 : Nat) : Int) := by rw [wrap_id (by omega) (by omega)]; rfl
        have hmem : at_.getD i ((0 : Int), (0 : Int)) ∈ at_ := by rw [getD_nat hi]; exact List.getElem_mem hi
        have hc' := hc _ hmem
        have hw' := hw _ hmem
        simp only [inB_nat, decide_eq_true hi, decide_eq_true (show (i : Int) < at_.length by omega), cT, Int.toNat_natCast, hwr, count_ok hl, obind_some']
        generalize at_.getD i ((0 : Int), (0 : Int)) = x at *
        have hle := cntB_le l x.1
        have hx := hw'
        simp only [inW, decide_eq_true_eq] at hx
        rw [decide_eq_false hc', cF, Make_ok (by omega) (by omega) (by omega) (by omega), obind_some', make_share hl hw' hc']
        simp only [decide_true, Bool.not_true, cF, overP_of hl, cT]
        refine (lpK_nat (overL l x.1) ((0 : Int), ()) (by rw [overL_len]; omega) (addB (prQ (shareQ l x))) (fun (s : Sg) => again (((i + 1 : Nat) : Int), s.1, s.2.1, s.2.2.2.1, PUnit.unit)) ?_ (fun again' s' => ?_) (s.1, s.2.1, (0 : Int), s.2.2, PUnit.unit)).trans ?_
        · intro again' j s' hj
          rw [show Nat.ble (Nat.succ j) (overL l x.1).length = true from ble_of (by omega), cT]
          rfl
        · rw [show Nat.ble (Nat.succ (overL l x.1).length) (overL l x.1).length = false by rw [Bool.eq_false_iff]; intro e; have := Nat.le_of_ble_eq_true e; omega, cF]
        · exact overG_walk (l := l) (c := fun i _ s k => addB (prQ (shareQ l x)) ((i : Int), ()) s k) (fun _ _ _ _ => rfl) l.length 0 _ (by omega)
      · simp only [decide_eq_false (show ¬ (at_.length : Int) < at_.length by omega), cF]
      · have key : ∀ (L : List Ld) (S : Nat → Rat), (∀ x ∈ L, inW x.2 = true) → (∀ x ∈ L, cntB l x.1 ≠ 0) → (∀ j, j < l.length → fitsQ (S j)) →
            listF (fun x (s : List Fq × Int × List Fq) (k : List Fq × Int × List Fq → Option Rg) => bif decide (cntB l x.1 = 0) then none else upF (fun i s kk => bif isB x.1 (bmAt l i) then addB (prQ (shareQ l x)) ((i : Int), ()) s kk else kk s) (fun s => k (s.1, s.2.1, s.2.2.2.1)) l.length 0 (s.1, s.2.1, 0, s.2.2, ()))
              (fun s => some (s.2.2, 0, ())) L (([] : List Fq), (0 : Int), outQ l.length S) = some (match runQ l L S with | some S => (outQ l.length S, 0, ()) | none => ([], 5, ())) := by
          intro L
          induction L with
          | nil => intro S _ _ _; rfl
          | cons x L ih =>
            intro S h1 h2 h3
            simp only [listF]
            have hx := h1 x (by simp)
            have hcx := h2 x (by simp)
            have := inner_ok (f := fun s => listF (fun x (s : List Fq × Int × List Fq) (k : List Fq × Int × List Fq → Option Rg) => bif decide (cntB l x.1 = 0) then none else upF (fun i s kk => bif isB x.1 (bmAt l i) then addB (prQ (shareQ l x)) ((i : Int), ()) s kk else kk s) (fun s => k (s.1, s.2.1, s.2.2.2.1)) l.length 0 (s.1, s.2.1, 0, s.2.2, ()))
              (fun s => some (s.2.2, 0, ())) L (s.1, s.2.1, s.2.2.2.1)) (d1 := ([] : List Fq)) (d2 := (0 : Int)) h3 (share_fits hl hx hcx) l.length 0 (by omega) (fun j hj => by omega)
            rw [decide_eq_false hcx, cF]
            have e0 : mixQ l x S 0 = S := by funext j; unfold mixQ; rw [if_neg (by omega)]
            rw [e0] at this
            rw [this]
            unfold runQ
            cases hf : allFit l.length (stepQ l x S) with
            | false => rfl
            | true =>
              simp only [if_true]
              exact ih (stepQ l x S) (fun y hy => h1 y (by simp [hy])) (fun y hy => h2 y (by simp [hy])) (allFit_iff.1 hf)
        exact key at_ (fun _ => 0) hw hc (fun j _ => by show fitsQ 0; decide)

end Go.Proofs.YtmoiiokmfanlgaaGreat

namespace Go.Proofs.YtmoiiokmfanlgaaGreat
open Tryz Dn Dn.Sh

end Go.Proofs.YtmoiiokmfanlgaaGreat

namespace Go.Proofs.YtmoiiokmfanlgaaGreat
open Tryz Dn Dn.Sh

theorem contains_of_idx {α : Type} {p : α → Bool} {l : List α} : decide (idxI p l 0 ≥ 0) = l.any p := by
  have := idxI_neg (p := p) (l := l) (i := 0) (by omega)
  rw [Bool.eq_iff_iff, decide_eq_true_iff, List.any_eq_true]
  constructor
  · intro h1
    by_cases h2 : ∃ a ∈ l, p a = true
    · exact h2
    · have : idxI p l 0 < 0 := this.2 fun a ha => by
        cases e : p a with
        | false => rfl
        | true => exact (h2 ⟨a, ha, e⟩).elim
      omega
  · rintro ⟨a, ha, h3⟩
    by_cases h2 : idxI p l 0 < 0
    · rw [this.1 h2 a ha] at h3; cases h3
    · omega
theorem contains31 {f : (Ld × Unit) → Option Bool} {p : Ld → Bool} {l : List Ld} (hl : l.length ≤ 1000000) (h : ∀ a, a ∈ l → f (a, ()) = some (p a)) : slices_ContainsFunc_117 l f = some (l.any p) := by
  simp only [slices_ContainsFunc_117, slices_ContainsFunc_117_b]
  unfold slices_IndexFunc_152 slices_IndexFunc_152_b
  rw [index_loop (f := f) (d := ((0 : Int), (0 : Int))) hl h, obind_some', contains_of_idx]
theorem given1_ok (x : Ld) : grid_given_1 x = some (!loadB x) := by
  obtain ⟨a, w⟩ := x
  simp only [grid_given_1, grid_given_1_b, within_ok, obind_some', loadB]
  cases inL a with
  | false => rfl
  | true =>
    unfold inW
    by_cases h1 : w < 0
    · rw [decide_eq_true h1, decide_eq_false (show ¬ (0 ≤ w ∧ w ≤ 67108864) by omega)]; rfl
    · by_cases h2 : w > 67108864
      · rw [decide_eq_false h1, decide_eq_true h2, decide_eq_false (show ¬ (0 ≤ w ∧ w ≤ 67108864) by omega)]; rfl
      · rw [decide_eq_false h1, decide_eq_false h2, decide_eq_true (show (0 ≤ w ∧ w ≤ 67108864) by omega)]; rfl

theorem given_ok (l : List Bm) (at_ : List Ld) : grid_given l at_ = some (bif validG l && rightG at_ then 0 else 1) := by
  simp only [grid_given, grid_given_b, gValid_ok, obind_some']
  cases validG l with
  | false => cases decide (((at_.length : Nat) : Int) > 1000) <;> rfl
  | true =>
    by_cases h0 : at_.length ≤ 1000
    · have hr : rightG at_ = at_.all loadB := by unfold rightG; rw [decide_eq_true h0, Bool.true_and]
      rw [decide_eq_false (show ¬ ((at_.length : Nat) : Int) > 1000 by omega), hr]
      have hc : slices_ContainsFunc_117 at_ (fun x => grid_given_1 x.1) = some (at_.any fun x => !loadB x) := contains31 (p := fun x => !loadB x) (by omega) fun a _ => given1_ok a
      have e : (at_.any fun x => !loadB x) = !at_.all loadB := by rw [List.not_all_eq_any_not]
      simp only [Bool.not_true, Bool.not_false, cT, cF, Bool.or_false, Bool.false_or, Bool.or_true, Bool.true_or, hc, e, obind_some']
      cases at_.all loadB <;> rfl
    · have hr : rightG at_ = false := by unfold rightG; rw [decide_eq_false h0, Bool.false_and]
      rw [decide_eq_true (show ((at_.length : Nat) : Int) > 1000 by omega), hr]
      rfl

theorem validG_len {l : List Bm} (h : validG l = true) : l.length ≤ 20 := by
  simp only [validG, Bool.and_eq_true, decide_eq_true_eq] at h
  exact h.1
theorem rightG_len {at_ : List Ld} (h : rightG at_ = true) : at_.length ≤ 1000 ∧ ∀ x ∈ at_, inW x.2 = true := by
  simp only [rightG, Bool.and_eq_true, decide_eq_true_eq, List.all_eq_true] at h
  exact ⟨h.1, fun x hx => by have := h.2 x hx; simp only [loadB, Bool.and_eq_true] at this; exact this.2⟩

noncomputable def loadsQ (l : List Bm) (at_ : List Ld) : Rg := bif validG l && rightG at_ then borneQ l at_ else ([], 1, ())
theorem loads_ok (l : List Bm) (at_ : List Ld) : grid_Loads l at_ = some (loadsQ l at_) := by
  simp only [grid_Loads, grid_Loads_b, given_ok, obind_some', loadsQ]
  cases h : validG l && rightG at_ with
  | false => rfl
  | true =>
    rw [Bool.and_eq_true] at h
    have h1 := validG_len h.1
    have h2 := rightG_len h.2
    simp only [cT, decide_true, Bool.not_true, cF]
    rw [borne_ok (by omega) (by omega) h2.2, obind_some']

theorem run_fits {l : List Bm} : ∀ {L : List Ld} {S S' : Nat → Rat}, (∀ i, i < l.length → fitsQ (S i)) → runQ l L S = some S' → ∀ i, i < l.length → fitsQ (S' i)
  | [], S, S', h, e => by
    simp only [runQ, Option.some.injEq] at e
    subst e
    exact h
  | x :: r, S, S', h, e => by
    simp only [runQ] at e
    split at e
    · rename_i hf
      exact run_fits (allFit_iff.1 hf) e
    · cases e

end Go.Proofs.YtmoiiokmfanlgaaGreat

namespace Go.Proofs.YtmoiiokmfanlgaaGreat
open Tryz Dn Dn.Sh

def loadI (s : HS) : Int := IntKind.wrap .i64 (IntKind.wrap .i64 (weightI s + s.2.2.2.2.2.2.2.1) + sumI s.2.2.2.2.2.2.2.2.2.2.2.2)
def heavyB (s : HS) : Bool := decide (loadI s > 67108864)
def ptsH (l : List HS) : List Ld := l.map fun s => (s.2.1, loadI s)

/-! ### What a valid set loads -/

theorem fold_bound {α : Type} {g : Int → α → Int} {w : α → Int} {m : Int} (hg : ∀ a x, g a x = IntKind.wrap .i64 (a + w x)) (hm : 0 ≤ m) : ∀ (l : List α) (a : Int), (∀ x ∈ l, 0 ≤ w x ∧ w x ≤ m) → 0 ≤ a → a + l.length * m < 9223372036854775808 → 0 ≤ l.foldl g a ∧ l.foldl g a ≤ a + l.length * m
  | [], a, _, ha, _ => by simp; exact ha
  | x :: l, a, h, ha, hb => by
    have hx := h x (by simp)
    have e : ((x :: l).length : Int) * m = l.length * m + m := by rw [List.length_cons, Int.natCast_add, Int.add_mul]; simp
    rw [e] at hb ⊢
    have hp : 0 ≤ (l.length : Int) * m := Int.mul_nonneg (by omega) hm
    rw [List.foldl_cons, hg, wrap_id (by omega) (by omega)]
    have := fold_bound hg hm l (a + w x) (fun y hy => h y (by simp [hy])) (by omega) (by omega)
    omega

theorem set_facts {s : HS} (h : setB s = true) : (0 ≤ s.2.1 ∧ s.2.1 ≤ 1048576) ∧ (1000 ≤ s.2.2.2.2.1 ∧ s.2.2.2.2.1 ≤ 1048576) ∧ (0 ≤ s.2.2.2.2.2.2.1 ∧ s.2.2.2.2.2.2.1 ≤ 1048576) ∧ (0 ≤ s.2.2.2.2.2.2.2.1 ∧ s.2.2.2.2.2.2.2.1 ≤ 1048576) ∧ itemsB s.2.2.2.2.2.2.2.2.2.2.2.1 s.2.2.2.2.1 = true ∧ bricksB s.2.2.2.2.2.2.2.2.2.2.2.2 = true := by
  unfold setB btw at h
  simp only [Bool.and_eq_true, decide_eq_true_eq] at h
  obtain ⟨_, h1, _, _, h2, _, _, h3, h4, _, _, _, h5, h6⟩ := h
  exact ⟨h1, h2, h3, h4, h5, h6⟩
theorem items_facts {l : List Itm} {len : Int} (h : itemsB l len = true) : l.length ≤ 40 ∧ ∀ x ∈ l, 0 ≤ x.2.2.2.1 ∧ x.2.2.2.1 ≤ 1048576 := by
  unfold itemsB at h
  rw [Bool.and_eq_true, Bool.and_eq_true, decide_eq_true_iff, List.all_eq_true] at h
  refine ⟨h.1, fun x hx => ?_⟩
  have := h.2.1 x hx
  unfold itemB btw at this
  simp only [Bool.and_eq_true, decide_eq_true_eq] at this
  omega

theorem weightI_bound {s : HS} (h : setB s = true) : 0 ≤ weightI s ∧ weightI s ≤ 2199023255552 := by
  obtain ⟨_, ⟨h1, h2⟩, ⟨h3, h4⟩, _, h5, _⟩ := set_facts h
  obtain ⟨g1, g2⟩ := items_facts h5
  have q1 : Int.tdiv s.2.2.2.2.1 1000 = s.2.2.2.2.1 / 1000 := Int.tdiv_eq_ediv_of_nonneg (by omega)
  have q2 : 0 ≤ s.2.2.2.2.1 / 1000 ∧ s.2.2.2.2.1 / 1000 ≤ 1048576 := by omega
  have hp : 0 ≤ wPipe s ∧ wPipe s ≤ 1099511627776 := by
    unfold wPipe
    rw [q1]
    generalize s.2.2.2.2.1 / 1000 = q at q2
    generalize s.2.2.2.2.2.2.1 = p at h3 h4
    rw [wrap_id (x := q) (by omega) (by omega)]
    have m1 : 0 ≤ p * q := Int.mul_nonneg h3 q2.1
    have m2 : p * q ≤ 1048576 * 1048576 := Int.mul_le_mul h4 q2.2 q2.1 (by omega)
    rw [wrap_id (by omega) (by omega)]
    omega
  have := fold_bound (g := addI) (w := fun x : Itm => x.2.2.2.1) (m := 1048576) (fun _ _ => rfl) (by omega) _ (wPipe s) g2 hp.1 (by omega)
  unfold weightI
  omega
theorem sumI_bound {l : List Brk} (h : bricksB l = true) : 0 ≤ sumI l ∧ sumI l ≤ 503316480 := by
  obtain ⟨h1, h2⟩ := bricks_all h
  have key : ∀ b ∈ l, 0 ≤ IntKind.wrap .i64 (b.2.1 * b.2.2) ∧ IntKind.wrap .i64 (b.2.1 * b.2.2) ≤ 62914560 := fun b hb => by
    have g := h2 b hb
    have m1 : 0 ≤ b.2.1 * b.2.2 := Int.mul_nonneg (by omega) (by omega)
    have m2 : b.2.1 * b.2.2 ≤ 1048576 * 60 := Int.mul_le_mul g.2.1 g.2.2.2 g.2.2.1 (by omega)
    rw [wrap_id (by omega) (by omega)]
    omega
  have := fold_bound (g := addBk) (w := fun b : Brk => IntKind.wrap .i64 (b.2.1 * b.2.2)) (m := 62914560) (fun _ _ => rfl) (by omega) l 0 key (by omega) (by omega)
  unfold sumI
  omega
theorem loadI_eq {s : HS} (h : setB s = true) : loadI s = weightI s + s.2.2.2.2.2.2.2.1 + sumI s.2.2.2.2.2.2.2.2.2.2.2.2 := by
  obtain ⟨_, _, _, h4, _, h6⟩ := set_facts h
  have g1 := weightI_bound h
  have g2 := sumI_bound h6
  unfold loadI
  rw [wrap_id (x := weightI s + s.2.2.2.2.2.2.2.1) (by omega) (by omega), wrap_id (by omega) (by omega)]
theorem loadI_nonneg {s : HS} (h : setB s = true) : 0 ≤ loadI s := by
  obtain ⟨_, _, _, h4, _, h6⟩ := set_facts h
  have g1 := weightI_bound h
  have g2 := sumI_bound h6
  rw [loadI_eq h]
  omega

theorem valid_sets {h : HH} (hv : validHB h = true) : h.2.2.1.length ≤ 60 ∧ validG h.2.2.2 = true ∧ ∀ i, i < h.2.2.1.length → setB (h.2.2.1.getD i set0) = true := by
  simp only [validHB, Bool.and_eq_true, Bool.not_eq_true', decide_eq_false_iff_not, List.all_eq_true] at hv
  obtain ⟨_, _, _, h1, h2, h3⟩ := hv
  exact ⟨by omega, h2, fun i hi => (h3 i (List.mem_range'.2 ⟨i, hi, by omega⟩)).1⟩

/-! ### Loads -/

/-- As 'obind_some'', but not by computation. -/
theorem obS0 {T R : Type} {c : Option T} {t : T} (h : c = some t) (k : T → Option R) : obind c k = k t := by subst h; rfl
theorem obS {T R : Type} (t : T) (k : T → Option R) : obind (some t) k = k t := obS0 (Eq.trans rfl rfl) k

theorem counts_loop {R : Type} {l : List Brk} (hl : l.length ≤ 1000000) {fin : List Int → Option R} {F : (List Int × Int × PUnit → Option R) → List Int × Int × PUnit → Option R}
    (hb : ∀ again (i : Nat) s, i < l.length → F again (s, (i : Int), PUnit.unit) = bif fitB (s.length + 1) 8 then again (s ++ [(l.getD i brk0).2.2], ((i + 1 : Nat) : Int), PUnit.unit) else none)
    (hf : ∀ again s, F again (s, (l.length : Int), PUnit.unit) = fin s) : lpK (List Int × Int × PUnit) R F ([], (0 : Int), PUnit.unit) = fin (cntsB l) := by
  refine (lpK_up (α := List Int × Int × PUnit) l.length (by omega) (fun i (s : List Int) => (s, (i : Int), PUnit.unit)) (fun i s k => bif false then none else bif fitB (s.length + 1) 8 then k (s ++ [(l.getD i brk0).2.2]) else none) fin ?_ ?_ []).trans ?_
  · intro again i s hi
    rw [hb again i s hi, cF]
  · intro again s
    exact hf again s
  · rw [upF_app (c := fun _ => false) (g := fun i => (l.getD i brk0).2.2) (r := none) (w := 8) hl (by omega) (fun i s k _ => rfl) l.length 0 [] (by omega) (by simp), range_map (g := fun b : Brk => b.2.2)]
    rw [show (List.range' 0 l.length).any (fun _ => false) = false from List.any_eq_false.2 fun _ _ h => by cases h]
    rfl

theorem any_range {α : Type} {p : α → Bool} {d : α} {l : List α} : (List.range' 0 l.length).any (fun i => p (l.getD i d)) = l.any p := by
  have := all_range (p := fun x => !p x) (d := d) (l := l)
  rw [List.any_eq_not_all_not, List.any_eq_not_all_not, this]

noncomputable def loadsHQ (h : HH) : Rg := bif validHB h then (bif h.2.2.1.any heavyB then ([], 5, ()) else loadsQ h.2.2.2 (ptsH h.2.2.1)) else ([], 1, ())

theorem hLoads_ok (h : HH) : house_Loads h = some (loadsHQ h) := by
  simp only [house_Loads, house_Loads_b, hValid_ok, obS, loadsHQ]
  cases hv : validHB h with
  | false => rfl
  | true =>
    obtain ⟨h1, h2, h3⟩ := valid_sets hv
    obtain ⟨nm, ht, ss, rs⟩ := h
    simp only at h1 h2 h3 ⊢
    simp only [Bool.not_true, cT, cF]
    refine (lpK_up (α := List Ld × Int × PUnit) ss.length (by omega) (fun i (s : List Ld) => (s, (i : Int), PUnit.unit)) (fun i s k => bif heavyB (ss.getD i set0) then some ([], 5, ()) else bif fitB (s.length + 1) 16 then k (s ++ [((ss.getD i set0).2.1, loadI (ss.getD i set0))]) else none) (fun s => some (loadsQ rs s)) ?_ ?_ []).trans ?_
    · intro again i s hi
      have hw : IntKind.wrap .i64 ((i : Int) + 1) = ((i + 1 : Nat) : Int) := by rw [wrap_id (by omega) (by omega)]; rfl
      have hs := h3 i hi
      obtain ⟨_, _, _, _, h5, h6⟩ := set_facts hs
      have hW : batten_Weight (ss.getD i set0) = some (weightI (ss.getD i set0), 0, ()) := by
        simp only [batten_Weight, batten_Weight_b, validA_ok, hs, obS, Bool.not_true, cF]
        rw [weightA_ok _ (by have := (items_facts h5).1; omega), obS]
      simp only [inB_nat, decide_eq_true hi, decide_eq_true (show (i : Int) < ss.length by omega), cT, Int.toNat_natCast, hw, show List.getD ss i ({ data := { toList := [] } }, (0 : Int), (0 : Int), (0 : Int), (0 : Int), [], (0 : Int), (0 : Int), (0 : Int), (0 : Int), (0 : Int), [], []) = ss.getD i set0 from rfl, hW, obS, decide_true, Bool.not_true, cF]
      refine (counts_loop (l := (ss.getD i set0).2.2.2.2.2.2.2.2.2.2.2.2) (by have := (bricks_all h6).1; omega) (fin := fun c => obind (arbor_Weight (ss.getD i set0).2.2.2.2.2.2.2.2.2.2.2.2 c) fun t => bif !decide (t.2.1 = 0) then some ([], t.2.1, PUnit.unit) else bif decide (IntKind.wrap .i64 (IntKind.wrap .i64 (weightI (ss.getD i set0) + (ss.getD i set0).2.2.2.2.2.2.2.1) + t.1) > 67108864) then some ([], 5, PUnit.unit) else bif fitB (s.length + 1) 16 then again (s ++ [((ss.getD i set0).2.1, IntKind.wrap .i64 (IntKind.wrap .i64 (weightI (ss.getD i set0) + (ss.getD i set0).2.2.2.2.2.2.2.1) + t.1))], ((i + 1 : Nat) : Int), PUnit.unit) else none) ?_ ?_).trans ?_
      · intro again_1 j c hj
        have hw2 : IntKind.wrap .i64 ((j : Int) + 1) = ((j + 1 : Nat) : Int) := by rw [wrap_id (by have := (bricks_all h6).1; omega) (by have := (bricks_all h6).1; omega)]; rfl
        simp only [inB_nat, decide_eq_true hj, decide_eq_true (show (j : Int) < ((ss.getD i set0).2.2.2.2.2.2.2.2.2.2.2.2.length : Nat) by omega), cT, Int.toNat_natCast, hw2]
      · intro again_1 c
        simp only [decide_eq_false (show ¬ ((ss.getD i set0).2.2.2.2.2.2.2.2.2.2.2.2.length : Int) < ((ss.getD i set0).2.2.2.2.2.2.2.2.2.2.2.2.length : Nat) by omega), cF]
      · simp only [arborWeight_ok h6, obS, decide_true, Bool.not_true, cF, heavyB, loadI]
        rfl
    · intro again s
      simp only [decide_eq_false (show ¬ (ss.length : Int) < ss.length by omega), cF, loads_ok, obS]
    · rw [upF_app (c := fun i => heavyB (ss.getD i set0)) (g := fun i => ((ss.getD i set0).2.1, loadI (ss.getD i set0))) (r := some ([], 5, ())) (w := 16) (n := ss.length) (by omega) (by omega) (fun i s k _ => rfl) ss.length 0 [] (by omega) (by simp), range_map (g := fun s : HS => (s.2.1, loadI s)), any_range]
      unfold ptsH
      cases ss.any heavyB <;> rfl

end Go.Proofs.YtmoiiokmfanlgaaGreat

namespace Go.Proofs.YtmoiiokmfanlgaaGreat
open Tryz Dn Dn.Sh

theorem set_at {h : HH} (hs : ∀ i, i < h.2.2.1.length → setB (h.2.2.1.getD i set0) = true) : ∀ s ∈ h.2.2.1, setB s = true := fun s hm => by
  obtain ⟨i, hi, rfl⟩ := List.getElem_of_mem hm
  have := hs i hi
  rw [getD_nat hi] at this
  exact this

theorem pts_right {h : HH} (hv : validHB h = true) (ha : h.2.2.1.any heavyB = false) : rightG (ptsH h.2.2.1) = true := by
  obtain ⟨h1, h2, h3⟩ := valid_sets hv
  unfold rightG ptsH
  rw [Bool.and_eq_true, decide_eq_true_iff, List.length_map, List.all_eq_true]
  refine ⟨by omega, fun x hx => ?_⟩
  obtain ⟨s, hs, rfl⟩ := List.mem_map.1 hx
  have hb := set_at h3 s hs
  obtain ⟨g1, _⟩ := set_facts hb
  have g2 := loadI_nonneg hb
  have g3 : heavyB s = false := by
    cases e : heavyB s with
    | false => rfl
    | true => exact absurd (List.any_eq_true.2 ⟨s, hs, e⟩) (by rw [ha]; simp)
  have g4 : ¬ loadI s > 67108864 := of_decide_eq_false g3
  unfold loadB inL inW
  rw [Bool.and_eq_true, decide_eq_true_iff, decide_eq_true_iff]
  exact ⟨g1, g2, by omega⟩

end Go.Proofs.YtmoiiokmfanlgaaGreat

namespace Go.Proofs.YtmoiiokmfanlgaaGreat
open Tryz Dn Dn.Sh

theorem awakeH_ok : law30_awake = some true := by kernel_rfl

end Go.Proofs.YtmoiiokmfanlgaaGreat

namespace Go.Proofs.YtmoiiokmfanlgaaGreat
open Tryz Dn Dn.Sh

abbrev Rs := Fq × Int × PUnit
end Go.Proofs.YtmoiiokmfanlgaaGreat

namespace Go.Proofs.YtmoiiokmfanlgaaGreat
open Tryz Dn Dn.Sh

end Go.Proofs.YtmoiiokmfanlgaaGreat

namespace Go.Proofs.YtmoiiokmfanlgaaGreat
open Tryz Dn Dn.Sh

def sumQ (S : Nat → Rat) : Nat → Rat
  | 0 => 0
  | n + 1 => sumQ S n + S n
def wsum : List Ld → Int
  | [] => 0
  | x :: r => x.2 + wsum r

theorem cntB_take {l : List Bm} {d : Int} {n : Nat} (h : n < l.length) : (cntB (l.take (n + 1)) d : Int) = cntB (l.take n) d + (if isB d (bmAt l n) then 1 else 0) := by
  have e : bmAt l n = l[n] := getD_nat h
  unfold cntB
  rw [List.take_succ_eq_append_getElem h, List.filter_append, List.length_append, e]
  cases hb : isB d l[n] <;> simp [List.filter_cons, hb]
theorem step_sum {l : List Bm} {x : Ld} {S : Nat → Rat} : ∀ n : Nat, n ≤ l.length → sumQ (stepQ l x S) n = sumQ S n + ((cntB (l.take n) x.1 : Int) : Rat) * shareQ l x
  | 0, _ => by
    simp only [sumQ, cntB, List.take_zero, List.filter_nil, List.length_nil]
    grind
  | n + 1, h => by
    have ih := step_sum (l := l) (x := x) (S := S) n (by omega)
    have hc := cntB_take (l := l) (d := x.1) (n := n) (by omega)
    simp only [sumQ]
    rw [ih, hc]
    unfold stepQ
    cases isB x.1 (bmAt l n) with
    | true =>
      simp only [if_true]
      rw [Rat.intCast_add]
      grind
    | false =>
      simp only [Bool.false_eq_true, if_false]
      rw [Rat.intCast_add]
      grind
theorem share_all {l : List Bm} {x : Ld} (hc : cntB l x.1 ≠ 0) : ((cntB l x.1 : Int) : Rat) * shareQ l x = (x.2 : Rat) := by
  unfold shareQ
  rw [Rat.mkRat_eq_div]
  have h : ((cntB l x.1 : Int) : Rat) ≠ 0 := by
    intro e
    have := (Rat.intCast_eq_zero_iff).1 e
    omega
  have h2 : ((cntB l x.1 : Nat) : Rat) = ((cntB l x.1 : Int) : Rat) := rfl
  rw [h2]
  generalize ((cntB l x.1 : Int) : Rat) = c at *
  grind
theorem run_sum {l : List Bm} : ∀ {L : List Ld} {S S' : Nat → Rat}, (∀ x ∈ L, cntB l x.1 ≠ 0) → runQ l L S = some S' → sumQ S' l.length = sumQ S l.length + (wsum L : Rat)
  | [], S, S', _, e => by
    simp only [runQ, Option.some.injEq] at e
    subst e
    simp only [wsum]
    grind
  | x :: r, S, S', h, e => by
    simp only [runQ] at e
    split at e
    · have ih := run_sum (L := r) (fun y hy => h y (by simp [hy])) e
      have h1 := step_sum (l := l) (x := x) (S := S) l.length (Nat.le_refl _)
      rw [List.take_length, share_all (h x (by simp))] at h1
      rw [ih, h1]
      simp only [wsum]
      rw [Rat.intCast_add]
      grind
    · cases e
theorem sum_range (S : Nat → Rat) : ∀ n : Nat, ((List.range' 0 n).map S).foldl (· + ·) 0 = sumQ S n
  | 0 => rfl
  | n + 1 => by
    rw [List.range'_1_concat, List.map_append, List.foldl_append, sum_range S n]
    simp [sumQ]

theorem sum_walk {d : Fq} {f : Fq × Fq → Option Rs} : ∀ {L : List Rat} {q : Rat}, fitsQ q → (∀ y ∈ L, fitsQ y) →
    (listF (fun (x : Fq) (s : Fq × Fq) (k : Fq × Fq → Option Rs) => obind (ratio_Add s.2 x) fun (t : (Int × Int) × Int × PUnit) => bif !decide (t.2.1 = (0 : Int)) then some (((0 : Int), (0 : Int)), t.2.1, PUnit.unit) else k (s.1, t.1)) f (L.map prQ) (d, prQ q) = some ((0, 0), 5, ())) ∨
    (fitsQ (L.foldl (· + ·) q) ∧ listF (fun (x : Fq) (s : Fq × Fq) (k : Fq × Fq → Option Rs) => obind (ratio_Add s.2 x) fun (t : (Int × Int) × Int × PUnit) => bif !decide (t.2.1 = (0 : Int)) then some (((0 : Int), (0 : Int)), t.2.1, PUnit.unit) else k (s.1, t.1)) f (L.map prQ) (d, prQ q) = f (d, prQ (L.foldl (· + ·) q)))
  | [], q, hq, _ => .inr ⟨hq, rfl⟩
  | y :: L, q, hq, hy => by
    simp only [List.map_cons, listF, List.foldl_cons]
    rw [Add_ok (okF_prQ hq) (okF_prQ (hy y (by simp))), obind_some', qv_prQ, qv_prQ]
    rcases fitQ_cases (q + y) with ⟨h1, h2⟩ | ⟨h1, h2⟩
    · rw [h2]
      exact sum_walk h1 fun z hz => hy z (by simp [hz])
    · rw [h2]
      exact .inl rfl

theorem contains27 {f : (Fq × Unit) → Option Bool} {p : Fq → Bool} {l : List Fq} (hl : l.length ≤ 1000000) (h : ∀ a, a ∈ l → f (a, ()) = some (p a)) : slices_ContainsFunc_57 l f = some (l.any p) := by
  simp only [slices_ContainsFunc_57, slices_ContainsFunc_57_b]
  unfold slices_IndexFunc_90 slices_IndexFunc_90_b
  rw [index_loop (f := f) (d := ((0 : Int), (0 : Int))) hl h, obind_some', contains_of_idx]

theorem outQ_mem {n : Nat} {S : Nat → Rat} {a : Fq} (h : a ∈ outQ n S) : ∃ i, i < n ∧ a = prQ (S i) := by
  unfold outQ at h
  obtain ⟨i, hi, rfl⟩ := List.mem_map.1 h
  obtain ⟨k, hk, rfl⟩ := List.mem_range'.1 hi
  exact ⟨_, by omega, rfl⟩

theorem sumF_ok {n : Nat} {S : Nat → Rat} (hn : n ≤ 1000) (hS : ∀ i, i < n → fitsQ (S i)) : ratio_Sum (outQ n S) = some ((0, 0), 5, ()) ∨ (fitsQ (sumQ S n) ∧ ratio_Sum (outQ n S) = some (prQ (sumQ S n), 0, ())) := by
  have hlen := outQ_len n S
  have hc : slices_ContainsFunc_57 (outQ n S) (fun x => ratio_Sum_1 x.1) = some false := by
    rw [contains27 (p := fun a => !decide (okF a)) (by omega) (fun a _ => by simp only [ratio_Sum_1, ratio_Sum_1_b, Valid_ok, obind_some'])]
    congr 1
    rw [List.any_eq_false]
    intro a ha
    obtain ⟨i, hi, rfl⟩ := outQ_mem ha
    simp [decide_eq_true (okF_prQ (hS i hi))]
  have hw := sum_walk (d := ((0 : Int), (0 : Int))) (f := fun s => some (s.2, (0 : Int), PUnit.unit)) (L := (List.range' 0 n).map S) (q := 0) (by decide) (fun y hy => by
    obtain ⟨i, hi, rfl⟩ := List.mem_map.1 hy
    obtain ⟨k, hk, rfl⟩ := List.mem_range'.1 hi
    exact hS _ (by omega))
  rw [sum_range, show ((List.range' 0 n).map S).map prQ = outQ n S by unfold outQ; rw [List.map_map]; rfl] at hw
  have key : ratio_Sum (outQ n S) = listF (fun (x : Fq) (s : Fq × Fq) (k : Fq × Fq → Option Rs) => obind (ratio_Add s.2 x) fun (t : (Int × Int) × Int × PUnit) => bif !decide (t.2.1 = (0 : Int)) then some (((0 : Int), (0 : Int)), t.2.1, PUnit.unit) else k (s.1, t.1)) (fun s => some (s.2, (0 : Int), PUnit.unit)) (outQ n S) (((0 : Int), (0 : Int)), prQ 0) := by
    simp only [ratio_Sum, ratio_Sum_b, hc, obind_some', cF]
    rw [decide_eq_false (show ¬ (((outQ n S).length : Nat) : Int) > 1000 by omega), cF]
    refine lpK_int (outQ n S) ((0 : Int), (0 : Int)) (by omega) (fun i (s : Fq × Fq) => (((i : Nat) : Int), s.1, s.2, PUnit.unit)) _ _ (fun again i s hi => ?_) (fun again s => ?_) (((0 : Int), (0 : Int)), ((0 : Int), (1 : Int)))
    · have hwr : IntKind.wrap .i64 ((i : Int) + 1) = ((i + 1 : Nat) : Int) := by rw [wrap_id (by omega) (by omega)]; rfl
      simp only [inB_nat, decide_eq_true hi, decide_eq_true (show (i : Int) < (outQ n S).length by omega), cT, Int.toNat_natCast, hwr]
    · simp only [decide_eq_false (show ¬ (((outQ n S).length : Nat) : Int) < (outQ n S).length by omega), cF]
  rw [key]
  exact hw

theorem wsum_bound : ∀ {L : List Ld}, (∀ x ∈ L, inW x.2 = true) → 0 ≤ wsum L ∧ wsum L ≤ 67108864 * L.length
  | [], _ => by simp [wsum]
  | x :: r, h => by
    have ih := wsum_bound (L := r) fun y hy => h y (by simp [hy])
    have h1 := h x (by simp)
    simp only [inW, decide_eq_true_eq] at h1
    simp only [wsum, List.length_cons]
    omega

end Go.Proofs.YtmoiiokmfanlgaaGreat

namespace Go.Proofs.YtmoiiokmfanlgaaGreat
open Tryz Dn Dn.Sh

theorem ready_ok (h : HH) : law30_ready h = some (smallHB h && validHB h) := by
  simp only [law30_ready, law30_ready_b, smallH_ok, obS]
  cases hs : smallHB h with
  | false => rfl
  | true =>
    obtain ⟨_, _, h3⟩ := small_len hs
    simp only [hRefValid_ok h (fun s hm => by have := (h3 s hm).2.1; omega), obS, Bool.not_true, Bool.or_true, Bool.true_and, cT]

/-- The walk over the sets that sums up what they load. -/
theorem all_walk {R : Type} {f : Int → Option R} : ∀ {L : List HS} {s : Int}, (∀ x ∈ L, 0 ≤ loadI x ∧ loadI x ≤ 67108864) → 0 ≤ s → s + 67108864 * L.length ≤ 1000000000000 →
    listF (fun (x : HS) (s : Int) (k : Int → Option R) => k (IntKind.wrap .i64 (s + loadI x))) f L s = f (s + wsum (ptsH L))
  | [], s, _, _, _ => by simp [listF, wsum, ptsH]
  | x :: r, s, h, h0, hb => by
    have h1 := h x (by simp)
    simp only [List.length_cons] at hb
    simp only [listF]
    rw [wrap_id (by omega) (by omega), all_walk (fun y hy => h y (by simp [hy])) (by omega) (by omega)]
    congr 1
    unfold ptsH
    simp only [List.map_cons, wsum]
    omega

theorem allI_eq {s : HS} (h : setB s = true) : IntKind.wrap .i64 (IntKind.wrap .i64 (weightI s + sumI s.2.2.2.2.2.2.2.2.2.2.2.2) + s.2.2.2.2.2.2.2.1) = loadI s := by
  obtain ⟨_, _, _, h4, _, h6⟩ := set_facts h
  have g1 := weightI_bound h
  have g2 := sumI_bound h6
  rw [loadI_eq h, wrap_id (x := weightI s + sumI s.2.2.2.2.2.2.2.2.2.2.2.2) (by omega) (by omega), wrap_id (by omega) (by omega)]
  omega

theorem law7g (h : HH) : law30_HouseBears h = some true := by
  simp only [law30_HouseBears, law30_HouseBears_b, awakeH_ok, ready_ok, hLoads_ok, obS, Bool.not_true, cF]
  cases hb : smallHB h && validHB h with
  | false => rfl
  | true =>
    rw [Bool.and_eq_true] at hb
    obtain ⟨hs, hv⟩ := hb
    obtain ⟨g1, g2, g3⟩ := valid_sets hv
    simp only [Bool.not_true, cF, loadsHQ, hv, cT]
    cases ha : h.2.2.1.any heavyB with
    | true => rfl
    | false =>
      have hr := pts_right hv ha
      have hl := validG_len g2
      have h2 := rightG_len hr
      have hp : (ptsH h.2.2.1).length = h.2.2.1.length := by unfold ptsH; rw [List.length_map]
      simp only [cF, loadsQ, g2, hr, Bool.and_self, cT, borneQ]
      by_cases hn : noneB h.2.2.2 (ptsH h.2.2.1) = true
      case pos => simp only [hn, if_true]; rfl
      case neg =>
        simp only [hn, if_false, Bool.false_eq_true]
        have hc : ∀ x ∈ ptsH h.2.2.1, cntB h.2.2.2 x.1 ≠ 0 := fun x hx e => by
          unfold noneB at hn
          have := List.any_eq_false.1 (Bool.eq_false_iff.2 hn) x hx
          simp [e] at this
        cases hrun : runQ h.2.2.2 (ptsH h.2.2.1) (fun _ => 0) with
        | none => rfl
        | some S =>
          have hS := run_fits (fun _ _ => by show fitsQ 0; decide) hrun
          have hsum := run_sum hc hrun
          have hz : ∀ n, sumQ (fun _ => 0) n = 0 := fun n => by
            induction n with
            | zero => rfl
            | succ n ih => simp only [sumQ, ih]; grind
          rw [hz, Rat.zero_add] at hsum
          have hwb := wsum_bound h2.2
          simp only [decide_true, Bool.not_true, cF, outQ_len]
          rcases sumF_ok (show h.2.2.2.length ≤ 1000 by omega) hS with h3 | ⟨h3, h4⟩
          · rw [h3, obS]; rfl
          · rw [h4, hsum, prQ_int, obS]
            simp only [decide_true, Bool.not_true, cF]
            have hW : ∀ x ∈ h.2.2.1, 0 ≤ loadI x ∧ loadI x ≤ 67108864 := fun x hx => by
              have := h2.2 (x.2.1, loadI x) (List.mem_map.2 ⟨x, hx, rfl⟩)
              simp only [inW, decide_eq_true_eq] at this
              exact this
            refine (lpK_int h.2.2.1 set0 (by omega) (fun i (s : Int) => (s, ((i : Nat) : Int), PUnit.unit)) (fun (x : HS) (s : Int) (k : Int → Option Bool) => k (IntKind.wrap .i64 (s + loadI x))) (fun s => some (decide (wsum (ptsH h.2.2.1) = s))) ?_ ?_ (0 : Int)).trans ?_
            · intro again i s hi
              have hwr : IntKind.wrap .i64 ((i : Int) + 1) = ((i + 1 : Nat) : Int) := by rw [wrap_id (by omega) (by omega)]; rfl
              have hset := g3 i hi
              obtain ⟨_, _, _, _, h5, h6⟩ := set_facts hset
              have hWt : batten_Weight (h.2.2.1.getD i set0) = some (weightI (h.2.2.1.getD i set0), 0, ()) := by
                simp only [batten_Weight, batten_Weight_b, validA_ok, hset, obS, Bool.not_true, cF]
                rw [weightA_ok _ (by have := (items_facts h5).1; omega), obS]
              simp only [inB_nat, decide_eq_true hi, decide_eq_true (show (i : Int) < h.2.2.1.length by omega), cT, Int.toNat_natCast, hwr, show List.getD h.2.2.1 i ({ data := { toList := [] } }, (0 : Int), (0 : Int), (0 : Int), (0 : Int), [], (0 : Int), (0 : Int), (0 : Int), (0 : Int), (0 : Int), [], []) = h.2.2.1.getD i set0 from rfl, hWt, obS, decide_true, Bool.not_true, Bool.not_false, cF, Bool.false_or, Bool.or_true]
              refine (counts_loop (l := (h.2.2.1.getD i set0).2.2.2.2.2.2.2.2.2.2.2.2) (by have := (bricks_all h6).1; omega) (fin := fun c => obind (arbor_Weight (h.2.2.1.getD i set0).2.2.2.2.2.2.2.2.2.2.2.2 c) fun t => bif !decide (t.2.1 = 0) then some false else again (IntKind.wrap .i64 (s + IntKind.wrap .i64 (IntKind.wrap .i64 (weightI (h.2.2.1.getD i set0) + t.1) + (h.2.2.1.getD i set0).2.2.2.2.2.2.2.1)), ((i + 1 : Nat) : Int), PUnit.unit)) ?_ ?_).trans ?_
              · intro again_1 j c hj
                have hw2 : IntKind.wrap .i64 ((j : Int) + 1) = ((j + 1 : Nat) : Int) := by rw [wrap_id (by have := (bricks_all h6).1; omega) (by have := (bricks_all h6).1; omega)]; rfl
                simp only [inB_nat, decide_eq_true hj, decide_eq_true (show (j : Int) < ((h.2.2.1.getD i set0).2.2.2.2.2.2.2.2.2.2.2.2.length : Nat) by omega), cT, Int.toNat_natCast, hw2]
              · intro again_1 c
                simp only [decide_eq_false (show ¬ ((h.2.2.1.getD i set0).2.2.2.2.2.2.2.2.2.2.2.2.length : Int) < ((h.2.2.1.getD i set0).2.2.2.2.2.2.2.2.2.2.2.2.length : Nat) by omega), cF]
              · simp only [arborWeight_ok h6, obS, decide_true, Bool.not_true, cF, allI_eq hset]
            · intro again s
              simp only [decide_eq_false (show ¬ (h.2.2.1.length : Int) < h.2.2.1.length by omega), cF, Bool.or_true, Bool.and_self, Bool.and_true, cT]
            · rw [all_walk hW (by omega) (by omega), Int.zero_add]
              simp

theorem law7 : ∀ x : TsS [T25], wfs [T25] x → law30_HouseBears x.1 = some true := fun x _ => law7g x.1

end Go.Proofs.YtmoiiokmfanlgaaGreat
