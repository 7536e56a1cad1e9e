/- Chapter 9: what the functions that its laws reach do, function by function: the condition of each (printed by a program), and its proof. -/
import Derived.Test.YtniibhkddipcjaaD09
namespace Go.Proofs.Ytniibhkddipcjaa
open Try Sx

set_option maxRecDepth 100000
theorem e14 (x : (Int × Int × Int) × PUnit) (F : PUnit) (y : PUnit) :
  exec (ctxOf prog shs L14) f14.ntmps (fun _ => none) (f14.body.getD .skip) (c14.init x F y) (post prog c14 f14.results (c14.m x F y)) =
  (let v3 : Int := if x.fst.snd.fst > x.fst.fst then x.fst.snd.fst else x.fst.fst;
  let v4 : Int := if x.fst.snd.fst < x.fst.fst then x.fst.snd.fst else x.fst.fst;
  let v5 : Bool := decide ((if x.fst.snd.snd > v3 then x.fst.snd.snd else v3) ≤ (1048576 : Int));
  ((v5 = true → v5 = true → v5 = true) ∧
    (v5 = true → v5 = true → v5 = true) ∧
      (v5 = true → v5 = true → v5 = true) ∧
        (v5 = true → v5 = true → v5 = true) ∧
          (v5 = true → v5 = true → v5 = true) ∧
            (v5 = true → v5 = true → v5 = true) ∧ (v5 = true → v5 = true → v5 = true) ∧ (v5 = true → v5 = true)) ∧
  (bif v5 then decide ((if x.fst.snd.snd < v4 then x.fst.snd.snd else v4) ≥ (-1048576 : Int)) else false) = validM x.fst) := by kernel_rfl

theorem e44 (x : (Int × Int × Int) × PUnit) (F : PUnit) (y : PUnit) :
  exec (ctxOf prog shs L44) f44.ntmps (fun _ => none) (f44.body.getD .skip) (c44.init x F y) (post prog c44 f44.results (c44.m x F y)) =
  (let v3 : Bool := !validM x.fst;
  True ∧ v3 = v3) := by kernel_rfl

theorem e46 (x : List (Int × Int × Int) × PUnit) (F : (((Int × Int × Int) × PUnit → Prop) × ((Int × Int × Int) × PUnit → Bool)) × PUnit) (y : PUnit) :
  exec (ctxOf prog shs L46) f46.ntmps (l46 x F y) (f46.body.getD .skip) (c46.init x F y) (post prog c46 f46.results (c46.m x F y)) =
  (let v3 : Int := indexM (fun (p : Int × Int × Int) => F.fst.snd (p, PUnit.unit)) x.fst;
  (∃ (x_1 :
    { i : Nat //
      i ≤ List.length x.fst ∧ ∀ (j : Nat), j < i → ∀ (p : Sh.T Pt), x.fst[j]? = some p → F.fst.snd (p, ()) = false }),
    (0 : Int) = (↑x_1.val : Int) ∧ True) ∧
  (∀
      (_x :
        { i : Nat //
          i ≤ List.length x.fst ∧
            ∀ (j : Nat), j < i → ∀ (p : Sh.T Pt), x.fst[j]? = some p → F.fst.snd (p, ()) = false }),
      true = true) ∧
    ∀
      (x_1 :
        { i : Nat //
          i ≤ List.length x.fst ∧
            ∀ (j : Nat), j < i → ∀ (p : Sh.T Pt), x.fst[j]? = some p → F.fst.snd (p, ()) = false }),
      let v5 : (Int × Int × Int) × PUnit :=
        (List.getD x.fst (Int.toNat (↑x_1.val : Int)) ((0 : Int), (0 : Int), (0 : Int)), PUnit.unit);
      let v6 : Bool := decide ((↑x_1.val : Int) < (↑(List.length x.fst) : Int));
      (v6 = true →
          (((0 : Int) ≤ (↑x_1.val : Int) ∧ (↑x_1.val : Int) < (↑(List.length x.fst) : Int)) ∧ F.fst.fst v5) ∧
            (F.fst.snd v5 = true → (↑x_1.val : Int) = v3) ∧
              (F.fst.snd v5 = false →
                (True ∧ True) ∧
                  ∃ (x' :
                    { i : Nat //
                      i ≤ List.length x.fst ∧
                        ∀ (j : Nat), j < i → ∀ (p : Sh.T Pt), x.fst[j]? = some p → F.fst.snd (p, ()) = false }),
                    (IntKind.wrap IntKind.i64 ((↑x_1.val : Int) + (1 : Int)) = (↑x'.val : Int) ∧ True) ∧
                      List.length x.fst - x'.val < List.length x.fst - x_1.val)) ∧
        (v6 = false → (-1 : Int) = v3)) := by kernel_rfl

theorem e37 (x : List (Int × Int × Int) × PUnit) (F : (((Int × Int × Int) × PUnit → Prop) × ((Int × Int × Int) × PUnit → Bool)) × PUnit) (y : PUnit) :
  exec (ctxOf prog shs L37) f37.ntmps (fun _ => none) (f37.body.getD .skip) (c37.init x F y) (post prog c37 f37.results (c37.m x F y)) =
  ((List.length x.fst < (9223372036854775808 : Nat) ∧ ∀ (p : Int × Int × Int), p ∈ x.fst → F.fst.fst (p, PUnit.unit)) ∧
  decide (indexM (fun (p : Int × Int × Int) => F.fst.snd (p, PUnit.unit)) x.fst ≥ (0 : Int)) =
    List.any x.fst fun (p : Int × Int × Int) => F.fst.snd (p, PUnit.unit)) := by kernel_rfl

theorem e28 (x : List (Int × Int × Int) × PUnit) (F : PUnit) (y : PUnit) :
  exec (ctxOf prog shs L28) f28.ntmps (fun _ => none) (f28.body.getD .skip) (c28.init x F y) (post prog c28 f28.results (c28.m x F y)) =
  ((List.length x.fst < (9223372036854775808 : Nat) ∧ ∀ (p : Int × Int × Int), p ∈ x.fst → True) ∧
  (!List.any x.fst fun (p : Int × Int × Int) => !validM p) = List.all x.fst validM) := by kernel_rfl

theorem e29 (x : (Int × Int × Int) × (Int × Int × Int) × PUnit) (F : PUnit) (y : PUnit) :
  exec (ctxOf prog shs L29) f29.ntmps (fun _ => none) (f29.body.getD .skip) (c29.init x F y) (post prog c29 f29.results (c29.m x F y)) =
  ((IntKind.wrap IntKind.i64 (x.snd.fst.fst - x.fst.fst), IntKind.wrap IntKind.i64 (x.snd.fst.snd.fst - x.fst.snd.fst),
    IntKind.wrap IntKind.i64 (x.snd.fst.snd.snd - x.fst.snd.snd)) =
  toM x.fst x.snd.fst) := by kernel_rfl

theorem e10 (x : (Int × Int × Int) × (Int × Int × Int) × PUnit) (F : PUnit) (y : PUnit) :
  exec (ctxOf prog shs L10) f10.ntmps (fun _ => none) (f10.body.getD .skip) (c10.init x F y) (post prog c10 f10.results (c10.m x F y)) =
  (let v3 : Int × Int := squareM x.fst x.snd.fst;
  let v4 : P := toM x.fst x.snd.fst;
  let v5 : Bool := !(validM x.fst && (validM x.snd.fst && true));
  (2 : Nat) < (9223372036854775808 : Nat) ∧
  (v5 = true → True ∧ (0 : Int) = v3.fst ∧ (1 : Int) = v3.snd) ∧
    (v5 = false →
      True ∧
        True ∧
          IntKind.wrap IntKind.i64
                (IntKind.wrap IntKind.i64
                    (IntKind.wrap IntKind.i64 (v4.fst * v4.fst) + IntKind.wrap IntKind.i64 (v4.snd.fst * v4.snd.fst)) +
                  IntKind.wrap IntKind.i64 (v4.snd.snd * v4.snd.snd)) =
              v3.fst ∧
            (0 : Int) = v3.snd)) := by kernel_rfl

theorem hmix : prog.follows .mixedOrders = true := by kernel_rfl

theorem w_id {x : Int} (h1 : -9223372036854775808 ≤ x) (h2 : x < 9223372036854775808) : IntKind.wrap .i64 x = x := by
  rw [IntKind.wrap_i64]; omega

theorem ok14 : c14.ok prog 14 := Ctr.of_exec (C := ctxOf prog shs L14) ctxOf_nil hmix func14 rfl (by decide) (fun _ _ _ _ => none) fun x F y _ => by
  refine (e14 x F y).mpr ?_
  intro v3 v4 v7
  refine ⟨by simp, ?_⟩
  simp only [validM, v7, v3, v4]
  grind
theorem okL44 : (ctxOf prog shs L44).ok := ctxOf_cons ctxOf_nil (by kernel_rfl) ok14
theorem ok44 : c44.ok prog 44 := Ctr.of_exec okL44 hmix func44 rfl (by decide) (fun _ _ _ _ => none) fun x F y _ => by
  refine (e44 x F y).mpr ?_
  simp
theorem okL46 : (ctxOf prog shs L46).ok := ctxOf_cons okL44 (by kernel_rfl) ok44
theorem findIdx_none {f : P → Bool} {l : List P} (h : ∀ j : Nat, j < l.length → ∀ p, l[j]? = some p → f p = false) : indexM f l = -1 := by
  have : l.findIdx? f = none := by
    rw [List.findIdx?_eq_none_iff]
    intro p hp
    obtain ⟨j, hj, rfl⟩ := List.getElem_of_mem hp
    simpa using h j hj _ (List.getElem?_eq_getElem hj)
  simp [indexM, this]
theorem findIdx_some {f : P → Bool} {l : List P} {i : Nat} {p : P} (hi : l[i]? = some p) (hp : f p = true) (h : ∀ j : Nat, j < i → ∀ p, l[j]? = some p → f p = false) : indexM f l = i := by
  obtain ⟨hl, he⟩ := List.getElem?_eq_some_iff.1 hi
  have : l.findIdx? f = some i := by
    rw [List.findIdx?_eq_some_iff_getElem]
    refine ⟨hl, by rw [he]; exact hp, fun j hj => ?_⟩
    have := h j hj _ (List.getElem?_eq_getElem (by omega))
    simp [this]
  simp [indexM, this]
theorem indexM_ge {f : P → Bool} {l : List P} : decide (indexM f l ≥ 0) = l.any f := by
  rw [Bool.eq_iff_iff]
  unfold indexM
  cases h : l.findIdx? f with
  | none =>
    rw [List.findIdx?_eq_none_iff] at h
    simpa using h
  | some i =>
    obtain ⟨hl, hf, _⟩ := List.findIdx?_eq_some_iff_getElem.1 h
    simp
    exact ⟨_, _, _, List.getElem_mem hl, hf⟩

theorem ok46 : c46.ok prog 46 := Ctr.of_exec okL46 hmix func46 rfl (by decide) l46 fun x F y hp => by
  refine (e46 x F y).mpr ?_
  obtain ⟨hlen, hpre⟩ := hp
  refine ⟨⟨⟨0, Nat.zero_le _, fun j hj => by omega⟩, rfl, trivial⟩, fun _ => rfl, fun ⟨i, hi, hall⟩ => ?_⟩
  intro v5 v6
  refine ⟨fun h => ?_, fun h => ?_⟩
  · have h : i < List.length x.fst := by simpa [v6] using h
    have e : v5 = (x.fst[i], ()) := by simp [v5, h]
    rw [e]
    refine ⟨⟨⟨by omega, by simpa using h⟩, hpre _ (List.getElem_mem h)⟩, fun hf => ?_, fun hf => ⟨⟨trivial, trivial⟩, ⟨i + 1, h, fun j hj p hp => ?_⟩, ⟨?_, trivial⟩, ?_⟩⟩
    · exact (findIdx_some (List.getElem?_eq_getElem h) hf hall).symm
    · by_cases hji : j = i
      · subst hji
        rw [List.getElem?_eq_getElem h] at hp
        injection hp with hp
        rw [← hp]; exact hf
      · exact hall j (by omega) p hp
    · rw [w_id] <;> simp <;> omega
    · simp only; omega
  · have h : ¬ i < List.length x.fst := by simpa [v6] using h
    exact (findIdx_none fun j hj => hall j (by omega)).symm
theorem okL37 : (ctxOf prog shs L37).ok := ctxOf_cons okL46 (by kernel_rfl) ok46
theorem ok37 : c37.ok prog 37 := Ctr.of_exec okL37 hmix func37 rfl (by decide) (fun _ _ _ _ => none) fun x F y hp => by
  refine (e37 x F y).mpr ?_
  exact ⟨hp, indexM_ge⟩
theorem okL28 : (ctxOf prog shs L28).ok := ctxOf_cons okL37 (by kernel_rfl) ok37
theorem ok28 : c28.ok prog 28 := Ctr.of_exec okL28 hmix func28 rfl (by decide) (fun _ _ _ _ => none) fun x F y hp => by
  refine (e28 x F y).mpr ?_
  refine ⟨⟨hp, fun _ _ => trivial⟩, ?_⟩
  rw [Bool.eq_iff_iff]
  simp
theorem okL29 : (ctxOf prog shs L29).ok := ctxOf_cons okL28 (by kernel_rfl) ok28
theorem ok29 : c29.ok prog 29 := Ctr.of_exec okL29 hmix func29 rfl (by decide) (fun _ _ _ _ => none) fun x F y hp => by
  refine (e29 x F y).mpr ?_
  rfl
theorem okL10 : (ctxOf prog shs L10).ok := ctxOf_cons okL29 (by kernel_rfl) ok29
def inP (p : P) : Prop := -1048576 ≤ p.1 ∧ p.1 ≤ 1048576 ∧ -1048576 ≤ p.2.1 ∧ p.2.1 ≤ 1048576 ∧ -1048576 ≤ p.2.2 ∧ p.2.2 ≤ 1048576
theorem validM_iff {p : P} : validM p = true ↔ inP p := by
  unfold validM inP
  simp only [Bool.and_eq_true, decide_eq_true_eq]
  omega
theorem toM_id {a b : P} (ha : inP a) (hb : inP b) : toM a b = subM b a := by
  unfold inP at ha hb
  simp only [toM, subM, w]
  rw [w_id (by omega) (by omega), w_id (by omega) (by omega), w_id (by omega) (by omega)]
theorem sq_le {x : Int} (h1 : -2097152 ≤ x) (h2 : x ≤ 2097152) : 0 ≤ x * x ∧ x * x ≤ 4398046511104 := by
  refine ⟨by rw [← Int.natAbs_mul_self]; omega, ?_⟩
  have : x.natAbs ≤ 2097152 := by omega
  have h := Nat.mul_le_mul this this
  have e : (x.natAbs * x.natAbs : Int) = x * x := Int.natAbs_mul_self
  omega
theorem ok10 : c10.ok prog 10 := Ctr.of_exec okL10 hmix func10 rfl (by decide) (fun _ _ _ _ => none) fun x F y hp => by
  refine (e10 x F y).mpr ?_
  intro v3 v4 v5
  by_cases hv : (validM x.fst && validM x.snd.fst) = true
  · have hv' := hv
    simp only [Bool.and_eq_true, validM_iff] at hv'
    have eA : v4 = subM x.2.1 x.1 := toM_id hv'.1 hv'.2
    have eB : v3 = (sqM (subM x.2.1 x.1), 0) := by simp [v3, squareM, hv]
    have e5 : v5 = false := by simpa [v5] using hv
    rw [e5, eB]
    refine ⟨by simp, by simp, fun _ => ⟨trivial, trivial, ?_, rfl⟩⟩
    rw [eA]
    obtain ⟨ha, hb⟩ := hv'
    unfold inP at ha hb
    have q1 := sq_le (x := (subM x.2.1 x.1).1) (by simp only [subM]; omega) (by simp only [subM]; omega)
    have q2 := sq_le (x := (subM x.2.1 x.1).2.1) (by simp only [subM]; omega) (by simp only [subM]; omega)
    have q3 := sq_le (x := (subM x.2.1 x.1).2.2) (by simp only [subM]; omega) (by simp only [subM]; omega)
    rw [w_id (x := (subM x.2.1 x.1).1 * _) (by omega) (by omega), w_id (x := (subM x.2.1 x.1).2.1 * _) (by omega) (by omega), w_id (x := (subM x.2.1 x.1).2.2 * _) (by omega) (by omega),
      w_id (x := (subM x.2.1 x.1).1 * _ + _) (by omega) (by omega), w_id (by omega) (by omega)]
    rfl
  · have eB : v3 = (0, 1) := by simp [v3, squareM, hv]
    have e5 : v5 = true := by simp only [v5, Bool.and_true, Bool.not_eq_true'] ; simpa only [Bool.not_eq_true] using hv
    rw [e5, eB]
    simp
theorem e12 (x : Int × PUnit) (F : PUnit) (y : PUnit) :
  exec (ctxOf prog shs L12) f12.ntmps (l12 x F y) (f12.body.getD .skip) (c12.init x F y) (post prog c12 f12.results (c12.m x F y)) =
  (let v3 : (Int × Int) × Int := rootM x.fst;
  let v4 : Bool := decide (x.fst < (0 : Int));
  let v5 : Bool := bif v4 then true else decide (x.fst > (1152921504606846976 : Int));
  (((!v4) = true → (!v4) = true → (!v4) = true) ∧ (v4 = false → (!v4) = true)) ∧
  (v5 = true → True ∧ ((0 : Int), (0 : Int)) = v3.fst ∧ (2 : Int) = v3.snd) ∧
    (v5 = false →
      (∃ (x_1 :
          { p : Nat × Int //
            p.fst ≤ (31 : Nat) ∧
              (0 : Int) ≤ p.snd ∧
                p.snd * p.snd ≤ x.fst ∧ x.fst < (p.snd + (2 : Sh.T i64) ^ p.fst) * (p.snd + (2 : Sh.T i64) ^ p.fst) }),
          let v7 : Nat × Int := x_1.val;
          ((0 : Int) = v7.snd ∧ (1073741824 : Int) = halfPow v7.fst) ∧ True) ∧
        (∀
            (_x :
              { p : Nat × Int //
                let v7 : Int := p.snd + (2 : Sh.T i64) ^ p.fst;
                p.fst ≤ (31 : Nat) ∧ (0 : Int) ≤ p.snd ∧ p.snd * p.snd ≤ x.fst ∧ x.fst < v7 * v7 }),
            true = true) ∧
          ∀
            (x_1 :
              { p : Nat × Int //
                p.fst ≤ (31 : Nat) ∧
                  (0 : Int) ≤ p.snd ∧
                    p.snd * p.snd ≤ x.fst ∧
                      x.fst < (p.snd + (2 : Sh.T i64) ^ p.fst) * (p.snd + (2 : Sh.T i64) ^ p.fst) }),
            let v7 : Nat × Int := x_1.val;
            let v8 : Int := halfPow v7.fst;
            let v9 : Int := IntKind.wrap IntKind.i64 (v7.snd + v8);
            let v10 : Bool := decide (v8 > (0 : Int));
            let v11 : Bool := decide (IntKind.wrap IntKind.i64 (v7.snd * v7.snd) < x.fst);
            let v12 : Bool := decide (IntKind.wrap IntKind.i64 (v9 * v9) ≤ x.fst);
            (v10 = true →
                (v12 = true →
                    ((2 : Int) = (0 : Int) → False) ∧
                      (((0 : Int) = (0 : Int) ∧ (0 : Int) = (0 : Int)) ∧ True) ∧
                        ∃ (x' :
                          { p : Nat × Int //
                            p.fst ≤ (31 : Nat) ∧
                              (0 : Int) ≤ p.snd ∧
                                p.snd * p.snd ≤ x.fst ∧
                                  x.fst < (p.snd + (2 : Sh.T i64) ^ p.fst) * (p.snd + (2 : Sh.T i64) ^ p.fst) }),
                          let v14 : Nat × Int := x'.val;
                          ((v9 = v14.snd ∧ IntKind.wrap IntKind.i64 (Int.tdiv v8 (2 : Int)) = halfPow v14.fst) ∧ True) ∧
                            v14.fst < v7.fst) ∧
                  (v12 = false →
                    ((2 : Int) = (0 : Int) → False) ∧
                      (((0 : Int) = (0 : Int) ∧ (0 : Int) = (0 : Int)) ∧ True) ∧
                        ∃ (x' :
                          { p : Nat × Int //
                            p.fst ≤ (31 : Nat) ∧
                              (0 : Int) ≤ p.snd ∧
                                p.snd * p.snd ≤ x.fst ∧
                                  x.fst < (p.snd + (2 : Sh.T i64) ^ p.fst) * (p.snd + (2 : Sh.T i64) ^ p.fst) }),
                          let v14 : Nat × Int := x'.val;
                          ((v7.snd = v14.snd ∧ IntKind.wrap IntKind.i64 (Int.tdiv v8 (2 : Int)) = halfPow v14.fst) ∧
                              True) ∧
                            v14.fst < v7.fst)) ∧
              (v10 = false →
                (v11 = true →
                    True ∧ (v7.snd, IntKind.wrap IntKind.i64 (v7.snd + (1 : Int))) = v3.fst ∧ (0 : Int) = v3.snd) ∧
                  (v11 = false → True ∧ (v7.snd, v7.snd) = v3.fst ∧ (0 : Int) = v3.snd)))) := by kernel_rfl

theorem e13 (x : Int × PUnit) (F : PUnit) (y : PUnit) :
  exec (ctxOf prog shs L13) f13.ntmps (l13 x F y) (f13.body.getD .skip) (c13.init x F y) (post prog c13 f13.results (c13.m x F y)) =
  (let v3 : Int × Int := spanM x.fst;
  (∃ (x_1 :
    { p : Int × Int //
      (0 : Int) ≤ p.fst ∧ p.fst < p.snd ∧ p.snd ≤ (1073741825 : Int) ∧ p.fst * p.fst ≤ x.fst ∧ x.fst < p.snd * p.snd }),
    let v5 : Int × Int := x_1.val;
    ((0 : Int) = v5.fst ∧ (1073741825 : Int) = v5.snd) ∧ True) ∧
  (∀
      (_x :
        { p : Int × Int //
          (0 : Int) ≤ p.fst ∧
            p.fst < p.snd ∧ p.snd ≤ (1073741825 : Int) ∧ p.fst * p.fst ≤ x.fst ∧ x.fst < p.snd * p.snd }),
      true = true) ∧
    ∀
      (x_1 :
        { p : Int × Int //
          (0 : Int) ≤ p.fst ∧
            p.fst < p.snd ∧ p.snd ≤ (1073741825 : Int) ∧ p.fst * p.fst ≤ x.fst ∧ x.fst < p.snd * p.snd }),
      let v5 : Int × Int := x_1.val;
      let v6 : Int := v5.snd - v5.fst;
      let v7 : Int := IntKind.wrap IntKind.i64 (Int.tdiv (IntKind.wrap IntKind.i64 (v5.fst + v5.snd)) (2 : Int));
      let v8 : Bool := decide (IntKind.wrap IntKind.i64 v6 > (1 : Int));
      let v9 : Bool := decide (IntKind.wrap IntKind.i64 (v5.fst * v5.fst) = x.fst);
      let v10 : Bool := decide (IntKind.wrap IntKind.i64 (v7 * v7) ≤ x.fst);
      (v8 = true →
          ((2 : Int) = (0 : Int) → False) ∧
            (v10 = true →
                (((0 : Int) = (0 : Int) ∧ (0 : Int) = (0 : Int)) ∧ True) ∧
                  ∃ (x' :
                    { p : Int × Int //
                      (0 : Int) ≤ p.fst ∧
                        p.fst < p.snd ∧ p.snd ≤ (1073741825 : Int) ∧ p.fst * p.fst ≤ x.fst ∧ x.fst < p.snd * p.snd }),
                    let v12 : Int × Int := x'.val;
                    ((v7 = v12.fst ∧ v5.snd = v12.snd) ∧ True) ∧ Int.toNat (v12.snd - v12.fst) < Int.toNat v6) ∧
              (v10 = false →
                (((0 : Int) = (0 : Int) ∧ (0 : Int) = (0 : Int)) ∧ True) ∧
                  ∃ (x' :
                    { p : Int × Int //
                      (0 : Int) ≤ p.fst ∧
                        p.fst < p.snd ∧ p.snd ≤ (1073741825 : Int) ∧ p.fst * p.fst ≤ x.fst ∧ x.fst < p.snd * p.snd }),
                    let v12 : Int × Int := x'.val;
                    ((v5.fst = v12.fst ∧ v7 = v12.snd) ∧ True) ∧ Int.toNat (v12.snd - v12.fst) < Int.toNat v6)) ∧
        (v8 = false →
          (v9 = true → (v5.fst, v5.fst) = v3) ∧
            (v9 = false → (v5.fst, IntKind.wrap IntKind.i64 (v5.fst + (1 : Int))) = v3))) := by kernel_rfl

theorem e11 (x : (Int × Int × Int) × (Int × Int × Int) × PUnit) (F : PUnit) (y : PUnit) :
  exec (ctxOf prog shs L11) f11.ntmps (fun _ => none) (f11.body.getD .skip) (c11.init x F y) (post prog c11 f11.results (c11.m x F y)) =
  (let v3 : Int × Int := squareM x.fst x.snd.fst;
  let v4 : (Int × Int) × Int := lengthM x.fst x.snd.fst;
  let v5 : (Int × Int) × Int := rootM v3.fst;
  let v6 : Bool := !decide (v3.snd = (0 : Int));
  True ∧
  (v6 = true → True ∧ ((0 : Int), (0 : Int)) = v4.fst ∧ v3.snd = v4.snd) ∧
    (v6 = false → True ∧ True ∧ v5.fst = v4.fst ∧ v5.snd = v4.snd)) := by kernel_rfl

theorem e30 (x : Int × PUnit) (F : PUnit) (y : PUnit) :
  exec (ctxOf prog shs L30) f30.ntmps (fun _ => none) (f30.body.getD .skip) (c30.init x F y) (post prog c30 f30.results (c30.m x F y)) =
  (let v3 : Bool := decide (x.fst ≥ (-1048576 : Int));
  ((v3 = true → v3 = true → v3 = true) ∧ (v3 = true → v3 = true)) ∧
  (bif v3 then decide (x.fst ≤ (1048576 : Int)) else false) = inM x.fst) := by kernel_rfl

theorem e15 (x : (Int × Int × Int) × PUnit) (F : PUnit) (y : PUnit) :
  exec (ctxOf prog shs L15) f15.ntmps (fun _ => none) (f15.body.getD .skip) (c15.init x F y) (post prog c15 f15.results (c15.m x F y)) =
  (let v3 : Bool := inM x.fst.fst;
  let v4 : Bool := bif v3 then inM x.fst.snd.fst else false;
  (True ∧
    (v3 = true → v3 = true → v3 = true) ∧
      (v3 = true → v3 = true → v3 = true) ∧
        (v3 = true → True) ∧
          (v3 = true → v3 = true) ∧
            (v4 = true → v4 = true → v4 = true) ∧
              (v4 = true → v4 = true → v4 = true) ∧ (v4 = true → True) ∧ (v4 = true → v4 = true)) ∧
  (bif v4 then inM x.fst.snd.snd else false) = validM x.fst) := by kernel_rfl

theorem e31 (x : (Int × Int × Int) × (Int × Int × Int) × PUnit) (F : PUnit) (y : PUnit) :
  exec (ctxOf prog shs L31) f31.ntmps (fun _ => none) (f31.body.getD .skip) (c31.init x F y) (post prog c31 f31.results (c31.m x F y)) =
  ((IntKind.wrap IntKind.i64 (x.fst.fst - x.snd.fst.fst), IntKind.wrap IntKind.i64 (x.fst.snd.fst - x.snd.fst.snd.fst),
    IntKind.wrap IntKind.i64 (x.fst.snd.snd - x.snd.fst.snd.snd)) =
  minusM x.fst x.snd.fst) := by kernel_rfl

theorem e16 (x : (Int × Int × Int) × (Int × Int × Int) × PUnit) (F : PUnit) (y : PUnit) :
  exec (ctxOf prog shs L16) f16.ntmps (fun _ => none) (f16.body.getD .skip) (c16.init x F y) (post prog c16 f16.results (c16.m x F y)) =
  (let v3 : P := minusM x.fst x.snd.fst;
  True ∧
  IntKind.wrap IntKind.i64
      (IntKind.wrap IntKind.i64
          (IntKind.wrap IntKind.i64 (v3.fst * v3.fst) + IntKind.wrap IntKind.i64 (v3.snd.fst * v3.snd.fst)) +
        IntKind.wrap IntKind.i64 (v3.snd.snd * v3.snd.snd)) =
    sqM (subM x.snd.fst x.fst)) := by kernel_rfl

theorem e9 (x : PUnit) (F : PUnit) (y : PUnit) :
  exec (ctxOf prog shs L9) f9.ntmps (fun _ => none) (f9.body.getD .skip) (c9.init x F y) (post prog c9 f9.results (c9.m x F y)) =
  (let v3 : Int × Int := squareM ((0 : Int), (0 : Int), (0 : Int)) ((3 : Int), (4 : Int), (12 : Int));
  let v4 : (Int × Int) × Int := lengthM ((0 : Int), (0 : Int), (0 : Int)) ((3 : Int), (4 : Int), (12 : Int));
  let v5 : (Int × Int) × Int := lengthM ((0 : Int), (0 : Int), (0 : Int)) ((1 : Int), (1 : Int), (0 : Int));
  let v6 : Bool := decide (v3.snd = (0 : Int));
  let v7 : Bool := bif v6 then decide (v3.fst = (169 : Int)) else false;
  let v8 : Bool := bif v7 then decide (v4.snd = (0 : Int)) else false;
  let v9 : Bool := bif v8 then decide (v4.fst.fst = (13 : Int)) && (decide (v4.fst.snd = (13 : Int)) && true) else false;
  let v10 : Bool := bif v9 then decide (v5.snd = (0 : Int)) else false;
  True ∧
  True ∧
    True ∧
      ((v6 = true → v6 = true → v6 = true) ∧
          (v6 = true → v6 = true) ∧
            (v7 = true → v7 = true → v7 = true) ∧
              (v7 = true → v7 = true) ∧
                (v8 = true → v8 = true → v8 = true) ∧
                  (v8 = true → v8 = true → v8 = true) ∧
                    (v8 = true → v8 = true) ∧
                      (v9 = true → v9 = true → v9 = true) ∧
                        (v9 = true → v9 = true) ∧
                          (v10 = true → v10 = true → v10 = true) ∧
                            (v10 = true → v10 = true → v10 = true) ∧ (v10 = true → v10 = true)) ∧
        (bif v10 then decide (v5.fst.fst = (1 : Int)) && (decide (v5.fst.snd = (2 : Int)) && true) else false) = true) := by kernel_rfl

theorem e3 (x : (Int × Int × Int) × (Int × Int × Int) × Int × PUnit) (F : PUnit) (y : PUnit) :
  exec (ctxOf prog shs L3) f3.ntmps (fun _ => none) (f3.body.getD .skip) (c3.init x F y) (post prog c3 f3.results (c3.m x F y)) =
  (let v3 : Bool := validM x.fst;
  let v4 : Bool := !v3;
  let v5 : Bool := validM x.snd.fst;
  let v6 : (Int × Int) × Int := rootM x.snd.snd.fst;
  let v7 : Int × Int := spanM x.snd.snd.fst;
  let v8 : Int × Int := squareM x.fst x.snd.fst;
  let v9 : (Int × Int) × Int := lengthM x.fst x.snd.fst;
  let v10 : Int := sqM (subM x.snd.fst x.fst);
  let v11 : Int × Int := spanM v10;
  let v12 : Bool := bif v4 then true else !v5;
  let v13 : Bool := decide (x.snd.snd.fst < (0 : Int));
  let v14 : Bool := bif v13 then true else decide (x.snd.snd.fst > (1152921504606846976 : Int));
  let v15 : Bool := !(decide (v6.fst.fst = (0 : Int)) && (decide (v6.fst.snd = (0 : Int)) && true));
  let v16 : Bool := !decide (v3 = v3);
  let v17 : Bool := decide (v8.fst = (0 : Int));
  let v18 : Bool := bif v15 then true else !decide (v6.snd = (2 : Int));
  let v19 : Bool := !(decide (v6.fst.fst = v7.fst) && (decide (v6.fst.snd = v7.snd) && true));
  let v20 : Bool := bif v19 then true else !decide (v6.snd = (0 : Int));
  let v21 : Bool := decide (v8.fst = v10);
  let v22 : Bool := bif v16 then true else !decide (v5 = v5);
  let v23 : Bool := bif v17 then decide (v8.snd = (1 : Int)) else false;
  let v24 : Bool := bif v21 then decide (v8.snd = (0 : Int)) else false;
  let v25 : Bool := bif v23 then decide (v9.fst.fst = (0 : Int)) && (decide (v9.fst.snd = (0 : Int)) && true) else false;
  let v26 : Bool := bif v24 then decide (v9.fst.fst = v11.fst) && (decide (v9.fst.snd = v11.snd) && true) else false;
  True ∧
  (false = true → false = true) ∧
    (false = false →
      True ∧
        True ∧
          True ∧
            (((!v13) = true → (!v13) = true → (!v13) = true) ∧ (v13 = false → (!v13) = true)) ∧
              (v14 = true →
                  (((!v15) = true → (!v15) = true → (!v15) = true) ∧ (v15 = false → (!v15) = true)) ∧
                    (v18 = true → false = true) ∧
                      (v18 = false →
                        (True ∧
                            True ∧
                              ((!v16) = true → (!v16) = true → (!v16) = true) ∧
                                ((!v16) = true → True) ∧
                                  ((!v16) = true → (!v16) = true → (!v16) = true) ∧
                                    ((!v16) = true → True) ∧
                                      ((!v16) = true → (!v16) = true → (!v16) = true) ∧
                                        ((!v16) = true → (!v16) = true → (!v16) = true) ∧
                                          (v16 = false → (!v16) = true)) ∧
                          (v22 = true → false = true) ∧
                            (v22 = false →
                              (True ∧
                                  ((!v4) = true → (!v4) = true → (!v4) = true) ∧
                                    ((!v4) = true → True) ∧
                                      ((!v4) = true → (!v4) = true → (!v4) = true) ∧ (v4 = false → (!v4) = true)) ∧
                                (v12 = true →
                                    ((v17 = true → v17 = true → v17 = true) ∧
                                        (v17 = true → v17 = true) ∧
                                          (v23 = true → v23 = true → v23 = true) ∧
                                            (v23 = true → v23 = true → v23 = true) ∧
                                              (v23 = true → v23 = true) ∧
                                                (v25 = true → v25 = true → v25 = true) ∧ (v25 = true → v25 = true)) ∧
                                      (bif v25 then decide (v9.snd = (1 : Int)) else false) = true) ∧
                                  (v12 = false →
                                    ((v3 = true ∧ v5 = true) ∧
                                        (v21 = true → v21 = true → v21 = true) ∧
                                          (v21 = true → v21 = true) ∧
                                            (v24 = true → v24 = true → v24 = true) ∧
                                              (v24 = true → v24 = true → v24 = true) ∧
                                                (v24 = true → v3 = true ∧ v5 = true) ∧
                                                  (v24 = true → v24 = true → v24 = true) ∧
                                                    (v24 = true → (0 : Int) ≤ v10 ∧ v10 ≤ (1152921504606846976 : Int)) ∧
                                                      (v24 = true → v24 = true → v24 = true) ∧
                                                        (v24 = true → v24 = true → v24 = true) ∧
                                                          (v24 = true → v24 = true) ∧
                                                            (v26 = true → v26 = true → v26 = true) ∧
                                                              (v26 = true → v26 = true)) ∧
                                      (bif v26 then decide (v9.snd = (0 : Int)) else false) = true)))) ∧
                (v14 = false →
                  (((0 : Int) ≤ x.snd.snd.fst ∧ x.snd.snd.fst ≤ (1152921504606846976 : Int)) ∧
                      ((!v19) = true → (!v19) = true → (!v19) = true) ∧ (v19 = false → (!v19) = true)) ∧
                    (v20 = true → false = true) ∧
                      (v20 = false →
                        (True ∧
                            True ∧
                              ((!v16) = true → (!v16) = true → (!v16) = true) ∧
                                ((!v16) = true → True) ∧
                                  ((!v16) = true → (!v16) = true → (!v16) = true) ∧
                                    ((!v16) = true → True) ∧
                                      ((!v16) = true → (!v16) = true → (!v16) = true) ∧
                                        ((!v16) = true → (!v16) = true → (!v16) = true) ∧
                                          (v16 = false → (!v16) = true)) ∧
                          (v22 = true → false = true) ∧
                            (v22 = false →
                              (True ∧
                                  ((!v4) = true → (!v4) = true → (!v4) = true) ∧
                                    ((!v4) = true → True) ∧
                                      ((!v4) = true → (!v4) = true → (!v4) = true) ∧ (v4 = false → (!v4) = true)) ∧
                                (v12 = true →
                                    ((v17 = true → v17 = true → v17 = true) ∧
                                        (v17 = true → v17 = true) ∧
                                          (v23 = true → v23 = true → v23 = true) ∧
                                            (v23 = true → v23 = true → v23 = true) ∧
                                              (v23 = true → v23 = true) ∧
                                                (v25 = true → v25 = true → v25 = true) ∧ (v25 = true → v25 = true)) ∧
                                      (bif v25 then decide (v9.snd = (1 : Int)) else false) = true) ∧
                                  (v12 = false →
                                    ((v3 = true ∧ v5 = true) ∧
                                        (v21 = true → v21 = true → v21 = true) ∧
                                          (v21 = true → v21 = true) ∧
                                            (v24 = true → v24 = true → v24 = true) ∧
                                              (v24 = true → v24 = true → v24 = true) ∧
                                                (v24 = true → v3 = true ∧ v5 = true) ∧
                                                  (v24 = true → v24 = true → v24 = true) ∧
                                                    (v24 = true → (0 : Int) ≤ v10 ∧ v10 ≤ (1152921504606846976 : Int)) ∧
                                                      (v24 = true → v24 = true → v24 = true) ∧
                                                        (v24 = true → v24 = true → v24 = true) ∧
                                                          (v24 = true → v24 = true) ∧
                                                            (v26 = true → v26 = true → v26 = true) ∧
                                                              (v26 = true → v26 = true)) ∧
                                      (bif v26 then decide (v9.snd = (0 : Int)) else false) = true)))))) := by kernel_rfl

theorem mul_le_of {a b : Int} (ha : 0 ≤ a) (h : a ≤ b) : a * a ≤ b * b := Int.mul_le_mul h h ha (by omega)
theorem lt_of_mul {a b : Int} (hb : 0 ≤ b) (h : a * a < b * b) : a < b := by
  rcases Int.lt_or_le a b with h' | h'
  · exact h'
  · have := mul_le_of hb h'; omega
theorem sq_spec (n : Int) : ∀ (k : Nat) (r : Int), 0 ≤ r → r * r ≤ n → n < (r + 2 ^ k) * (r + 2 ^ k) → 0 ≤ sq n k r ∧ sq n k r * sq n k r ≤ n ∧ n < (sq n k r + 1) * (sq n k r + 1)
  | 0, r, h0, h1, h2 => ⟨h0, h1, by simpa [sq] using h2⟩
  | k + 1, r, h0, h1, h2 => by
    have hp : (0 : Int) ≤ 2 ^ k := Int.pow_nonneg (by decide)
    unfold sq
    split
    · rename_i h
      refine sq_spec n k _ (by omega) h ?_
      rw [show r + 2 ^ k + 2 ^ k = r + 2 ^ (k + 1) by rw [Int.pow_succ]; omega]
      exact h2
    · rename_i h
      exact sq_spec n k r h0 h1 (by omega)
theorem isq_spec {n : Int} (h1 : 0 ≤ n) (h2 : n ≤ 1152921504606846976) : 0 ≤ isq n ∧ isq n * isq n ≤ n ∧ n < (isq n + 1) * (isq n + 1) :=
  sq_spec n 31 0 (by omega) (by omega) (by simp; omega)
theorem isq_eq {n r : Int} (h1 : 0 ≤ n) (h2 : n ≤ 1152921504606846976) (hr : 0 ≤ r) (h3 : r * r ≤ n) (h4 : n < (r + 1) * (r + 1)) : isq n = r := by
  obtain ⟨g0, g1, g2⟩ := isq_spec h1 h2
  have a1 : isq n < r + 1 := lt_of_mul (by omega) (by omega)
  have a2 : r < isq n + 1 := lt_of_mul (by omega) (by omega)
  omega
theorem root_bound {n r : Int} (h2 : n ≤ 1152921504606846976) (h3 : r * r ≤ n) : r ≤ 1073741824 := by
  have : r < 1073741825 := lt_of_mul (by omega) (by omega)
  omega
theorem halfPow_pos {k : Nat} : 0 < halfPow k ↔ k ≠ 0 := by
  cases k with
  | zero => simp [halfPow]
  | succ k => simp [halfPow]; exact Int.pow_pos (by decide)
theorem halfPow_le {k : Nat} (h : k ≤ 31) : halfPow k ≤ 1073741824 := by
  cases k with
  | zero => simp [halfPow]
  | succ k =>
    have : (2 : Int) ^ k ≤ 2 ^ 30 := by exact_mod_cast Nat.pow_le_pow_right (n := 2) (by decide) (show k ≤ 30 by omega)
    simpa [halfPow] using this
theorem halfPow_half {k : Nat} : Int.tdiv (halfPow (k + 1)) 2 = halfPow k := by
  cases k with
  | zero => rfl
  | succ k =>
    simp only [halfPow]
    rw [Int.pow_succ, Int.mul_tdiv_cancel _ (by decide)]

theorem okL12 : (ctxOf prog shs L12).ok := ctxOf_cons okL10 (by kernel_rfl) ok10
theorem ok12 : c12.ok prog 12 := Ctr.of_exec okL12 hmix func12 rfl (by decide) l12 fun (x : Int × PUnit) F y _ => by
  refine (e12 x F y).mpr ?_
  intro v3 v4 v5
  refine ⟨by simp, fun h => ?_, fun h => ?_⟩
  · have h : x.fst < 0 ∨ 1152921504606846976 < x.fst := by simpa [v5, v4, Bool.cond_true_left] using h
    simp [v3, rootM, h]
  have h : ¬ (x.fst < 0 ∨ 1152921504606846976 < x.fst) := by simpa [v5, v4, Bool.cond_true_left] using h
  have ev3 : v3 = (spanM x.fst, 0) := by simp only [v3, rootM]; rw [if_neg h]
  have h1 : 0 ≤ x.fst := by omega
  have h2 : x.fst ≤ 1152921504606846976 := by omega
  refine ⟨⟨⟨(31, 0), by omega, by omega, by simpa using h1, by simp only; omega⟩, ⟨rfl, rfl⟩, trivial⟩, fun _ => rfl, ?_⟩
  rintro ⟨⟨k, r⟩, hk, hr, hle, hlt⟩ v7 v8 v9 v10 v11 v12
  simp only at hk hr hle hlt
  have hrb := root_bound h2 hle
  have hpb := halfPow_le hk
  have hp0 : 0 ≤ halfPow k := by
    cases k with
    | zero => simp [halfPow]
    | succ k => exact Int.pow_nonneg (by decide)
  have e9 : v9 = r + halfPow k := w_id (by simp only [v7, v8]; omega) (by simp only [v7, v8]; omega)
  have hsq : (r + halfPow k) * (r + halfPow k) ≤ 2147483648 * 2147483648 := mul_le_of (by omega) (by omega)
  have hsq0 : 0 ≤ (r + halfPow k) * (r + halfPow k) := Int.mul_nonneg (by omega) (by omega)
  have e12 : v12 = decide ((r + halfPow k) * (r + halfPow k) ≤ x.fst) := by
    simp only [v12, e9]
    rw [w_id (by omega) (by omega)]
  have hrr : 0 ≤ r * r := Int.mul_nonneg hr hr
  have e11 : v11 = decide (r * r < x.fst) := by
    simp only [v11, v7]
    rw [w_id (x := r * r) (by omega) (by omega)]
  refine ⟨fun hgo => ?_, fun hend => ?_⟩
  · have hk0 : k ≠ 0 := by simpa [v10, v8, v7, halfPow_pos] using hgo
    obtain ⟨j, rfl⟩ : ∃ j, k = j + 1 := ⟨k - 1, by omega⟩
    have ehalf : IntKind.wrap IntKind.i64 (Int.tdiv v8 2) = halfPow j := by
      simp only [v8, v7]
      rw [halfPow_half]
      have := halfPow_le (k := j) (by omega)
      have : 0 ≤ halfPow j := by
        cases j with
        | zero => simp [halfPow]
        | succ k => exact Int.pow_nonneg (by decide)
      exact w_id (by omega) (by omega)
    have e2 : r + halfPow (j + 1) + 2 ^ j = r + 2 ^ (j + 1) := by simp only [halfPow]; rw [Int.pow_succ]; omega
    refine ⟨fun ht => ⟨by simp, by simp, ⟨(j, r + halfPow (j + 1)), by omega, by omega, ?_, ?_⟩, ⟨⟨e9, ehalf⟩, trivial⟩, by simp [v7]⟩,
      fun hf => ⟨by simp, by simp, ⟨(j, r), by omega, hr, hle, ?_⟩, ⟨⟨rfl, ehalf⟩, trivial⟩, by simp [v7]⟩⟩
    · rw [e12] at ht; simpa using ht
    · simp only; rw [e2]; exact hlt
    · rw [e12] at hf; exact Int.not_le.1 (of_decide_eq_false hf)
  · have hk0 : k = 0 := by
      have : ¬ 0 < halfPow k := by simpa [v10, v8, v7] using hend
      rw [halfPow_pos] at this
      omega
    subst hk0
    have hi := isq_eq h1 h2 hr hle (by simpa using hlt)
    rw [ev3, e11]
    simp only [spanM, hi, v7]
    refine ⟨fun ht => ?_, fun hf => ?_⟩
    · have ht : r * r < x.fst := by simpa using ht
      rw [if_pos ht, w_id (by omega) (by omega)]
      simp
    · have hf : ¬ r * r < x.fst := by simpa using hf
      rw [if_neg hf]
      simp
theorem okL13 : (ctxOf prog shs L13).ok := ctxOf_cons okL12 (by kernel_rfl) ok12
theorem ok13 : c13.ok prog 13 := Ctr.of_exec okL13 hmix func13 rfl (by decide) l13 fun (x : Int × PUnit) F y hp => by
  refine (e13 x F y).mpr ?_
  obtain ⟨h1, h2⟩ : 0 ≤ x.fst ∧ x.fst ≤ 1152921504606846976 := hp
  intro v3
  refine ⟨⟨⟨(0, 1073741825), by omega, by omega, by omega, by simpa using h1, by simp; omega⟩, ⟨rfl, rfl⟩, trivial⟩, fun _ => rfl, ?_⟩
  rintro ⟨⟨l, u⟩, hl, hlu, hu, hle, hlt⟩ v5 v6 v7 v8 v9 v10
  simp only at hl hlu hu hle hlt
  have e7 : v7 = (l + u) / 2 := by
    simp only [v7, v5]
    rw [w_id (x := l + u) (by omega) (by omega), Int.tdiv_eq_ediv_of_nonneg (by omega), w_id (by omega) (by omega)]
  have e8 : v8 = decide (u - l > 1) := by
    simp only [v8, v6, v5]
    rw [w_id (by omega) (by omega)]
  have m1 : 0 ≤ v7 ∧ v7 ≤ 1073741825 := by rw [e7]; omega
  have hsq : v7 * v7 ≤ 1073741825 * 1073741825 := mul_le_of m1.1 m1.2
  have hsq0 : 0 ≤ v7 * v7 := Int.mul_nonneg m1.1 m1.1
  have e10 : v10 = decide (v7 * v7 ≤ x.fst) := by
    simp only [v10]
    rw [w_id (by omega) (by omega)]
  have hll : 0 ≤ l * l := Int.mul_nonneg hl hl
  have e9 : v9 = decide (l * l = x.fst) := by
    simp only [v9, v5]
    rw [w_id (x := l * l) (by omega) (by omega)]
  refine ⟨fun hgo => ⟨by simp, fun ht => ⟨by simp, ⟨(v7, u), m1.1, ?_, hu, ?_, hlt⟩, ⟨⟨rfl, rfl⟩, trivial⟩, ?_⟩, fun hf => ⟨by simp, ⟨(l, v7), hl, ?_, m1.2, hle, ?_⟩, ⟨⟨rfl, rfl⟩, trivial⟩, ?_⟩⟩, fun hend => ?_⟩
  · have : u - l > 1 := by simpa [e8] using hgo
    simp only; omega
  · simpa [e10] using ht
  · have : u - l > 1 := by simpa [e8] using hgo
    simp only [v6, v5]; omega
  · have : u - l > 1 := by simpa [e8] using hgo
    simp only; omega
  · have : ¬ v7 * v7 ≤ x.fst := by simpa [e10] using hf
    exact Int.not_le.1 this
  · have : u - l > 1 := by simpa [e8] using hgo
    simp only [v6, v5]; omega
  · have hul : u = l + 1 := by
      have : ¬ u - l > 1 := by simpa [e8] using hend
      omega
    subst hul
    have hi := isq_eq h1 h2 hl hle hlt
    rw [e9]
    simp only [v3, spanM, hi, v5]
    refine ⟨fun ht => ?_, fun hf => ?_⟩
    · have ht : l * l = x.fst := by simpa using ht
      rw [if_neg (by omega)]
    · have hf : ¬ l * l = x.fst := by simpa using hf
      rw [if_pos (by omega), w_id (by omega) (by omega)]
theorem okL11 : (ctxOf prog shs L11).ok := ctxOf_cons okL13 (by kernel_rfl) ok13
theorem sub_sq {a b : P} (ha : inP a) (hb : inP b) : 0 ≤ sqM (subM b a) ∧ sqM (subM b a) ≤ 13194139533312 := by
  unfold inP at ha hb
  have q1 := sq_le (x := b.1 - a.1) (by omega) (by omega)
  have q2 := sq_le (x := b.2.1 - a.2.1) (by omega) (by omega)
  have q3 := sq_le (x := b.2.2 - a.2.2) (by omega) (by omega)
  simp only [sqM, subM]
  omega
theorem valid2 {a b : P} (h : (validM a && validM b) = true) : inP a ∧ inP b := by
  simp only [Bool.and_eq_true, validM_iff] at h
  exact h
theorem length_root (a b : P) : lengthM a b = if (squareM a b).2 = 0 then rootM (squareM a b).1 else ((0, 0), (squareM a b).2) := by
  unfold lengthM squareM
  by_cases h : (validM a && validM b) = true
  · have := sub_sq (valid2 h).1 (valid2 h).2
    rw [if_pos h, if_pos h]
    have h3 : ¬ (sqM (subM b a) < 0 ∨ 1152921504606846976 < sqM (subM b a)) := by omega
    simp [rootM, h3]
  · rw [if_neg h, if_neg h]
    simp
theorem ok11 : c11.ok prog 11 := Ctr.of_exec okL11 hmix func11 rfl (by decide) (fun _ _ _ _ => none) fun x F y _ => by
  refine (e11 x F y).mpr ?_
  intro v3 v4 v5 v6
  have e4 : v4 = if v3.2 = 0 then v5 else ((0, 0), v3.2) := length_root x.1 x.2.1
  by_cases h : v3.2 = 0
  · simp [v6, h, e4]
  · simp [v6, h, e4]
theorem okL30 : (ctxOf prog shs L30).ok := ctxOf_cons okL11 (by kernel_rfl) ok11
theorem ok30 : c30.ok prog 30 := Ctr.of_exec okL30 hmix func30 rfl (by decide) (fun _ _ _ _ => none) fun x F y _ => by
  refine (e30 x F y).mpr ?_
  intro v3
  refine ⟨by simp, ?_⟩
  simp only [inM, v3]
  grind
theorem okL15 : (ctxOf prog shs L15).ok := ctxOf_cons okL30 (by kernel_rfl) ok30
theorem ok15 : c15.ok prog 15 := Ctr.of_exec okL15 hmix func15 rfl (by decide) (fun _ _ _ _ => none) fun x F y _ => by
  refine (e15 x F y).mpr ?_
  intro v3 v4
  refine ⟨by simp, ?_⟩
  simp only [validM, inM, v3, v4]
  grind
theorem okL31 : (ctxOf prog shs L31).ok := ctxOf_cons okL15 (by kernel_rfl) ok15
theorem ok31 : c31.ok prog 31 := Ctr.of_exec okL31 hmix func31 rfl (by decide) (fun _ _ _ _ => none) fun x F y _ => by
  refine (e31 x F y).mpr ?_
  rfl
theorem okL16 : (ctxOf prog shs L16).ok := ctxOf_cons okL31 (by kernel_rfl) ok31
theorem ok16 : c16.ok prog 16 := Ctr.of_exec okL16 hmix func16 rfl (by decide) (fun _ _ _ _ => none) fun x F y hp => by
  refine (e16 x F y).mpr ?_
  obtain ⟨ha, hb⟩ : validM x.1 = true ∧ validM x.2.1 = true := hp
  rw [validM_iff] at ha hb
  unfold inP at ha hb
  intro v3
  refine ⟨trivial, ?_⟩
  have q1 := sq_le (x := x.1.1 - x.2.1.1) (by omega) (by omega)
  have q2 := sq_le (x := x.1.2.1 - x.2.1.2.1) (by omega) (by omega)
  have q3 := sq_le (x := x.1.2.2 - x.2.1.2.2) (by omega) (by omega)
  have e : v3 = subM x.1 x.2.1 := by
    simp only [v3, minusM, subM, w]
    rw [w_id (by omega) (by omega), w_id (by omega) (by omega), w_id (by omega) (by omega)]
  rw [e]
  simp only [sqM, subM]
  rw [w_id (x := (x.1.1 - x.2.1.1) * _) (by omega) (by omega), w_id (x := (x.1.2.1 - x.2.1.2.1) * _) (by omega) (by omega), w_id (x := (x.1.2.2 - x.2.1.2.2) * _) (by omega) (by omega),
    w_id (x := (x.1.1 - x.2.1.1) * _ + _) (by omega) (by omega), w_id (by omega) (by omega)]
  have n1 : ∀ a b : Int, (a - b) * (a - b) = (b - a) * (b - a) := fun a b => by rw [← Int.neg_sub b a, Int.neg_mul_neg]
  rw [n1 x.1.1, n1 x.1.2.1, n1 x.1.2.2]
theorem okL9 : (ctxOf prog shs L9).ok := ctxOf_cons okL16 (by kernel_rfl) ok16
theorem ok9 : c9.ok prog 9 := Ctr.of_exec okL9 hmix func9 rfl (by decide) (fun _ _ _ _ => none) fun x F y _ => by
  refine (e9 x F y).mpr ?_
  decide
theorem okL3 : (ctxOf prog shs L3).ok := ctxOf_cons okL9 (by kernel_rfl) ok9
theorem ok3 : c3.ok prog 3 := Ctr.of_exec okL3 hmix func3 rfl (by decide) (fun _ _ _ _ => none) fun (x : P × P × Int × PUnit) F y _ => by
  refine (e3 x F y).mpr ?_
  have hs : squareM x.1 x.2.1 = if (validM x.1 && validM x.2.1) = true then (sqM (subM x.2.1 x.1), 0) else (0, 1) := rfl
  have hl : lengthM x.1 x.2.1 = if (validM x.1 && validM x.2.1) = true then (spanM (sqM (subM x.2.1 x.1)), 0) else ((0, 0), 1) := rfl
  have hr : rootM x.2.2.1 = if x.2.2.1 < 0 ∨ 1152921504606846976 < x.2.2.1 then ((0, 0), 2) else (spanM x.2.2.1, 0) := rfl
  have hb : (validM x.1 && validM x.2.1) = true → 0 ≤ sqM (subM x.2.1 x.1) ∧ sqM (subM x.2.1 x.1) ≤ 13194139533312 := fun h => sub_sq (valid2 h).1 (valid2 h).2
  rw [hs, hl, hr]
  clear hs hl hr
  generalize validM x.1 = va at *
  generalize validM x.2.1 = vb at *
  generalize spanM x.2.2.1 = sp at *
  generalize sqM (subM x.2.1 x.1) = q at *
  by_cases hn : x.2.2.1 < 0 ∨ 1152921504606846976 < x.2.2.1
  · have hn' : (bif decide (x.2.2.1 < 0) then true else decide (x.2.2.1 > 1152921504606846976)) = true := by simpa [Bool.cond_true_left] using hn
    cases va <;> cases vb <;> simp [hn, hn'] at hb ⊢ <;> omega
  · have hn' : (bif decide (x.2.2.1 < 0) then true else decide (x.2.2.1 > 1152921504606846976)) = false := by simpa [Bool.cond_true_left] using hn
    cases va <;> cases vb <;> simp [hn, hn'] at hb ⊢ <;> omega
end Go.Proofs.Ytniibhkddipcjaa
