/- Loops over lists: searches and tests of all elements. -/
import Derived.Test.YtghjblbkbelcfaaDnX
namespace Go.Proofs.Ytghjblbkbelcfaa
namespace Dn

theorem lpK_up {σ α R : Type} {F : (α → Option R) → α → Option R} (n : Nat) (hn : n ≤ 1180591620717411303423) (enc : Nat → σ → α) (b : Nat → σ → (σ → Option R) → Option R) (f : σ → Option R)
    (hb : ∀ again (i : Nat) s, i < n → F again (enc i s) = b i s (fun s' => again (enc (i + 1) s'))) (hf : ∀ again s, F again (enc n s) = f s) (s : σ) :
    lpK α R F (enc 0 s) = upF b f n 0 s := loopF_up n hn enc b f hb hf s

/-- The first place, from i on, of an element that p takes; -1 if none. -/
def idxI {α : Type} (p : α → Bool) : List α → Int → Int
  | [], _ => -1
  | a :: l, i => bif p a then i else idxI p l (i + 1)

theorem idxI_neg {α : Type} {p : α → Bool} : ∀ {l : List α} {i : Int}, 0 ≤ i → (idxI p l i < 0 ↔ ∀ a ∈ l, p a = false)
  | [], i, h => by simp [idxI]
  | a :: l, i, h => by
    unfold idxI
    cases hp : p a with
    | true => simp only [cond_true, List.mem_cons, forall_eq_or_imp, hp]; simp; omega
    | false => simp only [cond_false, List.mem_cons, forall_eq_or_imp, hp, true_and]; exact idxI_neg (by omega)

theorem idxI_drop {α : Type} {p : α → Bool} {l : List α} {d : α} {i : Nat} (h : i < l.length) : idxI p (l.drop i) i = bif p (l.getD i d) then (i : Int) else idxI p (l.drop (i + 1)) ((i : Int) + 1) := by
  rw [List.drop_eq_getElem_cons h, getD_nat h]
  rfl

theorem idxI_at {α : Type} {p : α → Bool} {d : α} : ∀ {l : List α} {i : Int}, 0 ≤ i → 0 ≤ idxI p l i → i ≤ idxI p l i ∧ idxI p l i < i + l.length ∧ p (l.getD (idxI p l i - i).toNat d) = true
  | [], i, _, h => by simp [idxI] at h
  | a :: l, i, hi, h => by
    unfold idxI at h ⊢
    cases hp : p a with
    | true => simp [hp]; omega
    | false =>
      rw [hp, cond_false] at h
      obtain ⟨h1, h2, h3⟩ := idxI_at (d := d) (show 0 ≤ i + 1 by omega) h
      rw [cond_false]
      refine ⟨by omega, by simp only [List.length_cons]; omega, ?_⟩
      have e : (idxI p l (i + 1) - i).toNat = (idxI p l (i + 1) - (i + 1)).toNat + 1 := by omega
      rw [e, List.getD_cons_succ]
      exact h3

/-- The walk of slices.IndexFunc. -/
theorem index_loop {α : Type} {f : (α × Unit) → Option Bool} {d : α} {p : α → Bool} {l : List α} (hl : l.length ≤ 1000000) (h : ∀ a, a ∈ l → f (a, ()) = some (p a)) :
    lpK (Int × PUnit) Int (fun (again : Int × PUnit → Option Int) (x : Int × PUnit) => bif decide (x.fst < (↑(List.length l) : Int)) then bif inB x.fst (List.length l) then obind (f
      (List.getD l (Int.toNat x.fst) d, PUnit.unit)) fun (t : Bool) => bif t then some x.fst else again
      (IntKind.wrap IntKind.i64 (x.fst + (1 : Int)), PUnit.unit) else none else some (-1 : Int)) ((0 : Int), PUnit.unit) = some (idxI p l 0) := by
  refine lpK_loop (g := fun _ => some (idxI p l 0)) (I := fun (x : Int × PUnit) => 0 ≤ x.1 ∧ x.1 ≤ l.length ∧ idxI p (l.drop x.1.toNat) x.1 = idxI p l 0) (μ := fun (x : Int × PUnit) => ((l.length : Int) - x.1).toNat) ?_ ⟨by simp, by simp only; omega, rfl⟩ (by simp only; omega)
  rintro ⟨i, _⟩ rec ⟨h0, h1, h2⟩ hrec
  simp only at h0 h1 h2 ⊢
  by_cases hi : i < l.length
  · obtain ⟨n, rfl⟩ : ∃ n : Nat, i = n := ⟨i.toNat, by omega⟩
    rw [decide_eq_true hi, cond_true, inB_of h0 hi, cond_true, Int.toNat_natCast, h _ (by rw [getD_nat (by omega)]; exact List.getElem_mem (by omega)), obind_some', wrap_id (by omega) (by omega)]
    rw [Int.toNat_natCast, idxI_drop (d := d) (by omega)] at h2
    cases hp : p (l.getD n d) with
    | true => rw [hp, cond_true] at h2; rw [cond_true, h2]
    | false => rw [hp, cond_false] at h2; rw [cond_false]; exact hrec _ ⟨by simp only; omega, by simp only; omega, h2⟩ (by simp only; omega)
  · rw [decide_eq_false hi, cond_false]
    have e : i.toNat = l.length := by omega
    rw [e, List.drop_length] at h2
    rw [← h2]
    rfl

theorem find_loop {α : Type} {p : α → Bool} {d : α} {l : List α} (hl : l.length ≤ 1000000) :
    lpK (Int × PUnit) Int (fun (again : Int × PUnit → Option Int) (x : Int × PUnit) => bif decide (x.fst < (↑(List.length l) : Int)) then bif inB x.fst (List.length l) then bif p
      (List.getD l (Int.toNat x.fst) d) then some x.fst else again
      (IntKind.wrap IntKind.i64 (x.fst + (1 : Int)), PUnit.unit) else none else some (-1 : Int)) ((0 : Int), PUnit.unit) = some (idxI p l 0) :=
  index_loop (f := fun a => some (p a.1)) hl fun _ _ => rfl

theorem upF_all {R σ : Type} {b : Nat → σ → (σ → Option R) → Option R} {f : σ → Option R} {p : Nat → Bool} {r : Option R} {s : σ} (n : Nat) (hb : ∀ i (k : σ → Option R), i < n → b i s k = bif p i then k s else r) :
    ∀ (k i : Nat), i + k ≤ n → upF b f k i s = bif (List.range' i k).all p then f s else r
  | 0, i, _ => rfl
  | k + 1, i, h => by
    simp only [upF, hb i _ (by omega), List.range'_succ, List.all_cons]
    cases hp : p i with
    | true => exact upF_all n hb k (i + 1) (by omega)
    | false => rfl

end Dn
end Go.Proofs.Ytghjblbkbelcfaa
