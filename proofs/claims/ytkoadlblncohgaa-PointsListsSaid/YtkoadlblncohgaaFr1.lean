/- Chapter 9: PointsFlat. -/
import Derived.Test.YtkoadlblncohgaaPr1
namespace Go.Proofs.Ytkoadlblncohgaa
open Try Dn Dn.Sh

theorem awake_eq : law09_awake = some true := by kernel_rfl
theorem clone_eq {l : List P} (h : l.length ≤ 1000000) : slices_Clone_23 l = some l := by
  unfold slices_Clone_23
  rw [fitB_of (by omega), cond_true]

theorem givenE_cases (l : List P) : givenE l = 0 ∧ l.all dec = true ∧ l.length ≤ 20 ∨ (givenE l = 1 ∧ l.all dec = false) ∨ (givenE l = 4 ∧ l.all dec = true ∧ 20 < l.length) := by
  unfold givenE
  cases h : l.all dec with
  | false => simp
  | true =>
    by_cases h2 : (l.length : Int) > 20
    · simp [h2]; omega
    · simp [h2]; omega
theorem givenE_ok {l : List P} (h : l.all dec = true) (h2 : l.length ≤ 20) : givenE l = 0 := by
  unfold givenE
  rw [if_pos h, if_neg (by omega)]
theorem all_of {l m : List P} (h : l.all dec = true) (hs : ∀ p ∈ m, p ∈ l) : m.all dec = true := by
  rw [List.all_eq_true] at *
  exact fun p hp => h p (hs p hp)

/-- Flatness does not ask which of the points the ways start from. -/
theorem flat_base {l : List P} {o o' : P} (ho : o' ∈ l) (h : flatO o l) : flatO o' l := by
  intro a ha b hb c hc
  have h1 := h a ha b hb c hc
  have h2 := h o' ho b hb c hc
  have h3 := h a ha o' ho c hc
  have h4 := h a ha b hb o' ho
  obtain ⟨a1, a2, a3⟩ := a
  obtain ⟨b1, b2, b3⟩ := b
  obtain ⟨c1, c2, c3⟩ := c
  obtain ⟨o1, o2, o3⟩ := o
  obtain ⟨p1, p2, p3⟩ := o'
  simp only [dot, crs, sub] at *
  grind
theorem flat_sub {l m : List P} {o : P} (hs : ∀ p ∈ m, p ∈ l) (h : flatO o l) : flatO o m := fun a ha b hb c hc => h a (hs a ha) b (hs b hb) c (hs c hc)

/-- Two lists with the same points. -/
theorem flat_same {l m : List P} (hlm : ∀ p, p ∈ m ↔ p ∈ l) (hlen : m.length = l.length) : flatO (m.getD 0 z3) m ↔ flatO (l.getD 0 z3) l := by
  by_cases hl : 0 < l.length
  · have h1 := getD_mem hl
    have h2 := getD_mem (l := m) (i := 0) (by omega)
    exact ⟨fun h => flat_base h1 (flat_sub (fun p hp => (hlm p).2 hp) h), fun h => flat_base h2 (flat_sub (fun p hp => (hlm p).1 hp) h)⟩
  · have e1 : l = [] := List.length_eq_zero_iff.1 (by omega)
    have e2 : m = [] := List.length_eq_zero_iff.1 (by omega)
    rw [e1, e2]

theorem same_flatR {l m : List P} (hlm : ∀ p, p ∈ m ↔ p ∈ l) (hlen : m.length = l.length) : flatR m = flatR l := by
  have hall : m.all dec = l.all dec := by
    rw [Bool.eq_iff_iff, List.all_eq_true, List.all_eq_true]
    exact ⟨fun h p hp => h p ((hlm p).2 hp), fun h p hp => h p ((hlm p).1 hp)⟩
  have hg : givenE m = givenE l := by unfold givenE; rw [hall, hlen]
  unfold flatR
  rw [hg]
  simp only [flat_same hlm hlen]

theorem mem_swap {l : List P} {i j : Nat} (hi : i < l.length) (hj : j < l.length) (p : P) : p ∈ (l.set i (l.getD j z3)).set j (l.getD i z3) ↔ p ∈ l := by
  constructor
  · intro h
    rcases List.mem_or_eq_of_mem_set h with h | rfl
    · rcases List.mem_or_eq_of_mem_set h with h | rfl
      · exact h
      · exact getD_mem hj
    · exact getD_mem hi
  · intro h
    obtain ⟨k, hk, rfl⟩ := List.getElem_of_mem h
    by_cases e : k = i
    · subst e
      refine List.mem_iff_getElem.2 ⟨j, by simpa using hj, ?_⟩
      rw [List.getElem_set_self, getD_nat hk]
    · by_cases e' : k = j
      · subst e'
        refine List.mem_iff_getElem.2 ⟨i, by simpa using hi, ?_⟩
        rw [List.getElem_set_ne (by omega), List.getElem_set_self, getD_nat hk]
      · refine List.mem_iff_getElem.2 ⟨k, by simpa using hk, ?_⟩
        rw [List.getElem_set_ne (by omega), List.getElem_set_ne (by omega)]

/-- Three points at the most. -/
theorem flat_three {l : List P} (h : l.length ≤ 3) : flatO (l.getD 0 z3) l := by
  match l, h with
  | [], _ => intro a ha; cases ha
  | p :: m, h =>
    have key : ∀ x ∈ p :: m, x = p ∨ x = (p :: m).getD 1 p ∨ x = (p :: m).getD 2 p := by
      match m, h with
      | [], _ => intro x hx; simp at hx; exact .inl hx
      | [q], _ => intro x hx; simp at hx; rcases hx with rfl | rfl <;> simp
      | [q, r], _ => intro x hx; simp at hx; rcases hx with rfl | rfl | rfl <;> simp
      | _ :: _ :: _ :: _, h => simp only [List.length_cons] at h; omega
    generalize (p :: m).getD 1 p = q at key
    generalize (p :: m).getD 2 p = r at key
    intro a ha b hb c hc
    have h1 := key a ha
    have h2 := key b hb
    have h3 := key c hc
    simp only [List.getD_cons_zero]
    obtain ⟨p1, p2, p3⟩ := p
    rcases h1 with rfl | rfl | rfl <;> rcases h2 with rfl | rfl | rfl <;> rcases h3 with rfl | rfl | rfl <;> simp only [dot, crs, sub] <;> grind

/-- Points of one height. -/
theorem flat_level {l : List P} {z : Int} {o : P} (ho : o.2.2 = z) (h : ∀ p ∈ l, p.2.2 = z) : flatO o l := by
  intro a ha b hb c hc
  have h1 := h a ha
  have h2 := h b hb
  have h3 := h c hc
  simp only [dot, crs, sub, h1, h2, h3, ho]
  grind

end Go.Proofs.Ytkoadlblncohgaa
