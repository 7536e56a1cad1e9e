/- Plain lemmas for what functions answer: loops, machine numbers, lists. -/
import Derived.Test.YtghjblbkbelcfaaDnL
namespace Go.Proofs.Ytghjblbkbelcfaa
namespace Dn

section
variable {T R α σ : Type}

theorem obind_some' {t : T} {k : T → Option R} : obind (some t) k = k t := rfl
theorem obind_none' {k : T → Option R} : obind none k = none := rfl

/-- The loop answers 'g', where every round does, given that it answers so wherever the measure is less. -/
theorem loopF_eq {F : (α → Option R) → α → Option R} {g : α → Option R} (I : α → Prop) (μ : α → Nat)
    (h : ∀ x rec, I x → (∀ y, I y → μ y < μ x → rec y = g y) → F rec x = g x) : ∀ {n : Nat} {x : α}, I x → μ x < n → loopF F n x = g x
  | 0, x, _, hn => by omega
  | n + 1, x, hx, hn => by
    rw [loopF_succ]
    exact h x _ hx fun y hy hlt => loopF_eq I μ h hy (by omega)

theorem lpK_loop {F : (α → Option R) → α → Option R} {g : α → Option R} (I : α → Prop) (μ : α → Nat)
    (h : ∀ x rec, I x → (∀ y, I y → μ y < μ x → rec y = g y) → F rec x = g x) {x : α} (hx : I x) (hn : μ x < 1180591620717411303424) : lpK α R F x = g x := loopF_eq I μ h hx hn
theorem jnK_eq' {j : α → Option R} {f : (α → Option R) → Option R} : jnK α R j f = f j := rfl

theorem wrap_id {x : Int} (h1 : -9223372036854775808 ≤ x) (h2 : x < 9223372036854775808) : IntKind.wrap .i64 x = x := by
  rw [IntKind.wrap_i64]; omega

/-- What a loop over 0..n-1 answers: a round may answer, or go on with another state. -/
def upF (b : Nat → σ → (σ → Option R) → Option R) (f : σ → Option R) : Nat → Nat → σ → Option R
  | 0, _, s => f s
  | k + 1, i, s => b i s (upF b f k (i + 1))

theorem loopF_up {F : (α → Option R) → α → Option R} (n : Nat) (hn : n ≤ 1180591620717411303423) (enc : Nat → σ → α) (b : Nat → σ → (σ → Option R) → Option R) (f : σ → Option R)
    (hb : ∀ again (i : Nat) s, i < n → F again (enc i s) = b i s (fun s' => again (enc (i + 1) s'))) (hf : ∀ again s, F again (enc n s) = f s) (s : σ) :
    loopF F K0 (enc 0 s) = upF b f n 0 s := by
  have key : ∀ (k : Nat) (i : Nat) (m : Nat) (s : σ), i + k = n → k < m → loopF F m (enc i s) = upF b f k i s := by
    intro k
    induction k with
    | zero =>
      intro i m s h1 h2
      obtain ⟨m, rfl⟩ : ∃ m', m = m' + 1 := ⟨m - 1, by omega⟩
      have : i = n := by omega
      subst this
      simp only [loopF_succ, hf, upF]
    | succ k ih =>
      intro i m s h1 h2
      obtain ⟨m, rfl⟩ : ∃ m', m = m' + 1 := ⟨m - 1, by omega⟩
      simp only [loopF_succ, upF]
      rw [hb _ _ _ (by omega)]
      congr 1
      funext s'
      exact ih (i + 1) m s' (by omega) (by omega)
  exact key n 0 K0 s (by omega) (by unfold K0; omega)
theorem loopF_K0 {F : (α → Option R) → α → Option R} {x : α} : loopF F K0 x = F (loopF F 1180591620717411303423) x := rfl
theorem loopF_K1 {F : (α → Option R) → α → Option R} {x : α} : loopF F 1180591620717411303423 x = F (loopF F 1180591620717411303422) x := rfl
theorem loopF_K2 {F : (α → Option R) → α → Option R} {x : α} : loopF F 1180591620717411303422 x = F (loopF F 1180591620717411303421) x := rfl
theorem loopF_K3 {F : (α → Option R) → α → Option R} {x : α} : loopF F 1180591620717411303421 x = F (loopF F 1180591620717411303420) x := rfl

theorem joinF_eq {j : α → Option R} {f : (α → Option R) → Option R} {r : Option R} (g : α → Option R) (h : ∀ x, j x = g x) (hf : f g = r) : joinF j f = r := by
  rw [show j = g from funext h]
  exact hf

theorem inB_nat {i n : Nat} : inB (i : Int) n = decide (i < n) := by
  rw [Bool.eq_iff_iff, inB_iff, decide_eq_true_iff]; omega
theorem inB_of {i : Int} {n : Nat} (h1 : 0 ≤ i) (h2 : i < n) : inB i n = true := inB_iff.2 ⟨h1, h2⟩
theorem nzB_of {n : Int} (h : n ≠ 0) : nzB n = true := nzB_iff.2 h
theorem slB_of {lo hi : Int} {n : Nat} (h1 : 0 ≤ lo) (h2 : lo ≤ hi) (h3 : hi ≤ n) : slB lo hi n = true := slB_iff.2 ⟨h1, h2, h3⟩
theorem fitB_of {n k : Nat} (h : n * k ≤ 140737488355328) : fitB n k = true := fitB_iff.2 h

theorem ble_of {n m : Nat} (h : n ≤ m) : Nat.ble n m = true := by rw [Nat.ble_eq]; exact h
/-- As 'cond_true', 'cond_false', but not by computation: for rewriting under loops. -/
theorem cT0 {α : Sort _} {c : Bool} (h : c = true) (a b : α) : cond c a b = a := by subst h; rfl
theorem cT {α : Sort _} (a b : α) : cond true a b = a := cT0 (Eq.trans rfl rfl) a b
theorem cF0 {α : Sort _} {c : Bool} (h : c = false) (a b : α) : cond c a b = b := by subst h; rfl
theorem cF {α : Sort _} (a b : α) : cond false a b = b := cF0 (Eq.trans rfl rfl) a b
theorem or_self_not {b : Bool} : (b || !b) = true := by cases b <;> rfl
theorem not_or_self' {b : Bool} : (!b || b) = true := by cases b <;> rfl
theorem bif_false' {b : Bool} {c : Bool} : (bif b then c else false) = (b && c) := by cases b <;> rfl
theorem bif_true' {b : Bool} {c : Bool} : (bif b then true else c) = (b || c) := by cases b <;> rfl

theorem ite_max {a b : Int} : (if b > a then b else a) = max a b := by omega
theorem ite_min {a b : Int} : (if b < a then b else a) = min a b := by omega
theorem getD_nat {l : List α} {d : α} {i : Nat} (h : i < l.length) : l.getD i d = l[i] := by simp [List.getD, h]

theorem lget_set_self {l : List α} {d a : α} {i : Nat} (h : i < l.length) : (l.set i a).getD i d = a := by simp [List.getD, h]
theorem lget_set_ne {l : List α} {d a : α} {i j : Nat} (h : i ≠ j) : (l.set i a).getD j d = l.getD j d := by simp [List.getD, List.getElem?_set_ne h]

/-- A search through a list: the first place that a round answers at. -/
theorem upF_find {b : Nat → σ → (σ → Option R) → Option R} {f : σ → Option R} {p : Nat → Bool} {r : Nat → Option R} {s : σ} (hb : ∀ i (k : σ → Option R), b i s k = bif p i then r i else k s) :
    ∀ (k i : Nat), upF b f k i s = match (List.range' i k).find? p with | some j => r j | none => f s
  | 0, i => rfl
  | k + 1, i => by
    simp only [upF, hb, List.range'_succ, List.find?_cons]
    cases hp : p i with
    | true => rfl
    | false => exact upF_find hb k (i + 1)

end

/-- As 'upF_find', for the rounds within the bound only. -/
theorem upF_findR {R σ : Type} {b : Nat → σ → (σ → Option R) → Option R} {f : σ → Option R} {p : Nat → Bool} {r : Nat → Option R} {s : σ} (n : Nat) (hb : ∀ i (k : σ → Option R), i < n → b i s k = bif p i then r i else k s) :
    ∀ (k i : Nat), i + k ≤ n → upF b f k i s = match (List.range' i k).find? p with | some j => r j | none => f s
  | 0, i, _ => rfl
  | k + 1, i, h => by
    simp only [upF, hb i _ (by omega), List.range'_succ, List.find?_cons]
    cases hp : p i with
    | true => rfl
    | false => exact upF_findR n hb k (i + 1) (by omega)

end Dn
end Go.Proofs.Ytghjblbkbelcfaa
