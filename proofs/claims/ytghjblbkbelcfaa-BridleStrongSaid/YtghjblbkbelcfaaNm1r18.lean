/- Names: both programs know the same ones. -/
import Derived.Test.YtghjblbkbelcfaaEr18
import Derived.Test.YtghjblbkbelcfaaDnX
import Derived.Laws.StructEq
namespace Go.Proofs.Ytghjblbkbelcfaa
open Try Dn Dn.Sh

theorem str_beq (a b : ByteArray) : List.beq (ByteArray.toList a) (ByteArray.toList b) = decide (a = b) := by
  show (a.toList == b.toList) = _
  rw [ByteArray.toList_eq, ByteArray.toList_eq, Bool.eq_iff_iff, decide_eq_true_iff, beq_iff_eq]
  exact ⟨fun h => ByteArray.ext (Array.toList_inj.mp h), fun h => by rw [h]⟩

theorem lpK_some {α R : Type} {F : (α → Option R) → α → Option R} (I : α → Prop) (μ : α → Nat) (h : ∀ x rec, I x → (∀ y, I y → μ y < μ x → (rec y).isSome = true) → (F rec x).isSome = true) {x : α} (hx : I x) (hn : μ x < 1180591620717411303424) : (lpK α R F x).isSome = true := by
  have key : ∀ n x, I x → μ x < n → (loopF F n x).isSome = true := by
    intro n
    induction n with
    | zero => intro x _ h; omega
    | succ n ih =>
      intro x hx hn
      rw [loopF_succ]
      exact h x _ hx fun y hy hlt => ih y hy (by omega)
  exact key _ x hx hn

theorem letter_same : decimal_letter = ref01_Letter := by
  funext c
  rfl
theorem digit_same : decimal_digit = ref01_Digit := by
  funext c
  rfl
theorem letter_some (c : Int) : ∃ b, decimal_letter c = some b := by
  simp only [decimal_letter, decimal_letter_b, not_or_self', or_self_not, cond_true]
  cases decide (c ≥ 97) <;> cases decide (c ≤ 122) <;> cases decide (c ≥ 65) <;> exact ⟨_, rfl⟩
theorem digit_some (c : Int) : ∃ b, decimal_digit c = some b := by
  simp only [decimal_digit, decimal_digit_b, not_or_self', cond_true]
  exact ⟨_, rfl⟩

theorem word_some {s : ByteArray} (h : s.size ≤ 1000000) : ∃ n, decimal_word s = some n := by
  rw [← Option.isSome_iff_exists]
  simp only [decimal_word, decimal_word_b]
  refine lpK_some (I := fun (x : Int × PUnit) => 0 ≤ x.1 ∧ x.1 ≤ s.size) (μ := fun (x : Int × PUnit) => ((s.size : Int) - x.1).toNat) (x := ((0 : Int), PUnit.unit)) ?_ ⟨Int.le_refl _, by simp only; omega⟩ (by simp only; omega)
  rintro ⟨i, _⟩ rec ⟨h0, h1⟩ hrec
  simp only at h0 h1 ⊢
  by_cases hi : i < s.size
  · rw [inB_of h0 hi, decide_eq_true hi]
    obtain ⟨b, hb⟩ := letter_some (byteAt s i.toNat)
    obtain ⟨c, hc⟩ := digit_some (byteAt s i.toNat)
    have hw : IntKind.wrap .i64 (i + 1) = i + 1 := wrap_id (by omega) (by omega)
    have hr := hrec (i + 1, PUnit.unit) ⟨by simp only; omega, by simp only; omega⟩ (by simp only; omega)
    simp only [hb, hc, hw]
    cases b <;> cases c <;> cases decide (byteAt s i.toNat = 95) <;> simp [obind_some', hr]
  · rw [decide_eq_false hi]
    simp [obind_some']

theorem word_same (s : ByteArray) : ref01_word s 0 = decimal_word s := by
  simp only [ref01_word, ref01_word_b, decimal_word, decimal_word_b, letter_same, digit_same]

/-- Whether a string is a name. -/
noncomputable def nameB (s : ByteArray) : Bool := decide (0 < s.size) && (decide (s.size ≤ 20) && ((decimal_letter (byteAt s 0)).getD false && decide ((decimal_word s).getD 0 = (s.size : Int))))

theorem empty_iff (s : ByteArray) : s = { data := #[] } ↔ s.size = 0 := by
  constructor
  · intro h; rw [h]; rfl
  · intro h
    apply ByteArray.ext
    exact Array.eq_empty_of_size_eq_zero h

theorem isName_ok (s : ByteArray) : decimal_IsName s = some (nameB s) := by
  simp only [decimal_IsName, decimal_IsName_b, str_beq, not_or_self', Bool.and_self, cond_true]
  unfold nameB
  by_cases h0 : s.size = 0
  · have e : decide (s = { data := #[] }) = true := decide_eq_true ((empty_iff s).2 h0)
    simp [e, h0, obind_some']
  · have e : decide (s = { data := #[] }) = false := decide_eq_false fun h => h0 ((empty_iff s).1 h)
    by_cases h1 : s.size ≤ 20
    · obtain ⟨b, hb⟩ := letter_some (byteAt s 0)
      obtain ⟨n, hn⟩ := word_some (s := s) (by omega)
      have h2 : decide ((s.size : Int) ≤ 20) = true := decide_eq_true (by omega)
      rw [inB_of (show (0 : Int) ≤ 0 by omega) (show (0 : Int) < s.size by omega)]
      simp only [e, h2, hb, hn]
      cases b <;> simp [obind_some', h1, show 0 < s.size by omega]
    · have h2 : decide ((s.size : Int) ≤ 20) = false := decide_eq_false (by omega)
      simp [e, h2, h1, obind_some']

theorem refIsName_ok (s : ByteArray) : ref01_IsName s = some (nameB s) := by
  simp only [ref01_IsName, ref01_IsName_b, not_or_self', or_self_not, cond_true]
  unfold nameB
  by_cases h0 : s.size = 0
  · simp [h0, obind_some']
  · have e : decide ((s.size : Int) = 0) = false := decide_eq_false (by omega)
    by_cases h1 : s.size ≤ 20
    · obtain ⟨b, hb⟩ := letter_some (byteAt s 0)
      obtain ⟨n, hn⟩ := word_some (s := s) (by omega)
      have h2 : decide ((s.size : Int) > 20) = false := decide_eq_false (by omega)
      rw [inB_of (show (0 : Int) ≤ 0 by omega) (show (0 : Int) < s.size by omega), word_same]
      simp only [e, h2, ← letter_same, hb, hn]
      cases b <;> simp [obind_some', h1, show 0 < s.size by omega]
    · have h2 : decide ((s.size : Int) > 20) = true := decide_eq_true (by omega)
      simp [e, h2, h1, obind_some']

end Go.Proofs.Ytghjblbkbelcfaa
