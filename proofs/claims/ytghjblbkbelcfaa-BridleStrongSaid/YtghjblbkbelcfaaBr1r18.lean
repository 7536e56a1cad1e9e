/- Bridles: both programs know the same valid ones; the length of a leg. -/
import Derived.Test.YtghjblbkbelcfaaNm1r18
import Derived.Test.YtghjblbkbelcfaaPt1r18
import Derived.Test.YtghjblbkbelcfaaDnY
namespace Go.Proofs.Ytghjblbkbelcfaa
open Try Dn Dn.Sh

abbrev Leg := ByteArray × P3 × Int
abbrev Brd := P3 × Int × List Leg
abbrev leg0 : Leg := ({ data := { toList := [] } }, ((0 : Int), (0 : Int), (0 : Int)), (0 : Int))
noncomputable def legAt (b : Brd) (i : Nat) : Leg := b.2.2.getD i leg0
noncomputable def findB (b : Brd) (s : ByteArray) : Int := idxI (fun l => decide (l.1 = s)) b.2.2 0
noncomputable def armB (b : Brd) (i : Nat) : P3 := sub b.1 (legAt b i).2.1
def near1 (n : Int) : Bool := decide (-32768 ≤ n ∧ n ≤ 32768)
def nearB (p : P3) : Bool := near1 p.1 && (near1 p.2.1 && near1 p.2.2)
def weightB (n : Int) : Bool := decide (0 ≤ n ∧ n ≤ 67108864)
noncomputable def legB (b : Brd) (i : Nat) : Bool := nameB (legAt b i).1 && (decide (findB b (legAt b i).1 = i) && (dec (legAt b i).2.1 && (decide (armB b i ≠ (0, 0, 0)) && (nearB (armB b i) && weightB (legAt b i).2.2))))
noncomputable def validB (b : Brd) : Bool := dec b.1 && (weightB b.2.1 && (decide (1 ≤ b.2.2.length ∧ b.2.2.length ≤ 3) && (List.range' 0 b.2.2.length).all (legB b)))

theorem index76 {f : (Leg × Unit) → Option Bool} {p : Leg → Bool} {l : List Leg} (hl : l.length ≤ 1000000) (h : ∀ a, a ∈ l → f (a, ()) = some (p a)) : slices_IndexFunc_76 l f = some (idxI p l 0) := by
  unfold slices_IndexFunc_76 slices_IndexFunc_76_b
  exact index_loop (f := f) (d := leg0) hl h
theorem find_ok {b : Brd} (h : b.2.2.length ≤ 1000000) (s : ByteArray) : bridle_find b s = some (findB b s) := by
  unfold bridle_find bridle_find_b
  rw [index76 (p := fun l => decide (l.1 = s)) h (fun a _ => by simp only [bridle_find_1, bridle_find_1_b, str_beq])]
  rfl
theorem refFind_ok {b : Brd} (h : b.2.2.length ≤ 1000000) (s : ByteArray) : ref18_Find b s = some (findB b s) := by
  simp only [ref18_Find, ref18_Find_b, str_beq]
  exact find_loop (p := fun l => decide (l.1 = s)) h

theorem weight_ok (n : Int) : bridle_weight n = some (weightB n) := by
  simp only [bridle_weight, bridle_weight_b, not_or_self', cond_true, bif_false', ge_iff_le, weightB, Bool.decide_and]
theorem short_ok (n : Int) : ref18_short n = some (near1 n) := by
  simp only [ref18_short, ref18_short_b, not_or_self', cond_true, bif_false', ge_iff_le, near1, Bool.decide_and]
theorem near_ok {p : P3} (h1 : -4194304 ≤ p.1 ∧ p.1 ≤ 4194304) (h2 : -4194304 ≤ p.2.1 ∧ p.2.1 ≤ 4194304) (h3 : -4194304 ≤ p.2.2 ∧ p.2.2 ≤ 4194304) : bridle_near p = some (nearB p) := by
  simp only [bridle_near, bridle_near_b, ite_max]
  rw [wrap_id (x := 0 - p.1) (by omega) (by omega), wrap_id (x := 0 - p.2.1) (by omega) (by omega), wrap_id (x := 0 - p.2.2) (by omega) (by omega)]
  congr 1
  rw [Bool.eq_iff_iff]
  simp only [nearB, near1, Bool.and_eq_true, decide_eq_true_eq]
  omega

theorem sub_bound {a b : P3} (ha : inP a) (hb : inP b) : (-2097152 ≤ (sub a b).1 ∧ (sub a b).1 ≤ 2097152) ∧ (-2097152 ≤ (sub a b).2.1 ∧ (sub a b).2.1 ≤ 2097152) ∧ (-2097152 ≤ (sub a b).2.2 ∧ (sub a b).2.2 ≤ 2097152) := by
  unfold inP at ha hb
  simp only [sub]
  omega
theorem minus_ok {a b : P3} (ha : inP a) (hb : inP b) : bridle_minus b a = some (sub a b) := by
  unfold inP at ha hb
  simp only [bridle_minus, bridle_minus_b, sub]
  rw [wrap_id (by omega) (by omega), wrap_id (by omega) (by omega), wrap_id (by omega) (by omega)]
theorem arm_ok {b : Brd} {i : Nat} (hi : i < b.2.2.length) (ha : inP b.1) (hb : inP (legAt b i).2.1) : bridle_arm b i = some (armB b i) := by
  simp only [bridle_arm, bridle_arm_b, inB_nat, decide_eq_true hi, cond_true, Int.toNat_natCast]
  rw [show List.getD b.2.2 i leg0 = legAt b i from rfl, minus_ok ha hb]
  rfl
theorem refArm_ok {b : Brd} {i : Nat} (hi : i < b.2.2.length) (ha : inP b.1) (hb : inP (legAt b i).2.1) : ref18_Arm b i = some (armB b i) := by
  simp only [ref18_Arm, ref18_Arm_b, inB_nat, decide_eq_true hi, cond_true, Int.toNat_natCast]
  rw [show List.getD b.2.2 i leg0 = legAt b i from rfl]
  unfold inP at ha hb
  rw [wrap_id (by omega) (by omega), wrap_id (by omega) (by omega), wrap_id (by omega) (by omega)]
  rfl
theorem sub_zero_iff {a b : P3} : sub a b = (0, 0, 0) ↔ b = a := by
  obtain ⟨a1, a2, a3⟩ := a
  obtain ⟨b1, b2, b3⟩ := b
  simp only [sub, Prod.mk.injEq]
  omega
theorem p3_eq {a b : P3} : (decide (a.1 = b.1) && (decide (a.2.1 = b.2.1) && (decide (a.2.2 = b.2.2) && true))) = decide (a = b) := by
  obtain ⟨a1, a2, a3⟩ := a
  obtain ⟨b1, b2, b3⟩ := b
  simp only [Prod.mk.injEq, Bool.decide_and, Bool.and_true]

end Go.Proofs.Ytghjblbkbelcfaa
