/- Bridles: what 'Within' answers, spelled out. -/
import Derived.Test.YtghjblbkbelcfaaBq5r18
namespace Go.Proofs.Ytghjblbkbelcfaa
open Try Dn Dn.Sh

theorem spanE_err {q : Rat} {l : Int × Int} : (spanE q l).2.1 = 0 ∨ spanE q l = ((0, 0), 5, ()) := by
  unfold spanE
  split
  · exact .inl rfl
  · exact .inr rfl
noncomputable def okJ (b : Brd) (qs : List Rat) (j : Nat) : Bool := decide ((spanE (qs.getD j 0) (lenS (armB b j))).1.2 ≤ (legAt b j).2.2)
noncomputable def errJ (b : Brd) (qs : List Rat) (j : Nat) : Bool := !decide ((spanE (qs.getD j 0) (lenS (armB b j))).2.1 = 0)
theorem upF_with {b : Brd} {qs : List Rat} : ∀ (n i : Nat) (s : Bool), upF (withB b qs) (fun s => some (s, 0, ())) n i s = if (List.range' i n).any (errJ b qs) = true then some (false, 5, ()) else some (s && (List.range' i n).all (okJ b qs), 0, ())
  | 0, i, s => by simp [upF]
  | n + 1, i, s => by
    rw [upF, List.range'_succ, List.any_cons, List.all_cons]
    rw [show withB b qs i s (upF (withB b qs) (fun s => some (s, 0, ())) n (i + 1)) = bif errJ b qs i then some (false, (spanE (qs.getD i 0) (lenS (armB b i))).2.1, ()) else upF (withB b qs) (fun s => some (s, 0, ())) n (i + 1) (s && okJ b qs i) from rfl]
    cases h : errJ b qs i with
    | true =>
      have h' := h
      unfold errJ at h'
      rw [cond_true, Bool.true_or, if_pos rfl]
      rcases spanE_err (q := qs.getD i 0) (l := lenS (armB b i)) with e | e
      · rw [e] at h'; simp at h'
      · rw [e]
    | false =>
      rw [cond_false, upF_with n (i + 1), Bool.false_or, Bool.and_assoc]

end Go.Proofs.Ytghjblbkbelcfaa
