/- The law BridleStrong: the walk. -/
import Derived.Test.YtghjblbkbelcfaaBs2r18
namespace Go.Proofs.Ytghjblbkbelcfaa
open Try Dn Dn.Sh

/-- A pull pushes. -/
noncomputable def negJ (qs : List Rat) (j : Nat) : Bool := decide (qs.getD j 0 < 0)
theorem idx_neg {qs : List Rat} : 0 ≤ idxI (fun a : Fq => decide (a.1 < 0)) (qs.map prQ) 0 ↔ (List.range' 0 qs.length).any (negJ qs) = true := by
  rw [← Int.not_lt, idxI_neg (Int.le_refl 0)]
  rw [List.any_eq_true]
  constructor
  · intro h
    rw [Classical.not_forall] at h
    obtain ⟨a, ha⟩ := h
    rw [Classical.not_imp] at ha
    obtain ⟨ha, hb⟩ := ha
    obtain ⟨q, hq, rfl⟩ := List.mem_map.1 ha
    obtain ⟨i, hi, rfl⟩ := List.mem_iff_getElem.1 hq
    refine ⟨i, List.mem_range'.2 ⟨i, hi, by omega⟩, ?_⟩
    unfold negJ
    rw [getD_nat hi]
    rw [Bool.not_eq_false, decide_eq_true_eq, prQ_neg] at hb
    exact decide_eq_true hb
  · rintro ⟨i, hi, hn⟩ hall
    obtain ⟨k, hk, rfl⟩ := List.mem_range'.1 hi
    have hlt : 0 + 1 * k < qs.length := by omega
    have := hall (prQ (qs.getD (0 + 1 * k) 0)) (List.mem_map.2 ⟨_, getD_mem hlt, rfl⟩)
    unfold negJ at hn
    rw [decide_eq_true_eq] at hn
    rw [decide_eq_true (prQ_neg.2 hn)] at this
    cases this

theorem withR_ok {b : Brd} {qs : List Rat} (h : validB b = true) (hp : pullsE b = .ok qs) : withR b = if (List.range' 0 qs.length).any (negJ qs) = true then some (false, 0, ()) else if (List.range' 0 qs.length).any (errJ b qs) = true then some (false, 5, ()) else some ((List.range' 0 qs.length).all (okJ b qs), 0, ()) := by
  unfold withR
  rw [if_neg (by rw [h]; simp), hp]
  simp only [idx_neg, upF_with, Bool.true_and]
theorem withR_err {b : Brd} {e : Int} (h : validB b = true) (hp : pullsE b = .error e) : withR b = some (false, e, ()) := by
  unfold withR
  rw [if_neg (by rw [h]; simp), hp]

end Go.Proofs.Ytghjblbkbelcfaa
