/- The law BridleTensions. -/
import Derived.Test.YtghjblbkbelcfaaBr4r18
namespace Go.Proofs.Ytghjblbkbelcfaa
open Try Dn Dn.Sh

theorem upF_some {R σ : Type} {b : Nat → σ → (σ → Option R) → Option R} {f : σ → Option R} (hb : ∀ i s k, (∀ s, ∃ r, k s = some r) → ∃ r, b i s k = some r) (hf : ∀ s, ∃ r, f s = some r) :
    ∀ (n i : Nat) (s : σ), ∃ r, upF b f n i s = some r
  | 0, _, s => hf s
  | n + 1, i, s => hb i s _ fun s => upF_some hb hf n (i + 1) s

theorem withR_some (b : Brd) : ∃ r, withR b = some r := by
  unfold withR
  split
  · exact ⟨_, rfl⟩
  · split
    · exact ⟨_, rfl⟩
    · split
      · exact ⟨_, rfl⟩
      · exact upF_some (fun i s k h => by unfold withB; cases decide ((spanE _ _).2.1 = 0); exact ⟨_, rfl⟩; exact h _) (fun s => ⟨_, rfl⟩) _ _ _
theorem anchR_some (b : Brd) (s : ByteArray) : ∃ r, anchR b s = some r := by
  unfold anchR
  split
  · exact ⟨_, rfl⟩
  · split
    · exact ⟨_, rfl⟩
    · split
      · exact ⟨_, rfl⟩
      · exact upF_some (fun i s k h => by unfold anchB; cases decide ((fitQ _).2.1 = 0); exact ⟨_, rfl⟩; exact h _) (fun s => ⟨_, rfl⟩) _ _ _

theorem law5 : ∀ x : TsS [T26, .str], wfs [T26, .str] x → law18_BridleTensions x.1 x.2.1 = some true := by
  intro x _
  obtain ⟨b, s, _⟩ := x
  show law18_BridleTensions b s = some true
  simp only [law18_BridleTensions, law18_BridleTensions_b, awake_ok, long_ok, obind_some', not_or_self', or_self_not, Bool.and_self, cT, Bool.not_true, cF]
  rw [show (decide (10 < b.2.2.length) || decide (0 ≤ idxI (fun l : Leg => decide ((l.1.size : Int) > 100)) b.2.2 0)) = longB b from rfl]
  cases hl : longB b with
  | true => rfl
  | false =>
    have h := longB_len hl
    cases hs : decide ((s.size : Int) > 100) with
    | true => rfl
    | false =>
      obtain ⟨w, hw⟩ := withR_some b
      obtain ⟨a, ha⟩ := anchR_some b s
      simp only [cF, bTension_ok h, refTension_ok h, bWithin_ok, refWithin_ok, bAnchor_ok h, refAnchor_ok h, hw, ha, obind_some', decide_true, Bool.and_self, cT]

end Go.Proofs.Ytghjblbkbelcfaa
