/- A symbolic executor: what code answers, as a plain function of data; loops go round with what their places hold. A symbolic executor: the contract of a function out of its body; functions that are walked in place; contexts. -/
import Derived.Test.YtghjblbkbelcfaaGreatMgE

namespace Go.Proofs.YtghjblbkbelcfaaGreat
namespace Dn
noncomputable section
open Go.RowKit

inductive Ex where
  | normal
  | ret
  | exit (id : Nat)

def Ex.to : Ex → Exit
  | .normal => .normal
  | .ret => .ret
  | .exit id => .exit id

/-- What is told of a function's code: the places of its loops, of the ends of its blocks and of its conditions. -/
structure Hint where
  loop : Nat → Option Hd := fun _ => none
  join : Nat → Option Hd := fun _ => none
  /-- The slots of the variables whose rows become data before a loop. -/
  thaw : Nat → List Nat := fun _ => []

def firstReg : Code → Nat
  | .region id _ _ => id
  | .seq a _ => firstReg a
  | .block _ c => firstReg c
  | .scope c => firstReg c
  | .loop c => firstReg c
  | _ => 0
def condKey (a b : Code) : Nat := match firstReg a with
  | 0 => 1000000 + firstReg b
  | n => 1000000 + n

def hdSlots : List (Nat × Bool × List Pat) → List Nat
  | [] => []
  | p :: r => p.1 :: hdSlots r
def hdS : Option Hd → List Nat
  | some hd => hdSlots hd.sl
  | none => []

/-- The slots that code writes, or that a place in it names. -/
def wr (hl : Hint) : Code → List Nat
  | .region _ ops _ => ops.toList.filterMap (·.dst)
  | .seq a b => wr hl a ++ wr hl b
  | .cond _ a b => hdS (hl.join (condKey a b)) ++ (wr hl a ++ wr hl b)
  | .block id c => hdS (hl.join id) ++ wr hl c
  | .loop c => hdS (hl.loop (firstReg c)) ++ wr hl c
  | _ => []

/-- By the recursor: so that the kernel unfolds it last. -/
def loopF {α R : Type} (F : (α → Option R) → α → Option R) (n : Nat) : α → Option R := Nat.rec (fun _ => none) (fun _ ih => F ih) n
theorem loopF_succ {α R : Type} {F : (α → Option R) → α → Option R} {n : Nat} {x : α} : loopF F (n + 1) x = F (loopF F n) x := rfl
def joinF {α R : Type} (j : α → Option R) (f : (α → Option R) → Option R) : Option R := f j
/-- How many rounds a loop may go: more than any number of the machine's. -/
def K0 : Nat := 1180591620717411303424
/-- How loops, and ends of ways, are read: variables, where answers are compared, so that nothing unfolds them. -/
abbrev Lp := (α R : Type) → ((α → Option R) → α → Option R) → α → Option R
abbrev Jn := (α R : Type) → (α → Option R) → ((α → Option R) → Option R) → Option R
def lpK : Lp := fun _ _ F x => loopF F K0 x
def jnK : Jn := fun _ _ j f => joinF j f
theorem lpK_eq {α R : Type} {F : (α → Option R) → α → Option R} {x : α} : lpK α R F x = loopF F K0 x := rfl
theorem jnK_eq {α R : Type} {j : α → Option R} {f : (α → Option R) → Option R} : jnK α R j f = joinF j f := rfl

def St.un (σ σ' : St) : St := { σ' with ro := σ.ro, roR := σ.roR }

def condB (σ : St) (c : Operand) : Option Bool := match getS σ.look.s c, condS σ.look.s c with
  | some (.c false [.v (.bool q)]), none => some q
  | _, _ => none

def blockK {R : Type} (id : Nat) (K : Ex → St → Option R) : Ex → St → Option R
  | .normal, σ => K .normal σ
  | .ret, σ => K .ret σ
  | .exit i, σ => match Nat.beq i id with
    | true => K .normal σ
    | false => K (.exit i) σ

/-- Several ways meet at a place. -/
def place (jn : Jn) {R : Type} (hd : Hd) (W : List Nat) (σ : St) (K : Ex → St → Option R) (body : St → (Ex → St → Option R) → Option R) : Option R := match hd.at σ with
  | some rh => match placeOk rh (hdSlots hd.sl ++ W) (somes (srcR σ rh)) σ with
    | true => jn _ _ (fun x => K .normal (σ.un (head rh (hdSlots hd.sl ++ W) (somes (srcR σ rh)) σ x))) fun j =>
        body { σ with ro := keysBut (blksOf rh) σ.h ++ σ.ro, roR := keysBut (rowsOf rh ++ somes (srcR σ rh)) σ.r ++ σ.roR } fun e σ' => match e with
          | .normal => match readAt rh (keysBut (rowsOf rh ++ somes (srcR σ rh)) σ.r ++ σ.roR) σ' with
            | some x => j x
            | none => none
          | .ret => K .ret (σ.un σ')
          | .exit i => K (.exit i) (σ.un σ')
    | false => none
  | none => none

def St.thaws : List Nat → St → Option St
  | [], σ => some σ
  | s :: r, σ => match lookS σ.s s with
    | some ⟨none, .c false [.ptr b 0]⟩ => match Dn.look σ.h b with
      | some l => match offL σ.roR (rowsL l), memN b σ.ro with
        | true, false => St.thaws r { σ with h := (b, thawL σ.look.r l) :: σ.h, r := (rowsL l).map (fun i => (i, none)) ++ σ.r }
        | _, _ => none
      | none => none
    | _ => none

def den (lp : Lp) (jn : Jn) (rec : Inl) (C : Ctx) (N : Nat) (hl : Hint) {R : Type} : Code → St → (Ex → St → Option R) → Option R
  | .skip, σ, K => K .normal σ
  | .region _ ops draw, σ, K => match draw with
    | false => regS rec C N ops ops.toList σ (K .normal)
    | true => regD C N ops ops.toList σ fun es σ' => match chkAll 0 es with
      | true => K .normal σ'
      | false => none
  | .seq a b, σ, K => den lp jn rec C N hl a σ fun e σ' => match e with
    | .normal => den lp jn rec C N hl b σ' K
    | .ret => K .ret σ'
    | .exit i => K (.exit i) σ'
  | .cond c a b, σ, K => match condB σ c with
    | some q => match hl.join (condKey a b) with
      | none => bif q then den lp jn rec C N hl a σ K else den lp jn rec C N hl b σ K
      | some hd => place jn hd (wr hl a ++ wr hl b) σ K fun σ' K' => bif q then den lp jn rec C N hl a σ' K' else den lp jn rec C N hl b σ' K'
    | none => none
  | .block id c, σ, K => match hl.join id with
    | none => den lp jn rec C N hl c σ (blockK id K)
    | some hd => place jn hd (wr hl c) σ K fun σ' K' => den lp jn rec C N hl c σ' (blockK id K')
  | .exit id, σ, K => K (.exit id) σ
  | .ret, σ, K => K .ret σ
  | .loop c, σ, K => match σ.thaws (hl.thaw (firstReg c)) with
    | none => none
    | some σ => match hl.loop (firstReg c) with
    | some hd => match hd.at σ with
      | some rh => match placeOk rh (hdSlots hd.sl ++ wr hl c) (somes (srcR σ rh)) σ, readAt rh (keysBut (rowsOf rh ++ somes (srcR σ rh)) σ.r ++ σ.roR) σ with
        | true, some x => lp _ _ (fun again x => den lp jn rec C N hl c (head rh (hdSlots hd.sl ++ wr hl c) (somes (srcR σ rh)) σ x) fun e σ' => match e with
            | .normal => match readAt rh (keysBut (rowsOf rh ++ somes (srcR σ rh)) σ.r ++ σ.roR) σ' with
              | some x' => again x'
              | none => none
            | .ret => K .ret (σ.un σ')
            | .exit i => K (.exit i) (σ.un σ')) x
        | _, _ => none
      | none => none
    | none => none
  | _, _, _ => none

section
variable {N : Nat} {E : Env} {a : Act}

theorem thaw1_ok {σ : St} {b : Nat} {l : List At} (hm : Mod N E a σ.look) (hb : look σ.h b = some l) : Mod N (E.zone σ.look (rowsL l)) a ({ σ with h := (b, thawL σ.look.r l) :: σ.h, r := (rowsL l).map (fun i => (i, none)) ++ σ.r } : St).look ∧ Keep E (E.zone σ.look (rowsL l)) := by
  obtain ⟨m1, m2⟩ := zone_mod hm (rowsL l)
  have hrr : ∀ i, look ((rowsL l).map (fun i => ((i, none) : Nat × Option RowI)) ++ σ.r) i = (σ.look.app (.rkill (rowsL l))).r i := fun i => look_kill (rowsL l) σ.r i
  have hlk : ({ σ with h := (b, thawL σ.look.r l) :: σ.h, r := (rowsL l).map (fun i => (i, none)) ++ σ.r } : St).look = (σ.look.app (.rkill (rowsL l))).setH b (thawL σ.look.r l) := by
    simp only [St.look, Look.app, Look.setH]
    congr 1
    · funext i; exact look_cons _ _ _ _
    · funext i; exact look_kill (rowsL l) σ.r i
  rw [hlk]
  refine ⟨?_, m2⟩
  have hz : ∀ i l', ((σ.look.app (.rkill (rowsL l))).setH b (thawL σ.look.r l)).h i = some l' → ∃ l2, σ.look.h i = some l2 := fun i l' hi => by
    simp only [Look.setH] at hi
    split at hi
    · rename_i e; subst e; exact ⟨l, hb⟩
    · exact ⟨l', hi⟩
  have hg : Glob (E.zone σ.look (rowsL l)) ((σ.look.app (.rkill (rowsL l))).setH b (thawL σ.look.r l)) := by
    have G := m1.glob
    refine ⟨G.below, G.zlt, G.z0, G.zfrom, fun i hi => ?_, G.rlive, fun i l' hi => ?_, fun i j l1 l2 hi hj hij => ?_, fun i r k hi hk => ?_, G.rinj⟩
    · simp only [Look.setH]
      split
      · rfl
      · exact G.live i hi
    · obtain ⟨l2, h2⟩ := hz i l' hi
      exact G.own i l2 h2
    · obtain ⟨l1', h1⟩ := hz i l1 hi
      obtain ⟨l2', h2⟩ := hz j l2 hj
      exact G.inj i j l1' l2' h1 h2 hij
    · obtain ⟨h1, h2⟩ := G.rown i r k hi hk
      refine ⟨h1, fun j l' hj => ?_⟩
      obtain ⟨l2, h3⟩ := hz j l' hj
      exact h2 j l2 h3
  refine ⟨hg, m1.nodef, m1.size, m1.slots, fun i l' hi => ?_, m1.rows⟩
  simp only [Look.setH] at hi
  split at hi
  · rename_i e
    subst e
    injection hi with hi
    subst hi
    obtain ⟨h1, cs, t, h2, h3, h4⟩ := hm.blks i l hb
    exact ⟨h1, cs, t, h2, thawL_rel hm (fun _ _ h => h) h3 fun r hr => hr, h4⟩
  · exact m1.blks i l' hi

theorem thaws_ok : ∀ {u : List Nat} {σ σ' : St} {E : Env}, Mod N E a σ.look → σ.thaws u = some σ' → ∃ E', Same E E' ∧ Keep E E' ∧ Fr σ σ' ∧ σ'.s = σ.s ∧ Mod N E' a σ'.look ∧ E'.w = E.w
  | [], σ, σ', E, hm, h => by
    simp only [St.thaws, Option.some.injEq] at h
    subst h
    exact ⟨E, rfl, Keep.refl E, Fr.refl σ, rfl, hm, rfl⟩
  | s :: r, σ, σ', E, hm, h => by
    simp only [St.thaws] at h
    split at h
    · rename_i b _
      split at h
      · rename_i l hl
        split at h
        · rename_i h1 h2
          obtain ⟨m1, m2⟩ := thaw1_ok hm hl
          obtain ⟨E', g1, g2, g3, g4, g5, g6⟩ := thaws_ok m1 h
          refine (?_ : ∀ hf : Fr σ ({ σ with h := (b, thawL σ.look.r l) :: σ.h, r := (rowsL l).map (fun i => (i, none)) ++ σ.r } : St), _) ⟨rfl, rfl, fun i hi => ?_, fun i hi => ?_⟩
          · intro hf
            exact ⟨E', Same.trans (E' := E.zone σ.look (rowsL l)) rfl g1, m2.trans g2, hf.trans g3, g4, g5, g6⟩
          · show look ((b, thawL σ.look.r l) :: σ.h) i = _
            rw [look_cons, if_neg]
            intro e
            subst e
            rw [memN_iff.2 hi] at h2
            cases h2
          · show look ((rowsL l).map (fun i => ((i, none) : Nat × Option RowI)) ++ σ.r) i = _
            rw [look_kill, if_neg (fun e => offL_mem h1 i e hi)]
        · cases h
      · cases h
    · cases h

theorem condB_run {σ : St} {c : Operand} {q : Bool} (h : condB σ c = some q) (hm : Mod N E a σ.look) : a.eval c = .bool q := by
  unfold condB at h
  split at h
  · rename_i q' hg hc
    injection h with h
    subst h
    exact toV_rel rfl (getS_rel hm (fun _ _ => rfl) hg fun d hd => by rw [hc] at hd; cases hd)
  · cases h

/-- A loop with a ghost number that every round lowers. -/
theorem wp_loop_ghost {P : Program} {c : Code} {Q : Exit → Act → World → Prop} (I : Nat → Act → World → Prop) (round : ∀ n a w, I n a w → c.wp P (Exit.then (fun a' w' => ∃ m, m < n ∧ I m a' w') Q) a w)
    {n : Nat} {a : Act} {w : World} (h₀ : I n a w) : (Code.loop c).wp P Q a w := by
  intro b k cs
  have key : ∀ n a w, I n a w → ∃ e a' w', Q e a' w' ∧ Arrives P (lone (b.at a (.code c :: .inLoop c :: k)) cs w) b k cs e a' w' := by
    intro n
    induction n using Nat.strongRecOn with
    | _ n ih =>
      intro a w hI
      obtain ⟨e, a₁, w₁, hq, harr⟩ := round n a w hI b (.inLoop c :: k) cs
      cases e with
      | normal =>
        obtain ⟨m, hlt, hI₁⟩ := hq
        obtain ⟨e₂, a₂, w₂, hq₂, harr₂⟩ := ih m hlt a₁ w₁ hI₁
        exact ⟨e₂, a₂, w₂, hq₂, .of_steps (Steps.trans harr (.one step_inLoop)) harr₂⟩
      | exit id => exact ⟨_, a₁, w₁, hq, .pass (x := .inLoop c) rfl (fun _ _ => .inl (by simp)) harr⟩
      | goto l => exact ⟨_, a₁, w₁, hq, .pass (x := .inLoop c) rfl (fun _ _ => .inl (by simp)) harr⟩
      | ret => exact ⟨_, a₁, w₁, hq, .pass (x := .inLoop c) rfl (fun _ _ => .inl (by simp)) harr⟩
      | panic ch => exact ⟨_, a₁, w₁, hq, .pass (x := .inLoop c) rfl (fun _ _ => .inl (by simp)) harr⟩
      | outgrown => exact ⟨_, a₁, w₁, hq, .pass (x := .inLoop c) rfl (fun _ _ => .inl (by simp)) harr⟩
  obtain ⟨e, a', w', hq, harr⟩ := key n a w h₀
  exact ⟨e, a', w', hq, .of_steps (.one step_loop) harr⟩

theorem plcS_slots : ∀ {l : List (Nat × Bool × List Pat)} {i : Nat} {ag : Bool} {ps : List Pat}, (Plc.slot i ag, ps) ∈ plcS l → i ∈ hdSlots l
  | p :: r, i, ag, ps, h => by
    simp only [plcS, List.mem_cons] at h
    rcases h with h | h
    · simp only [Prod.mk.injEq, Plc.slot.injEq] at h
      rw [h.1.1]
      simp [hdSlots]
    · exact List.mem_cons_of_mem _ (plcS_slots h)
theorem plcB_slots {σ : St} : ∀ {l : List (Nat × List Pat)} {rh : List (Plc × List Pat)} {i : Nat} {ag : Bool} {ps : List Pat}, plcB σ l = some rh → (Plc.slot i ag, ps) ∉ rh
  | [], rh, i, ag, ps, h => by simp only [plcB, Option.some.injEq] at h; subst h; simp
  | p :: r, rh, i, ag, ps, h => by
    simp only [plcB] at h
    split at h
    · rename_i b l _ hl
      injection h with h
      subst h
      intro hm
      rcases List.mem_cons.1 hm with hm | hm
      · cases hm
      · exact plcB_slots hl hm
    · cases h
theorem plcW_slots {σ : St} : ∀ {l : List (Nat × Option Nat × TypeId × Sh)} {rh : List (Plc × List Pat)} {i : Nat} {ag : Bool} {ps : List Pat}, plcW σ l = some rh → (Plc.slot i ag, ps) ∉ rh
  | [], rh, i, ag, ps, h => by simp only [plcW, Option.some.injEq] at h; subst h; simp
  | (_, none, _, _) :: r, rh, i, ag, ps, h => by
    simp only [plcW] at h
    split at h
    · rename_i q l _ hl
      injection h with h
      subst h
      intro hm
      rcases List.mem_cons.1 hm with hm | hm
      · cases hm
      · exact plcW_slots hl hm
    · cases h
  | (_, some _, _, _) :: r, rh, i, ag, ps, h => by
    simp only [plcW] at h
    split at h
    · rename_i b l _ hl
      split at h
      · split at h
        · injection h with h
          subst h
          intro hm
          rcases List.mem_cons.1 hm with hm | hm
          · cases hm
          · exact plcW_slots hl hm
        · cases h
      · cases h
    · cases h
theorem instS_keys : ∀ {rh : List (Plc × List Pat)} {x : TsR rh} {k i : Nat}, (look (instS rh x k) i).isSome = true → ∃ ag ps, (Plc.slot i ag, ps) ∈ rh
  | [], _, _, _, h => by simp [instS, look] at h
  | (.slot j ag, ps) :: r, x, k, i, h => by
    simp only [instS] at h
    rw [look_cons] at h
    split at h
    · rename_i e
      subst e
      exact ⟨ag, ps, by simp⟩
    · obtain ⟨ag', ps', h'⟩ := instS_keys h
      exact ⟨ag', ps', by simp [h']⟩
  | (.blk _, ps) :: r, x, k, i, h => by
    simp only [instS] at h
    obtain ⟨ag', ps', h'⟩ := instS_keys h
    exact ⟨ag', ps', by simp [h']⟩
  | (.row _, ps) :: r, x, k, i, h => by
    simp only [instS] at h
    obtain ⟨ag', ps', h'⟩ := instS_keys h
    exact ⟨ag', ps', by simp [h']⟩

theorem head_slots {hd : Hd} {rh : List (Plc × List Pat)} {W srcs : List Nat} {σ : St} {x : TsR rh} (hat : hd.at σ = some rh) {i : Nat} (hi : i ∉ hdSlots hd.sl ++ W) : look (head rh (hdSlots hd.sl ++ W) srcs σ x).s i = look σ.s i := by
  unfold Hd.at at hat
  split at hat
  · rename_i l l2 hl hl2
    injection hat with hat
    subst hat
    simp only [head]
    rw [look_append]
    cases hq : look (instS (plcS hd.sl ++ (l ++ l2)) x σ.next) i with
    | some t =>
      exfalso
      obtain ⟨ag, ps, hm⟩ := instS_keys (by rw [hq]; rfl)
      rcases List.mem_append.1 hm with hm | hm
      · exact hi (List.mem_append_left _ (plcS_slots hm))
      · rcases List.mem_append.1 hm with hm | hm
        · exact plcB_slots hl hm
        · exact plcW_slots hl2 hm
    | none =>
      simp only
      exact look_off_dropK hi
  · cases hat

theorem head_h {rh : List (Plc × List Pat)} {W srcs : List Nat} {σ : St} {x : TsR rh} {i : Nat} (hi : i ∉ blksOf rh) : look (head rh W srcs σ x).h i = look σ.h i := by
  simp only [head]
  rw [look_append]
  cases hq : look (instB rh x σ.next) i with
  | some l => exact absurd (instB_keys.1 (by rw [hq]; rfl)) hi
  | none => rfl
theorem head_r {rh : List (Plc × List Pat)} {W srcs : List Nat} {σ : St} {x : TsR rh} {i : Nat} (hi : i ∉ srcs) (hw : i ∉ rowsOf rh) (hf : ¬ (σ.next ≤ i ∧ i < σ.next + cntR rh)) : look (head rh W srcs σ x).r i = look σ.r i := by
  simp only [head]
  rw [look_append, look_lift]
  cases hq : look (instR rh x σ.next) i with
  | some l => exact (instR_keys (by rw [hq]; rfl)).elim (fun h => absurd h hf) fun h => absurd h hw
  | none =>
    simp only
    rw [look_append, look_kills, if_neg hi]

theorem place_fr {rh : List (Plc × List Pat)} {W : List Nat} {srcs : List Nat} {σ : St} {x : TsR rh} (hok : placeOk rh W srcs σ = true) (hro : ∀ i ∈ σ.roR, (look σ.r i).isSome = true) : Fr σ (σ.un (head rh W srcs σ x)) := by
  simp only [placeOk, Bool.and_eq_true] at hok
  obtain ⟨⟨⟨⟨⟨⟨k1, k2⟩, k3⟩, k4⟩, k5⟩, k6⟩, ⟨⟨⟨k7, k8⟩, k9⟩, k10⟩⟩ := hok
  refine ⟨rfl, rfl, fun i hi => head_h (W := W) (srcs := srcs) fun hb => offL_mem k4 i hb hi, fun i hi => head_r (W := W) (fun hs => offL_mem k5 i hs hi) (fun hs => offL_mem k7 i hs hi) fun hf => ?_⟩
  have := hro i hi
  rw [freshN_spec k3 i hf.1 hf.2] at this
  cases this

theorem un_fr {σ σ' σ0 : St} (h0 : ∀ i ∈ σ.ro, i ∈ σ0.ro ∧ look σ0.h i = look σ.h i) (h1 : ∀ i ∈ σ.roR, i ∈ σ0.roR ∧ look σ0.r i = look σ.r i) (hf : Fr σ0 σ') : Fr σ (σ.un σ') :=
  ⟨rfl, rfl, fun i hi => (hf.h i (h0 i hi).1).trans (h0 i hi).2, fun i hi => (hf.r i (h1 i hi).1).trans (h1 i hi).2⟩

theorem keysBut_sub {α : Type} {W : List Nat} {i : Nat} : ∀ {l : List (Nat × α)}, i ∈ keysBut W l → (look l i).isSome = true
  | p :: r, h => by
    simp only [keysBut] at h
    rw [look_cons]
    split at h
    · split
      · rfl
      · exact keysBut_sub h
    · split
      · rfl
      · rename_i hne
        rcases List.mem_cons.1 h with h | h
        · exact absurd h hne
        · exact keysBut_sub h

theorem RoR.head {rh : List (Plc × List Pat)} {W srcs : List Nat} {σ : St} {x : TsR rh} (h : RoR σ) (hok : placeOk rh W srcs σ = true) : RoR (head rh W srcs σ x) := fun i hi => by
  simp only [placeOk, Bool.and_eq_true] at hok
  obtain ⟨⟨⟨⟨⟨⟨k1, k2⟩, k3⟩, k4⟩, k5⟩, k6⟩, ⟨⟨⟨k7, k8⟩, k9⟩, k10⟩⟩ := hok
  have hsome : (look σ.r i).isSome = true := by
    rcases List.mem_append.1 hi with hi | hi
    · exact keysBut_sub hi
    · exact h i hi
  simp only [Dn.head]
  rw [look_append, look_lift]
  cases look (instR rh x σ.next) i with
  | some l => rfl
  | none =>
    simp only
    rw [look_append, look_kills]
    by_cases hs : i ∈ srcs
    · simp [hs]
    · simp only [if_neg hs]; exact hsome

theorem head_ro {rh : List (Plc × List Pat)} {W srcs : List Nat} {σ : St} {x : TsR rh} (hok : placeOk rh W srcs σ = true) (hro : RoR σ) :
    (∀ i ∈ σ.ro, i ∈ (head rh W srcs σ x).ro ∧ look (head rh W srcs σ x).h i = look σ.h i) ∧ (∀ i ∈ σ.roR, i ∈ (head rh W srcs σ x).roR ∧ look (head rh W srcs σ x).r i = look σ.r i) := by
  have := place_fr (x := x) hok hro
  exact ⟨fun i hi => ⟨List.mem_append_right _ hi, this.h i hi⟩, fun i hi => ⟨List.mem_append_right _ hi, this.r i hi⟩⟩

theorem head_keep {rh : List (Plc × List Pat)} {W srcs : List Nat} {σ : St} {x : TsR rh} (hok : placeOk rh W srcs σ = true) (hro : RoR σ) :
    (∀ i ∈ (head rh W srcs σ x).ro, look (head rh W srcs σ x).h i = look σ.h i) ∧ (∀ i ∈ (head rh W srcs σ x).roR, look (head rh W srcs σ x).r i = look σ.r i) := by
  have hok' := hok
  simp only [placeOk, Bool.and_eq_true] at hok
  obtain ⟨⟨⟨⟨⟨⟨k1, k2⟩, k3⟩, k4⟩, k5⟩, k6⟩, ⟨⟨⟨k7, k8⟩, k9⟩, k10⟩⟩ := hok
  have hfr := place_fr (x := x) hok' hro
  have kb : ∀ {α : Type} {W : List Nat} {i : Nat} {l : List (Nat × α)}, i ∈ keysBut W l → i ∉ W := by
    intro α W i l
    induction l with
    | nil => intro h; cases h
    | cons p r ih =>
      intro h
      simp only [keysBut] at h
      split at h
      · exact ih h
      · rename_i hm
        rcases List.mem_cons.1 h with h | h
        · intro hw; rw [h] at hw; rw [memN_iff.2 hw] at hm; cases hm
        · exact ih h
  refine ⟨fun i hi => ?_, fun i hi => ?_⟩
  · rcases List.mem_append.1 hi with hi | hi
    · exact head_h (kb hi)
    · exact hfr.h i hi
  · rcases List.mem_append.1 hi with hi | hi
    · refine head_r (fun h => kb hi (List.mem_append_right _ h)) (fun h => kb hi (List.mem_append_left _ h)) fun hf => ?_
      have := keysBut_sub hi
      rw [freshN_spec k3 i hf.1 hf.2] at this
      cases this
    · exact hfr.r i hi

theorem Mod.same {g g' : Look} (hm : Mod N E a g) (hs : g'.s = g.s) (hh : g'.h = g.h) (hr : g'.r = g.r) : Mod N E a g' := hm.forget (fun i s h => by rw [hs] at h; exact h) hh hr

theorem den_ok {rec : Inl} {C : Ctx} (hC : C.ok) (hI : InlOk C rec) (hmix : C.P.follows .mixedOrders = true) {hl : Hint} {R : Type} {z : R} : ∀ {c : Code} {σ : St} {K : Ex → St → Option R} {Q : Exit → Act → World → Prop} {E : Env} {a : Act}, den lpK jnK rec C N hl c σ K = some z → RoR σ → E.P = C.P → Mod N E a σ.look →
    (∀ e σ' E' a', K e σ' = some z → Same E E' → Keep E E' → Fr σ σ' → (∀ i, i ∉ wr hl c → look σ'.s i = look σ.s i) → Mod N E' a' σ'.look → Q e.to a' E'.w) → c.wp C.P Q a E.w
  | .skip, σ, K, Q, E, a, h, _, _, hm, hQ => wp_skip (hQ .normal σ E a h rfl (Keep.refl E) (Fr.refl σ) (fun _ _ => rfl) hm)
  | .region id ops draw, σ, K, Q, E, a, h, hro, hP, hm, hQ => by
    simp only [den] at h
    split at h
    · exact wp_region_list (seq_ok hC hI h hro hP hm fun σ' E' a' hk hs hkp hf hsl hm' => hQ .normal σ' E' a' hk hs hkp hf (fun i hi => hsl i hi) hm')
    · obtain ⟨es, σ', hr, hk⟩ := regD_rel h
      split at hk
      · rename_i hck
        obtain ⟨hf, hsl⟩ := hr.frame
        exact draw_ok hC hmix hr hck hP hm fun E' a' hs hkp hm' => hQ .normal σ' E' a' hk hs hkp hf (fun i hi => hsl i hi) hm'
      · cases hk
  | .seq x y, σ, K, Q, E, a, h, hro, hP, hm, hQ => by
    simp only [den] at h
    refine wp_seq (den_ok hC hI hmix h hro hP hm fun e σ' E' a' hk hs hkp hf hsl hm' => ?_)
    have hsl' : ∀ i, i ∉ wr hl (.seq x y) → look σ'.s i = look σ.s i := fun i hi => hsl i fun hx => hi (List.mem_append_left _ hx)
    cases e with
    | normal => exact den_ok hC hI hmix hk (hro.fr hf) (hs.P.trans hP) hm' fun e2 σ2 E2 a2 hk2 hs2 hkp2 hf2 hsl2 hm2 => hQ e2 σ2 E2 a2 hk2 (hs.trans hs2) (hkp.trans hkp2) (hf.trans hf2) (fun i hi => (hsl2 i fun hx => hi (List.mem_append_right _ hx)).trans (hsl' i hi)) hm2
    | ret => exact hQ .ret σ' E' a' hk hs hkp hf hsl' hm'
    | exit i => exact hQ (.exit i) σ' E' a' hk hs hkp hf hsl' hm'
  | .cond c x y, σ, K, Q, E, a, h, hro, hP, hm, hQ => by
    simp only [den] at h
    split at h
    · rename_i q hq
      split at h
      · rename_i hj
        have sub : ∀ i, i ∉ wr hl (.cond c x y) → i ∉ wr hl x ∧ i ∉ wr hl y := fun i hi => ⟨fun hx => hi (List.mem_append_right _ (List.mem_append_left _ hx)), fun hy => hi (List.mem_append_right _ (List.mem_append_right _ hy))⟩
        refine wp_cond_split (condB_run hq hm) (fun ht => ?_) (fun hf => ?_)
        · rw [ht] at h
          exact den_ok hC hI hmix h hro hP hm fun e σ' E' a' hk hs hkp hf hsl hm' => hQ e σ' E' a' hk hs hkp hf (fun i hi => hsl i (sub i hi).1) hm'
        · rw [hf] at h
          exact den_ok hC hI hmix h hro hP hm fun e σ' E' a' hk hs hkp hf hsl hm' => hQ e σ' E' a' hk hs hkp hf (fun i hi => hsl i (sub i hi).2) hm'
      · rename_i hd hj
        unfold place at h
        split at h
        · rename_i rh hat
          split at h
          · rename_i hok
            simp only [jnK, joinF] at h
            -- both ways end at the place
            have fin : ∀ (cc : Code) {σ' : St} {E' : Env} {a' : Act} (e : Ex), (match e with
                | .normal => match readAt rh (keysBut (rowsOf rh ++ somes (srcR σ rh)) σ.r ++ σ.roR) σ' with
                  | some x' => K .normal (σ.un (head rh (hdSlots hd.sl ++ (wr hl x ++ wr hl y)) (somes (srcR σ rh)) σ x'))
                  | none => none
                | .ret => K .ret (σ.un σ')
                | .exit i => K (.exit i) (σ.un σ')) = some z → Same E E' → Keep E E' → Fr { σ with ro := keysBut (blksOf rh) σ.h ++ σ.ro, roR := keysBut (rowsOf rh ++ somes (srcR σ rh)) σ.r ++ σ.roR } σ' →
                (∀ i, i ∉ wr hl x ++ wr hl y → look σ'.s i = look σ.s i) → Mod N E' a' σ'.look → Q e.to a' E'.w := by
              intro cc σ' E' a' e hk hs hkp hf hsl hm'
              have hfu : Fr σ (σ.un σ') := un_fr (σ0 := { σ with ro := keysBut (blksOf rh) σ.h ++ σ.ro, roR := keysBut (rowsOf rh ++ somes (srcR σ rh)) σ.r ++ σ.roR }) (fun i hi => ⟨List.mem_append_right _ hi, rfl⟩) (fun i hi => ⟨List.mem_append_right _ hi, rfl⟩) hf
              have hsl' : ∀ i, i ∉ wr hl (.cond c x y) → look σ'.s i = look σ.s i := fun i hi => hsl i fun hx => hi (List.mem_append_right _ hx)
              cases e with
              | normal =>
                simp only at hk
                split at hk
                · rename_i x' hx'
                  obtain ⟨E2, h1, h2, h3, h4⟩ := place_mod (W := hdSlots hd.sl ++ (wr hl x ++ wr hl y)) hok hm hkp hm' hx' (fun i hi => hsl i fun hx => hi (List.mem_append_right _ hx)) hf.h hf.r
                  have := hQ .normal _ E2 a' hk (hs.trans h1) h3 (place_fr hok hro) (fun i hi => head_slots (srcs := somes (srcR σ rh)) (x := x') hat fun hx => hi (by
                    rcases List.mem_append.1 hx with hx | hx
                    · exact List.mem_append_left _ (by rw [hj]; exact hx)
                    · exact List.mem_append_right _ hx)) (h4.same rfl rfl rfl)
                  rw [h2] at this
                  exact this
                · cases hk
              | ret => exact hQ .ret _ E' a' hk hs hkp hfu hsl' (hm'.same rfl rfl rfl)
              | exit i => exact hQ (.exit i) _ E' a' hk hs hkp hfu hsl' (hm'.same rfl rfl rfl)
            have hro' : RoR { σ with ro := keysBut (blksOf rh) σ.h ++ σ.ro, roR := keysBut (rowsOf rh ++ somes (srcR σ rh)) σ.r ++ σ.roR } := fun i hi => by
              rcases List.mem_append.1 hi with hi | hi
              · exact keysBut_sub hi
              · exact hro i hi
            refine wp_cond_split (condB_run hq hm) (fun ht => ?_) (fun hf => ?_)
            · rw [ht] at h
              exact den_ok hC hI hmix h hro' hP (hm.same rfl rfl rfl) fun e σ' E' a' hk hs hkp hf hsl hm' => fin x e hk hs hkp hf (fun i hi => hsl i fun hx => hi (List.mem_append_left _ hx)) hm'
            · rw [hf] at h
              exact den_ok hC hI hmix h hro' hP (hm.same rfl rfl rfl) fun e σ' E' a' hk hs hkp hf hsl hm' => fin y e hk hs hkp hf (fun i hi => hsl i fun hx => hi (List.mem_append_right _ hx)) hm'
          · cases h
        · cases h
    · cases h
  | .block id c, σ, K, Q, E, a, h, hro, hP, hm, hQ => by
    simp only [den] at h
    -- a block's end
    have blk : ∀ {K' : Ex → St → Option R} {e : Ex} {σ' : St} {a' : Act} {w' : World}, blockK id K' e σ' = some z → (∀ e', K' e' σ' = some z → Q e'.to a' w') → Exit.inBlock id Q e.to a' w' := by
      intro K' e σ' a' w' hk hq
      cases e with
      | normal => exact hq .normal hk
      | ret => exact hq .ret hk
      | exit i =>
        simp only [blockK] at hk
        show Exit.inBlock id Q (.exit i) a' w'
        simp only [Exit.inBlock]
        split at hk
        · rename_i hi
          have hi : i = id := by simpa using hi
          rw [if_pos hi]
          exact hq .normal hk
        · rename_i hi
          rw [if_neg (fun e => by subst e; simp at hi)]
          exact hq (.exit i) hk
    split at h
    · rename_i hj
      exact wp_block (den_ok hC hI hmix h hro hP hm fun e σ' E' a' hk hs hkp hf hsl hm' => blk hk fun e' hk' => hQ e' σ' E' a' hk' hs hkp hf (fun i hi => hsl i fun hx => hi (List.mem_append_right _ hx)) hm')
    · rename_i hd hj
      unfold place at h
      split at h
      · rename_i rh hat
        split at h
        · rename_i hok
          simp only [jnK, joinF] at h
          have hro' : RoR { σ with ro := keysBut (blksOf rh) σ.h ++ σ.ro, roR := keysBut (rowsOf rh ++ somes (srcR σ rh)) σ.r ++ σ.roR } := fun i hi => by
            rcases List.mem_append.1 hi with hi | hi
            · exact keysBut_sub hi
            · exact hro i hi
          refine wp_block (den_ok hC hI hmix h hro' hP (hm.same rfl rfl rfl) fun e σ' E' a' hk hs hkp hf hsl hm' => blk hk fun e' hk' => ?_)
          have hfu : Fr σ (σ.un σ') := un_fr (σ0 := { σ with ro := keysBut (blksOf rh) σ.h ++ σ.ro, roR := keysBut (rowsOf rh ++ somes (srcR σ rh)) σ.r ++ σ.roR }) (fun i hi => ⟨List.mem_append_right _ hi, rfl⟩) (fun i hi => ⟨List.mem_append_right _ hi, rfl⟩) hf
          have hsl' : ∀ i, i ∉ wr hl (.block id c) → look σ'.s i = look σ.s i := fun i hi => hsl i fun hx => hi (List.mem_append_right _ hx)
          cases e' with
          | normal =>
            simp only at hk'
            split at hk'
            · rename_i x' hx'
              obtain ⟨E2, h1, h2, h3, h4⟩ := place_mod (W := hdSlots hd.sl ++ wr hl c) hok hm hkp hm' hx' (fun i hi => hsl i fun hx => hi (List.mem_append_right _ hx)) hf.h hf.r
              have := hQ .normal _ E2 a' hk' (hs.trans h1) h3 (place_fr hok hro) (fun i hi => head_slots (srcs := somes (srcR σ rh)) (x := x') hat fun hx => hi (by
                rcases List.mem_append.1 hx with hx | hx
                · exact List.mem_append_left _ (by rw [hj]; exact hx)
                · exact List.mem_append_right _ hx)) (h4.same rfl rfl rfl)
              rw [h2] at this
              exact this
            · cases hk'
          | ret => exact hQ .ret _ E' a' hk' hs hkp hfu hsl' (hm'.same rfl rfl rfl)
          | exit i => exact hQ (.exit i) _ E' a' hk' hs hkp hfu hsl' (hm'.same rfl rfl rfl)
        · cases h
      · cases h
  | .exit id, σ, K, Q, E, a, h, _, _, hm, hQ => wp_exit (hQ (.exit id) σ E a h rfl (Keep.refl E) (Fr.refl σ) (fun _ _ => rfl) hm)
  | .ret, σ, K, Q, E, a, h, _, _, hm, hQ => wp_ret (hQ .ret σ E a h rfl (Keep.refl E) (Fr.refl σ) (fun _ _ => rfl) hm)
  | .loop c, σq, K, Q, Eq, a, h, hroq, hPq, hmq, hQq => by
    simp only [den] at h
    split at h
    · cases h
    rename_i σ hth
    obtain ⟨E, hsq, hkq, hfq, hslq, hm, hwq⟩ := thaws_ok hmq hth
    have hro : RoR σ := hroq.fr hfq
    have hP : E.P = C.P := hsq.P.trans hPq
    rw [← hwq]
    have hQ : ∀ e σ' E' a', K e σ' = some z → Same E E' → Keep E E' → Fr σ σ' → (∀ i, i ∉ wr hl (.loop c) → look σ'.s i = look σ.s i) → Mod N E' a' σ'.look → Q e.to a' E'.w := fun e σ' E' a' hk hs hkp hf hsl hm' =>
      hQq e σ' E' a' hk (hsq.trans hs) (hkq.trans hkp) (hfq.trans hf) (fun i hi => (hsl i hi).trans (by rw [hslq])) hm'
    clear hQq hmq hPq hroq
    split at h
    · rename_i hd hlp
      split at h
      · rename_i rh hat
        split at h
        · rename_i x0 hok hx0
          obtain ⟨E1, g1, g2, g3, g4⟩ := place_mod (E0 := E) (a0 := a) hok hm (Keep.refl E) hm hx0 (fun _ _ => rfl) (fun _ _ => rfl) (fun _ _ => rfl)
          let F : (TsR rh → Option R) → TsR rh → Option R := fun again x => den lpK jnK rec C N hl c (head rh (hdSlots hd.sl ++ wr hl c) (somes (srcR σ rh)) σ x) fun e σ' => match e with
            | .normal => match readAt rh (keysBut (rowsOf rh ++ somes (srcR σ rh)) σ.r ++ σ.roR) σ' with
              | some x' => again x'
              | none => none
            | .ret => K .ret (σ.un σ')
            | .exit i => K (.exit i) (σ.un σ')
          let I : Nat → Act → World → Prop := fun n a' w' => ∃ x E', loopF F n x = some z ∧ E'.w = w' ∧ Same E E' ∧ Keep E E' ∧ Mod N E' a' (head rh (hdSlots hd.sl ++ wr hl c) (somes (srcR σ rh)) σ x).look
          refine wp_loop_ghost I ?_ (n := K0) ⟨x0, E1, h, g2, g1, g3, g4⟩
          rintro n a' w' ⟨x, E', hloop, rfl, hs, hkp, hm'⟩
          cases n with
          | zero => cases hloop
          | succ n =>
            have hround : F (loopF F n) x = some z := hloop
            refine den_ok hC hI hmix hround (hro.head hok) (hs.P.trans hP) hm' fun e σ2 E2 a2 hk hs2 hkp2 hf2 hsl2 hm2 => ?_
            obtain ⟨r1, r2⟩ := head_ro (x := x) hok hro
            obtain ⟨q1, q2⟩ := head_keep (x := x) hok hro
            have hfu : Fr σ (σ.un σ2) := un_fr r1 r2 hf2
            have hsl' : ∀ i, i ∉ wr hl (.loop c) → look σ2.s i = look σ.s i := fun i hi => (hsl2 i fun hx => hi (List.mem_append_right _ hx)).trans (head_slots hat fun hx => hi (by
              rcases List.mem_append.1 hx with hx | hx
              · exact List.mem_append_left _ (by rw [hlp]; exact hx)
              · exact List.mem_append_right _ hx))
            cases e with
            | normal =>
              simp only at hk
              split at hk
              · rename_i x' hx'
                obtain ⟨E3, e1, e2, e3, e4⟩ := place_mod (E0 := E) (a0 := a) hok hm (hkp.trans hkp2) hm2 hx' (fun i hi => (hsl2 i fun hx => hi (List.mem_append_right _ hx)).trans (head_slots hat hi)) (fun i hi => (hf2.h i hi).trans (q1 i hi)) (fun i hi => (hf2.r i hi).trans (q2 i hi))
                exact ⟨n, Nat.lt_succ_self n, x', E3, hk, e2, (hs.trans hs2).trans e1, e3, e4⟩
              · cases hk
            | ret => exact hQ .ret _ E2 a2 hk (hs.trans hs2) (hkp.trans hkp2) hfu hsl' (hm2.same rfl rfl rfl)
            | exit i => exact hQ (.exit i) _ E2 a2 hk (hs.trans hs2) (hkp.trans hkp2) hfu hsl' (hm2.same rfl rfl rfl)
        · cases h
      · cases h
    · cases h
  | .rangeFunc .., _, _, _, _, _, h, _, _, _, _ => by simp [den] at h
  | .scope _, _, _, _, _, _, h, _, _, _, _ => by simp [den] at h
  | .label _, _, _, _, _, _, h, _, _, _, _ => by simp [den] at h
  | .goto _, _, _, _, _, _, h, _, _, _, _ => by simp [den] at h
  | .refuse _, _, _, _, _, _, h, _, _, _, _ => by simp [den] at h

end
end
end Dn
end Go.Proofs.YtghjblbkbelcfaaGreat

namespace Go.Proofs.YtghjblbkbelcfaaGreat
namespace Dn
noncomputable section
open Go.RowKit

def initS : (as : List Sh) → TsS as → Nat → List (Nat × Option SlotV)
  | [], _, _ => []
  | s :: r, x, i => (i, some ⟨none, .c s.isAgg (Sh.cells s x.1)⟩) :: initS r x.2 (i + 1)
def initF : (fs : List (List Sh × Sh)) → TsF fs → Nat → List (Nat × Option SlotV)
  | [], _, _ => []
  | s :: r, x, i => (i, some ⟨none, .c false [.fn s.1 s.2 x.1]⟩) :: initF r x.2 (i + 1)
def initC : (cs : List Sh) → TsS cs → Nat → List (Nat × Option SlotV)
  | [], _, _ => []
  | s :: r, x, i => (i, some ⟨none, .c false [.rf s x.1 0]⟩) :: initC r x.2 (i + 1)

def Ctr.init (c : Ctr) (x : TsS c.as) (F : TsF c.fs) (y : TsS c.cs) : St :=
  { s := initS c.as x 0 ++ initF c.fs F c.as.length ++ initC c.cs y (c.as.length + c.fs.length), h := [], r := [], next := 0 }

def resS (P : Program) (g : Look) : List ResultVar → Option (List SV)
  | [] => some []
  | .tmp t :: r => match g.s t, resS P g r with
    | some ⟨none, s⟩, some l => some (s :: l)
    | _, _ => none
  | .cell t ty :: r => match g.s t, resS P g r with
    | some ⟨none, .c false [.ptr b off]⟩, some l => match g.h b with
      | some m => match partC P ty m off with
        | some s => some (s :: l)
        | none => none
      | none => none
    | _, _ => none

def readVs : (l : List Sh) → List SV → Option (TsS l)
  | [], [] => some ()
  | s :: r, v :: vs => match s.whole v, readVs r vs with
    | some x, some y => some (x, y)
    | _, _ => none
  | _, _ => none

def notOne : List Sh → Bool
  | [_] => false
  | _ => true

def readRet : (r : RSh) → List SV → Option r.T
  | .one s, [v] => s.whole v
  | .tup l, vs => match notOne l with
    | true => readVs l vs
    | false => none
  | _, _ => none

/-- What a function's end gives. -/
def post (P : Program) (r : RSh) (rv : Array ResultVar) : Ex → St → Option r.T
  | .exit _, _ => none
  | _, σ => match resS P σ.look rv.toList with
    | some vs => readRet r (thawVs σ.look.r vs)
    | none => none

def argSlots : List SV → Nat → List (Nat × Option SlotV)
  | [], _ => []
  | v :: r, i => (i, some ⟨none, v⟩) :: argSlots r (i + 1)

/-- Functions walked in place, to a depth. -/
def inlF (lp : Lp) (jn : Jn) (C : Ctx) (hl : FuncId → Hint) : Nat → Inl
  | 0 => fun _ _ _ _ _ => none
  | d + 1 => fun _ id args σ K => match C.P.funcs[id]? with
    | some fn => match fn.body, Nat.ble args.length fn.ntmps with
      | some code, true => den lp jn (inlF lp jn C hl d) C fn.ntmps (hl id) code { σ with s := argSlots args 0 } fun e σ' => match e with
        | .exit _ => none
        | _ => match resS C.P σ'.look fn.results.toList with
          | some svs => K svs σ'
          | none => none
      | _, _ => none
    | none => none

section
variable {N : Nat} {E : Env} {a : Act}

theorem resS_run {g : Look} (hm : Mod N E a g) : ∀ {rv : List ResultVar} {l : List SV}, resS E.P g rv = some l →
    ∃ vs, (rv.mapM (m := Sem) fun | .tmp t => pure (a.tmps.getD t undef) | .cell x t => do loadVar t (← asAddr (a.tmps.getD x undef))).run E.P E.w = .ok vs E.w ∧ RelVs E l vs
  | [], l, h => by
    simp only [resS] at h
    injection h with h
    subst h
    exact ⟨[], rfl, trivial⟩
  | .tmp t :: r, l, h => by
    simp only [resS] at h
    split at h
    · rename_i s l' hs hl
      injection h with h
      subst h
      obtain ⟨vs, h1, h2⟩ := resS_run hm hl
      obtain ⟨v, hv, hr⟩ := hm.slots t _ hs
      refine ⟨v :: vs, ?_, hr, h2⟩
      have e : a.tmps.getD t undef = v := by simp [hv]
      simp only [List.mapM_cons, Sem.run_bind, e, Sem.run_pure, Result.andThen_ok, h1]
    · cases h
  | .cell t ty :: r, l, h => by
    simp only [resS] at h
    split at h
    · rename_i b off l' hs hl
      split at h
      · rename_i m hb
        split at h
        · rename_i s hp
          injection h with h
          subst h
          obtain ⟨vs, h1, h2⟩ := resS_run hm hl
          obtain ⟨v, hv, hr⟩ := hm.slots t _ hs
          obtain ⟨cs, hv2, hc, _⟩ := (hr : RelC E false [.ptr b off] v)
          match cs, hc with
          | [y], hc =>
            obtain ⟨⟨hy, _⟩, _⟩ := hc
            obtain ⟨ds, hd, hcl⟩ := blk_cells (hm.blks b m hb)
            obtain ⟨u, hrun, hrel⟩ := partC_run hp hd E.w hcl
            refine ⟨u :: vs, ?_, hrel, h2⟩
            have e : a.tmps.getD t undef = .pointer (some ⟨E.β b, off, none⟩) := by
              rw [hy] at hv2
              simp [hv, hv2, mkV, ptrV]
            rw [add_lit, Nat.zero_add] at hrun
            have ea : (asAddr (a.tmps.getD t undef)).run E.P E.w = .ok ⟨E.β b, off, none⟩ E.w := by rw [e]; rfl
            simp only [List.mapM_cons, Sem.run_bind, ea, Result.andThen_ok, hrun, h1, Sem.run_pure]
        · cases h
      · cases h
    · cases h

theorem relVs_length : ∀ {l : List SV} {vs : List Value}, RelVs E l vs → l.length = vs.length
  | [], [], _ => rfl
  | _ :: _, _ :: _, h => by simp [relVs_length h.2]
  | [], _ :: _, h => h.elim
  | _ :: _, [], h => h.elim

theorem results_run {g : Look} (hm : Mod N E a g) {fn : Func} {svs : List SV} (h : resS E.P g fn.results.toList = some svs) : ∃ vs, RelVs E svs vs ∧ (results fn a.tmps).run E.P E.w = .ok (if h : vs.length = 1 then vs[0] else .tuple vs.toArray) E.w := by
  obtain ⟨vs, h1, h2⟩ := resS_run hm h
  refine ⟨vs, h2, ?_⟩
  unfold results
  rw [← Array.toArray_toList (xs := fn.results), List.mapM_toArray]
  rw [Sem.run_bind, Sem.run_map]
  erw [h1]
  rfl

theorem compsOf_rel : ∀ {l : List SV} {m : List (Bool × List At)} {vs : List Value}, compsOf l = some m → RelVs E l vs → RelT E m vs
  | [], m, [], h, _ => by simp only [compsOf, Option.some.injEq] at h; subst h; trivial
  | .c ag l :: r, m, v :: vs, h, hr => by
    simp only [compsOf] at h
    split at h
    · rename_i m' hm
      injection h with h
      subst h
      exact ⟨hr.1, compsOf_rel hm hr.2⟩
    · cases h
  | .tup _ :: _, _, _, h, _ => by simp [compsOf] at h
  | [], _, _ :: _, _, hr => hr.elim
  | .c _ _ :: _, _, [], _, hr => hr.elim

theorem retSV_rel {l : List SV} {sv : SV} {vs : List Value} (h : retSV l = some sv) (hr : RelVs E l vs) : RelV E sv (if h : vs.length = 1 then vs[0] else .tuple vs.toArray) := by
  have e := relVs_length hr
  unfold retSV at h
  split at h
  · injection h with h
    subst h
    match vs, hr with
    | [u], hr => exact hr.1
  · rename_i hne
    split at h
    · rename_i m hm
      injection h with h
      subst h
      have hv : ¬ vs.length = 1 := fun h1 => by
        match l, e, hne with
        | [x], _, hne => exact hne x rfl
        | [], e, _ => simp only [List.length_nil] at e; omega
        | _ :: _ :: _, e, _ => simp only [List.length_cons] at e; omega
      rw [dif_neg hv]
      exact ⟨vs, rfl, compsOf_rel hm hr⟩
    · cases h

theorem argSlots_rel : ∀ {args : List SV} {vs : List Value} {i : Nat}, RelVs E args vs → ∀ j t, look (argSlots args i) j = some (some t) → ∃ v, i ≤ j ∧ vs[j - i]? = some v ∧ RelS E t v
  | [], _, i, _, j, t, h => by simp [argSlots, look] at h
  | s :: r, v :: vs, i, hr, j, t, h => by
    simp only [argSlots] at h
    rw [look_cons] at h
    split at h
    · rename_i e
      simp only [Option.some.injEq] at h
      subst h
      subst e
      exact ⟨v, Nat.le_refl _, by simp, hr.1⟩
    · obtain ⟨u, h3, h4, h5⟩ := argSlots_rel hr.2 j t h
      refine ⟨u, by omega, ?_, h5⟩
      rw [show j - i = (j - (i + 1)) + 1 by omega]
      exact h4
  | _ :: _, [], _, hr, _, _, _ => hr.elim

theorem inlF_ok {C : Ctx} (hC : C.ok) (hmix : C.P.follows .mixedOrders = true) {hl : FuncId → Hint} : ∀ d, InlOk C (inlF lpK jnK C hl d)
  | 0 => fun _ _ _ _ _ _ h => by cases h
  | d + 1 => fun R id args σ K z h hro E hm hP vs hvs post hpost => by
    simp only [inlF] at h
    split at h
    · rename_i fn hf
      split at h
      · rename_i code hb hle
        have hle : args.length ≤ fn.ntmps := by simpa using hle
        have hlen := relVs_length hvs
        refine calls_of_wp hf hb ?_
        have hmod : Mod fn.ntmps E { tmps := vs ++ Array.replicate (fn.ntmps - vs.size) undef, defers := [] } ({ σ with s := argSlots args 0 } : St).look := by
          have hm' : MemOk E ({ σ with s := argSlots args 0 } : St).look := hm.of rfl rfl
          refine ⟨hm'.glob, rfl, ?_, fun i t hi => ?_, hm'.blks, hm'.rows⟩
          · have : vs.size = args.length := by rw [hlen]; simp
            simp only [Array.size_append, Array.size_replicate]
            omega
          · simp only [St.look, lookS] at hi
            split at hi
            · rename_i t' hl'
              injection hi with hi
              subst hi
              obtain ⟨v, _, h2, h3⟩ := argSlots_rel hvs i t' hl'
              rw [Nat.sub_zero] at h2
              refine ⟨v, ?_, h3⟩
              have hlt := (List.getElem?_eq_some_iff.1 h2).1
              rw [Array.getElem?_append_left (by simpa using hlt)]
              simpa using h2
            · cases hi
        refine den_ok hC (inlF_ok hC hmix d) hmix h hro hP hmod fun e σ' E' a' hk hs hkp hf' hsl hm' => ?_
        have fin : ∀ svs, resS C.P σ'.look fn.results.toList = some svs → K svs σ' = some z → a'.defers = [] ∧ ∃ v, (results fn a'.tmps).run C.P E'.w = .ok v E'.w ∧ post (.returned v) E'.w := fun svs hsv hkk => by
          rw [← hP, ← hs.P] at hsv
          obtain ⟨us, hu1, hu2⟩ := results_run hm' hsv
          rw [hs.P, hP] at hu2
          exact ⟨hm'.nodef, _, hu2, hpost svs σ' E' _ hkk hs hkp ⟨hf'.ro, hf'.roR, hf'.h, hf'.r⟩ (hm'.memOk.of rfl rfl) fun sv hsv' => retSV_rel hsv' hu1⟩
        cases e with
        | normal =>
          simp only at hk
          split at hk
          · rename_i svs hsv; exact fin svs hsv hk
          · cases hk
        | ret =>
          simp only at hk
          split at hk
          · rename_i svs hsv; exact fin svs hsv hk
          · cases hk
        | exit i => cases hk
      · cases h
    · cases h

theorem readVs_rel : ∀ {l : List Sh} {svs : List SV} {z : TsS l} {vs : List Value}, readVs l svs = some z → RelVs E svs vs → DatVs E.w E.Z l z vs
  | [], [], _, [], _, _ => rfl
  | s :: r, v :: svs, z, u :: us, h, hr => by
    simp only [readVs] at h
    split at h
    · rename_i x y hx hy
      injection h with h
      subst h
      simp only [DatVs]
      exact ⟨u, us, rfl, whole_rel hx hr.1, readVs_rel hy hr.2⟩
    · cases h
  | [], [], _, _ :: _, _, hr => hr.elim
  | _ :: _, _ :: _, _, [], _, hr => hr.elim
  | [], _ :: _, _, _, h, _ => by simp [readVs] at h
  | _ :: _, [], _, _, h, _ => by simp [readVs] at h

theorem readVs_length : ∀ {l : List Sh} {svs : List SV} {z : TsS l}, readVs l svs = some z → svs.length = l.length
  | [], [], _, _ => rfl
  | s :: r, v :: svs, z, h => by
    simp only [readVs] at h
    split at h
    · rename_i x y hx hy
      simp [readVs_length hy]
    · cases h
  | [], _ :: _, _, h => by simp [readVs] at h
  | _ :: _, [], _, h => by simp [readVs] at h

theorem readRet_rel {r : RSh} {svs : List SV} {z : r.T} {vs : List Value} (h : readRet r svs = some z) (hr : RelVs E svs vs) : RetV E.w E.Z r z (if h : vs.length = 1 then vs[0] else .tuple vs.toArray) := by
  cases r with
  | one s =>
    match svs, vs, hr with
    | [v], [u], hr => exact whole_rel h hr.1
    | [], _, _ => simp [readRet] at h
    | _ :: _ :: _, _, _ => simp [readRet] at h
  | tup l =>
    simp only [readRet] at h
    split at h
    · rename_i h1
      have e1 := readVs_length h
      have e2 := relVs_length hr
      have hne : ¬ vs.length = 1 := by
        intro e
        match l, e1, h1 with
        | [], e1, _ => simp only [List.length_nil] at e1; omega
        | [_], _, h1 => simp [notOne] at h1
        | _ :: _ :: _, e1, _ => simp only [List.length_cons] at e1; omega
      rw [dif_neg hne]
      exact ⟨vs, rfl, readVs_rel h hr⟩
    · cases h

theorem initS_slots : ∀ {as : List Sh} {x : TsS as} {vals : List Value} {i : Nat}, DatVs E.w E.Z as x vals → ∀ j t, look (initS as x i) j = some (some t) → ∃ v, i ≤ j ∧ vals[j - i]? = some v ∧ RelS E t v
  | [], _, _, i, _, j, t, h => by simp [initS, look] at h
  | s :: r, x, vals, i, hd, j, t, h => by
    simp only [DatVs] at hd
    obtain ⟨v, vs', rfl, h1, h2⟩ := hd
    simp only [initS] at h
    rw [look_cons] at h
    split at h
    · rename_i e
      simp only [Option.some.injEq] at h
      subst h
      subst e
      exact ⟨v, Nat.le_refl _, by simp, datV_rel h1⟩
    · rename_i e
      obtain ⟨u, h3, h4, h5⟩ := initS_slots h2 j t h
      refine ⟨u, by omega, ?_, h5⟩
      rw [show j - i = (j - (i + 1)) + 1 by omega]
      exact h4

theorem DatVs.length {w : World} {Z : Nat → Prop} : ∀ {as : List Sh} {x : TsS as} {vals : List Value}, DatVs w Z as x vals → vals.length = as.length
  | [], _, _, h => by simp only [DatVs] at h; subst h; rfl
  | _ :: _, _, _, h => by simp only [DatVs] at h; obtain ⟨v, vs', rfl, _, h2⟩ := h; simp [DatVs.length h2]
theorem FnVs.length {P : Program} {w : World} {Z : Nat → Prop} : ∀ {as : List (List Sh × Sh)} {x : TsF as} {vals : List Value}, FnVs P w Z as x vals → vals.length = as.length
  | [], _, _, h => by simp only [FnVs] at h; subst h; rfl
  | _ :: _, _, _, h => by simp only [FnVs] at h; obtain ⟨v, vs', rfl, _, h2⟩ := h; simp [FnVs.length h2]
theorem RefVs.length {w : World} {Z : Nat → Prop} : ∀ {as : List Sh} {x : TsS as} {vals : List Value}, RefVs w Z as x vals → vals.length = as.length
  | [], _, _, h => by simp only [RefVs] at h; subst h; rfl
  | _ :: _, _, _, h => by simp only [RefVs] at h; obtain ⟨v, vs', rfl, _, h2⟩ := h; simp [RefVs.length h2]

theorem initF_slots (hE : E.w0 = E.w) (hZ : E.Z0 = E.Z) : ∀ {as : List (List Sh × Sh)} {x : TsF as} {vals : List Value} {i : Nat}, FnVs E.P E.w E.Z as x vals → ∀ j t, look (initF as x i) j = some (some t) → ∃ v, i ≤ j ∧ vals[j - i]? = some v ∧ RelS E t v
  | [], _, _, i, _, j, t, h => by simp [initF, look] at h
  | s :: r, x, vals, i, hd, j, t, h => by
    simp only [FnVs] at hd
    obtain ⟨v, vs', rfl, h1, h2⟩ := hd
    simp only [initF] at h
    rw [look_cons] at h
    split at h
    · rename_i e
      simp only [Option.some.injEq] at h
      subst h
      subst e
      refine ⟨v, Nat.le_refl _, by simp, ⟨[v], rfl, ⟨?_, trivial⟩, fun _ => rfl⟩⟩
      show FnV E.P E.w0 E.Z0 s.1 s.2 x.1 v
      rw [hE, hZ]
      exact h1
    · rename_i e
      obtain ⟨u, h3, h4, h5⟩ := initF_slots hE hZ h2 j t h
      refine ⟨u, by omega, ?_, h5⟩
      rw [show j - i = (j - (i + 1)) + 1 by omega]
      exact h4

theorem initC_slots (hE : E.w0 = E.w) : ∀ {as : List Sh} {x : TsS as} {vals : List Value} {i : Nat}, RefVs E.w E.Z as x vals → ∀ j t, look (initC as x i) j = some (some t) → ∃ v, i ≤ j ∧ vals[j - i]? = some v ∧ RelS E t v
  | [], _, _, i, _, j, t, h => by simp [initC, look] at h
  | s :: r, x, vals, i, hd, j, t, h => by
    simp only [RefVs] at hd
    obtain ⟨v, vs', rfl, h1, h2⟩ := hd
    simp only [initC] at h
    rw [look_cons] at h
    split at h
    · rename_i e
      simp only [Option.some.injEq] at h
      subst h
      subst e
      obtain ⟨b, cs, rfl, hb, hd', hc⟩ := h1
      refine ⟨.pointer (some ⟨b, 0, none⟩), Nat.le_refl _, by simp, ⟨[.pointer (some ⟨b, 0, none⟩)], rfl, ⟨⟨⟨b, 0, none⟩, cs, by simp [Addr.add], .inr (by rw [hE]; exact hb), hd', fun j u hj => by rw [add_lit, Nat.zero_add]; exact hc j u hj⟩, trivial⟩, fun _ => rfl⟩⟩
    · rename_i e
      obtain ⟨u, h3, h4, h5⟩ := initC_slots hE h2 j t h
      refine ⟨u, by omega, ?_, h5⟩
      rw [show j - i = (j - (i + 1)) + 1 by omega]
      exact h4

theorem look_append_or {α : Type} {i : Nat} : ∀ {l m : List (Nat × α)} {x : α}, look (l ++ m) i = some x → look l i = some x ∨ look m i = some x
  | [], m, x, h => .inr h
  | p :: r, m, x, h => by
    rw [List.cons_append, look_cons] at h
    rw [look_cons]
    split at h
    · exact .inl (by rw [if_pos (by assumption)]; exact h)
    · rw [if_neg (by assumption)]
      exact look_append_or h

theorem retV_mono {w : World} {Z Z' : Nat → Prop} (hZ : ∀ b, Z b → Z' b) {r : RSh} {x : r.T} {v : Value} (h : RetV w Z r x v) : RetV w Z' r x v := by
  have one : ∀ {s : Sh} {x : s.T} {v : Value}, DatV w Z s x v → DatV w Z' s x v := fun ⟨cs, h1, h2, h3⟩ => ⟨cs, Dat.mono hZ (fun _ _ => rfl) h1, h2, h3⟩
  cases r with
  | one s => exact one h
  | tup l =>
    obtain ⟨vs, h1, h2⟩ := h
    refine ⟨vs, h1, ?_⟩
    clear h1
    induction l generalizing vs with
    | nil => exact h2
    | cons s r ih =>
      simp only [DatVs] at h2 ⊢
      obtain ⟨v, vs', h3, h4, h5⟩ := h2
      exact ⟨v, vs', h3, one h4, ih (x := x.2) vs' h5⟩

/-- What a function's body answers. -/
def runC (lp : Lp) (jn : Jn) (C : Ctx) (hl : FuncId → Hint) (d : Nat) (id : FuncId) (fn : Func) (c : Ctr) (x : TsS c.as) (F : TsF c.fs) (y : TsS c.cs) : Option c.r.T :=
  den lp jn (inlF lp jn C hl d) C fn.ntmps (hl id) (fn.body.getD .skip) (c.init x F y) (post C.P c.r fn.results)

theorem Ctr.of_den {C : Ctx} (hC : C.ok) (hmix : C.P.follows .mixedOrders = true) {hl : FuncId → Hint} {d : Nat} {f : FuncId} {fn : Func} {code : Code} {c : Ctr} (hf : C.P.funcs[f]? = some fn) (hb : fn.body = some code) (hn : c.as.length + c.fs.length + c.cs.length ≤ fn.ntmps)
    (h : ∀ x F y, c.m x F y = runC lpK jnK C hl d f fn c x F y) : c.ok C.P f := by
  intro x F y z hz w Z vals fvals cvals hZ h1 h2 h3
  refine calls_of_wp hf hb ?_
  let E : Env := { P := C.P, w0 := w, Z0 := Z, w := w, Z := Z, β := fun _ => 0, L := fun _ => False, ρ := fun _ => undef, R := fun _ => False }
  have l1 := h1.length
  have l2 := h2.length
  have l3 := h3.length
  have hm : Mod fn.ntmps E { tmps := (vals ++ fvals ++ cvals).toArray ++ Array.replicate (fn.ntmps - (vals ++ fvals ++ cvals).toArray.size) undef, defers := [] } (c.init x F y).look := by
    refine ⟨⟨Below.refl _ _, hZ, fun _ h => h, fun _ h => .inl h, fun b hb => hb.elim, fun r hr => hr.elim, fun i l hi => by simp [Ctr.init, St.look, look] at hi, fun i j l l' hi => by simp [Ctr.init, St.look, look] at hi,
      fun i r b hi => by simp [Ctr.init, St.look, look] at hi, fun i j r r' b hi => by simp [Ctr.init, St.look, look] at hi⟩, rfl, ?_, fun i t hi => ?_, fun i l hi => by simp [Ctr.init, St.look, look] at hi, fun i r hi => by simp [Ctr.init, St.look, look] at hi⟩
    · simp only [Array.size_append, List.size_toArray, List.length_append, Array.size_replicate]
      omega
    · have get : ∀ v, (vals ++ fvals ++ cvals)[i]? = some v → ((vals ++ fvals ++ cvals).toArray ++ Array.replicate (fn.ntmps - (vals ++ fvals ++ cvals).toArray.size) undef)[i]? = some v := fun v hv => by
        have hlt := (List.getElem?_eq_some_iff.1 hv).1
        rw [Array.getElem?_append_left (by simpa using hlt)]
        simpa using hv
      simp only [St.look, lookS] at hi
      split at hi
      · rename_i t' hl
        injection hi with hi
        subst hi
        simp only [Ctr.init] at hl
        rcases look_append_or hl with hl | hl
        · rcases look_append_or hl with hl | hl
          · obtain ⟨v, h4, h5, h6⟩ := initS_slots (E := E) h1 i t' hl
            refine ⟨v, get v ?_, h6⟩
            rw [Nat.sub_zero] at h5
            have hlt := (List.getElem?_eq_some_iff.1 h5).1
            rw [List.append_assoc, List.getElem?_append_left hlt]
            exact h5
          · obtain ⟨v, h4, h5, h6⟩ := initF_slots (E := E) rfl rfl h2 i t' hl
            refine ⟨v, get v ?_, h6⟩
            have hlt := (List.getElem?_eq_some_iff.1 h5).1
            rw [List.append_assoc, List.getElem?_append_right (by omega), List.getElem?_append_left (by omega), l1]
            exact h5
        · obtain ⟨v, h4, h5, h6⟩ := initC_slots (E := E) rfl h3 i t' hl
          refine ⟨v, get v ?_, h6⟩
          rw [List.getElem?_append_right (by simp; omega)]
          simp only [List.length_append, l1, l2]
          exact h5
      · cases hi
  have hrun := hz
  rw [h x F y] at hrun
  unfold runC at hrun
  rw [hb] at hrun
  refine den_ok hC (inlF_ok hC hmix d) hmix hrun (fun i hi => by simp [Ctr.init] at hi) (E := E) rfl hm fun e σ' E' a' hk hs _ _ _ hm' => ?_
  have hP : E'.P = C.P := hs.P
  have h0 : E'.w0 = w := hs.w0
  have hz0 : E'.Z0 = Z := hs.Z0
  have done : ∀ vs, resS C.P σ'.look fn.results.toList = some vs → readRet c.r (thawVs σ'.look.r vs) = some z → a'.defers = [] ∧ ∃ v, (results fn a'.tmps).run C.P E'.w = .ok v E'.w ∧ ∃ u, Ending.returned v = .returned u ∧ RetV E'.w (fresh Z w E'.w) c.r z u ∧ Below w.heap.size w E'.w := by
    intro vs hvs hok
    rw [← hP] at hvs
    obtain ⟨us, hu1, hu2⟩ := results_run hm' hvs
    rw [hP] at hu2
    have hu3 := thawVs_rel hm' (fun _ _ h => h) hu1 (u := rowsVs vs) fun r hr => hr
    refine ⟨hm'.nodef, _, hu2, _, rfl, retV_mono (fun b hb => ?_) (readRet_rel (E := E'.zone σ'.look (rowsVs vs)) hok hu3), ?_⟩
    · rcases hb with hb | ⟨r, _, ri, h5, h6⟩
      · rcases hm'.glob.zfrom b hb with h | h
        · exact .inl (by rw [← hz0]; exact h)
        · exact .inr ⟨by rw [h0] at h; exact h, hm'.glob.zlt b hb⟩
      · obtain ⟨h7, h8⟩ := hm'.row_lt h5 h6
        rw [h0] at h7
        exact .inr ⟨h7, h8⟩
    · have := hm'.glob.below
      rw [h0] at this
      exact this
  cases e with
  | normal =>
    simp only [post] at hk
    split at hk
    · rename_i vs hvs
      exact done vs hvs hk
    · cases hk
  | ret =>
    simp only [post] at hk
    split at hk
    · rename_i vs hvs
      exact done vs hvs hk
    · cases hk
  | exit i => cases hk

/-! ### Functions that make rows -/

def readRow (rk : Rk) (t : TypeId) (e : Sh) : List SV → Option (List e.T)
  | [.c false [x]] => rowOf rk t e x
  | _ => none

def postR (P : Program) (t : TypeId) (e : Sh) (rv : Array ResultVar) : Ex → St → Option (List e.T)
  | .exit _, _ => none
  | _, σ => match resS P σ.look rv.toList with
    | some vs => readRow (look σ.r) t e vs
    | none => none

/-- The first parameter is nil, or is not. -/
def initN : (as : List Sh) → TsS as → Bool → List (Nat × Option SlotV)
  | .sl e :: r, x, true => (0, some ⟨none, .c false [.sn e x.1]⟩) :: initS r x.2 1
  | _ :: r, x, false => (0, some ⟨none, .c false [.v (.slice none 0 0)]⟩) :: initS r x.2 1
  | _, _, _ => []

def runR (lp : Lp) (jn : Jn) (C : Ctx) (hl : FuncId → Hint) (d : Nat) (id : FuncId) (fn : Func) (t : TypeId) (e : Sh) (s : List (Nat × Option SlotV)) : Option (List e.T) :=
  den lp jn (inlF lp jn C hl d) C fn.ntmps (hl id) (fn.body.getD .skip) { s := s, h := [], r := [], next := 0 } (postR C.P t e fn.results)

theorem runR_ok {C : Ctx} (hC : C.ok) (hmix : C.P.follows .mixedOrders = true) {hl : FuncId → Hint} {d : Nat} {f : FuncId} {fn : Func} {code : Code} {t : TypeId} {e : Sh} {s : List (Nat × Option SlotV)} {l : List e.T} (hf : C.P.funcs[f]? = some fn) (hb : fn.body = some code)
    (h : runR lpK jnK C hl d f fn t e s = some l) {w : World} {Z : Nat → Prop} {vals : List Value} (hn : vals.length ≤ fn.ntmps) (hZ : ∀ b, Z b → b < w.heap.size)
    (hs : ∀ E : Env, E.w = w → E.Z = Z → E.w0 = w → E.Z0 = Z → ∀ i s', look s i = some (some s') → ∃ v, vals[i]? = some v ∧ RelS E s' v) :
    Calls C.P f vals.toArray w fun en w' => ∃ (v : Value) (Z' : Nat → Prop), en = .returned v ∧ (∀ b, Z b → Z' b) ∧ (∀ b, Z' b → fresh Z w w' b) ∧ (∀ b, v.ownBlock = some b → ¬ Z' b) ∧
      (∃ xs, w'.ownsRow w.heap.size t e.size v l.length xs ∧ RowRel w' Z' e l xs) ∧ Below w.heap.size w w' := by
  refine calls_of_wp hf hb ?_
  let E : Env := { P := C.P, w0 := w, Z0 := Z, w := w, Z := Z, β := fun _ => 0, L := fun _ => False, ρ := fun _ => undef, R := fun _ => False }
  have hm : Mod fn.ntmps E { tmps := vals.toArray ++ Array.replicate (fn.ntmps - vals.toArray.size) undef, defers := [] } ({ s := s, h := [], r := [], next := 0 } : St).look := by
    refine ⟨⟨Below.refl _ _, hZ, fun _ h => h, fun _ h => .inl h, fun b hb => hb.elim, fun r hr => hr.elim, fun i l hi => by simp [St.look, look] at hi, fun i j l l' hi => by simp [St.look, look] at hi,
      fun i r b hi => by simp [St.look, look] at hi, fun i j r r' b hi => by simp [St.look, look] at hi⟩, rfl, ?_, fun i t' hi => ?_, fun i l hi => by simp [St.look, look] at hi, fun i r hi => by simp [St.look, look] at hi⟩
    · simp only [Array.size_append, List.size_toArray, Array.size_replicate]
      omega
    · simp only [St.look, lookS] at hi
      split at hi
      · rename_i s' hl'
        injection hi with hi
        subst hi
        obtain ⟨v, h2, h3⟩ := hs E rfl rfl rfl rfl i s' hl'
        refine ⟨v, ?_, h3⟩
        have hlt := (List.getElem?_eq_some_iff.1 h2).1
        rw [Array.getElem?_append_left (by simpa using hlt)]
        simpa using h2
      · cases hi
  unfold runR at h
  rw [hb] at h
  refine den_ok hC (inlF_ok hC hmix d) hmix h (fun i hi => by simp at hi) (E := E) rfl hm fun ex σ' E' a' hk hs' _ _ _ hm' => ?_
  have hP : E'.P = C.P := hs'.P
  have h0 : E'.w0 = w := hs'.w0
  have hz0 : E'.Z0 = Z := hs'.Z0
  have done : ∀ vs, resS C.P σ'.look fn.results.toList = some vs → readRow (look σ'.r) t e vs = some l → a'.defers = [] ∧ ∃ v, (results fn a'.tmps).run C.P E'.w = .ok v E'.w ∧ ∃ (u : Value) (Z' : Nat → Prop), Ending.returned v = .returned u ∧ (∀ b, Z b → Z' b) ∧ (∀ b, Z' b → fresh Z w E'.w b) ∧ (∀ b, u.ownBlock = some b → ¬ Z' b) ∧
      (∃ xs, E'.w.ownsRow w.heap.size t e.size u l.length xs ∧ RowRel E'.w Z' e l xs) ∧ Below w.heap.size w E'.w := by
    intro vs hvs hok
    rw [← hP] at hvs
    obtain ⟨us, hu1, hu2⟩ := results_run hm' hvs
    rw [hP] at hu2
    refine ⟨hm'.nodef, _, hu2, _, E'.Z, rfl, fun b hb => by have := hm'.glob.z0 b; rw [hz0] at this; exact this hb, fun b hb => ?_, ?_⟩
    · rcases hm'.glob.zfrom b hb with h | h
      · exact .inl (by rw [← hz0]; exact h)
      · exact .inr ⟨by rw [h0] at h; exact h, hm'.glob.zlt b hb⟩
    · have hbel := hm'.glob.below
      rw [h0] at hbel
      unfold readRow at hok
      split at hok
      · rename_i x
        match us, hu1 with
        | [u], hu1 =>
          obtain ⟨cs, hu, hr, _⟩ := hu1.1
          match cs, hr with
          | [y], hr =>
            have huy : u = y := hu
            subst huy
            have hone : (if h : [u].length = 1 then [u][0] else Value.tuple [u].toArray) = u := by simp
            rw [hone]
            cases x with
            | row q =>
              simp only [rowOf] at hok
              split at hok
              · rename_i ri hri
                split at hok
                · rename_i he ht _
                  obtain ⟨rt, re, rn, rl⟩ := ri
                  simp only at he ht
                  subst he
                  have ht : rt = t := by simpa using ht
                  subst ht
                  injection hok with hok
                  subst hok
                  obtain ⟨⟨hv, _⟩, _⟩ := hr
                  obtain ⟨_, xs, o1, o2, _⟩ := hm'.rows q _ hri
                  rw [h0] at o1
                  exact ⟨fun b hb => (hm'.glob.rown q _ b hri (by rw [← hv]; exact hb)).1, ⟨xs, by rw [hv]; exact o1, o2⟩, hbel⟩
                · cases hok
              · cases hok
            | v z =>
              unfold rowOf at hok
              split at hok
              · rename_i heq; cases heq
              · rename_i heq
                injection heq with heq
                subst heq
                injection hok with hok
                subst hok
                have hv : u = .slice none 0 0 := hr.1
                subst hv
                exact ⟨fun b hb => (by cases hb), ⟨[], World.ownsRow_nil _ _ _ _, rfl⟩, hbel⟩
              · cases hok
            | _ => simp [rowOf] at hok
      · cases hok
  cases ex with
  | normal =>
    simp only [postR] at hk
    split at hk
    · rename_i vs hvs; exact done vs hvs hk
    · cases hk
  | ret =>
    simp only [postR] at hk
    split at hk
    · rename_i vs hvs; exact done vs hvs hk
    · cases hk
  | exit i => cases hk

theorem RCtr.of_den {C : Ctx} (hC : C.ok) (hmix : C.P.follows .mixedOrders = true) {hl : FuncId → Hint} {d : Nat} {f : FuncId} {fn : Func} {code : Code} {c : RCtr} (hf : C.P.funcs[f]? = some fn) (hb : fn.body = some code) (hn : c.as.length ≤ fn.ntmps)
    (h : ∀ x, c.m x = runR lpK jnK C hl d f fn c.t c.e (initS c.as x 0)) : c.ok C.P f := by
  intro x l hl' w Z vals hZ h1
  rw [h x] at hl'
  refine runR_ok hC hmix hf hb hl' (by rw [h1.length]; exact hn) hZ fun E hw hz _ _ i s' hi => ?_
  subst hw; subst hz
  obtain ⟨v, _, h3, h4⟩ := initS_slots h1 i s' hi
  exact ⟨v, by simpa using h3, h4⟩

/-- The first parameter a slice that is nil or is not: the function looks which. -/
theorem RCtr.of_den_nil {C : Ctx} (hC : C.ok) (hmix : C.P.follows .mixedOrders = true) {hl : FuncId → Hint} {d : Nat} {f : FuncId} {fn : Func} {code : Code} {c : RCtr} {e : Sh} {r : List Sh} (has : c.as = .sl e :: r) (hf : C.P.funcs[f]? = some fn) (hb : fn.body = some code) (hn : c.as.length ≤ fn.ntmps)
    (h1 : ∀ x, c.m x = runR lpK jnK C hl d f fn c.t c.e (initN c.as x true)) (h2 : ∀ (x : TsS (.sl e :: r)), x.1 = [] → c.m (has ▸ x) = runR lpK jnK C hl d f fn c.t c.e (initN (.sl e :: r) x false)) : c.ok C.P f := by
  obtain ⟨as, t, ee, m⟩ := c
  simp only at has
  subst has
  intro x l hl' w Z vals hZ hd
  have hlen := hd.length
  have hd0 := hd
  simp only [DatVs] at hd
  obtain ⟨v, vs', rfl, ⟨cs, g1, g2, g3⟩, g4⟩ := hd
  simp only [Dat] at g1
  obtain ⟨A, cp, rfl, hc, hA, g1⟩ := g1
  have hv : v = .slice A x.1.length cp := g2
  have rest : ∀ E : Env, E.w = w → E.Z = Z → ∀ i s', look (initS r x.2 1) i = some (some s') → ∃ u, (v :: vs')[i]? = some u ∧ RelS E s' u := fun E hw hz i s' hi => by
    subst hw; subst hz
    obtain ⟨u, k1, k2, k3⟩ := initS_slots g4 i s' hi
    refine ⟨u, ?_, k3⟩
    rw [show i = (i - 1) + 1 by omega]
    simpa using k2
  cases A with
  | none =>
    have hcp := hA rfl
    subst hcp
    have hx : x.1 = [] := List.eq_nil_of_length_eq_zero (by omega)
    have hl2 := (h2 x hx).symm.trans hl'
    refine runR_ok hC hmix hf hb hl2 (by rw [hlen]; exact hn) hZ fun E hw hz _ _ i s' hi => ?_
    simp only [initN] at hi
    rw [look_cons] at hi
    split at hi
    · rename_i e0
      simp only [Option.some.injEq] at hi
      subst hi; subst e0
      exact ⟨v, rfl, ⟨[v], rfl, ⟨by rw [hv, hx]; rfl, trivial⟩, fun _ => rfl⟩⟩
    · exact rest E hw hz i s' hi
  | some ad =>
    have hl2 := (h1 x).symm.trans hl'
    refine runR_ok hC hmix hf hb hl2 (by rw [hlen]; exact hn) hZ fun E hw hz _ _ i s' hi => ?_
    simp only [initN] at hi
    rw [look_cons] at hi
    split at hi
    · rename_i e0
      simp only [Option.some.injEq] at hi
      subst hi; subst e0
      refine ⟨v, rfl, ⟨[v], rfl, ⟨⟨⟨ad, _, _, hv⟩, ?_⟩, trivial⟩, fun _ => rfl⟩⟩
      rw [hw, hz]
      simp only [Dat]
      exact ⟨some ad, cp, by rw [hv], hc, hA, g1⟩
    · exact rest E hw hz i s' hi

/-! ### Contexts as lists -/

def ctxOf (P : Program) (sh : TypeId → Option Sh) (inl : List Nat) (l : List (Nat × Ctr)) (rl : List (Nat × RCtr) := []) : Ctx := ⟨P, sh, look l, fun i => memN i inl, look rl⟩

def inlOk (P : Program) : List Nat → Bool
  | [] => true
  | i :: r => callable P i && inlOk P r

theorem inlOk_mem {P : Program} {i : Nat} : ∀ {l : List Nat}, inlOk P l = true → memN i l = true → callable P i = true
  | [], _, h => by cases h
  | j :: r, h, hi => by
    simp only [inlOk, Bool.and_eq_true] at h
    simp only [memN] at hi
    split at hi
    · rename_i e
      have e : i = j := by simpa using e
      rw [e]; exact h.1
    · exact inlOk_mem h.2 hi

theorem ctxOf_nil {P : Program} {sh : TypeId → Option Sh} {inl : List Nat} (h : inlOk P inl = true) : (ctxOf P sh inl []).ok := ⟨fun _ _ h => (by cases h), fun _ hi => inlOk_mem h hi, fun _ _ h => (by cases h)⟩

theorem ctxOf_row {P : Program} {sh : TypeId → Option Sh} {inl : List Nat} {rl : List (Nat × RCtr)} {f : FuncId} {c : RCtr} (h : (ctxOf P sh inl [] rl).ok) (hc : callable P f = true) (ho : c.ok P f) : (ctxOf P sh inl [] ((f, c) :: rl)).ok := ⟨h.ctr, h.inl, fun id d hd => by
  simp only [ctxOf] at hd
  rw [look_cons] at hd
  split at hd
  · rename_i e
    injection hd with hd
    subst hd
    subst e
    exact ⟨hc, ho⟩
  · exact h.rctr id d hd⟩

theorem ctxOf_cons {P : Program} {sh : TypeId → Option Sh} {inl : List Nat} {l : List (Nat × Ctr)} {rl : List (Nat × RCtr)} {f : FuncId} {c : Ctr} (h : (ctxOf P sh inl l rl).ok) (hc : callable P f = true) (ho : c.ok P f) : (ctxOf P sh inl ((f, c) :: l) rl).ok := ⟨fun id d hd => by
  simp only [ctxOf] at hd
  rw [look_cons] at hd
  split at hd
  · rename_i e
    injection hd with hd
    subst hd
    subst e
    exact ⟨hc, ho⟩
  · exact h.ctr id d hd, h.inl, h.rctr⟩

end
end
end Dn
end Go.Proofs.YtghjblbkbelcfaaGreat
