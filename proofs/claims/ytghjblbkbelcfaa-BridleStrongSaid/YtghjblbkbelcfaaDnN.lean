/- A symbolic executor: what code answers, as a plain function of data; loops go round with what their places hold. -/
import Derived.Test.YtghjblbkbelcfaaDnM
namespace Go.Proofs.Ytghjblbkbelcfaa
namespace Dn
noncomputable section
open Go.RowKit

inductive Ex where
  | normal
  | ret
  | exit (id : Nat)

def Ex.to : Ex → Exit
  | .normal => .normal
  | .ret => .ret
  | .exit id => .exit id

/-- What is told of a function's code: the places of its loops, of the ends of its blocks and of its conditions. -/
structure Hint where
  loop : Nat → Option Hd := fun _ => none
  join : Nat → Option Hd := fun _ => none
  /-- The slots of the variables whose rows become data before a loop. -/
  thaw : Nat → List Nat := fun _ => []

def firstReg : Code → Nat
  | .region id _ _ => id
  | .seq a _ => firstReg a
  | .block _ c => firstReg c
  | .scope c => firstReg c
  | .loop c => firstReg c
  | _ => 0
def condKey (a b : Code) : Nat := match firstReg a with
  | 0 => 1000000 + firstReg b
  | n => 1000000 + n

def hdSlots : List (Nat × Bool × List Pat) → List Nat
  | [] => []
  | p :: r => p.1 :: hdSlots r
def hdS : Option Hd → List Nat
  | some hd => hdSlots hd.sl
  | none => []

/-- The slots that code writes, or that a place in it names. -/
def wr (hl : Hint) : Code → List Nat
  | .region _ ops _ => ops.toList.filterMap (·.dst)
  | .seq a b => wr hl a ++ wr hl b
  | .cond _ a b => hdS (hl.join (condKey a b)) ++ (wr hl a ++ wr hl b)
  | .block id c => hdS (hl.join id) ++ wr hl c
  | .loop c => hdS (hl.loop (firstReg c)) ++ wr hl c
  | _ => []

/-- By the recursor: so that the kernel unfolds it last. -/
def loopF {α R : Type} (F : (α → Option R) → α → Option R) (n : Nat) : α → Option R := Nat.rec (fun _ => none) (fun _ ih => F ih) n
theorem loopF_succ {α R : Type} {F : (α → Option R) → α → Option R} {n : Nat} {x : α} : loopF F (n + 1) x = F (loopF F n) x := rfl
def joinF {α R : Type} (j : α → Option R) (f : (α → Option R) → Option R) : Option R := f j
/-- How many rounds a loop may go: more than any number of the machine's. -/
def K0 : Nat := 1180591620717411303424
/-- How loops, and ends of ways, are read: variables, where answers are compared, so that nothing unfolds them. -/
abbrev Lp := (α R : Type) → ((α → Option R) → α → Option R) → α → Option R
abbrev Jn := (α R : Type) → (α → Option R) → ((α → Option R) → Option R) → Option R
def lpK : Lp := fun _ _ F x => loopF F K0 x
def jnK : Jn := fun _ _ j f => joinF j f
theorem lpK_eq {α R : Type} {F : (α → Option R) → α → Option R} {x : α} : lpK α R F x = loopF F K0 x := rfl
theorem jnK_eq {α R : Type} {j : α → Option R} {f : (α → Option R) → Option R} : jnK α R j f = joinF j f := rfl

def St.un (σ σ' : St) : St := { σ' with ro := σ.ro, roR := σ.roR }

def condB (σ : St) (c : Operand) : Option Bool := match getS σ.look.s c, condS σ.look.s c with
  | some (.c false [.v (.bool q)]), none => some q
  | _, _ => none

def blockK {R : Type} (id : Nat) (K : Ex → St → Option R) : Ex → St → Option R
  | .normal, σ => K .normal σ
  | .ret, σ => K .ret σ
  | .exit i, σ => match Nat.beq i id with
    | true => K .normal σ
    | false => K (.exit i) σ

/-- Several ways meet at a place. -/
def place (jn : Jn) {R : Type} (hd : Hd) (W : List Nat) (σ : St) (K : Ex → St → Option R) (body : St → (Ex → St → Option R) → Option R) : Option R := match hd.at σ with
  | some rh => match placeOk rh (hdSlots hd.sl ++ W) (somes (srcR σ rh)) σ with
    | true => jn _ _ (fun x => K .normal (σ.un (head rh (hdSlots hd.sl ++ W) (somes (srcR σ rh)) σ x))) fun j =>
        body { σ with ro := keysBut (blksOf rh) σ.h ++ σ.ro, roR := keysBut (rowsOf rh ++ somes (srcR σ rh)) σ.r ++ σ.roR } fun e σ' => match e with
          | .normal => match readAt rh (keysBut (rowsOf rh ++ somes (srcR σ rh)) σ.r ++ σ.roR) σ' with
            | some x => j x
            | none => none
          | .ret => K .ret (σ.un σ')
          | .exit i => K (.exit i) (σ.un σ')
    | false => none
  | none => none

def St.thaws : List Nat → St → Option St
  | [], σ => some σ
  | s :: r, σ => match lookS σ.s s with
    | some ⟨none, .c false [.ptr b 0]⟩ => match Dn.look σ.h b with
      | some l => match offL σ.roR (rowsL l), memN b σ.ro with
        | true, false => St.thaws r { σ with h := (b, thawL σ.look.r l) :: σ.h, r := (rowsL l).map (fun i => (i, none)) ++ σ.r }
        | _, _ => none
      | none => none
    | _ => none

def den (lp : Lp) (jn : Jn) (rec : Inl) (C : Ctx) (N : Nat) (hl : Hint) {R : Type} : Code → St → (Ex → St → Option R) → Option R
  | .skip, σ, K => K .normal σ
  | .region _ ops draw, σ, K => match draw with
    | false => regS rec C N ops ops.toList σ (K .normal)
    | true => regD C N ops ops.toList σ fun es σ' => match chkAll 0 es with
      | true => K .normal σ'
      | false => none
  | .seq a b, σ, K => den lp jn rec C N hl a σ fun e σ' => match e with
    | .normal => den lp jn rec C N hl b σ' K
    | .ret => K .ret σ'
    | .exit i => K (.exit i) σ'
  | .cond c a b, σ, K => match condB σ c with
    | some q => match hl.join (condKey a b) with
      | none => bif q then den lp jn rec C N hl a σ K else den lp jn rec C N hl b σ K
      | some hd => place jn hd (wr hl a ++ wr hl b) σ K fun σ' K' => bif q then den lp jn rec C N hl a σ' K' else den lp jn rec C N hl b σ' K'
    | none => none
  | .block id c, σ, K => match hl.join id with
    | none => den lp jn rec C N hl c σ (blockK id K)
    | some hd => place jn hd (wr hl c) σ K fun σ' K' => den lp jn rec C N hl c σ' (blockK id K')
  | .exit id, σ, K => K (.exit id) σ
  | .ret, σ, K => K .ret σ
  | .loop c, σ, K => match σ.thaws (hl.thaw (firstReg c)) with
    | none => none
    | some σ => match hl.loop (firstReg c) with
    | some hd => match hd.at σ with
      | some rh => match placeOk rh (hdSlots hd.sl ++ wr hl c) (somes (srcR σ rh)) σ, readAt rh (keysBut (rowsOf rh ++ somes (srcR σ rh)) σ.r ++ σ.roR) σ with
        | true, some x => lp _ _ (fun again x => den lp jn rec C N hl c (head rh (hdSlots hd.sl ++ wr hl c) (somes (srcR σ rh)) σ x) fun e σ' => match e with
            | .normal => match readAt rh (keysBut (rowsOf rh ++ somes (srcR σ rh)) σ.r ++ σ.roR) σ' with
              | some x' => again x'
              | none => none
            | .ret => K .ret (σ.un σ')
            | .exit i => K (.exit i) (σ.un σ')) x
        | _, _ => none
      | none => none
    | none => none
  | _, _, _ => none

section
variable {N : Nat} {E : Env} {a : Act}

theorem thaw1_ok {σ : St} {b : Nat} {l : List At} (hm : Mod N E a σ.look) (hb : look σ.h b = some l) : Mod N (E.zone σ.look (rowsL l)) a ({ σ with h := (b, thawL σ.look.r l) :: σ.h, r := (rowsL l).map (fun i => (i, none)) ++ σ.r } : St).look ∧ Keep E (E.zone σ.look (rowsL l)) := by
  obtain ⟨m1, m2⟩ := zone_mod hm (rowsL l)
  have hrr : ∀ i, look ((rowsL l).map (fun i => ((i, none) : Nat × Option RowI)) ++ σ.r) i = (σ.look.app (.rkill (rowsL l))).r i := fun i => look_kill (rowsL l) σ.r i
  have hlk : ({ σ with h := (b, thawL σ.look.r l) :: σ.h, r := (rowsL l).map (fun i => (i, none)) ++ σ.r } : St).look = (σ.look.app (.rkill (rowsL l))).setH b (thawL σ.look.r l) := by
    simp only [St.look, Look.app, Look.setH]
    congr 1
    · funext i; exact look_cons _ _ _ _
    · funext i; exact look_kill (rowsL l) σ.r i
  rw [hlk]
  refine ⟨?_, m2⟩
  have hz : ∀ i l', ((σ.look.app (.rkill (rowsL l))).setH b (thawL σ.look.r l)).h i = some l' → ∃ l2, σ.look.h i = some l2 := fun i l' hi => by
    simp only [Look.setH] at hi
    split at hi
    · rename_i e; subst e; exact ⟨l, hb⟩
    · exact ⟨l', hi⟩
  have hg : Glob (E.zone σ.look (rowsL l)) ((σ.look.app (.rkill (rowsL l))).setH b (thawL σ.look.r l)) := by
    have G := m1.glob
    refine ⟨G.below, G.zlt, G.z0, G.zfrom, fun i hi => ?_, G.rlive, fun i l' hi => ?_, fun i j l1 l2 hi hj hij => ?_, fun i r k hi hk => ?_, G.rinj⟩
    · simp only [Look.setH]
      split
      · rfl
      · exact G.live i hi
    · obtain ⟨l2, h2⟩ := hz i l' hi
      exact G.own i l2 h2
    · obtain ⟨l1', h1⟩ := hz i l1 hi
      obtain ⟨l2', h2⟩ := hz j l2 hj
      exact G.inj i j l1' l2' h1 h2 hij
    · obtain ⟨h1, h2⟩ := G.rown i r k hi hk
      refine ⟨h1, fun j l' hj => ?_⟩
      obtain ⟨l2, h3⟩ := hz j l' hj
      exact h2 j l2 h3
  refine ⟨hg, m1.nodef, m1.size, m1.slots, fun i l' hi => ?_, m1.rows⟩
  simp only [Look.setH] at hi
  split at hi
  · rename_i e
    subst e
    injection hi with hi
    subst hi
    obtain ⟨h1, cs, t, h2, h3, h4⟩ := hm.blks i l hb
    exact ⟨h1, cs, t, h2, thawL_rel hm (fun _ _ h => h) h3 fun r hr => hr, h4⟩
  · exact m1.blks i l' hi

theorem thaws_ok : ∀ {u : List Nat} {σ σ' : St} {E : Env}, Mod N E a σ.look → σ.thaws u = some σ' → ∃ E', Same E E' ∧ Keep E E' ∧ Fr σ σ' ∧ σ'.s = σ.s ∧ Mod N E' a σ'.look ∧ E'.w = E.w
  | [], σ, σ', E, hm, h => by
    simp only [St.thaws, Option.some.injEq] at h
    subst h
    exact ⟨E, rfl, Keep.refl E, Fr.refl σ, rfl, hm, rfl⟩
  | s :: r, σ, σ', E, hm, h => by
    simp only [St.thaws] at h
    split at h
    · rename_i b _
      split at h
      · rename_i l hl
        split at h
        · rename_i h1 h2
          obtain ⟨m1, m2⟩ := thaw1_ok hm hl
          obtain ⟨E', g1, g2, g3, g4, g5, g6⟩ := thaws_ok m1 h
          refine (?_ : ∀ hf : Fr σ ({ σ with h := (b, thawL σ.look.r l) :: σ.h, r := (rowsL l).map (fun i => (i, none)) ++ σ.r } : St), _) ⟨rfl, rfl, fun i hi => ?_, fun i hi => ?_⟩
          · intro hf
            exact ⟨E', Same.trans (E' := E.zone σ.look (rowsL l)) rfl g1, m2.trans g2, hf.trans g3, g4, g5, g6⟩
          · show look ((b, thawL σ.look.r l) :: σ.h) i = _
            rw [look_cons, if_neg]
            intro e
            subst e
            rw [memN_iff.2 hi] at h2
            cases h2
          · show look ((rowsL l).map (fun i => ((i, none) : Nat × Option RowI)) ++ σ.r) i = _
            rw [look_kill, if_neg (fun e => offL_mem h1 i e hi)]
        · cases h
      · cases h
    · cases h

theorem condB_run {σ : St} {c : Operand} {q : Bool} (h : condB σ c = some q) (hm : Mod N E a σ.look) : a.eval c = .bool q := by
  unfold condB at h
  split at h
  · rename_i q' hg hc
    injection h with h
    subst h
    exact toV_rel rfl (getS_rel hm (fun _ _ => rfl) hg fun d hd => by rw [hc] at hd; cases hd)
  · cases h

/-- A loop with a ghost number that every round lowers. -/
theorem wp_loop_ghost {P : Program} {c : Code} {Q : Exit → Act → World → Prop} (I : Nat → Act → World → Prop) (round : ∀ n a w, I n a w → c.wp P (Exit.then (fun a' w' => ∃ m, m < n ∧ I m a' w') Q) a w)
    {n : Nat} {a : Act} {w : World} (h₀ : I n a w) : (Code.loop c).wp P Q a w := by
  intro b k cs
  have key : ∀ n a w, I n a w → ∃ e a' w', Q e a' w' ∧ Arrives P (lone (b.at a (.code c :: .inLoop c :: k)) cs w) b k cs e a' w' := by
    intro n
    induction n using Nat.strongRecOn with
    | _ n ih =>
      intro a w hI
      obtain ⟨e, a₁, w₁, hq, harr⟩ := round n a w hI b (.inLoop c :: k) cs
      cases e with
      | normal =>
        obtain ⟨m, hlt, hI₁⟩ := hq
        obtain ⟨e₂, a₂, w₂, hq₂, harr₂⟩ := ih m hlt a₁ w₁ hI₁
        exact ⟨e₂, a₂, w₂, hq₂, .of_steps (Steps.trans harr (.one step_inLoop)) harr₂⟩
      | exit id => exact ⟨_, a₁, w₁, hq, .pass (x := .inLoop c) rfl (fun _ _ => .inl (by simp)) harr⟩
      | goto l => exact ⟨_, a₁, w₁, hq, .pass (x := .inLoop c) rfl (fun _ _ => .inl (by simp)) harr⟩
      | ret => exact ⟨_, a₁, w₁, hq, .pass (x := .inLoop c) rfl (fun _ _ => .inl (by simp)) harr⟩
      | panic ch => exact ⟨_, a₁, w₁, hq, .pass (x := .inLoop c) rfl (fun _ _ => .inl (by simp)) harr⟩
      | outgrown => exact ⟨_, a₁, w₁, hq, .pass (x := .inLoop c) rfl (fun _ _ => .inl (by simp)) harr⟩
  obtain ⟨e, a', w', hq, harr⟩ := key n a w h₀
  exact ⟨e, a', w', hq, .of_steps (.one step_loop) harr⟩

theorem plcS_slots : ∀ {l : List (Nat × Bool × List Pat)} {i : Nat} {ag : Bool} {ps : List Pat}, (Plc.slot i ag, ps) ∈ plcS l → i ∈ hdSlots l
  | p :: r, i, ag, ps, h => by
    simp only [plcS, List.mem_cons] at h
    rcases h with h | h
    · simp only [Prod.mk.injEq, Plc.slot.injEq] at h
      rw [h.1.1]
      simp [hdSlots]
    · exact List.mem_cons_of_mem _ (plcS_slots h)
theorem plcB_slots {σ : St} : ∀ {l : List (Nat × List Pat)} {rh : List (Plc × List Pat)} {i : Nat} {ag : Bool} {ps : List Pat}, plcB σ l = some rh → (Plc.slot i ag, ps) ∉ rh
  | [], rh, i, ag, ps, h => by simp only [plcB, Option.some.injEq] at h; subst h; simp
  | p :: r, rh, i, ag, ps, h => by
    simp only [plcB] at h
    split at h
    · rename_i b l _ hl
      injection h with h
      subst h
      intro hm
      rcases List.mem_cons.1 hm with hm | hm
      · cases hm
      · exact plcB_slots hl hm
    · cases h
theorem plcW_slots {σ : St} : ∀ {l : List (Nat × Option Nat × TypeId × Sh)} {rh : List (Plc × List Pat)} {i : Nat} {ag : Bool} {ps : List Pat}, plcW σ l = some rh → (Plc.slot i ag, ps) ∉ rh
  | [], rh, i, ag, ps, h => by simp only [plcW, Option.some.injEq] at h; subst h; simp
  | (_, none, _, _) :: r, rh, i, ag, ps, h => by
    simp only [plcW] at h
    split at h
    · rename_i q l _ hl
      injection h with h
      subst h
      intro hm
      rcases List.mem_cons.1 hm with hm | hm
      · cases hm
      · exact plcW_slots hl hm
    · cases h
  | (_, some _, _, _) :: r, rh, i, ag, ps, h => by
    simp only [plcW] at h
    split at h
    · rename_i b l _ hl
      split at h
      · split at h
        · injection h with h
          subst h
          intro hm
          rcases List.mem_cons.1 hm with hm | hm
          · cases hm
          · exact plcW_slots hl hm
        · cases h
      · cases h
    · cases h
theorem instS_keys : ∀ {rh : List (Plc × List Pat)} {x : TsR rh} {k i : Nat}, (look (instS rh x k) i).isSome = true → ∃ ag ps, (Plc.slot i ag, ps) ∈ rh
  | [], _, _, _, h => by simp [instS, look] at h
  | (.slot j ag, ps) :: r, x, k, i, h => by
    simp only [instS] at h
    rw [look_cons] at h
    split at h
    · rename_i e
      subst e
      exact ⟨ag, ps, by simp⟩
    · obtain ⟨ag', ps', h'⟩ := instS_keys h
      exact ⟨ag', ps', by simp [h']⟩
  | (.blk _, ps) :: r, x, k, i, h => by
    simp only [instS] at h
    obtain ⟨ag', ps', h'⟩ := instS_keys h
    exact ⟨ag', ps', by simp [h']⟩
  | (.row _, ps) :: r, x, k, i, h => by
    simp only [instS] at h
    obtain ⟨ag', ps', h'⟩ := instS_keys h
    exact ⟨ag', ps', by simp [h']⟩

theorem head_slots {hd : Hd} {rh : List (Plc × List Pat)} {W srcs : List Nat} {σ : St} {x : TsR rh} (hat : hd.at σ = some rh) {i : Nat} (hi : i ∉ hdSlots hd.sl ++ W) : look (head rh (hdSlots hd.sl ++ W) srcs σ x).s i = look σ.s i := by
  unfold Hd.at at hat
  split at hat
  · rename_i l l2 hl hl2
    injection hat with hat
    subst hat
    simp only [head]
    rw [look_append]
    cases hq : look (instS (plcS hd.sl ++ (l ++ l2)) x σ.next) i with
    | some t =>
      exfalso
      obtain ⟨ag, ps, hm⟩ := instS_keys (by rw [hq]; rfl)
      rcases List.mem_append.1 hm with hm | hm
      · exact hi (List.mem_append_left _ (plcS_slots hm))
      · rcases List.mem_append.1 hm with hm | hm
        · exact plcB_slots hl hm
        · exact plcW_slots hl2 hm
    | none =>
      simp only
      exact look_off_dropK hi
  · cases hat

theorem head_h {rh : List (Plc × List Pat)} {W srcs : List Nat} {σ : St} {x : TsR rh} {i : Nat} (hi : i ∉ blksOf rh) : look (head rh W srcs σ x).h i = look σ.h i := by
  simp only [head]
  rw [look_append]
  cases hq : look (instB rh x σ.next) i with
  | some l => exact absurd (instB_keys.1 (by rw [hq]; rfl)) hi
  | none => rfl
theorem head_r {rh : List (Plc × List Pat)} {W srcs : List Nat} {σ : St} {x : TsR rh} {i : Nat} (hi : i ∉ srcs) (hw : i ∉ rowsOf rh) (hf : ¬ (σ.next ≤ i ∧ i < σ.next + cntR rh)) : look (head rh W srcs σ x).r i = look σ.r i := by
  simp only [head]
  rw [look_append, look_lift]
  cases hq : look (instR rh x σ.next) i with
  | some l => exact (instR_keys (by rw [hq]; rfl)).elim (fun h => absurd h hf) fun h => absurd h hw
  | none =>
    simp only
    rw [look_append, look_kills, if_neg hi]

theorem place_fr {rh : List (Plc × List Pat)} {W : List Nat} {srcs : List Nat} {σ : St} {x : TsR rh} (hok : placeOk rh W srcs σ = true) (hro : ∀ i ∈ σ.roR, (look σ.r i).isSome = true) : Fr σ (σ.un (head rh W srcs σ x)) := by
  simp only [placeOk, Bool.and_eq_true] at hok
  obtain ⟨⟨⟨⟨⟨⟨k1, k2⟩, k3⟩, k4⟩, k5⟩, k6⟩, ⟨⟨⟨k7, k8⟩, k9⟩, k10⟩⟩ := hok
  refine ⟨rfl, rfl, fun i hi => head_h (W := W) (srcs := srcs) fun hb => offL_mem k4 i hb hi, fun i hi => head_r (W := W) (fun hs => offL_mem k5 i hs hi) (fun hs => offL_mem k7 i hs hi) fun hf => ?_⟩
  have := hro i hi
  rw [freshN_spec k3 i hf.1 hf.2] at this
  cases this

theorem un_fr {σ σ' σ0 : St} (h0 : ∀ i ∈ σ.ro, i ∈ σ0.ro ∧ look σ0.h i = look σ.h i) (h1 : ∀ i ∈ σ.roR, i ∈ σ0.roR ∧ look σ0.r i = look σ.r i) (hf : Fr σ0 σ') : Fr σ (σ.un σ') :=
  ⟨rfl, rfl, fun i hi => (hf.h i (h0 i hi).1).trans (h0 i hi).2, fun i hi => (hf.r i (h1 i hi).1).trans (h1 i hi).2⟩

theorem keysBut_sub {α : Type} {W : List Nat} {i : Nat} : ∀ {l : List (Nat × α)}, i ∈ keysBut W l → (look l i).isSome = true
  | p :: r, h => by
    simp only [keysBut] at h
    rw [look_cons]
    split at h
    · split
      · rfl
      · exact keysBut_sub h
    · split
      · rfl
      · rename_i hne
        rcases List.mem_cons.1 h with h | h
        · exact absurd h hne
        · exact keysBut_sub h

theorem RoR.head {rh : List (Plc × List Pat)} {W srcs : List Nat} {σ : St} {x : TsR rh} (h : RoR σ) (hok : placeOk rh W srcs σ = true) : RoR (head rh W srcs σ x) := fun i hi => by
  simp only [placeOk, Bool.and_eq_true] at hok
  obtain ⟨⟨⟨⟨⟨⟨k1, k2⟩, k3⟩, k4⟩, k5⟩, k6⟩, ⟨⟨⟨k7, k8⟩, k9⟩, k10⟩⟩ := hok
  have hsome : (look σ.r i).isSome = true := by
    rcases List.mem_append.1 hi with hi | hi
    · exact keysBut_sub hi
    · exact h i hi
  simp only [Dn.head]
  rw [look_append, look_lift]
  cases look (instR rh x σ.next) i with
  | some l => rfl
  | none =>
    simp only
    rw [look_append, look_kills]
    by_cases hs : i ∈ srcs
    · simp [hs]
    · simp only [if_neg hs]; exact hsome

theorem head_ro {rh : List (Plc × List Pat)} {W srcs : List Nat} {σ : St} {x : TsR rh} (hok : placeOk rh W srcs σ = true) (hro : RoR σ) :
    (∀ i ∈ σ.ro, i ∈ (head rh W srcs σ x).ro ∧ look (head rh W srcs σ x).h i = look σ.h i) ∧ (∀ i ∈ σ.roR, i ∈ (head rh W srcs σ x).roR ∧ look (head rh W srcs σ x).r i = look σ.r i) := by
  have := place_fr (x := x) hok hro
  exact ⟨fun i hi => ⟨List.mem_append_right _ hi, this.h i hi⟩, fun i hi => ⟨List.mem_append_right _ hi, this.r i hi⟩⟩

theorem head_keep {rh : List (Plc × List Pat)} {W srcs : List Nat} {σ : St} {x : TsR rh} (hok : placeOk rh W srcs σ = true) (hro : RoR σ) :
    (∀ i ∈ (head rh W srcs σ x).ro, look (head rh W srcs σ x).h i = look σ.h i) ∧ (∀ i ∈ (head rh W srcs σ x).roR, look (head rh W srcs σ x).r i = look σ.r i) := by
  have hok' := hok
  simp only [placeOk, Bool.and_eq_true] at hok
  obtain ⟨⟨⟨⟨⟨⟨k1, k2⟩, k3⟩, k4⟩, k5⟩, k6⟩, ⟨⟨⟨k7, k8⟩, k9⟩, k10⟩⟩ := hok
  have hfr := place_fr (x := x) hok' hro
  have kb : ∀ {α : Type} {W : List Nat} {i : Nat} {l : List (Nat × α)}, i ∈ keysBut W l → i ∉ W := by
    intro α W i l
    induction l with
    | nil => intro h; cases h
    | cons p r ih =>
      intro h
      simp only [keysBut] at h
      split at h
      · exact ih h
      · rename_i hm
        rcases List.mem_cons.1 h with h | h
        · intro hw; rw [h] at hw; rw [memN_iff.2 hw] at hm; cases hm
        · exact ih h
  refine ⟨fun i hi => ?_, fun i hi => ?_⟩
  · rcases List.mem_append.1 hi with hi | hi
    · exact head_h (kb hi)
    · exact hfr.h i hi
  · rcases List.mem_append.1 hi with hi | hi
    · refine head_r (fun h => kb hi (List.mem_append_right _ h)) (fun h => kb hi (List.mem_append_left _ h)) fun hf => ?_
      have := keysBut_sub hi
      rw [freshN_spec k3 i hf.1 hf.2] at this
      cases this
    · exact hfr.r i hi

theorem Mod.same {g g' : Look} (hm : Mod N E a g) (hs : g'.s = g.s) (hh : g'.h = g.h) (hr : g'.r = g.r) : Mod N E a g' := hm.forget (fun i s h => by rw [hs] at h; exact h) hh hr

theorem den_ok {rec : Inl} {C : Ctx} (hC : C.ok) (hI : InlOk C rec) (hmix : C.P.follows .mixedOrders = true) {hl : Hint} {R : Type} {z : R} : ∀ {c : Code} {σ : St} {K : Ex → St → Option R} {Q : Exit → Act → World → Prop} {E : Env} {a : Act}, den lpK jnK rec C N hl c σ K = some z → RoR σ → E.P = C.P → Mod N E a σ.look →
    (∀ e σ' E' a', K e σ' = some z → Same E E' → Keep E E' → Fr σ σ' → (∀ i, i ∉ wr hl c → look σ'.s i = look σ.s i) → Mod N E' a' σ'.look → Q e.to a' E'.w) → c.wp C.P Q a E.w
  | .skip, σ, K, Q, E, a, h, _, _, hm, hQ => wp_skip (hQ .normal σ E a h rfl (Keep.refl E) (Fr.refl σ) (fun _ _ => rfl) hm)
  | .region id ops draw, σ, K, Q, E, a, h, hro, hP, hm, hQ => by
    simp only [den] at h
    split at h
    · exact wp_region_list (seq_ok hC hI h hro hP hm fun σ' E' a' hk hs hkp hf hsl hm' => hQ .normal σ' E' a' hk hs hkp hf (fun i hi => hsl i hi) hm')
    · obtain ⟨es, σ', hr, hk⟩ := regD_rel h
      split at hk
      · rename_i hck
        obtain ⟨hf, hsl⟩ := hr.frame
        exact draw_ok hC hmix hr hck hP hm fun E' a' hs hkp hm' => hQ .normal σ' E' a' hk hs hkp hf (fun i hi => hsl i hi) hm'
      · cases hk
  | .seq x y, σ, K, Q, E, a, h, hro, hP, hm, hQ => by
    simp only [den] at h
    refine wp_seq (den_ok hC hI hmix h hro hP hm fun e σ' E' a' hk hs hkp hf hsl hm' => ?_)
    have hsl' : ∀ i, i ∉ wr hl (.seq x y) → look σ'.s i = look σ.s i := fun i hi => hsl i fun hx => hi (List.mem_append_left _ hx)
    cases e with
    | normal => exact den_ok hC hI hmix hk (hro.fr hf) (hs.P.trans hP) hm' fun e2 σ2 E2 a2 hk2 hs2 hkp2 hf2 hsl2 hm2 => hQ e2 σ2 E2 a2 hk2 (hs.trans hs2) (hkp.trans hkp2) (hf.trans hf2) (fun i hi => (hsl2 i fun hx => hi (List.mem_append_right _ hx)).trans (hsl' i hi)) hm2
    | ret => exact hQ .ret σ' E' a' hk hs hkp hf hsl' hm'
    | exit i => exact hQ (.exit i) σ' E' a' hk hs hkp hf hsl' hm'
  | .cond c x y, σ, K, Q, E, a, h, hro, hP, hm, hQ => by
    simp only [den] at h
    split at h
    · rename_i q hq
      split at h
      · rename_i hj
        have sub : ∀ i, i ∉ wr hl (.cond c x y) → i ∉ wr hl x ∧ i ∉ wr hl y := fun i hi => ⟨fun hx => hi (List.mem_append_right _ (List.mem_append_left _ hx)), fun hy => hi (List.mem_append_right _ (List.mem_append_right _ hy))⟩
        refine wp_cond_split (condB_run hq hm) (fun ht => ?_) (fun hf => ?_)
        · rw [ht] at h
          exact den_ok hC hI hmix h hro hP hm fun e σ' E' a' hk hs hkp hf hsl hm' => hQ e σ' E' a' hk hs hkp hf (fun i hi => hsl i (sub i hi).1) hm'
        · rw [hf] at h
          exact den_ok hC hI hmix h hro hP hm fun e σ' E' a' hk hs hkp hf hsl hm' => hQ e σ' E' a' hk hs hkp hf (fun i hi => hsl i (sub i hi).2) hm'
      · rename_i hd hj
        unfold place at h
        split at h
        · rename_i rh hat
          split at h
          · rename_i hok
            simp only [jnK, joinF] at h
            -- both ways end at the place
            have fin : ∀ (cc : Code) {σ' : St} {E' : Env} {a' : Act} (e : Ex), (match e with
                | .normal => match readAt rh (keysBut (rowsOf rh ++ somes (srcR σ rh)) σ.r ++ σ.roR) σ' with
                  | some x' => K .normal (σ.un (head rh (hdSlots hd.sl ++ (wr hl x ++ wr hl y)) (somes (srcR σ rh)) σ x'))
                  | none => none
                | .ret => K .ret (σ.un σ')
                | .exit i => K (.exit i) (σ.un σ')) = some z → Same E E' → Keep E E' → Fr { σ with ro := keysBut (blksOf rh) σ.h ++ σ.ro, roR := keysBut (rowsOf rh ++ somes (srcR σ rh)) σ.r ++ σ.roR } σ' →
                (∀ i, i ∉ wr hl x ++ wr hl y → look σ'.s i = look σ.s i) → Mod N E' a' σ'.look → Q e.to a' E'.w := by
              intro cc σ' E' a' e hk hs hkp hf hsl hm'
              have hfu : Fr σ (σ.un σ') := un_fr (σ0 := { σ with ro := keysBut (blksOf rh) σ.h ++ σ.ro, roR := keysBut (rowsOf rh ++ somes (srcR σ rh)) σ.r ++ σ.roR }) (fun i hi => ⟨List.mem_append_right _ hi, rfl⟩) (fun i hi => ⟨List.mem_append_right _ hi, rfl⟩) hf
              have hsl' : ∀ i, i ∉ wr hl (.cond c x y) → look σ'.s i = look σ.s i := fun i hi => hsl i fun hx => hi (List.mem_append_right _ hx)
              cases e with
              | normal =>
                simp only at hk
                split at hk
                · rename_i x' hx'
                  obtain ⟨E2, h1, h2, h3, h4⟩ := place_mod (W := hdSlots hd.sl ++ (wr hl x ++ wr hl y)) hok hm hkp hm' hx' (fun i hi => hsl i fun hx => hi (List.mem_append_right _ hx)) hf.h hf.r
                  have := hQ .normal _ E2 a' hk (hs.trans h1) h3 (place_fr hok hro) (fun i hi => head_slots (srcs := somes (srcR σ rh)) (x := x') hat fun hx => hi (by
                    rcases List.mem_append.1 hx with hx | hx
                    · exact List.mem_append_left _ (by rw [hj]; exact hx)
                    · exact List.mem_append_right _ hx)) (h4.same rfl rfl rfl)
                  rw [h2] at this
                  exact this
                · cases hk
              | ret => exact hQ .ret _ E' a' hk hs hkp hfu hsl' (hm'.same rfl rfl rfl)
              | exit i => exact hQ (.exit i) _ E' a' hk hs hkp hfu hsl' (hm'.same rfl rfl rfl)
            have hro' : RoR { σ with ro := keysBut (blksOf rh) σ.h ++ σ.ro, roR := keysBut (rowsOf rh ++ somes (srcR σ rh)) σ.r ++ σ.roR } := fun i hi => by
              rcases List.mem_append.1 hi with hi | hi
              · exact keysBut_sub hi
              · exact hro i hi
            refine wp_cond_split (condB_run hq hm) (fun ht => ?_) (fun hf => ?_)
            · rw [ht] at h
              exact den_ok hC hI hmix h hro' hP (hm.same rfl rfl rfl) fun e σ' E' a' hk hs hkp hf hsl hm' => fin x e hk hs hkp hf (fun i hi => hsl i fun hx => hi (List.mem_append_left _ hx)) hm'
            · rw [hf] at h
              exact den_ok hC hI hmix h hro' hP (hm.same rfl rfl rfl) fun e σ' E' a' hk hs hkp hf hsl hm' => fin y e hk hs hkp hf (fun i hi => hsl i fun hx => hi (List.mem_append_right _ hx)) hm'
          · cases h
        · cases h
    · cases h
  | .block id c, σ, K, Q, E, a, h, hro, hP, hm, hQ => by
    simp only [den] at h
    -- a block's end
    have blk : ∀ {K' : Ex → St → Option R} {e : Ex} {σ' : St} {a' : Act} {w' : World}, blockK id K' e σ' = some z → (∀ e', K' e' σ' = some z → Q e'.to a' w') → Exit.inBlock id Q e.to a' w' := by
      intro K' e σ' a' w' hk hq
      cases e with
      | normal => exact hq .normal hk
      | ret => exact hq .ret hk
      | exit i =>
        simp only [blockK] at hk
        show Exit.inBlock id Q (.exit i) a' w'
        simp only [Exit.inBlock]
        split at hk
        · rename_i hi
          have hi : i = id := by simpa using hi
          rw [if_pos hi]
          exact hq .normal hk
        · rename_i hi
          rw [if_neg (fun e => by subst e; simp at hi)]
          exact hq (.exit i) hk
    split at h
    · rename_i hj
      exact wp_block (den_ok hC hI hmix h hro hP hm fun e σ' E' a' hk hs hkp hf hsl hm' => blk hk fun e' hk' => hQ e' σ' E' a' hk' hs hkp hf (fun i hi => hsl i fun hx => hi (List.mem_append_right _ hx)) hm')
    · rename_i hd hj
      unfold place at h
      split at h
      · rename_i rh hat
        split at h
        · rename_i hok
          simp only [jnK, joinF] at h
          have hro' : RoR { σ with ro := keysBut (blksOf rh) σ.h ++ σ.ro, roR := keysBut (rowsOf rh ++ somes (srcR σ rh)) σ.r ++ σ.roR } := fun i hi => by
            rcases List.mem_append.1 hi with hi | hi
            · exact keysBut_sub hi
            · exact hro i hi
          refine wp_block (den_ok hC hI hmix h hro' hP (hm.same rfl rfl rfl) fun e σ' E' a' hk hs hkp hf hsl hm' => blk hk fun e' hk' => ?_)
          have hfu : Fr σ (σ.un σ') := un_fr (σ0 := { σ with ro := keysBut (blksOf rh) σ.h ++ σ.ro, roR := keysBut (rowsOf rh ++ somes (srcR σ rh)) σ.r ++ σ.roR }) (fun i hi => ⟨List.mem_append_right _ hi, rfl⟩) (fun i hi => ⟨List.mem_append_right _ hi, rfl⟩) hf
          have hsl' : ∀ i, i ∉ wr hl (.block id c) → look σ'.s i = look σ.s i := fun i hi => hsl i fun hx => hi (List.mem_append_right _ hx)
          cases e' with
          | normal =>
            simp only at hk'
            split at hk'
            · rename_i x' hx'
              obtain ⟨E2, h1, h2, h3, h4⟩ := place_mod (W := hdSlots hd.sl ++ wr hl c) hok hm hkp hm' hx' (fun i hi => hsl i fun hx => hi (List.mem_append_right _ hx)) hf.h hf.r
              have := hQ .normal _ E2 a' hk' (hs.trans h1) h3 (place_fr hok hro) (fun i hi => head_slots (srcs := somes (srcR σ rh)) (x := x') hat fun hx => hi (by
                rcases List.mem_append.1 hx with hx | hx
                · exact List.mem_append_left _ (by rw [hj]; exact hx)
                · exact List.mem_append_right _ hx)) (h4.same rfl rfl rfl)
              rw [h2] at this
              exact this
            · cases hk'
          | ret => exact hQ .ret _ E' a' hk' hs hkp hfu hsl' (hm'.same rfl rfl rfl)
          | exit i => exact hQ (.exit i) _ E' a' hk' hs hkp hfu hsl' (hm'.same rfl rfl rfl)
        · cases h
      · cases h
  | .exit id, σ, K, Q, E, a, h, _, _, hm, hQ => wp_exit (hQ (.exit id) σ E a h rfl (Keep.refl E) (Fr.refl σ) (fun _ _ => rfl) hm)
  | .ret, σ, K, Q, E, a, h, _, _, hm, hQ => wp_ret (hQ .ret σ E a h rfl (Keep.refl E) (Fr.refl σ) (fun _ _ => rfl) hm)
  | .loop c, σq, K, Q, Eq, a, h, hroq, hPq, hmq, hQq => by
    simp only [den] at h
    split at h
    · cases h
    rename_i σ hth
    obtain ⟨E, hsq, hkq, hfq, hslq, hm, hwq⟩ := thaws_ok hmq hth
    have hro : RoR σ := hroq.fr hfq
    have hP : E.P = C.P := hsq.P.trans hPq
    rw [← hwq]
    have hQ : ∀ e σ' E' a', K e σ' = some z → Same E E' → Keep E E' → Fr σ σ' → (∀ i, i ∉ wr hl (.loop c) → look σ'.s i = look σ.s i) → Mod N E' a' σ'.look → Q e.to a' E'.w := fun e σ' E' a' hk hs hkp hf hsl hm' =>
      hQq e σ' E' a' hk (hsq.trans hs) (hkq.trans hkp) (hfq.trans hf) (fun i hi => (hsl i hi).trans (by rw [hslq])) hm'
    clear hQq hmq hPq hroq
    split at h
    · rename_i hd hlp
      split at h
      · rename_i rh hat
        split at h
        · rename_i x0 hok hx0
          obtain ⟨E1, g1, g2, g3, g4⟩ := place_mod (E0 := E) (a0 := a) hok hm (Keep.refl E) hm hx0 (fun _ _ => rfl) (fun _ _ => rfl) (fun _ _ => rfl)
          let F : (TsR rh → Option R) → TsR rh → Option R := fun again x => den lpK jnK rec C N hl c (head rh (hdSlots hd.sl ++ wr hl c) (somes (srcR σ rh)) σ x) fun e σ' => match e with
            | .normal => match readAt rh (keysBut (rowsOf rh ++ somes (srcR σ rh)) σ.r ++ σ.roR) σ' with
              | some x' => again x'
              | none => none
            | .ret => K .ret (σ.un σ')
            | .exit i => K (.exit i) (σ.un σ')
          let I : Nat → Act → World → Prop := fun n a' w' => ∃ x E', loopF F n x = some z ∧ E'.w = w' ∧ Same E E' ∧ Keep E E' ∧ Mod N E' a' (head rh (hdSlots hd.sl ++ wr hl c) (somes (srcR σ rh)) σ x).look
          refine wp_loop_ghost I ?_ (n := K0) ⟨x0, E1, h, g2, g1, g3, g4⟩
          rintro n a' w' ⟨x, E', hloop, rfl, hs, hkp, hm'⟩
          cases n with
          | zero => cases hloop
          | succ n =>
            have hround : F (loopF F n) x = some z := hloop
            refine den_ok hC hI hmix hround (hro.head hok) (hs.P.trans hP) hm' fun e σ2 E2 a2 hk hs2 hkp2 hf2 hsl2 hm2 => ?_
            obtain ⟨r1, r2⟩ := head_ro (x := x) hok hro
            obtain ⟨q1, q2⟩ := head_keep (x := x) hok hro
            have hfu : Fr σ (σ.un σ2) := un_fr r1 r2 hf2
            have hsl' : ∀ i, i ∉ wr hl (.loop c) → look σ2.s i = look σ.s i := fun i hi => (hsl2 i fun hx => hi (List.mem_append_right _ hx)).trans (head_slots hat fun hx => hi (by
              rcases List.mem_append.1 hx with hx | hx
              · exact List.mem_append_left _ (by rw [hlp]; exact hx)
              · exact List.mem_append_right _ hx))
            cases e with
            | normal =>
              simp only at hk
              split at hk
              · rename_i x' hx'
                obtain ⟨E3, e1, e2, e3, e4⟩ := place_mod (E0 := E) (a0 := a) hok hm (hkp.trans hkp2) hm2 hx' (fun i hi => (hsl2 i fun hx => hi (List.mem_append_right _ hx)).trans (head_slots hat hi)) (fun i hi => (hf2.h i hi).trans (q1 i hi)) (fun i hi => (hf2.r i hi).trans (q2 i hi))
                exact ⟨n, Nat.lt_succ_self n, x', E3, hk, e2, (hs.trans hs2).trans e1, e3, e4⟩
              · cases hk
            | ret => exact hQ .ret _ E2 a2 hk (hs.trans hs2) (hkp.trans hkp2) hfu hsl' (hm2.same rfl rfl rfl)
            | exit i => exact hQ (.exit i) _ E2 a2 hk (hs.trans hs2) (hkp.trans hkp2) hfu hsl' (hm2.same rfl rfl rfl)
        · cases h
      · cases h
    · cases h
  | .rangeFunc .., _, _, _, _, _, h, _, _, _, _ => by simp [den] at h
  | .scope _, _, _, _, _, _, h, _, _, _, _ => by simp [den] at h
  | .label _, _, _, _, _, _, h, _, _, _, _ => by simp [den] at h
  | .goto _, _, _, _, _, _, h, _, _, _, _ => by simp [den] at h
  | .refuse _, _, _, _, _, _, h, _, _, _, _ => by simp [den] at h

end
end
end Dn
end Go.Proofs.Ytghjblbkbelcfaa
