/- A symbolic executor: code, loops by invariants, and the contract of a function out of its body. -/
import Derived.Test.YtniibhkddipcjaaSxJ
namespace Go.Proofs.Ytniibhkddipcjaa
namespace Sx
open Go.RowKit

/-! ### A state says at least what another one says -/

def valLe : Value → Value → Prop
  | .int k m, .int k' n => match decide (k = k') with
    | true => m = n
    | false => False
  | .bool p, .bool q => p = q
  | .string s, .string t => s = t
  | x, y => x = y

theorem valLe_eq {x y : Value} (h : valLe x y) : x = y := by
  unfold valLe at h
  split at h
  · split at h
    · rename_i hk
      rw [of_decide_eq_true hk, h]
    · exact h.elim
  · rw [h]
  · rw [h]
  · exact h

def atLe : At → At → Prop
  | _, .u => True
  | .v x, .v y => valLe x y
  | .sl e l, .sl e' l' => match Sh.eq? e e' with
    | some ⟨h⟩ => h ▸ l = l'
    | none => False
  | x, y => x = y

theorem atLe_rel {E : Env} {x y : At} {v : Value} (h : atLe x y) (hv : RelA E x v) : RelA E y v := by
  unfold atLe at h
  split at h
  · trivial
  · rw [← valLe_eq h]; exact hv
  · split at h
    · rename_i e l e' l' _ h' _
      subst h'
      simp only at h
      subst h
      exact hv
    · exact h.elim
  · rw [← h]; exact hv

def atsLe : List At → List At → Prop
  | [], [] => True
  | [x], [y] => atLe x y
  | x :: x' :: l, y :: y' :: m => atLe x y ∧ atsLe (x' :: l) (y' :: m)
  | _, _ => False

theorem atsLe_cons {x y : At} {l m : List At} (h : atsLe (x :: l) (y :: m)) : atLe x y ∧ atsLe l m := by
  cases l with
  | nil =>
    cases m with
    | nil => exact ⟨h, trivial⟩
    | cons _ _ => simp [atsLe] at h
  | cons _ _ =>
    cases m with
    | nil => simp [atsLe] at h
    | cons _ _ => exact h

theorem atsLe_rel {E : Env} : ∀ {l m : List At} {vs : List Value}, atsLe l m → RelL E l vs → RelL E m vs
  | [], [], [], _, _ => trivial
  | x :: l, y :: m, v :: vs, h, hv => ⟨atLe_rel (atsLe_cons h).1 hv.1, atsLe_rel (atsLe_cons h).2 hv.2⟩
  | [], _, _ :: _, _, hv => hv.elim
  | _ :: _, _, [], _, hv => hv.elim
  | [], _ :: _, _, h, _ => by simp [atsLe] at h
  | _ :: _, [], _, h, _ => by simp [atsLe] at h

def slotLe : Option SlotV → SlotV → Prop
  | some ⟨none, .c ag l⟩, ⟨none, .c ag' l'⟩ => match ag == ag' with
    | true => atsLe l l'
    | false => False
  | _, _ => False

theorem slotLe_rel {E : Env} {s : SlotV} {o : Option SlotV} {v : Value} (h : slotLe o s) (hv : ∀ t, o = some t → RelS E t v) : RelS E s v := by
  unfold slotLe at h
  split at h
  · rename_i ag l ag' l'
    split at h
    · rename_i hag
      have hag : ag = ag' := by simpa using hag
      subst hag
      have hr : RelC E ag l v := hv _ rfl
      obtain ⟨cs, h1, h2, h3⟩ := hr
      exact (⟨cs, h1, atsLe_rel h h2, h3⟩ : RelC E ag l' v)
    · exact h.elim
  · exact h.elim

theorem slotLe_some {s : SlotV} {o : Option SlotV} (h : slotLe o s) : ∃ t, o = some t := by
  unfold slotLe at h
  split at h
  · exact ⟨_, rfl⟩
  · exact h.elim

/-! ### Loops -/

structure Loop where
  α : Type
  s : α → List (Nat × SlotV)
  h : α → List (Nat × List At)
  kill : List Nat
  μ : α → Nat

def slotsLe (f : Nat → Option SlotV) : List (Nat × SlotV) → Prop
  | [] => True
  | [p] => slotLe (f p.1) p.2
  | p :: q :: r => slotLe (f p.1) p.2 ∧ slotsLe f (q :: r)
def blkLe : Option (List At) → List At → Prop
  | some l, m => atsLe l m
  | none, _ => False
def blkSame : Option (List At) → Option (List At) → Prop
  | some l, some m => atsLe l m
  | _, _ => False
def blksLe (f : Nat → Option (List At)) : List (Nat × List At) → Prop
  | [] => True
  | p :: r => blkLe (f p.1) p.2 ∧ blksLe f r

theorem slotsLe_mem {f : Nat → Option SlotV} : ∀ {l : List (Nat × SlotV)}, slotsLe f l → ∀ p ∈ l, slotLe (f p.1) p.2
  | [_], h, p, hp => by
    rcases List.mem_cons.1 hp with rfl | hp
    · exact h
    · cases hp
  | _ :: _ :: _, h, p, hp => by
    rcases List.mem_cons.1 hp with rfl | hp
    · exact h.1
    · exact slotsLe_mem h.2 p hp
theorem blksLe_mem {f : Nat → Option (List At)} : ∀ {l : List (Nat × List At)}, blksLe f l → ∀ p ∈ l, blkLe (f p.1) p.2
  | _ :: _, h, p, hp => by
    rcases List.mem_cons.1 hp with rfl | hp
    · exact h.1
    · exact blksLe_mem h.2 p hp

def writes : Code → List Nat
  | .region _ ops _ => ops.toList.filterMap (·.dst)
  | .seq a b => writes a ++ writes b
  | .cond _ a b => writes a ++ writes b
  | .block _ c => writes c
  | .loop c => writes c
  | .scope c => writes c
  | _ => []

def dropK {α : Type} (W : List Nat) : List (Nat × α) → List (Nat × α)
  | [] => []
  | p :: r => match memN p.1 W with
    | true => dropK W r
    | false => p :: dropK W r

theorem look_dropK {α : Type} {W : List Nat} {i : Nat} : ∀ {l : List (Nat × α)} {x : α}, look (dropK W l) i = some x → look l i = some x ∧ i ∉ W
  | [], x, h => by simp [dropK, look] at h
  | p :: r, x, h => by
    simp only [dropK] at h
    split at h
    · rename_i hm
      obtain ⟨h1, h2⟩ := look_dropK h
      refine ⟨?_, h2⟩
      rw [look_cons, if_neg (fun e => h2 (by rw [e]; exact memN_iff.1 hm))]
      exact h1
    · rename_i hm
      rw [look_cons] at h ⊢
      split at h
      · rename_i e
        exact ⟨by rw [if_pos e]; exact h, fun hw => by rw [e, ← memN_iff, hm] at hw; cases hw⟩
      · rename_i e
        rw [if_neg e]
        exact look_dropK h

def liftS : List (Nat × SlotV) → List (Nat × Option SlotV)
  | [] => []
  | p :: r => (p.1, some p.2) :: liftS r

def head (W : List Nat) (kill : List Nat) (σ : St) (s : List (Nat × SlotV)) (h : List (Nat × List At)) : St :=
  { s := liftS s ++ dropK W σ.s, h := h ++ dropK kill σ.h, r := σ.r, next := σ.next }

/-- The blocks that the loop does not name are as they were at the loop's beginning. -/
def sameBlks (f g : Nat → Option (List At)) : List (Nat × List At) → Prop
  | [] => True
  | [p] => blkSame (f p.1) (g p.1)
  | p :: q :: r => blkSame (f p.1) (g p.1) ∧ sameBlks f g (q :: r)
def sameRows : List (Nat × Option RowI) → List (Nat × Option RowI) → Prop
  | [], [] => True
  | r, r' => r = r'
theorem sameRows_eq : ∀ {r r' : List (Nat × Option RowI)}, sameRows r r' → r = r'
  | [], [], _ => rfl
  | [], _ :: _, h => h
  | _ :: _, [], h => h
  | _ :: _, _ :: _, h => h
def unch (kill : List Nat) (σ σ' : St) : Prop := sameBlks (look σ'.h) (look σ.h) (dropK kill σ.h) ∧ sameRows σ'.r σ.r

def keysIn {α : Type} (W : List Nat) : List (Nat × α) → Bool
  | [] => true
  | p :: r => memN p.1 W && keysIn W r

def hasK {α : Type} (i : Nat) : List (Nat × α) → Bool
  | [] => false
  | p :: r => Nat.beq p.1 i || hasK i r
def allIn {α : Type} (l : List (Nat × α)) : List Nat → Bool
  | [] => true
  | i :: r => hasK i l && allIn l r
def idsSlots {α : Type} (h : List (Nat × α)) : List (Nat × Option SlotV) → Bool
  | [] => true
  | (_, none) :: r => idsSlots h r
  | (_, some s) :: r => allIn h (idsS s.s) && idsSlots h r
def idsBlks {α : Type} (h : List (Nat × α)) : List (Nat × List At) → Bool
  | [] => true
  | p :: r => allIn h (idsL p.2) && idsBlks h r
def idsOk (σ : St) : Bool := idsSlots σ.h σ.s && idsBlks σ.h σ.h

def firstReg : Code → Nat
  | .region id _ _ => id
  | .seq a _ => firstReg a
  | .block _ c => firstReg c
  | .scope c => firstReg c
  | .loop c => firstReg c
  | _ => 0

inductive Ex where
  | normal
  | ret
  | exit (id : Nat)

def Ex.to : Ex → Exit
  | .normal => .normal
  | .ret => .ret
  | .exit id => .exit id

def condB (σ : St) (c : Operand) : Option Bool := match getS σ.look.s c, condS σ.look.s c with
  | some (.c false [.v (.bool q)]), none => some q
  | _, _ => none

def region (C : Ctx) (N : Nat) (ops : Array Oper) (draw : Bool) (σ : St) (K : St → Prop) : Prop := match regOps C N ops ops.toList σ with
  | some (es, σ') => match !draw || chkAll 0 es with
    | true => match propsE es with
      | [] => K σ'
      | p :: ps => allP (p :: ps) ∧ K σ'
    | false => False
  | none => False

def exec (C : Ctx) (N : Nat) (lp : Nat → Option Loop) : Code → St → (Ex → St → Prop) → Prop
  | .skip, σ, K => K .normal σ
  | .region _ ops draw, σ, K => region C N ops draw σ (K .normal)
  | .seq a b, σ, K => exec C N lp a σ fun e σ' => match e with
    | .normal => exec C N lp b σ' K
    | .ret => K .ret σ'
    | .exit i => K (.exit i) σ'
  | .cond c a b, σ, K => match condB σ c with
    | some q => (q = true → exec C N lp a σ K) ∧ (q = false → exec C N lp b σ K)
    | none => False
  | .block id c, σ, K => exec C N lp c σ fun e σ' => match e with
    | .normal => K .normal σ'
    | .ret => K .ret σ'
    | .exit i => match Nat.beq i id with
      | true => K .normal σ'
      | false => K (.exit i) σ'
  | .exit id, σ, K => K (.exit id) σ
  | .ret, σ, K => K .ret σ
  | .loop c, σ, K => match lp (firstReg c) with
    | some L => (∃ x, slotsLe σ.look.s (L.s x) ∧ blksLe σ.look.h (L.h x)) ∧ (∀ x, (keysIn (writes c) (L.s x) && idsOk (head (writes c) L.kill σ (L.s x) (L.h x))) = true) ∧
      ∀ x, exec C N lp c (head (writes c) L.kill σ (L.s x) (L.h x)) fun e σ' => match e with
        | .normal => unch L.kill σ σ' ∧ ∃ x', (slotsLe σ'.look.s (L.s x') ∧ blksLe σ'.look.h (L.h x')) ∧ L.μ x' < L.μ x
        | .ret => K .ret σ'
        | .exit i => K (.exit i) σ'
    | none => False
  | _, _, _ => False

section
variable {N : Nat} {E : Env} {a : Act}

theorem hasK_look {α : Type} {i : Nat} : ∀ {l : List (Nat × α)}, hasK i l = true → (look l i).isSome = true
  | p :: r, h => by
    simp only [hasK, Bool.or_eq_true] at h
    rw [look_cons]
    by_cases hp : i = p.1
    · rw [if_pos hp]; rfl
    · rw [if_neg hp]
      refine hasK_look (h.resolve_left fun h' => hp ?_)
      have : p.1 = i := by simpa using h'
      exact this.symm

theorem allIn_look {α : Type} {l : List (Nat × α)} : ∀ {r : List Nat}, allIn l r = true → ∀ i ∈ r, (look l i).isSome = true
  | j :: r, h, i, hi => by
    simp only [allIn, Bool.and_eq_true] at h
    rcases List.mem_cons.1 hi with rfl | hi
    · exact hasK_look h.1
    · exact allIn_look h.2 i hi

def Env.lim (E : Env) (L : Nat → Prop) : Env := { E with L := L }

theorem RelA.lim {L : Nat → Prop} : ∀ {x : At} {v : Value}, RelA E x v → (∀ i ∈ idsA x, L i) → RelA (E.lim L) x v
  | .u, _, h, _ => h
  | .v _, _, h, _ => h
  | .ptr b o, _, h, hl => ⟨h.1, hl b (by simp [idsA])⟩
  | .clo g cap, _, h, hl => ⟨h.1, fun p hp => hl p.1 (List.mem_map.2 ⟨p, hp, rfl⟩)⟩
  | .sl _ _, _, h, _ => h
  | .row _, _, h, _ => h
  | .rf _ _ _, _, h, _ => h
  | .rp _ _, _, h, _ => h
  | .fn _ _ _, _, h, _ => h
theorem RelL.lim {L : Nat → Prop} : ∀ {l : List At} {vs : List Value}, RelL E l vs → (∀ i ∈ idsL l, L i) → RelL (E.lim L) l vs
  | [], [], _, _ => trivial
  | _ :: _, _ :: _, h, hl => ⟨h.1.lim fun i hi => hl i (List.mem_append_left _ hi), h.2.lim fun i hi => hl i (List.mem_append_right _ hi)⟩
  | [], _ :: _, h, _ => h.elim
  | _ :: _, [], h, _ => h.elim
theorem RelC.lim {L : Nat → Prop} {ag : Bool} {l : List At} {v : Value} (h : RelC E ag l v) (hl : ∀ i ∈ idsL l, L i) : RelC (E.lim L) ag l v :=
  let ⟨cs, h1, h2, h3⟩ := h
  ⟨cs, h1, h2.lim hl, h3⟩
theorem RelT.lim {L : Nat → Prop} : ∀ {l : List (Bool × List At)} {vs : List Value}, RelT E l vs → (∀ i ∈ idsT l, L i) → RelT (E.lim L) l vs
  | [], [], _, _ => trivial
  | _ :: _, _ :: _, h, hl => ⟨h.1.lim fun i hi => hl i (List.mem_append_left _ hi), h.2.lim fun i hi => hl i (List.mem_append_right _ hi)⟩
  | [], _ :: _, h, _ => h.elim
  | _ :: _, [], h, _ => h.elim
theorem RelV.lim {L : Nat → Prop} {s : SV} {v : Value} (h : RelV E s v) (hl : ∀ i ∈ idsS s, L i) : RelV (E.lim L) s v := by
  cases s with
  | c ag l => exact RelC.lim h hl
  | tup l => obtain ⟨vs, h1, h2⟩ := h; exact ⟨vs, h1, h2.lim hl⟩
theorem RelS.lim {L : Nat → Prop} {s : SlotV} {v : Value} (h : RelS E s v) (hl : ∀ i ∈ idsS s.s, L i) : RelS (E.lim L) s v := by
  unfold RelS at *
  split at h
  · exact h.lim hl
  · exact ⟨fun hc => (h.1 hc).lim hl, h.2⟩

theorem idsSlots_spec {α : Type} {h : List (Nat × α)} : ∀ {l : List (Nat × Option SlotV)}, idsSlots h l = true → ∀ i s, look l i = some (some s) → ∀ b ∈ idsS s.s, (look h b).isSome = true
  | (j, none) :: r, hh, i, s, hi, b, hb => by
    simp only [idsSlots] at hh
    rw [look_cons] at hi
    split at hi
    · cases hi
    · exact idsSlots_spec hh i s hi b hb
  | (j, some t) :: r, hh, i, s, hi, b, hb => by
    simp only [idsSlots, Bool.and_eq_true] at hh
    rw [look_cons] at hi
    split at hi
    · injection hi with hi
      injection hi with hi
      subst hi
      exact allIn_look hh.1 b hb
    · exact idsSlots_spec hh.2 i s hi b hb
theorem idsBlks_spec {α : Type} {h : List (Nat × α)} : ∀ {l : List (Nat × List At)}, idsBlks h l = true → ∀ i m, look l i = some m → ∀ b ∈ idsL m, (look h b).isSome = true
  | (j, t) :: r, hh, i, m, hi, b, hb => by
    simp only [idsBlks, Bool.and_eq_true] at hh
    rw [look_cons] at hi
    split at hi
    · injection hi with hi
      subst hi
      exact allIn_look hh.1 b hb
    · exact idsBlks_spec hh.2 i m hi b hb

theorem look_append {α : Type} {i : Nat} : ∀ {l m : List (Nat × α)} {x : α}, look (l ++ m) i = some x → (∃ p ∈ l, p.1 = i ∧ p.2 = x) ∨ look m i = some x
  | [], m, x, h => .inr h
  | p :: r, m, x, h => by
    rw [List.cons_append, look_cons] at h
    split at h
    · rename_i e
      injection h with h
      exact .inl ⟨p, by simp, e.symm, h⟩
    · rcases look_append h with ⟨q, h1, h2⟩ | h1
      · exact .inl ⟨q, by simp [h1], h2⟩
      · exact .inr h1

theorem mem_liftS : ∀ {l : List (Nat × SlotV)} {p : Nat × Option SlotV}, p ∈ liftS l → ∃ s, p.2 = some s ∧ (p.1, s) ∈ l
  | q :: r, p, h => by
    rcases List.mem_cons.1 h with rfl | h
    · exact ⟨q.2, rfl, by simp⟩
    · obtain ⟨s, h1, h2⟩ := mem_liftS h
      exact ⟨s, h1, by simp [h2]⟩

theorem map_eq_at {α β : Type} {f g : Nat × α → β} : ∀ {l : List (Nat × α)}, l.map f = l.map g → ∀ p ∈ l, f p = g p
  | q :: r, h, p, hp => by
    simp only [List.map_cons, List.cons.injEq] at h
    rcases List.mem_cons.1 hp with rfl | hp
    · exact h.1
    · exact map_eq_at h.2 p hp

theorem look_mem {α : Type} {i : Nat} : ∀ {l : List (Nat × α)} {x : α}, look l i = some x → (i, x) ∈ l
  | p :: r, x, h => by
    rw [look_cons] at h
    split at h
    · rename_i e
      injection h with h
      rw [e, ← h]
      simp
    · exact List.mem_cons_of_mem _ (look_mem h)

theorem sameBlks_mem {f g : Nat → Option (List At)} : ∀ {l : List (Nat × List At)}, sameBlks f g l → ∀ p ∈ l, blkSame (f p.1) (g p.1)
  | [_], h, p, hp => by
    rcases List.mem_cons.1 hp with rfl | hp
    · exact h
    · cases hp
  | _ :: _ :: _, h, p, hp => by
    rcases List.mem_cons.1 hp with rfl | hp
    · exact h.1
    · exact sameBlks_mem h.2 p hp

theorem keysIn_spec {α : Type} {W : List Nat} : ∀ {l : List (Nat × α)}, keysIn W l = true → ∀ p ∈ l, p.1 ∈ W
  | q :: r, h, p, hp => by
    simp only [keysIn, Bool.and_eq_true] at h
    rcases List.mem_cons.1 hp with rfl | hp
    · exact memN_iff.1 h.1
    · exact keysIn_spec h.2 p hp

/-! ### What a code does not write -/

theorem stepOp_dst {C : Ctx} {ops : Array Oper} {sl : Nat → Option SlotV} {bk : Nat → Option (List At)} {b : Nat} {o : Oper} {pl : Plan} (h : stepOp C N ops sl bk b o = some pl) : ∀ d s, pl.s = some (d, s) → o.dst = some d := by
  have aux : ∀ (f : Nat → Nat × SlotV), (∀ d, (f d).1 = d) → ∀ d s, o.dst.map f = some (d, s) → o.dst = some d := by
    intro f hf d s h
    cases hd : o.dst with
    | none => rw [hd] at h; cases h
    | some d' =>
      rw [hd] at h
      simp only [Option.map_some, Option.some.injEq] at h
      have := hf d'
      rw [h] at this
      rw [← this]
  unfold stepOp at h
  split at h
  · cases h
  · split at h
    · cases h
    · split at h
      · injection h with h
        subst h
        exact aux _ fun _ => rfl
      · cases h
    · split at h
      · split at h
        · injection h with h
          subst h
          exact aux _ fun _ => rfl
        · cases h
      · cases h

theorem app_s (σ : St) (e : Eff) : (σ.app e).s = σ.s := by
  cases e with
  | row k r o => cases o <;> rfl
  | _ => rfl

theorem regOps_frame {C : Ctx} {ops : Array Oper} : ∀ {l : List Oper} {σ σ' : St} {es : List Ent}, regOps C N ops l σ = some (es, σ') → ∀ i, i ∉ l.filterMap (·.dst) → look σ'.s i = look σ.s i
  | [], σ, σ', es, h, i, _ => by
    simp only [regOps, Option.some.injEq, Prod.mk.injEq] at h
    rw [h.2]
  | o :: r, σ, σ', es, h, i, hi => by
    simp only [regOps] at h
    split at h
    · rename_i pl hpl
      split at h
      · rename_i es' σ'' hr
        simp only [Option.some.injEq, Prod.mk.injEq] at h
        obtain ⟨_, rfl⟩ := h
        rw [regOps_frame hr i fun hm => hi (by
          rw [List.filterMap_cons]
          split
          · exact hm
          · exact List.mem_cons_of_mem _ hm)]
        show look (σ.plan pl).s i = look σ.s i
        unfold St.plan
        split
        · rename_i d s hs
          have hd := stepOp_dst hpl d s hs
          show look ((d, some s) :: (σ.app pl.eff).s) i = _
          rw [look_cons, if_neg (fun e => hi (by rw [e, List.filterMap_cons, hd]; simp)), app_s]
        · rw [app_s]
      · cases h
    · cases h

theorem region_mono {C : Ctx} {ops : Array Oper} {draw : Bool} {σ : St} {K K' : St → Prop} (h : region C N ops draw σ K) (hK : ∀ σ', (∀ i, i ∉ ops.toList.filterMap (·.dst) → look σ'.s i = look σ.s i) → K σ' → K' σ') : region C N ops draw σ K' := by
  unfold region at h ⊢
  split at h
  · rename_i es σ' hr
    have hf := regOps_frame hr
    split at h
    · split at h
      · exact hK _ hf h
      · exact ⟨h.1, hK _ hf h.2⟩
    · exact h.elim
  · exact h.elim

theorem exec_mono {C : Ctx} {lp : Nat → Option Loop} : ∀ {c : Code} {σ : St} {K K' : Ex → St → Prop}, exec C N lp c σ K → (∀ e σ', K e σ' → K' e σ') → exec C N lp c σ K'
  | .skip, _, _, _, h, hK => hK _ _ h
  | .region .., _, _, _, h, hK => region_mono h fun _ _ hk => hK _ _ hk
  | .seq x y, σ, K, K', h, hK => by
    simp only [exec] at h ⊢
    refine exec_mono h fun e σ' hk => ?_
    cases e with
    | normal => exact exec_mono hk hK
    | ret => exact hK _ _ hk
    | exit i => exact hK _ _ hk
  | .cond c x y, σ, K, K', h, hK => by
    simp only [exec] at h ⊢
    split at h
    · exact ⟨fun ht => exec_mono (h.1 ht) hK, fun hf => exec_mono (h.2 hf) hK⟩
    · exact h.elim
  | .block id c, σ, K, K', h, hK => by
    simp only [exec] at h ⊢
    refine exec_mono h fun e σ' hk => ?_
    cases e with
    | normal => exact hK _ _ hk
    | ret => exact hK _ _ hk
    | exit i =>
      simp only at hk ⊢
      split at hk <;> exact hK _ _ hk
  | .exit _, _, _, _, h, hK => hK _ _ h
  | .ret, _, _, _, h, hK => hK _ _ h
  | .loop c, σ, K, K', h, hK => by
    simp only [exec] at h ⊢
    split at h
    · refine ⟨h.1, h.2.1, fun x => exec_mono (h.2.2 x) fun e σ' hk => ?_⟩
      cases e with
      | normal => exact hk
      | ret => exact hK _ _ hk
      | exit i => exact hK _ _ hk
    · exact h.elim
  | .rangeFunc .., _, _, _, h, _ => by simp [exec] at h
  | .scope _, _, _, _, h, _ => by simp [exec] at h
  | .label _, _, _, _, h, _ => by simp [exec] at h
  | .goto _, _, _, _, h, _ => by simp [exec] at h
  | .refuse _, _, _, _, h, _ => by simp [exec] at h

theorem look_head {W kill : List Nat} {σ : St} {s : List (Nat × SlotV)} {h : List (Nat × List At)} (hs : keysIn W s = true) {i : Nat} (hi : i ∉ W) : look (head W kill σ s h).s i = look σ.s i := by
  have h1 : ∀ {s : List (Nat × SlotV)} {m : List (Nat × Option SlotV)}, keysIn W s = true → look (liftS s ++ m) i = look m i := by
    intro s m hs
    induction s with
    | nil => rfl
    | cons p r ih =>
      simp only [keysIn, Bool.and_eq_true] at hs
      simp only [liftS, List.cons_append]
      rw [look_cons, if_neg (fun e => hi (by rw [e]; exact memN_iff.1 hs.1))]
      exact ih hs.2
  have h2 : ∀ {l : List (Nat × Option SlotV)}, look (dropK W l) i = look l i := by
    intro l
    induction l with
    | nil => rfl
    | cons p r ih =>
      simp only [dropK]
      split
      · rename_i hm
        rw [look_cons, if_neg (fun e => hi (by rw [e]; exact memN_iff.1 hm))]
        exact ih
      · rw [look_cons, look_cons, ih]
  exact (h1 hs).trans h2

theorem exec_frame {C : Ctx} {lp : Nat → Option Loop} : ∀ {c : Code} {σ : St} {K : Ex → St → Prop}, exec C N lp c σ K → exec C N lp c σ fun e σ' => (∀ i, i ∉ writes c → look σ'.s i = look σ.s i) ∧ K e σ'
  | .skip, _, _, h => ⟨fun _ _ => rfl, h⟩
  | .region .., _, _, h => region_mono h fun _ hf hk => ⟨hf, hk⟩
  | .seq x y, σ, K, h => by
    simp only [exec] at h ⊢
    refine exec_mono (exec_frame h) fun e σ' hk => ?_
    obtain ⟨hf, hk⟩ := hk
    have hf' : ∀ i, i ∉ writes (.seq x y) → look σ'.s i = look σ.s i := fun i hi => hf i fun hm => hi (List.mem_append_left _ hm)
    cases e with
    | normal => exact exec_mono (exec_frame hk) fun e2 σ2 hk2 => ⟨fun i hi => (hk2.1 i fun hm => hi (List.mem_append_right _ hm)).trans (hf' i hi), hk2.2⟩
    | ret => exact ⟨hf', hk⟩
    | exit i => exact ⟨hf', hk⟩
  | .cond c x y, σ, K, h => by
    simp only [exec] at h ⊢
    split at h
    · exact ⟨fun ht => exec_mono (exec_frame (h.1 ht)) fun e σ' hk => ⟨fun i hi => hk.1 i fun hm => hi (List.mem_append_left _ hm), hk.2⟩,
        fun hf => exec_mono (exec_frame (h.2 hf)) fun e σ' hk => ⟨fun i hi => hk.1 i fun hm => hi (List.mem_append_right _ hm), hk.2⟩⟩
    · exact h.elim
  | .block id c, σ, K, h => by
    simp only [exec] at h ⊢
    refine exec_mono (exec_frame h) fun e σ' hk => ?_
    obtain ⟨hf, hk⟩ := hk
    cases e with
    | normal => exact ⟨hf, hk⟩
    | ret => exact ⟨hf, hk⟩
    | exit i =>
      simp only at hk ⊢
      split at hk <;> exact ⟨hf, hk⟩
  | .exit _, _, _, h => ⟨fun _ _ => rfl, h⟩
  | .ret, _, _, h => ⟨fun _ _ => rfl, h⟩
  | .loop c, σ, K, h => by
    simp only [exec] at h ⊢
    split at h
    · rename_i L hL
      refine ⟨h.1, h.2.1, fun x => exec_mono (exec_frame (h.2.2 x)) fun e σ' hk => ?_⟩
      obtain ⟨hf, hk⟩ := hk
      have hkey := h.2.1 x
      simp only [Bool.and_eq_true] at hkey
      have hf' : ∀ i, i ∉ writes (.loop c) → look σ'.s i = look σ.s i := fun i hi => (hf i hi).trans (look_head hkey.1 hi)
      cases e with
      | normal => exact hk
      | ret => exact ⟨hf', hk⟩
      | exit i => exact ⟨hf', hk⟩
    · exact h.elim
  | .rangeFunc .., _, _, h => by simp [exec] at h
  | .scope _, _, _, h => by simp [exec] at h
  | .label _, _, _, h => by simp [exec] at h
  | .goto _, _, _, h => by simp [exec] at h
  | .refuse _, _, _, h => by simp [exec] at h

theorem unch_blks {kill : List Nat} {σ σ' : St} (hu : unch kill σ σ') (E : Env) : ∀ i l, look σ.h i = some l → i ∉ kill → ∃ l', look σ'.h i = some l' ∧ ∀ cs, RelL E l' cs → RelL E l cs := by
  intro i l h1 h2
  have hl : look (dropK kill σ.h) i = some l := by
    revert h1
    generalize σ.h = m
    intro h1
    induction m with
    | nil => cases h1
    | cons p r ih =>
      rw [look_cons] at h1
      simp only [dropK]
      split
      · rename_i hm
        rw [if_neg (fun e => h2 (by rw [e]; exact memN_iff.1 hm))] at h1
        exact ih h1
      · rw [look_cons]
        split at h1
        · rename_i e
          rw [if_pos e]; exact h1
        · rename_i e
          rw [if_neg e]; exact ih h1
  have := sameBlks_mem hu.1 _ (look_mem hl)
  simp only [h1] at this
  unfold blkSame at this
  split at this
  · rename_i l0 m heq heq2
    injection heq2 with heq2
    subst heq2
    exact ⟨l0, heq, fun cs hcs => atsLe_rel this hcs⟩
  · exact this.elim

/-- From a state at the loop's head, or at a round's end, to the loop's own state. -/
theorem head_mod {W kill : List Nat} {σ σ' : St} {s : List (Nat × SlotV)} {h : List (Nat × List At)} (hm : Mod N E a σ'.look) (hu1 : ∀ i, i ∉ W → look σ'.s i = look σ.s i) (hu2 : ∀ i l, look σ.h i = some l → i ∉ kill → ∃ l', look σ'.h i = some l' ∧ ∀ cs, RelL E l' cs → RelL E l cs) (hu3 : σ'.r = σ.r) (hs : slotsLe σ'.look.s s) (hb : blksLe σ'.look.h h)
    (hi : idsOk (head W kill σ s h) = true) : Mod N (E.lim fun i => ((head W kill σ s h).look.h i).isSome = true) a (head W kill σ s h).look := by
  simp only [idsOk, Bool.and_eq_true] at hi
  -- what the head says of a slot, the state said, or more
  have slots : ∀ i t, (head W kill σ s h).look.s i = some t → ∃ v, a.tmps[i]? = some v ∧ RelS E t v := by
    intro i t ht
    simp only [St.look, lookS] at ht
    split at ht
    · rename_i t' hl
      injection ht with ht
      subst ht
      rcases look_append hl with ⟨p, hp, e1, e2⟩ | hl
      · obtain ⟨s', e3, hmem⟩ := mem_liftS hp
        rw [e3] at e2
        injection e2 with e2
        subst e2
        have hle := slotsLe_mem hs _ hmem
        rw [show (p.1, s').1 = i from e1] at hle
        obtain ⟨t0, ht0⟩ := slotLe_some hle
        obtain ⟨v, hv, hr⟩ := hm.slots i t0 ht0
        exact ⟨v, hv, slotLe_rel hle fun t1 ht1 => by rw [ht0] at ht1; injection ht1 with ht1; subst ht1; exact hr⟩
      · obtain ⟨h1, h2⟩ := look_dropK hl
        have e : σ'.look.s i = some t' := by
          show lookS σ'.s i = some t'
          simp only [lookS, hu1 i h2, h1]
        exact hm.slots i t' e
    · cases ht
  have blks : ∀ i l, (head W kill σ s h).look.h i = some l → ∃ l', σ'.look.h i = some l' ∧ ∀ cs, RelL E l' cs → RelL E l cs := by
    intro i l hl
    simp only [St.look] at hl
    rcases look_append hl with ⟨p, hp, e1, e2⟩ | hl
    · have hle := blksLe_mem hb p hp
      rw [e1, e2] at hle
      unfold blkLe at hle
      split at hle
      · rename_i m l0 heq
        exact ⟨l0, heq, fun cs hcs => atsLe_rel hle hcs⟩
      · exact hle.elim
    · obtain ⟨h1, h2⟩ := look_dropK hl
      exact hu2 i l h1 h2
  have hg := hm.glob
  refine ⟨⟨hg.below, hg.zlt, hg.z0, hg.zfrom, fun b hb' => hb', fun r hr => ?_, fun i l hl => ?_, fun i j l l' hl hl' hij => ?_, fun i r b hr hb' => ?_, fun i j r r' b hr hr' h1 h2 => ?_⟩, hm.nodef, hm.size, fun i t ht => ?_, fun i l hl => ?_, fun i r hr => ?_⟩
  · have := hg.rlive r hr
    simp only [St.look, head] at this ⊢
    rw [← hu3]; exact this
  · obtain ⟨l', h1, _⟩ := blks i l hl
    exact hg.own i l' h1
  · obtain ⟨l1, h1, _⟩ := blks i l hl
    obtain ⟨l2, h2, _⟩ := blks j l' hl'
    exact hg.inj i j l1 l2 h1 h2 hij
  · have hr' : σ'.look.r i = some (some r) := by simp only [St.look, head] at hr ⊢; rw [hu3]; exact hr
    obtain ⟨h1, h2⟩ := hg.rown i r b hr' hb'
    refine ⟨h1, fun j l hl => ?_⟩
    obtain ⟨l', h3, _⟩ := blks j l hl
    exact h2 j l' h3
  · exact hg.rinj i j r r' b (by simp only [St.look, head] at hr ⊢; rw [hu3]; exact hr) (by simp only [St.look, head] at hr' ⊢; rw [hu3]; exact hr') h1 h2
  · obtain ⟨v, hv, hr⟩ := slots i t ht
    refine ⟨v, hv, hr.lim fun b hb' => ?_⟩
    simp only [St.look, lookS] at ht
    split at ht
    · rename_i t' hl
      injection ht with ht
      subst ht
      exact idsSlots_spec hi.1 i t' hl b hb'
    · cases ht
  · obtain ⟨l', h1, h2⟩ := blks i l hl
    obtain ⟨_, cs, t, h4, h5, h6⟩ := hm.blks i l' h1
    exact ⟨by show (_ : Option _).isSome = true; rw [hl]; rfl, cs, t, h4, (h2 cs h5).lim fun b hb' => idsBlks_spec hi.2 i l hl b hb', h6⟩
  · exact hm.rows i r (by simp only [St.look, head] at hr ⊢; rw [hu3]; exact hr)

/-- A loop with a ghost number that every round lowers. -/
theorem wp_loop_ghost {P : Program} {c : Code} {Q : Exit → Act → World → Prop} (I : Nat → Act → World → Prop) (round : ∀ n a w, I n a w → c.wp P (Exit.then (fun a' w' => ∃ m, m < n ∧ I m a' w') Q) a w)
    {n : Nat} {a : Act} {w : World} (h₀ : I n a w) : (Code.loop c).wp P Q a w := by
  intro b k cs
  have key : ∀ n a w, I n a w → ∃ e a' w', Q e a' w' ∧ Arrives P (lone (b.at a (.code c :: .inLoop c :: k)) cs w) b k cs e a' w' := by
    intro n
    induction n using Nat.strongRecOn with
    | _ n ih =>
      intro a w hI
      obtain ⟨e, a₁, w₁, hq, harr⟩ := round n a w hI b (.inLoop c :: k) cs
      cases e with
      | normal =>
        obtain ⟨m, hlt, hI₁⟩ := hq
        obtain ⟨e₂, a₂, w₂, hq₂, harr₂⟩ := ih m hlt a₁ w₁ hI₁
        exact ⟨e₂, a₂, w₂, hq₂, .of_steps (Steps.trans harr (.one step_inLoop)) harr₂⟩
      | exit id => exact ⟨_, a₁, w₁, hq, .pass (x := .inLoop c) rfl (fun _ _ => .inl (by simp)) harr⟩
      | goto l => exact ⟨_, a₁, w₁, hq, .pass (x := .inLoop c) rfl (fun _ _ => .inl (by simp)) harr⟩
      | ret => exact ⟨_, a₁, w₁, hq, .pass (x := .inLoop c) rfl (fun _ _ => .inl (by simp)) harr⟩
      | panic ch => exact ⟨_, a₁, w₁, hq, .pass (x := .inLoop c) rfl (fun _ _ => .inl (by simp)) harr⟩
      | outgrown => exact ⟨_, a₁, w₁, hq, .pass (x := .inLoop c) rfl (fun _ _ => .inl (by simp)) harr⟩
  obtain ⟨e, a', w', hq, harr⟩ := key n a w h₀
  exact ⟨e, a', w', hq, .of_steps (.one step_loop) harr⟩

theorem Env.lim_same (E : Env) (L : Nat → Prop) : Same E (E.lim L) := rfl

theorem condB_run {σ : St} {c : Operand} {q : Bool} (h : condB σ c = some q) (hm : Mod N E a σ.look) : a.eval c = .bool q := by
  unfold condB at h
  split at h
  · rename_i q' hg hc
    injection h with h
    subst h
    exact toV_rel rfl (getS_rel hm (fun _ _ => rfl) hg fun d hd => by rw [hc] at hd; cases hd)
  · cases h

theorem region_ok {C : Ctx} (hC : C.ok) (hmix : C.P.follows .mixedOrders = true) {id : Nat} {ops : Array Oper} {draw : Bool} {σ : St} {K : St → Prop} {Q : Exit → Act → World → Prop} (h : region C N ops draw σ K) (hP : E.P = C.P) (hm : Mod N E a σ.look)
    (hQ : ∀ σ' E' a', K σ' → Same E E' → Mod N E' a' σ'.look → Q .normal a' E'.w) : (Code.region id ops draw).wp C.P Q a E.w := by
  unfold region at h
  split at h
  · rename_i es σ' hr
    split at h
    · rename_i hck
      have hk : allP (propsE es) ∧ K σ' := by
        split at h
        · rename_i he
          rw [he]
          exact ⟨trivial, h⟩
        · rename_i p ps he
          rw [he]
          exact h
      cases draw with
      | false => exact wp_region_list (seq_ok hC hr hk.1 hP hm fun E' a' hs hm' => hQ σ' E' a' hk.2 hs hm')
      | true => exact draw_ok hC hmix hr (by simpa using hck) hk.1 hP hm fun E' a' hs hm' => hQ σ' E' a' hk.2 hs hm'
    · exact h.elim
  · exact h.elim

theorem exec_ok {C : Ctx} (hC : C.ok) (hmix : C.P.follows .mixedOrders = true) {lp : Nat → Option Loop} : ∀ {c : Code} {σ : St} {K : Ex → St → Prop} {Q : Exit → Act → World → Prop} {E : Env} {a : Act}, exec C N lp c σ K → E.P = C.P → Mod N E a σ.look →
    (∀ e σ' E' a', K e σ' → Same E E' → Mod N E' a' σ'.look → Q e.to a' E'.w) → c.wp C.P Q a E.w
  | .skip, σ, K, Q, E, a, h, _, hm, hQ => wp_skip (hQ .normal σ E a h rfl hm)
  | .region id ops draw, σ, K, Q, E, a, h, hP, hm, hQ => region_ok hC hmix h hP hm fun σ' E' a' hk hs hm' => hQ .normal σ' E' a' hk hs hm'
  | .seq x y, σ, K, Q, E, a, h, hP, hm, hQ => by
    simp only [exec] at h
    refine wp_seq (exec_ok hC hmix h hP hm fun e σ' E' a' hk hs hm' => ?_)
    cases e with
    | normal => exact exec_ok hC hmix hk (hs.P.trans hP) hm' fun e2 σ2 E2 a2 hk2 hs2 hm2 => hQ e2 σ2 E2 a2 hk2 (hs.trans hs2) hm2
    | ret => exact hQ .ret σ' E' a' hk hs hm'
    | exit i => exact hQ (.exit i) σ' E' a' hk hs hm'
  | .cond c x y, σ, K, Q, E, a, h, hP, hm, hQ => by
    simp only [exec] at h
    split at h
    · rename_i q hq
      exact wp_cond_split (condB_run hq hm) (fun ht => exec_ok hC hmix (h.1 ht) hP hm hQ) (fun hf => exec_ok hC hmix (h.2 hf) hP hm hQ)
    · exact h.elim
  | .block id c, σ, K, Q, E, a, h, hP, hm, hQ => by
    simp only [exec] at h
    refine wp_block (exec_ok hC hmix h hP hm fun e σ' E' a' hk hs hm' => ?_)
    cases e with
    | normal => exact hQ .normal σ' E' a' hk hs hm'
    | ret => exact hQ .ret σ' E' a' hk hs hm'
    | exit i =>
      simp only at hk
      show Exit.inBlock id Q (.exit i) a' E'.w
      simp only [Exit.inBlock]
      split at hk
      · rename_i hi
        have hi : i = id := by simpa using hi
        rw [if_pos hi]
        exact hQ .normal σ' E' a' hk hs hm'
      · rename_i hi
        rw [if_neg (fun e => by subst e; simp at hi)]
        exact hQ (.exit i) σ' E' a' hk hs hm'
  | .exit id, σ, K, Q, E, a, h, _, hm, hQ => wp_exit (hQ (.exit id) σ E a h rfl hm)
  | .ret, σ, K, Q, E, a, h, _, hm, hQ => wp_ret (hQ .ret σ E a h rfl hm)
  | .loop c, σ, K, Q, E, a, h, hP, hm, hQ => by
    simp only [exec] at h
    split at h
    · rename_i L hL
      obtain ⟨⟨x0, hs0, hb0⟩, hids, hround⟩ := h
      have hids' : ∀ x, idsOk (head (writes c) L.kill σ (L.s x) (L.h x)) = true := fun x => by have := hids x; simp only [Bool.and_eq_true] at this; exact this.2
      have hkeys : ∀ x, keysIn (writes c) (L.s x) = true := fun x => by have := hids x; simp only [Bool.and_eq_true] at this; exact this.1
      let I : Nat → Act → World → Prop := fun n a' w' => ∃ x E', L.μ x = n ∧ E'.w = w' ∧ Same E E' ∧ Mod N E' a' (head (writes c) L.kill σ (L.s x) (L.h x)).look
      refine wp_loop_ghost I ?_ (n := L.μ x0) ⟨x0, E.lim fun i => ((head (writes c) L.kill σ (L.s x0) (L.h x0)).look.h i).isSome = true, rfl, rfl, rfl, head_mod hm (fun _ _ => rfl) (fun i l hl _ => ⟨l, hl, fun _ h => h⟩) rfl hs0 hb0 (hids' x0)⟩
      rintro n a' w' ⟨x, E', rfl, rfl, hs, hm'⟩
      refine exec_ok hC hmix (exec_frame (hround x)) (hs.P.trans hP) hm' fun e σ2 E2 a2 hk hs2 hm2 => ?_
      obtain ⟨hf, hk⟩ := hk
      cases e with
      | normal =>
        obtain ⟨hu, x', ⟨h1, h2⟩, hlt⟩ := hk
        exact ⟨L.μ x', hlt, x', E2.lim fun i => ((head (writes c) L.kill σ (L.s x') (L.h x')).look.h i).isSome = true, rfl, rfl, hs.trans hs2, head_mod hm2 (fun i hi => (hf i hi).trans (look_head (hkeys x) hi)) (unch_blks hu E2) (sameRows_eq hu.2) h1 h2 (hids' x')⟩
      | ret => exact hQ .ret σ2 E2 a2 hk (hs.trans hs2) hm2
      | exit i => exact hQ (.exit i) σ2 E2 a2 hk (hs.trans hs2) hm2
    · exact h.elim
  | .rangeFunc .., _, _, _, _, _, h, _, _, _ => by simp [exec] at h
  | .scope _, _, _, _, _, _, h, _, _, _ => by simp [exec] at h
  | .label _, _, _, _, _, _, h, _, _, _ => by simp [exec] at h
  | .goto _, _, _, _, _, _, h, _, _, _ => by simp [exec] at h
  | .refuse _, _, _, _, _, _, h, _, _, _ => by simp [exec] at h

/-! ### A function's contract out of its body -/

def initS : (as : List Sh) → TsS as → Nat → List (Nat × Option SlotV)
  | [], _, _ => []
  | s :: r, x, i => (i, some ⟨none, .c s.isAgg (Sh.cells s x.1)⟩) :: initS r x.2 (i + 1)
def initF : (fs : List (List Sh × Sh)) → TsF fs → Nat → List (Nat × Option SlotV)
  | [], _, _ => []
  | s :: r, x, i => (i, some ⟨none, .c false [.fn s.1 s.2 x.1]⟩) :: initF r x.2 (i + 1)
def initC : (cs : List Sh) → TsS cs → Nat → List (Nat × Option SlotV)
  | [], _, _ => []
  | s :: r, x, i => (i, some ⟨none, .c false [.rf s x.1 0]⟩) :: initC r x.2 (i + 1)

def Ctr.init (c : Ctr) (x : TsS c.as) (F : TsF c.fs) (y : TsS c.cs) : St :=
  { s := initS c.as x 0 ++ initF c.fs F c.as.length ++ initC c.cs y (c.as.length + c.fs.length), h := [], r := [], next := 0 }

def resS (P : Program) (g : Look) : List ResultVar → Option (List SV)
  | [] => some []
  | .tmp t :: r => match g.s t, resS P g r with
    | some ⟨none, s⟩, some l => some (s :: l)
    | _, _ => none
  | .cell t ty :: r => match g.s t, resS P g r with
    | some ⟨none, .c false [.ptr b off]⟩, some l => match g.h b with
      | some m => match partC P ty m off with
        | some s => some (s :: l)
        | none => none
      | none => none
    | _, _ => none

def isV {s : Sh} : Option s.T → s.T → Prop
  | some u, z => u = z
  | none, _ => False

def retsOk : (l : List Sh) → List SV → TsS l → Prop
  | [], [], _ => True
  | [s], [v], z => isV (s.whole v) z.1
  | s :: t :: r, v :: w :: vs, z => isV (s.whole v) z.1 ∧ retsOk (t :: r) (w :: vs) z.2
  | _, _, _ => False

def notOne : List Sh → Prop
  | [_] => False
  | _ => True

def retOk : (r : RSh) → List SV → r.T → Prop
  | .one s, [v], z => isV (s.whole v) z
  | .tup l, vs, z => notOne l ∧ retsOk l vs z
  | _, _, _ => False

def post (P : Program) (c : Ctr) (rv : Array ResultVar) (z : c.r.T) : Ex → St → Prop
  | .exit _, _ => False
  | _, σ => match resS P σ.look rv.toList with
    | some vs => retOk c.r vs z
    | none => False

theorem resS_run {g : Look} (hm : Mod N E a g) : ∀ {rv : List ResultVar} {l : List SV}, resS E.P g rv = some l →
    ∃ vs, (rv.mapM (m := Sem) fun | .tmp t => pure (a.tmps.getD t undef) | .cell x t => do loadVar t (← asAddr (a.tmps.getD x undef))).run E.P E.w = .ok vs E.w ∧ RelVs E l vs
  | [], l, h => by
    simp only [resS] at h
    injection h with h
    subst h
    exact ⟨[], rfl, trivial⟩
  | .tmp t :: r, l, h => by
    simp only [resS] at h
    split at h
    · rename_i s l' hs hl
      injection h with h
      subst h
      obtain ⟨vs, h1, h2⟩ := resS_run hm hl
      obtain ⟨v, hv, hr⟩ := hm.slots t _ hs
      refine ⟨v :: vs, ?_, hr, h2⟩
      have e : a.tmps.getD t undef = v := by simp [hv]
      simp only [List.mapM_cons, Sem.run_bind, e, Sem.run_pure, Result.andThen_ok, h1]
    · cases h
  | .cell t ty :: r, l, h => by
    simp only [resS] at h
    split at h
    · rename_i b off l' hs hl
      split at h
      · rename_i m hb
        split at h
        · rename_i s hp
          injection h with h
          subst h
          obtain ⟨vs, h1, h2⟩ := resS_run hm hl
          obtain ⟨v, hv, hr⟩ := hm.slots t _ hs
          obtain ⟨cs, hv2, hc, _⟩ := (hr : RelC E false [.ptr b off] v)
          match cs, hc with
          | [y], hc =>
            obtain ⟨⟨hy, _⟩, _⟩ := hc
            obtain ⟨ds, hd, hcl⟩ := blk_cells (hm.blks b m hb)
            obtain ⟨u, hrun, hrel⟩ := partC_run hp hd E.w hcl
            refine ⟨u :: vs, ?_, hrel, h2⟩
            have e : a.tmps.getD t undef = .pointer (some ⟨E.β b, off, none⟩) := by
              rw [hy] at hv2
              simp [hv, hv2, mkV, ptrV]
            rw [add_lit, Nat.zero_add] at hrun
            have ea : (asAddr (a.tmps.getD t undef)).run E.P E.w = .ok ⟨E.β b, off, none⟩ E.w := by rw [e]; rfl
            simp only [List.mapM_cons, Sem.run_bind, ea, Result.andThen_ok, hrun, h1, Sem.run_pure]
        · cases h
      · cases h
    · cases h

theorem retsOk_rel : ∀ {l : List Sh} {svs : List SV} {z : TsS l} {vs : List Value}, retsOk l svs z → RelVs E svs vs → DatVs E.w E.Z l z vs
  | [], [], _, [], _, _ => rfl
  | [s], [v], z, [u], h, hr => by
    unfold retsOk isV at h
    split at h
    · rename_i x y hx
      simp only [DatVs]
      have := whole_rel hx hr.1
      rw [h] at this
      exact ⟨u, [], rfl, this, rfl⟩
    · exact h.elim
  | s :: t :: r, v :: w :: vs', z, u :: us, h, hr => by
    obtain ⟨h1, h2⟩ := h
    unfold isV at h1
    split at h1
    · rename_i x y hx
      have := whole_rel hx hr.1
      rw [h1] at this
      have h3 := retsOk_rel h2 hr.2
      simp only [DatVs] at h3 ⊢
      exact ⟨u, us, rfl, this, h3⟩
    · exact h1.elim
  | [], [], _, _ :: _, _, hr => hr.elim
  | [_], [_], _, [], _, hr => hr.elim
  | [_], [_], _, _ :: _ :: _, _, hr => hr.2.elim
  | _ :: _ :: _, _ :: _ :: _, _, [], _, hr => hr.elim
  | [], _ :: _, _, _, h, _ => by simp [retsOk] at h
  | [_], [], _, _, h, _ => by simp [retsOk] at h
  | [_], _ :: _ :: _, _, _, h, _ => by simp [retsOk] at h
  | _ :: _ :: _, [], _, _, h, _ => by simp [retsOk] at h
  | _ :: _ :: _, [_], _, _, h, _ => by simp [retsOk] at h

theorem relVs_length : ∀ {l : List SV} {vs : List Value}, RelVs E l vs → l.length = vs.length
  | [], [], _ => rfl
  | _ :: _, _ :: _, h => by simp [relVs_length h.2]
  | [], _ :: _, h => h.elim
  | _ :: _, [], h => h.elim

theorem retsOk_length : ∀ {l : List Sh} {svs : List SV} {z : TsS l}, retsOk l svs z → svs.length = l.length
  | [], [], _, _ => rfl
  | [_], [_], _, _ => rfl
  | _ :: _ :: _, _ :: _ :: _, _, h => by
    have := retsOk_length h.2
    simp only [List.length_cons] at this ⊢
    omega
  | [], _ :: _, _, h => by simp [retsOk] at h
  | [_], [], _, h => by simp [retsOk] at h
  | [_], _ :: _ :: _, _, h => by simp [retsOk] at h
  | _ :: _ :: _, [], _, h => by simp [retsOk] at h
  | _ :: _ :: _, [_], _, h => by simp [retsOk] at h

theorem retOk_rel {r : RSh} {svs : List SV} {z : r.T} {vs : List Value} (h : retOk r svs z) (hr : RelVs E svs vs) : RetV E.w E.Z r z (if h : vs.length = 1 then vs[0] else .tuple vs.toArray) := by
  cases r with
  | one s =>
    match svs, vs, hr with
    | [v], [u], hr =>
      simp only [retOk, isV] at h
      split at h
      · rename_i x y hx
        have := whole_rel hx hr.1
        rw [h] at this
        exact this
      · exact h.elim
    | [], _, _ => simp [retOk] at h
    | _ :: _ :: _, _, _ => simp [retOk] at h
  | tup l =>
    obtain ⟨h1, h2⟩ := h
    have e1 := retsOk_length h2
    have e2 := relVs_length hr
    have hne : ¬ vs.length = 1 := by
      intro e
      match l, e1, h1 with
      | [], e1, _ => simp only [List.length_nil] at e1; omega
      | [_], _, h1 => exact h1.elim
      | _ :: _ :: _, e1, _ => simp only [List.length_cons] at e1; omega
    rw [dif_neg hne]
    exact ⟨vs, rfl, retsOk_rel h2 hr⟩

theorem results_run {g : Look} (hm : Mod N E a g) {fn : Func} {svs : List SV} (h : resS E.P g fn.results.toList = some svs) : ∃ vs, RelVs E svs vs ∧ (results fn a.tmps).run E.P E.w = .ok (if h : vs.length = 1 then vs[0] else .tuple vs.toArray) E.w := by
  obtain ⟨vs, h1, h2⟩ := resS_run hm h
  refine ⟨vs, h2, ?_⟩
  unfold results
  rw [← Array.toArray_toList (xs := fn.results), List.mapM_toArray]
  rw [Sem.run_bind, Sem.run_map]
  erw [h1]
  rfl

theorem initS_slots : ∀ {as : List Sh} {x : TsS as} {vals : List Value} {i : Nat}, DatVs E.w E.Z as x vals → ∀ j t, look (initS as x i) j = some (some t) → ∃ v, i ≤ j ∧ vals[j - i]? = some v ∧ RelS E t v
  | [], _, _, i, _, j, t, h => by simp [initS, look] at h
  | s :: r, x, vals, i, hd, j, t, h => by
    simp only [DatVs] at hd
    obtain ⟨v, vs', rfl, h1, h2⟩ := hd
    simp only [initS] at h
    rw [look_cons] at h
    split at h
    · rename_i e
      simp only [Option.some.injEq] at h
      subst h
      subst e
      exact ⟨v, Nat.le_refl _, by simp, datV_rel h1⟩
    · rename_i e
      obtain ⟨u, h3, h4, h5⟩ := initS_slots h2 j t h
      refine ⟨u, by omega, ?_, h5⟩
      rw [show j - i = (j - (i + 1)) + 1 by omega]
      exact h4

theorem DatVs.length {w : World} {Z : Nat → Prop} : ∀ {as : List Sh} {x : TsS as} {vals : List Value}, DatVs w Z as x vals → vals.length = as.length
  | [], _, _, h => by simp only [DatVs] at h; subst h; rfl
  | _ :: _, _, _, h => by simp only [DatVs] at h; obtain ⟨v, vs', rfl, _, h2⟩ := h; simp [DatVs.length h2]
theorem FnVs.length {P : Program} {w : World} {Z : Nat → Prop} : ∀ {as : List (List Sh × Sh)} {x : TsF as} {vals : List Value}, FnVs P w Z as x vals → vals.length = as.length
  | [], _, _, h => by simp only [FnVs] at h; subst h; rfl
  | _ :: _, _, _, h => by simp only [FnVs] at h; obtain ⟨v, vs', rfl, _, h2⟩ := h; simp [FnVs.length h2]
theorem RefVs.length {w : World} {Z : Nat → Prop} : ∀ {as : List Sh} {x : TsS as} {vals : List Value}, RefVs w Z as x vals → vals.length = as.length
  | [], _, _, h => by simp only [RefVs] at h; subst h; rfl
  | _ :: _, _, _, h => by simp only [RefVs] at h; obtain ⟨v, vs', rfl, _, h2⟩ := h; simp [RefVs.length h2]

theorem initF_slots (hE : E.w0 = E.w) (hZ : E.Z0 = E.Z) : ∀ {as : List (List Sh × Sh)} {x : TsF as} {vals : List Value} {i : Nat}, FnVs E.P E.w E.Z as x vals → ∀ j t, look (initF as x i) j = some (some t) → ∃ v, i ≤ j ∧ vals[j - i]? = some v ∧ RelS E t v
  | [], _, _, i, _, j, t, h => by simp [initF, look] at h
  | s :: r, x, vals, i, hd, j, t, h => by
    simp only [FnVs] at hd
    obtain ⟨v, vs', rfl, h1, h2⟩ := hd
    simp only [initF] at h
    rw [look_cons] at h
    split at h
    · rename_i e
      simp only [Option.some.injEq] at h
      subst h
      subst e
      refine ⟨v, Nat.le_refl _, by simp, ⟨[v], rfl, ⟨?_, trivial⟩, fun _ => rfl⟩⟩
      show FnV E.P E.w0 E.Z0 s.1 s.2 x.1 v
      rw [hE, hZ]
      exact h1
    · rename_i e
      obtain ⟨u, h3, h4, h5⟩ := initF_slots hE hZ h2 j t h
      refine ⟨u, by omega, ?_, h5⟩
      rw [show j - i = (j - (i + 1)) + 1 by omega]
      exact h4

theorem initC_slots (hE : E.w0 = E.w) : ∀ {as : List Sh} {x : TsS as} {vals : List Value} {i : Nat}, RefVs E.w E.Z as x vals → ∀ j t, look (initC as x i) j = some (some t) → ∃ v, i ≤ j ∧ vals[j - i]? = some v ∧ RelS E t v
  | [], _, _, i, _, j, t, h => by simp [initC, look] at h
  | s :: r, x, vals, i, hd, j, t, h => by
    simp only [RefVs] at hd
    obtain ⟨v, vs', rfl, h1, h2⟩ := hd
    simp only [initC] at h
    rw [look_cons] at h
    split at h
    · rename_i e
      simp only [Option.some.injEq] at h
      subst h
      subst e
      obtain ⟨b, cs, rfl, hb, hd', hc⟩ := h1
      refine ⟨.pointer (some ⟨b, 0, none⟩), Nat.le_refl _, by simp, ⟨[.pointer (some ⟨b, 0, none⟩)], rfl, ⟨⟨⟨b, 0, none⟩, cs, by simp [Addr.add], .inr (by rw [hE]; exact hb), hd', fun j u hj => by rw [add_lit, Nat.zero_add]; exact hc j u hj⟩, trivial⟩, fun _ => rfl⟩⟩
    · rename_i e
      obtain ⟨u, h3, h4, h5⟩ := initC_slots hE h2 j t h
      refine ⟨u, by omega, ?_, h5⟩
      rw [show j - i = (j - (i + 1)) + 1 by omega]
      exact h4

theorem look_append_or {α : Type} {i : Nat} : ∀ {l m : List (Nat × α)} {x : α}, look (l ++ m) i = some x → look l i = some x ∨ look m i = some x
  | [], m, x, h => .inr h
  | p :: r, m, x, h => by
    rw [List.cons_append, look_cons] at h
    rw [look_cons]
    split at h
    · exact .inl (by rw [if_pos (by assumption)]; exact h)
    · rw [if_neg (by assumption)]
      exact look_append_or h

theorem retV_mono {w : World} {Z Z' : Nat → Prop} (hZ : ∀ b, Z b → Z' b) {r : RSh} {x : r.T} {v : Value} (h : RetV w Z r x v) : RetV w Z' r x v := by
  have one : ∀ {s : Sh} {x : s.T} {v : Value}, DatV w Z s x v → DatV w Z' s x v := fun ⟨cs, h1, h2, h3⟩ => ⟨cs, Dat.mono hZ (fun _ _ => rfl) h1, h2, h3⟩
  cases r with
  | one s => exact one h
  | tup l =>
    obtain ⟨vs, h1, h2⟩ := h
    refine ⟨vs, h1, ?_⟩
    clear h1
    induction l generalizing vs with
    | nil => exact h2
    | cons s r ih =>
      simp only [DatVs] at h2 ⊢
      obtain ⟨v, vs', h3, h4, h5⟩ := h2
      exact ⟨v, vs', h3, one h4, ih (x := x.2) vs' h5⟩

theorem Ctr.of_exec {C : Ctx} (hC : C.ok) (hmix : C.P.follows .mixedOrders = true) {f : FuncId} {fn : Func} {code : Code} {c : Ctr} (hf : C.P.funcs[f]? = some fn) (hb : fn.body = some code) (hn : c.as.length + c.fs.length + c.cs.length ≤ fn.ntmps)
    (lp : TsS c.as → TsF c.fs → TsS c.cs → Nat → Option Loop) (h : ∀ x F y, c.pre x F y → exec C fn.ntmps (lp x F y) code (c.init x F y) (post C.P c fn.results (c.m x F y))) : c.ok C.P f := by
  intro x F y hp w Z vals fvals cvals hZ h1 h2 h3
  refine calls_of_wp hf hb ?_
  let E : Env := { P := C.P, w0 := w, Z0 := Z, w := w, Z := Z, β := fun _ => 0, L := fun _ => False, ρ := fun _ => undef, R := fun _ => False }
  have l1 := h1.length
  have l2 := h2.length
  have l3 := h3.length
  have hm : Mod fn.ntmps E { tmps := (vals ++ fvals ++ cvals).toArray ++ Array.replicate (fn.ntmps - (vals ++ fvals ++ cvals).toArray.size) undef, defers := [] } (c.init x F y).look := by
    refine ⟨⟨Below.refl _ _, hZ, fun _ h => h, fun _ h => .inl h, fun b hb => hb.elim, fun r hr => hr.elim, fun i l hi => by simp [Ctr.init, St.look, look] at hi, fun i j l l' hi => by simp [Ctr.init, St.look, look] at hi,
      fun i r b hi => by simp [Ctr.init, St.look, look] at hi, fun i j r r' b hi => by simp [Ctr.init, St.look, look] at hi⟩, rfl, ?_, fun i t hi => ?_, fun i l hi => by simp [Ctr.init, St.look, look] at hi, fun i r hi => by simp [Ctr.init, St.look, look] at hi⟩
    · simp only [Array.size_append, List.size_toArray, List.length_append, Array.size_replicate]
      omega
    · have get : ∀ v, (vals ++ fvals ++ cvals)[i]? = some v → ((vals ++ fvals ++ cvals).toArray ++ Array.replicate (fn.ntmps - (vals ++ fvals ++ cvals).toArray.size) undef)[i]? = some v := fun v hv => by
        have hlt := (List.getElem?_eq_some_iff.1 hv).1
        rw [Array.getElem?_append_left (by simpa using hlt)]
        simpa using hv
      simp only [St.look, lookS] at hi
      split at hi
      · rename_i t' hl
        injection hi with hi
        subst hi
        simp only [Ctr.init] at hl
        rcases look_append_or hl with hl | hl
        · rcases look_append_or hl with hl | hl
          · obtain ⟨v, h4, h5, h6⟩ := initS_slots (E := E) h1 i t' hl
            refine ⟨v, get v ?_, h6⟩
            rw [Nat.sub_zero] at h5
            have hlt := (List.getElem?_eq_some_iff.1 h5).1
            rw [List.append_assoc, List.getElem?_append_left hlt]
            exact h5
          · obtain ⟨v, h4, h5, h6⟩ := initF_slots (E := E) rfl rfl h2 i t' hl
            refine ⟨v, get v ?_, h6⟩
            have hlt := (List.getElem?_eq_some_iff.1 h5).1
            rw [List.append_assoc, List.getElem?_append_right (by omega), List.getElem?_append_left (by omega), l1]
            exact h5
        · obtain ⟨v, h4, h5, h6⟩ := initC_slots (E := E) rfl h3 i t' hl
          refine ⟨v, get v ?_, h6⟩
          rw [List.getElem?_append_right (by simp; omega)]
          simp only [List.length_append, l1, l2]
          exact h5
      · cases hi
  refine exec_ok hC hmix (h x F y hp) (E := E) rfl hm fun e σ' E' a' hk hs hm' => ?_
  have hP : E'.P = C.P := hs.P
  have h0 : E'.w0 = w := hs.w0
  have hz0 : E'.Z0 = Z := hs.Z0
  have done : ∀ vs, resS C.P σ'.look fn.results.toList = some vs → retOk c.r vs (c.m x F y) → a'.defers = [] ∧ ∃ v, (results fn a'.tmps).run C.P E'.w = .ok v E'.w ∧ ∃ u, Ending.returned v = .returned u ∧ RetV E'.w (fresh Z w E'.w) c.r (c.m x F y) u ∧ Below w.heap.size w E'.w := by
    intro vs hvs hok
    rw [← hP] at hvs
    obtain ⟨us, hu1, hu2⟩ := results_run hm' hvs
    rw [hP] at hu2
    refine ⟨hm'.nodef, _, hu2, _, rfl, retV_mono (fun b hb => ?_) (retOk_rel hok hu1), ?_⟩
    · rcases hm'.glob.zfrom b hb with h | h
      · exact .inl (by rw [← hz0]; exact h)
      · exact .inr ⟨by rw [h0] at h; exact h, hm'.glob.zlt b hb⟩
    · have := hm'.glob.below
      rw [h0] at this
      exact this
  cases e with
  | normal =>
    simp only [post] at hk
    split at hk
    · rename_i vs hvs
      exact done vs hvs hk
    · exact hk.elim
  | ret =>
    simp only [post] at hk
    split at hk
    · rename_i vs hvs
      exact done vs hvs hk
    · exact hk.elim
  | exit i => exact hk.elim

/-! ### Contexts as lists -/

def ctxOf (P : Program) (sh : TypeId → Option Sh) (l : List (Nat × Ctr)) : Ctx := ⟨P, sh, look l⟩

theorem ctxOf_nil {P : Program} {sh : TypeId → Option Sh} : (ctxOf P sh []).ok := fun _ _ h => by cases h

theorem ctxOf_cons {P : Program} {sh : TypeId → Option Sh} {l : List (Nat × Ctr)} {f : FuncId} {c : Ctr} (h : (ctxOf P sh l).ok) (hc : callable P f = true) (ho : c.ok P f) : (ctxOf P sh ((f, c) :: l)).ok := fun id d hd => by
  simp only [ctxOf] at hd
  rw [look_cons] at hd
  split at hd
  · rename_i e
    injection hd with hd
    subst hd
    subst e
    exact ⟨hc, ho⟩
  · exact h id d hd

end
end Sx
end Go.Proofs.Ytniibhkddipcjaa
