/- A symbolic executor: states; regions in the order of the text, and in whatever order their edges allow. -/
import Derived.Test.YtniibhkddipcjaaSxH
namespace Go.Proofs.Ytniibhkddipcjaa
namespace Sx
open Go.RowKit

structure St where
  s : List (Nat × Option SlotV)
  h : List (Nat × List At)
  r : List (Nat × Option RowI)
  next : Nat

def look {α : Type} : List (Nat × α) → Nat → Option α
  | [], _ => none
  | (j, x) :: r, i => match Nat.beq j i with
    | true => some x
    | false => look r i

def lookS (l : List (Nat × Option SlotV)) (i : Nat) : Option SlotV := match look l i with
  | some (some s) => some s
  | _ => none

def St.look (σ : St) : Look := { s := lookS σ.s, h := Sx.look σ.h, r := Sx.look σ.r }

theorem look_cons {α : Type} (j : Nat) (x : α) (r : List (Nat × α)) (i : Nat) : look ((j, x) :: r) i = if i = j then some x else look r i := by
  simp only [look]
  split
  · rename_i h
    have h : j = i := by simpa using h
    rw [if_pos h.symm]
  · rename_i h
    have h : j ≠ i := by intro e; subst e; simp at h
    rw [if_neg (Ne.symm h)]

def St.putS (σ : St) (d : Nat) (s : SlotV) : St := { σ with s := (d, some s) :: σ.s }
def St.app (σ : St) : Eff → St
  | .none => σ
  | .alloc b l => { σ with h := (b, l) :: σ.h }
  | .store b l => { σ with h := (b, l) :: σ.h }
  | .row k r (some o) => { σ with r := (k, some r) :: (o, none) :: σ.r }
  | .row k r none => { σ with r := (k, some r) :: σ.r }
  | .rset k r => { σ with r := (k, some r) :: σ.r }
def St.plan (σ : St) (pl : Plan) : St := match pl.s with
  | some (d, s) => (σ.app pl.eff).putS d s
  | none => σ.app pl.eff

theorem putS_look (σ : St) (d : Nat) (s : SlotV) : (σ.putS d s).look = σ.look.setS d (some s) := by
  simp only [St.putS, St.look, Look.setS]
  congr 1
  funext i
  simp only [lookS, look_cons]
  by_cases h : i = d
  · simp [h]
  · simp [h]

theorem app_look (σ : St) (e : Eff) : (σ.app e).look = σ.look.app e := by
  cases e with
  | none => rfl
  | alloc b l => simp only [St.app, St.look, Look.app, Look.setH]; congr 1; funext i; exact look_cons _ _ _ _
  | store b l => simp only [St.app, St.look, Look.app, Look.setH]; congr 1; funext i; exact look_cons _ _ _ _
  | row k r o =>
    cases o with
    | none => simp only [St.app, St.look, Look.app, Look.setR]; congr 1; funext i; exact look_cons _ _ _ _
    | some o => simp only [St.app, St.look, Look.app, Look.setR]; congr 1; funext i; simp only [look_cons]
  | rset k r => simp only [St.app, St.look, Look.app, Look.setR]; congr 1; funext i; exact look_cons _ _ _ _

theorem plan_look (σ : St) (pl : Plan) : (σ.plan pl).look = σ.look.plan pl := by
  unfold St.plan Look.plan
  cases pl.s with
  | none => exact app_look σ pl.eff
  | some d => simp only [putS_look, app_look]

/-! ### What a region's operations do, one behind the other -/

structure Ent where
  looks : List Nat
  tb : List Nat
  deps : List Nat
  pl : Plan

def idsA : At → List Nat
  | .ptr b _ => [b]
  | .clo _ cap => cap.map (·.1)
  | _ => []
def idsL : List At → List Nat
  | [] => []
  | x :: r => idsA x ++ idsL r
def idsT : List (Bool × List At) → List Nat
  | [] => []
  | x :: r => idsL x.2 ++ idsT r
def idsS : SV → List Nat
  | .c _ l => idsL l
  | .tup l => idsT l
def idsO (sl : Nat → Option SlotV) : List Operand → List Nat
  | [] => []
  | x :: r => match getS sl x with
    | some s => idsS s ++ idsO sl r
    | none => idsO sl r

def memN (i : Nat) : List Nat → Bool
  | [] => false
  | j :: r => match Nat.beq i j with
    | true => true
    | false => memN i r
theorem memN_iff {i : Nat} : ∀ {l : List Nat}, memN i l = true ↔ i ∈ l
  | [] => by simp [memN]
  | j :: r => by
    simp only [memN]
    split
    · rename_i h
      have h : i = j := by simpa using h
      simp [h]
    · rename_i h
      have h : i ≠ j := by intro e; subst e; simp at h
      simp [memN_iff (l := r), h]

def bkT (tb : List Nat) (h : Nat → Option (List At)) (i : Nat) : Option (List At) := match memN i tb with
  | true => h i
  | false => none

def regOps (C : Ctx) (N : Nat) (ops : Array Oper) : List Oper → St → Option (List Ent × St)
  | [], σ => some ([], σ)
  | o :: r, σ => match stepOp C N ops σ.look.s (bkT (σ.next :: idsO σ.look.s o.op.operands.toList) σ.look.h) σ.next o with
    | some pl => match regOps C N ops r { σ.plan pl with next := σ.next + 1 } with
      | some (es, σ') => some (⟨o.looksAt ops, σ.next :: idsO σ.look.s o.op.operands.toList, (o.after.toList.filter (Region.binds .any)).map (·.on), pl⟩ :: es, σ')
      | none => none
    | none => none

def propsE : List Ent → List Prop
  | [] => []
  | e :: r => e.pl.p ++ propsE r

theorem look_next (σ : St) (n : Nat) : ({ σ with next := n } : St).look = σ.look := rfl

section
variable {N : Nat} {E : Env} {a : Act}

theorem bkT_sub {tb : List Nat} {h : Nat → Option (List At)} {i : Nat} {l : List At} (hh : bkT tb h i = some l) : i ∈ tb ∧ h i = some l := by
  unfold bkT at hh
  split at hh
  · rename_i hm
    exact ⟨memN_iff.1 hm, hh⟩
  · cases hh
theorem bkT_none {tb : List Nat} {h : Nat → Option (List At)} {i : Nat} (hi : i ∈ tb) (hh : bkT tb h i = none) : h i = none := by
  unfold bkT at hh
  rw [memN_iff.2 hi] at hh
  exact hh

/-- A region whose order is the text's. -/
theorem seq_ok {C : Ctx} (hC : C.ok) {ops : Array Oper} {Q : Exit → Act → World → Prop} : ∀ {l : List Oper} {σ σ' : St} {es : List Ent} {E : Env} {a : Act}, regOps C N ops l σ = some (es, σ') → allP (propsE es) → E.P = C.P →
    Mod N E a σ.look → (∀ E' a', Same E E' → Mod N E' a' σ'.look → Q .normal a' E'.w) → wpList C.P ops Q l a E.w
  | [], σ, σ', es, E, a, h, hp, hP, hm, hQ => by
    simp only [regOps, Option.some.injEq, Prod.mk.injEq] at h
    obtain ⟨_, rfl⟩ := h
    exact hQ E a rfl hm
  | o :: r, σ, σ', es, E, a, h, hp, hP, hm, hQ => by
    simp only [regOps] at h
    split at h
    · rename_i pl hpl
      split at h
      · rename_i es' σ'' hr
        simp only [Option.some.injEq, Prod.mk.injEq] at h
        obtain ⟨rfl, rfl⟩ := h
        obtain ⟨hp1, hp2⟩ := allP_append hp
        have hs := step_ok (K := wpList C.P ops Q r) (Q := Q) (X := o.asks C.P a E.w ∧ LetsOut Q) hC hP hpl hp1 hm (fun _ _ => rfl) (fun i l hi => (bkT_sub hi).2) (fun hb => bkT_none (by simp) hb)
          (fun E' a' h0 hm' => seq_ok hC hr hp2 (h0.P.trans hP) (by rw [look_next, plan_look]; exact hm') fun E'' a'' h1 hm'' => hQ E'' a'' (h0.trans h1) hm'')
        unfold wpList
        exact hs
      · cases h
    · cases h
end
end Sx
end Go.Proofs.Ytniibhkddipcjaa
