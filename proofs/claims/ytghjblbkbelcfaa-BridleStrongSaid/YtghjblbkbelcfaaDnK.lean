/- A symbolic executor: states made general (at a loop's head, where two ways meet, behind a function that is walked in place): data of patterns in place of what slots, blocks and rows hold. -/
import Derived.Test.YtghjblbkbelcfaaDnJ
namespace Go.Proofs.Ytghjblbkbelcfaa
namespace Dn
noncomputable section
open Go.RowKit

/-! ### Patterns -/

/-- A part of a value: a datum of a shape, or a row of the call's own. -/
inductive Pat where
  | d (s : Sh)
  | row (t : TypeId) (e : Sh)

abbrev Pat.T : Pat → Type
  | .d s => s.T
  | .row _ e => List e.T

abbrev TsPr : List Pat → Type → Type
  | [], X => X
  | p :: r, X => p.T × TsPr r X

def restP : (ps : List Pat) → {X : Type} → TsPr ps X → X
  | [], _, x => x
  | _ :: r, _, x => restP r x.2

def cellsP : (ps : List Pat) → {X : Type} → TsPr ps X → Nat → List At
  | [], _, _, _ => []
  | .d s :: r, _, x, k => Sh.cells s x.1 ++ cellsP r x.2 k
  | .row _ _ :: r, _, x, k => .row k :: cellsP r x.2 (k + 1)

def rowsP : (ps : List Pat) → {X : Type} → TsPr ps X → Nat → List (Nat × RowI)
  | [], _, _, _ => []
  | .d _ :: r, _, x, k => rowsP r x.2 k
  | .row t e :: r, _, x, k => (k, ⟨t, e, x.1.length, x.1⟩) :: rowsP r x.2 (k + 1)

def cntP : List Pat → Nat
  | [] => 0
  | .d _ :: r => cntP r
  | .row _ _ :: r => cntP r + 1

/-- The elements of a row of the call's own, of a type and a shape; nil has none. -/
def rowOf (rk : Rk) (t : TypeId) (e : Sh) : At → Option (List e.T)
  | .row q => match rk q with
    | some (some ri) => match Nat.beq ri.t t, Sh.eq? ri.e e with
      | true, some ⟨h⟩ => some (h ▸ ri.l)
      | _, _ => none
    | _ => none
  | .v (.slice none 0 0) => some []
  | _ => none
def srcA : At → Option Nat
  | .row q => some q
  | _ => none

def readP (rk : Rk) : (ps : List Pat) → List At → {X : Type} → X → Option (TsPr ps X)
  | [], [], _, y => some y
  | [], _ :: _, _, _ => none
  | .d s :: r, l, _, y => match s.take l with
    | some (x, l') => match readP rk r l' y with
      | some z => some (x, z)
      | none => none
    | none => none
  | .row t e :: r, a :: l, _, y => match rowOf rk t e a, readP rk r l y with
    | some x, some z => some (x, z)
    | _, _ => none
  | .row _ _ :: _, [], _, _ => none

/-- The rows that the pattern's rows are. -/
def srcP : List Pat → List At → List (Option Nat)
  | [], _ => []
  | .d s :: r, l => srcP r (l.drop s.size)
  | .row _ _ :: r, a :: l => srcA a :: srcP r l
  | .row _ _ :: r, [] => srcP r []

inductive Plc where
  | slot (i : Nat) (ag : Bool)
  | blk (b : Nat)
  | row (q : Nat)

/-- How many new rows a place has; the row itself, where its elements alone are told. -/
def cntE : Plc → List Pat → Nat
  | .row _, _ => 0
  | _, ps => cntP ps
def rowsE : Plc → (ps : List Pat) → {X : Type} → TsPr ps X → Nat → List (Nat × RowI)
  | .row q, .row t e :: _, _, x, _ => [(q, ⟨t, e, x.1.length, x.1⟩)]
  | .row _, _, _, _, _ => []
  | .slot _ _, ps, _, x, k => rowsP ps x k
  | .blk _, ps, _, x, k => rowsP ps x k
def rowsOf : List (Plc × List Pat) → List Nat
  | [] => []
  | (.row q, _) :: r => q :: rowsOf r
  | (.slot _ _, _) :: r => rowsOf r
  | (.blk _, _) :: r => rowsOf r

abbrev TsR : List (Plc × List Pat) → Type
  | [] => Unit
  | p :: r => TsPr p.2 (TsR r)

def instS : (rh : List (Plc × List Pat)) → TsR rh → Nat → List (Nat × Option SlotV)
  | [], _, _ => []
  | (.slot i ag, ps) :: r, x, k => (i, some ⟨none, .c ag (cellsP ps x k)⟩) :: instS r (restP ps x) (k + cntP ps)
  | (.blk _, ps) :: r, x, k => instS r (restP ps x) (k + cntP ps)
  | (.row _, ps) :: r, x, k => instS r (restP ps x) k
def instB : (rh : List (Plc × List Pat)) → TsR rh → Nat → List (Nat × List At)
  | [], _, _ => []
  | (.slot _ _, ps) :: r, x, k => instB r (restP ps x) (k + cntP ps)
  | (.blk b, ps) :: r, x, k => (b, cellsP ps x k) :: instB r (restP ps x) (k + cntP ps)
  | (.row _, ps) :: r, x, k => instB r (restP ps x) k
def instR : (rh : List (Plc × List Pat)) → TsR rh → Nat → List (Nat × RowI)
  | [], _, _ => []
  | (p, ps) :: r, x, k => rowsE p ps x k ++ instR r (restP ps x) (k + cntE p ps)
def cntR : List (Plc × List Pat) → Nat
  | [] => 0
  | (p, ps) :: r => cntE p ps + cntR r

def cellsAt (σ : St) : Plc → Option (List At)
  | .slot i ag => match lookS σ.s i with
    | some ⟨none, .c ag' l⟩ => match ag == ag' with
      | true => some l
      | false => none
    | _ => none
  | .blk b => look σ.h b
  | .row q => some [.row q]

def readR (σ : St) : (rh : List (Plc × List Pat)) → Option (TsR rh)
  | [] => some ()
  | (p, ps) :: r => match cellsAt σ p, readR σ r with
    | some l, some y => readP (look σ.r) ps l y
    | _, _ => none
def srcR (σ : St) : List (Plc × List Pat) → List (Option Nat)
  | [] => []
  | (.row _, _) :: r => srcR σ r
  | (.slot i ag, ps) :: r => match cellsAt σ (.slot i ag) with
    | some l => srcP ps l ++ srcR σ r
    | none => srcR σ r
  | (.blk b, ps) :: r => match cellsAt σ (.blk b) with
    | some l => srcP ps l ++ srcR σ r
    | none => srcR σ r

/-- The patterns of a place in the code: slots, and blocks by the slots that hold their addresses. -/
structure Hd where
  sl : List (Nat × Bool × List Pat)
  bk : List (Nat × List Pat) := []
  rw : List (Nat × Option Nat × TypeId × Sh) := []

def plcS : List (Nat × Bool × List Pat) → List (Plc × List Pat)
  | [] => []
  | p :: r => (.slot p.1 p.2.1, p.2.2) :: plcS r
def plcB (σ : St) : List (Nat × List Pat) → Option (List (Plc × List Pat))
  | [] => some []
  | p :: r => match lookS σ.s p.1, plcB σ r with
    | some ⟨none, .c false [.ptr b 0]⟩, some l => some ((.blk b, p.2) :: l)
    | _, _ => none
/-- Rows whose elements change in place: by the slots that hold them, or the cells of blocks. -/
def plcW (σ : St) : List (Nat × Option Nat × TypeId × Sh) → Option (List (Plc × List Pat))
  | [] => some []
  | (i, none, t, e) :: r => match lookS σ.s i, plcW σ r with
    | some ⟨none, .c false [.row q]⟩, some l => some ((.row q, [.row t e]) :: l)
    | _, _ => none
  | (i, some o, t, e) :: r => match lookS σ.s i, plcW σ r with
    | some ⟨none, .c false [.ptr b 0]⟩, some l => match look σ.h b with
      | some cs => match cs[o]? with
        | some (.row q) => some ((.row q, [.row t e]) :: l)
        | _ => none
      | none => none
    | _, _ => none
def Hd.at (hd : Hd) (σ : St) : Option (List (Plc × List Pat)) := match plcB σ hd.bk, plcW σ hd.rw with
  | some l, some m => some (plcS hd.sl ++ (l ++ m))
  | _, _ => none

def somes : List (Option Nat) → List Nat
  | [] => []
  | some q :: r => q :: somes r
  | none :: r => somes r
def slotsOf : List (Plc × List Pat) → List Nat
  | [] => []
  | (.slot i _, _) :: r => i :: slotsOf r
  | (.blk _, _) :: r => slotsOf r
  | (.row _, _) :: r => slotsOf r
def blksOf : List (Plc × List Pat) → List Nat
  | [] => []
  | (.slot _ _, _) :: r => blksOf r
  | (.blk b, _) :: r => b :: blksOf r
  | (.row _, _) :: r => blksOf r

def dropK {α : Type} (W : List Nat) : List (Nat × α) → List (Nat × α)
  | [] => []
  | p :: r => match memN p.1 W with
    | true => dropK W r
    | false => p :: dropK W r
def keysBut {α : Type} (W : List Nat) : List (Nat × α) → List Nat
  | [] => []
  | p :: r => match memN p.1 W with
    | true => keysBut W r
    | false => p.1 :: keysBut W r
def lift {α : Type} : List (Nat × α) → List (Nat × Option α)
  | [] => []
  | p :: r => (p.1, some p.2) :: lift r
def kills {α : Type} : List Nat → List (Nat × Option α)
  | [] => []
  | q :: r => (q, none) :: kills r

/-- The state that a place begins with: 'W': slots that may have been written; 'srcs': the rows that its rows were at first. -/
def head (rh : List (Plc × List Pat)) (W : List Nat) (srcs : List Nat) (σ : St) (x : TsR rh) : St :=
  { s := instS rh x σ.next ++ dropK W σ.s, h := instB rh x σ.next ++ σ.h, r := lift (instR rh x σ.next) ++ (kills srcs ++ σ.r), next := σ.next + cntR rh,
    ro := keysBut (blksOf rh) σ.h ++ σ.ro, roR := keysBut (rowsOf rh ++ srcs) σ.r ++ σ.roR }

/-! ### What is asked of a place -/

def nodupN : List Nat → Bool
  | [] => true
  | q :: r => !memN q r && nodupN r
def freshN {α : Type} (l : List (Nat × α)) (k : Nat) : Nat → Bool
  | 0 => true
  | n + 1 => (match look l k with
    | none => freshN l (k + 1) n
    | some _ => false)
def hasK {α : Type} (i : Nat) : List (Nat × α) → Bool
  | [] => false
  | p :: r => Nat.beq p.1 i || hasK i r
def allIn {α : Type} (l : List (Nat × α)) : List Nat → Bool
  | [] => true
  | i :: r => hasK i l && allIn l r
def okSlots (σ : St) : List (Nat × Option SlotV) → Bool
  | [] => true
  | (_, none) :: r => okSlots σ r
  | (_, some s) :: r => allIn σ.h (idsS s.s) && allIn σ.r (ridsS s.s) && okSlots σ r
def okBlks (σ : St) : List (Nat × List At) → Bool
  | [] => true
  | p :: r => allIn σ.h (idsL p.2) && allIn σ.r (ridsL p.2) && okBlks σ r
/-- What is kept names only what there is; the new rows' numbers are new; nothing is changed that may not be. -/
def placeOk (rh : List (Plc × List Pat)) (W : List Nat) (srcs : List Nat) (σ : St) : Bool :=
  okSlots σ (dropK W σ.s) && okBlks σ σ.h && freshN σ.r σ.next (cntR rh) && offL σ.ro (blksOf rh) && offL σ.roR srcs && nodupN (blksOf rh) && (offL σ.roR (rowsOf rh) && nodupN (rowsOf rh) && allIn σ.r (rowsOf rh) && offL (rowsOf rh) srcs)
/-- A state that has come to a place has the place's data, with rows of its own. -/
def readOk (rh : List (Plc × List Pat)) (roR : List Nat) (σ' : St) : Bool := nodupN (somes (srcR σ' rh)) && offL roR (somes (srcR σ' rh)) && offL (rowsOf rh) (somes (srcR σ' rh))

def readAt (rh : List (Plc × List Pat)) (roR : List Nat) (σ' : St) : Option (TsR rh) := match readOk rh roR σ' with
  | true => readR σ' rh
  | false => none

/-! ### Soundness -/

section
variable {N : Nat} {E : Env} {a : Act}

theorem hasK_look {α : Type} {i : Nat} : ∀ {l : List (Nat × α)}, hasK i l = true → (look l i).isSome = true
  | p :: r, h => by
    simp only [hasK, Bool.or_eq_true] at h
    rw [look_cons]
    by_cases hp : i = p.1
    · rw [if_pos hp]; rfl
    · rw [if_neg hp]
      refine hasK_look (h.resolve_left fun h' => hp ?_)
      have : p.1 = i := by simpa using h'
      exact this.symm
theorem allIn_look {α : Type} {l : List (Nat × α)} : ∀ {r : List Nat}, allIn l r = true → ∀ i ∈ r, (look l i).isSome = true
  | j :: r, h, i, hi => by
    simp only [allIn, Bool.and_eq_true] at h
    rcases List.mem_cons.1 hi with rfl | hi
    · exact hasK_look h.1
    · exact allIn_look h.2 i hi
theorem look_mem {α : Type} {i : Nat} : ∀ {l : List (Nat × α)} {x : α}, look l i = some x → (i, x) ∈ l
  | p :: r, x, h => by
    rw [look_cons] at h
    split at h
    · rename_i e
      injection h with h
      rw [e, ← h]
      simp
    · exact List.mem_cons_of_mem _ (look_mem h)
theorem look_append {α : Type} {i : Nat} : ∀ {l m : List (Nat × α)}, look (l ++ m) i = match look l i with | some x => some x | none => look m i
  | [], m => rfl
  | p :: r, m => by
    rw [List.cons_append, look_cons, look_cons]
    split
    · rfl
    · exact look_append
theorem look_dropK {α : Type} {W : List Nat} {i : Nat} : ∀ {l : List (Nat × α)} {x : α}, look (dropK W l) i = some x → look l i = some x ∧ i ∉ W
  | [], x, h => by simp [dropK, look] at h
  | p :: r, x, h => by
    simp only [dropK] at h
    split at h
    · rename_i hm
      obtain ⟨h1, h2⟩ := look_dropK h
      refine ⟨?_, h2⟩
      rw [look_cons, if_neg (fun e => h2 (by rw [e]; exact memN_iff.1 hm))]
      exact h1
    · rename_i hm
      rw [look_cons] at h ⊢
      split at h
      · rename_i e
        exact ⟨by rw [if_pos e]; exact h, fun hw => by rw [e, ← memN_iff, hm] at hw; cases hw⟩
      · rename_i e
        rw [if_neg e]
        exact look_dropK h
theorem look_off_dropK {α : Type} {W : List Nat} {i : Nat} (hi : i ∉ W) : ∀ {l : List (Nat × α)}, look (dropK W l) i = look l i
  | [] => rfl
  | p :: r => by
    simp only [dropK]
    split
    · rename_i hm
      rw [look_cons, if_neg (fun e => hi (by rw [e]; exact memN_iff.1 hm))]
      exact look_off_dropK hi
    · rw [look_cons, look_cons, look_off_dropK hi]
theorem keysBut_mem {α : Type} {W : List Nat} {i : Nat} : ∀ {l : List (Nat × α)}, i ∉ W → (look l i).isSome = true → i ∈ keysBut W l
  | [], _, h => by cases h
  | p :: r, hw, h => by
    rw [look_cons] at h
    simp only [keysBut]
    split at h
    · rename_i e
      subst e
      split
      · rename_i hm; exact absurd (memN_iff.1 hm) hw
      · simp
    · split
      · exact keysBut_mem hw h
      · exact List.mem_cons_of_mem _ (keysBut_mem hw h)
theorem look_lift {α : Type} {i : Nat} : ∀ {l : List (Nat × α)}, look (lift l) i = match look l i with | some x => some (some x) | none => none
  | [] => rfl
  | p :: r => by
    simp only [lift]
    rw [look_cons, look_cons]
    split
    · rfl
    · exact look_lift
theorem look_kills {α : Type} {i : Nat} : ∀ {l : List Nat}, look (kills l : List (Nat × Option α)) i = if i ∈ l then some none else none
  | [] => rfl
  | q :: r => by
    simp only [kills]
    rw [look_cons, look_kills]
    by_cases h : i = q
    · simp [h]
    · simp [h]
theorem freshN_spec {α : Type} {l : List (Nat × α)} : ∀ {n k : Nat}, freshN l k n = true → ∀ j, k ≤ j → j < k + n → look l j = none
  | 0, k, _, j, h1, h2 => by omega
  | n + 1, k, h, j, h1, h2 => by
    simp only [freshN] at h
    split at h
    · rename_i hk
      by_cases e : j = k
      · rw [e]; exact hk
      · exact freshN_spec h j (by omega) (by omega)
    · cases h
theorem nodupN_spec : ∀ {l : List Nat}, nodupN l = true → l.Nodup
  | [], _ => List.nodup_nil
  | q :: r, h => by
    simp only [nodupN, Bool.and_eq_true] at h
    exact List.nodup_cons.2 ⟨notMem h.1, nodupN_spec h.2⟩

/-! rows of patterns: numbers and sources -/

theorem rowsP_keys : ∀ {ps : List Pat} {X : Type} {x : TsPr ps X} {k i : Nat} {ri : RowI}, look (rowsP ps x k) i = some ri → k ≤ i ∧ i < k + cntP ps
  | [], _, _, _, _, _, h => by simp [rowsP, look] at h
  | .d _ :: r, _, x, k, i, ri, h => by
    simp only [rowsP, cntP] at h ⊢
    exact rowsP_keys h
  | .row t e :: r, _, x, k, i, ri, h => by
    simp only [rowsP, cntP] at h ⊢
    rw [look_cons] at h
    split at h
    · rename_i e; omega
    · have := rowsP_keys h; omega
theorem rowsP_none : ∀ {ps : List Pat} {X : Type} {x : TsPr ps X} {k i : Nat}, (k ≤ i ∧ i < k + cntP ps) → (look (rowsP ps x k) i).isSome = true
  | [], _, _, _, _, h => by simp only [cntP] at h; omega
  | .d _ :: r, _, x, k, i, h => by
    simp only [rowsP, cntP] at h ⊢
    exact rowsP_none h
  | .row t e :: r, _, x, k, i, h => by
    simp only [rowsP, cntP] at h ⊢
    rw [look_cons]
    split
    · rfl
    · exact rowsP_none (by omega)
theorem instR_keys : ∀ {rh : List (Plc × List Pat)} {x : TsR rh} {k i : Nat}, (look (instR rh x k) i).isSome = true → (k ≤ i ∧ i < k + cntR rh) ∨ i ∈ rowsOf rh
  | [], _, _, _, h => by simp [instR, look] at h
  | (p, ps) :: r, x, k, i, h => by
    simp only [instR] at h
    rw [look_append] at h
    cases hq : look (rowsE p ps x k) i with
    | some ri =>
      cases p with
      | row q =>
        refine .inr ?_
        match ps, x, hq with
        | .row t e :: _, x, hq =>
          simp only [rowsE] at hq
          rw [look_cons] at hq
          split at hq
          · rename_i e'; rw [e']; simp [rowsOf]
          · cases hq
        | [], x, hq => simp [rowsE, look] at hq
        | .d _ :: _, x, hq => simp [rowsE, look] at hq
      | slot j ag =>
        have := rowsP_keys (ps := ps) (x := x) hq
        simp only [cntR, cntE]
        exact .inl (by omega)
      | blk b =>
        have := rowsP_keys (ps := ps) (x := x) hq
        simp only [cntR, cntE]
        exact .inl (by omega)
    | none =>
      rw [hq] at h
      simp only at h
      rcases instR_keys (rh := r) h with h1 | h1
      · simp only [cntR]
        exact .inl (by omega)
      · refine .inr ?_
        cases p <;> simp [rowsOf, h1]
theorem instR_new : ∀ {rh : List (Plc × List Pat)} {x : TsR rh} {k i : Nat}, (k ≤ i ∧ i < k + cntR rh) → (look (instR rh x k) i).isSome = true
  | [], _, _, _, h => by simp only [cntR] at h; omega
  | (p, ps) :: r, x, k, i, h => by
    simp only [instR, cntR] at h ⊢
    rw [look_append]
    cases hq : look (rowsE p ps x k) i with
    | some ri => rfl
    | none =>
      simp only
      refine instR_new (rh := r) ?_
      cases p with
      | row q => simp only [cntE] at h ⊢; omega
      | slot j ag =>
        simp only [cntE] at h ⊢
        have h2 : ¬ (k ≤ i ∧ i < k + cntP ps) := fun hc => by have := rowsP_none (x := x) hc; simp only [rowsE] at hq; rw [hq] at this; cases this
        omega
      | blk b =>
        simp only [cntE] at h ⊢
        have h2 : ¬ (k ≤ i ∧ i < k + cntP ps) := fun hc => by have := rowsP_none (x := x) hc; simp only [rowsE] at hq; rw [hq] at this; cases this
        omega

/-- The source of the row with a number. -/
def srcAt : List (Option Nat) → Nat → Nat → Option (Option Nat)
  | [], _, _ => none
  | o :: r, k, i => if i = k then some o else srcAt r (k + 1) i

theorem srcAt_append {l m : List (Option Nat)} {k i : Nat} : srcAt (l ++ m) k i = match srcAt l k i with | some o => some o | none => srcAt m (k + l.length) i := by
  induction l generalizing k with
  | nil => rfl
  | cons o l ih =>
    simp only [List.cons_append, srcAt]
    split
    · rfl
    · rw [ih, List.length_cons, show k + 1 + l.length = k + (l.length + 1) by omega]
theorem srcAt_get {l : List (Option Nat)} {k i : Nat} {o : Option Nat} (h : srcAt l k i = some o) : k ≤ i ∧ l[i - k]? = some o := by
  induction l generalizing k with
  | nil => cases h
  | cons p l ih =>
    simp only [srcAt] at h
    split at h
    · rename_i e
      injection h with h
      subst h; subst e
      exact ⟨Nat.le_refl _, by simp⟩
    · obtain ⟨h1, h2⟩ := ih h
      refine ⟨by omega, ?_⟩
      rw [show i - k = (i - (k + 1)) + 1 by omega]
      simpa using h2
theorem somes_get {l : List (Option Nat)} : ∀ {i : Nat} {q : Nat}, l[i]? = some (some q) → q ∈ somes l := by
  induction l with
  | nil => intro i q h; simp at h
  | cons o l ih =>
    intro i q h
    cases i with
    | zero =>
      simp only [List.getElem?_cons_zero, Option.some.injEq] at h
      subst h
      simp [somes]
    | succ i =>
      simp only [List.getElem?_cons_succ] at h
      have := ih h
      cases o with
      | none => exact this
      | some p => exact List.mem_cons_of_mem _ this
theorem somes_inj {l : List (Option Nat)} (hn : (somes l).Nodup) : ∀ {i j q : Nat}, l[i]? = some (some q) → l[j]? = some (some q) → i = j := by
  induction l with
  | nil => intro i j q h; simp at h
  | cons o l ih =>
    intro i j q hi hj
    have hn' : (somes l).Nodup := by
      cases o with
      | none => exact hn
      | some p => exact (List.nodup_cons.1 hn).2
    cases i with
    | zero =>
      cases j with
      | zero => rfl
      | succ j =>
        simp only [List.getElem?_cons_zero, Option.some.injEq, List.getElem?_cons_succ] at hi hj
        subst hi
        exact absurd (somes_get hj) (List.nodup_cons.1 hn).1
    | succ i =>
      cases j with
      | zero =>
        simp only [List.getElem?_cons_zero, Option.some.injEq, List.getElem?_cons_succ] at hi hj
        subst hj
        exact absurd (somes_get hi) (List.nodup_cons.1 hn).1
      | succ j =>
        simp only [List.getElem?_cons_succ] at hi hj
        rw [ih hn' hi hj]

/-! ### The setting of a place -/

def Env.re (E : Env) (h : Nat → Prop) (r : Nat → Prop) (src : Nat → Option (Option Nat)) : Env :=
  { E with L := h, R := r, ρ := fun i => match src i with
      | some (some q) => E.ρ q
      | some none => .slice none 0 0
      | none => E.ρ i }

theorem RelA.re {h r : Nat → Prop} {src : Nat → Option (Option Nat)} {x : At} {v : Value} (hv : RelA E x v) (hh : ∀ i ∈ idsA x, h i) (hr : ∀ i ∈ ridsA x, r i ∧ src i = none) : RelA (E.re h r src) x v := by
  cases x with
  | u => trivial
  | v _ => exact hv
  | ptr b o => exact ⟨hv.1, hh b (by simp [idsA])⟩
  | clo g cap => exact ⟨hv.1, fun p hp => hh p.1 (List.mem_map.2 ⟨p, hp, rfl⟩)⟩
  | sl _ _ => exact hv
  | row q =>
    obtain ⟨h1, h2, h3⟩ := hv
    obtain ⟨h4, h5⟩ := hr q (by simp [ridsA])
    exact ⟨by simp only [Env.re, h5]; exact h1, h4, h3⟩
  | ae b _ _ _ _ _ => exact ⟨hv.1, hh b (by simp [idsA])⟩
  | sn _ _ => exact hv
  | rf _ _ _ => exact hv
  | re q i sz off =>
    obtain ⟨g, h1, h2, h3⟩ := hv
    obtain ⟨h4, h5⟩ := hr q (by simp [ridsA])
    exact ⟨g, by simp only [Env.re, h5]; exact h1, h2, h4⟩
  | fn _ _ _ => exact hv

theorem RelL.re {h r : Nat → Prop} {src : Nat → Option (Option Nat)} : ∀ {l : List At} {vs : List Value}, RelL E l vs → (∀ i ∈ idsL l, h i) → (∀ i ∈ ridsL l, r i ∧ src i = none) → RelL (E.re h r src) l vs
  | [], [], _, _, _ => trivial
  | _ :: _, _ :: _, hv, hh, hr => ⟨RelA.re hv.1 (fun i hi => hh i (List.mem_append_left _ hi)) (fun i hi => hr i (List.mem_append_left _ hi)), RelL.re hv.2 (fun i hi => hh i (List.mem_append_right _ hi)) (fun i hi => hr i (List.mem_append_right _ hi))⟩
  | [], _ :: _, hv, _, _ => hv.elim
  | _ :: _, [], hv, _, _ => hv.elim
theorem RelT.re {h r : Nat → Prop} {src : Nat → Option (Option Nat)} : ∀ {l : List (Bool × List At)} {vs : List Value}, RelT E l vs → (∀ i ∈ idsT l, h i) → (∀ i ∈ ridsT l, r i ∧ src i = none) → RelT (E.re h r src) l vs
  | [], [], _, _, _ => trivial
  | _ :: _, _ :: _, ⟨⟨cs, h1, h2, h3⟩, hv⟩, hh, hr => ⟨⟨cs, h1, RelL.re h2 (fun i hi => hh i (List.mem_append_left _ hi)) (fun i hi => hr i (List.mem_append_left _ hi)), h3⟩, RelT.re hv (fun i hi => hh i (List.mem_append_right _ hi)) (fun i hi => hr i (List.mem_append_right _ hi))⟩
  | [], _ :: _, hv, _, _ => hv.elim
  | _ :: _, [], hv, _, _ => hv.elim
theorem RelV.re {h r : Nat → Prop} {src : Nat → Option (Option Nat)} {s : SV} {v : Value} (hv : RelV E s v) (hh : ∀ i ∈ idsS s, h i) (hr : ∀ i ∈ ridsS s, r i ∧ src i = none) : RelV (E.re h r src) s v := by
  cases s with
  | c ag l => obtain ⟨cs, h1, h2, h3⟩ := hv; exact ⟨cs, h1, RelL.re h2 hh hr, h3⟩
  | tup l => obtain ⟨vs, h1, h2⟩ := hv; exact ⟨vs, h1, RelT.re h2 hh hr⟩
theorem RelS.re {h r : Nat → Prop} {src : Nat → Option (Option Nat)} {s : SlotV} {v : Value} (hv : RelS E s v) (hh : ∀ i ∈ idsS s.s, h i) (hr : ∀ i ∈ ridsS s.s, r i ∧ src i = none) : RelS (E.re h r src) s v := by
  unfold RelS at *
  split at hv
  · exact RelV.re hv hh hr
  · exact ⟨fun hc => RelV.re (hv.1 hc) hh hr, hv.2⟩

/-- Cells of data name no block and no row. -/
theorem cells_ids : ∀ {s : Sh} {x : s.T}, idsL (s.cells x) = [] ∧ ridsL (s.cells x) = []
  | .int _, _ => ⟨rfl, rfl⟩
  | .bool, _ => ⟨rfl, rfl⟩
  | .str, _ => ⟨rfl, rfl⟩
  | .sl _, _ => ⟨rfl, rfl⟩
  | .pair a b, x => by
    have ha := cells_ids (s := a) (x := x.1)
    have hb := cells_ids (s := b) (x := x.2)
    have app1 : ∀ l m : List At, idsL (l ++ m) = idsL l ++ idsL m := fun l m => by induction l with | nil => rfl | cons y l ih => simp [idsL, ih]
    have app2 : ∀ l m : List At, ridsL (l ++ m) = ridsL l ++ ridsL m := fun l m => by induction l with | nil => rfl | cons y l ih => simp [ridsL, ih]
    simp only [Sh.cells, app1, app2, ha, hb, List.append_nil, and_self]
  | .agg e, x => cells_ids (s := e) (x := x)

theorem take_drop : ∀ {s : Sh} {l rest : List At} {x : s.T}, s.take l = some (x, rest) → rest = l.drop s.size
  | .int k, l, rest, x, h => by
    simp only [Sh.take, takeInt] at h
    split at h
    · split at h
      · simp only [Option.some.injEq, Prod.mk.injEq] at h; rw [← h.2]; rfl
      · cases h
    · cases h
  | .bool, l, rest, x, h => by
    simp only [Sh.take, takeBool] at h
    split at h
    · simp only [Option.some.injEq, Prod.mk.injEq] at h; rw [← h.2]; rfl
    · cases h
  | .str, l, rest, x, h => by
    simp only [Sh.take, takeStr] at h
    split at h
    · simp only [Option.some.injEq, Prod.mk.injEq] at h; rw [← h.2]; rfl
    · cases h
  | .sl e, l, rest, x, h => by
    simp only [Sh.take, takeSl] at h
    split at h
    · split at h
      · simp only [Option.some.injEq, Prod.mk.injEq] at h; rw [← h.2]; rfl
      · cases h
    · split at h
      · simp only [Option.some.injEq, Prod.mk.injEq] at h; rw [← h.2]; rfl
      · cases h
    · simp only [Option.some.injEq, Prod.mk.injEq] at h; rw [← h.2]; rfl
    · cases h
  | .pair a b, l, rest, x, h => by
    simp only [Sh.take] at h
    split at h
    · rename_i y r hy
      split at h
      · rename_i z r' hz
        simp only [Option.some.injEq, Prod.mk.injEq] at h
        rw [← h.2, take_drop hz, take_drop hy, List.drop_drop]
        rfl
      · cases h
    · cases h
  | .agg e, l, rest, x, h => take_drop (s := e) h

/-- What reads as data of patterns is what the patterns say, in the setting of the place. -/
theorem readP_rel {σ : St} (hm : MemOk E σ.look) {h r : Nat → Prop} {src : Nat → Option (Option Nat)} : ∀ {ps : List Pat} {l : List At} {vs : List Value} {X : Type} {y : X} {z : TsPr ps X} {k : Nat}, readP (look σ.r) ps l y = some z → RelL E l vs →
    (∀ j o, srcAt (srcP ps l) k j = some o → r j ∧ src j = some o) → RelL (E.re h r src) (cellsP ps z k) vs ∧ restP ps z = y ∧ (srcP ps l).length = cntP ps
  | [], [], [], _, _, z, k, hz, _, _ => by
    simp only [readP, Option.some.injEq] at hz
    exact ⟨trivial, hz.symm, rfl⟩
  | [], [], _ :: _, _, _, _, _, _, hr, _ => hr.elim
  | [], _ :: _, _, _, _, _, _, hz, _, _ => by simp [readP] at hz
  | .d s :: ps, l, vs, X, y, z, k, hz, hr, hs => by
    simp only [readP] at hz
    split at hz
    · rename_i x l' hx
      split at hz
      · rename_i w hw
        injection hz with hz
        subst hz
        obtain ⟨c1, c2, rfl, hd, h2⟩ := take_rel hx hr
        have e := take_drop hx
        simp only [srcP, ← e] at hs ⊢
        obtain ⟨i1, i2, i3⟩ := readP_rel hm (h := h) (r := r) (src := src) hw h2 hs
        have hc : RelL (E.re h r src) (s.cells x) c1 := RelL.re hd.rel (fun i hi => by rw [cells_ids.1] at hi; cases hi) (fun i hi => by rw [cells_ids.2] at hi; cases hi)
        exact ⟨hc.append i1, i2, i3⟩
      · cases hz
    · cases hz
  | .row t e :: ps, a :: l, vs, X, y, z, k, hz, hr, hs => by
    simp only [readP] at hz
    split at hz
    · rename_i x w hx hw
      injection hz with hz
      subst hz
      match vs, hr with
      | v :: vs, hr =>
        simp only [srcP] at hs ⊢
        obtain ⟨i1, i2, i3⟩ := readP_rel hm (h := h) (r := r) (src := src) (k := k + 1) hw hr.2 fun j o hj => hs j o (by
          simp only [srcAt]
          rw [if_neg (fun e => by have := (srcAt_get hj).1; omega)]
          exact hj)
        obtain ⟨h1, h2⟩ := hs k (srcA a) (by simp [srcAt])
        refine ⟨⟨?_, i1⟩, i2, by simp [cntP, i3]⟩
        -- the value is the row's
        have hra := hr.1
        show v = (match src k with | some (some q) => E.ρ q | some none => .slice none 0 0 | none => E.ρ k) ∧ r k ∧ v.oneCell' = true
        rw [h2]
        unfold rowOf at hx
        split at hx
        · rename_i q
          obtain ⟨g1, g2, g3⟩ := hra
          exact ⟨g1, h1, g3⟩
        · have g1 : v = .slice none 0 0 := hra
          subst g1
          exact ⟨rfl, h1, rfl⟩
        · cases hx
    · cases hz
  | .row _ _ :: _, [], _, _, _, _, _, hz, _, _ => by simp [readP] at hz

/-- The place's rows are rows of the state. -/
theorem readP_rows {σ : St} {rk : Rk} (hrk : rk = look σ.r) : ∀ {ps : List Pat} {l : List At} {X : Type} {y : X} {z : TsPr ps X} {k : Nat}, readP rk ps l y = some z → ∀ i ri, look (rowsP ps z k) i = some ri →
    (∃ q n, srcAt (srcP ps l) k i = some (some q) ∧ look σ.r q = some (some ⟨ri.t, ri.e, n, ri.l⟩) ∧ ri.n = ri.l.length) ∨ (srcAt (srcP ps l) k i = some none ∧ ri.l = [] ∧ ri.n = ri.l.length)
  | [], _, _, _, _, _, _, i, ri, h => by simp [rowsP, look] at h
  | .d s :: ps, l, X, y, z, k, hz, i, ri, h => by
    simp only [readP] at hz
    split at hz
    · rename_i x l' hx
      split at hz
      · rename_i w hw
        injection hz with hz
        subst hz
        have e := take_drop hx
        simp only [srcP, ← e]
        exact readP_rows hrk hw i ri h
      · cases hz
    · cases hz
  | .row t e :: ps, a :: l, X, y, z, k, hz, i, ri, h => by
    simp only [readP] at hz
    split at hz
    · rename_i x w hx hw
      injection hz with hz
      subst hz
      simp only [rowsP] at h
      rw [look_cons] at h
      simp only [srcP, srcAt]
      split at h
      · rename_i hik
        injection h with h
        subst h
        rw [if_pos hik]
        unfold rowOf at hx
        split at hx
        · rename_i q
          split at hx
          · rename_i ri hri
            split at hx
            · rename_i he ht _
              obtain ⟨rt, re, rn, rl⟩ := ri
              simp only at he ht
              subst he
              have ht : rt = t := by simpa using ht
              subst ht
              injection hx with hx
              subst hx
              exact .inl ⟨q, rn, rfl, by rw [← hrk]; exact hri, rfl⟩
            · cases hx
          · cases hx
        · injection hx with hx
          subst hx
          exact .inr ⟨rfl, rfl, rfl⟩
        · cases hx
      · rename_i hik
        rw [if_neg hik]
        exact readP_rows hrk hw i ri h
    · cases hz
  | .row _ _ :: _, [], _, _, _, _, hz, _, _, _ => by simp [readP] at hz

end
end
end Dn
end Go.Proofs.Ytghjblbkbelcfaa
