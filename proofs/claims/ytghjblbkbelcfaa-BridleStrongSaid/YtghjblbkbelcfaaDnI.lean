/- A symbolic executor: states; regions in the order of the text, and in whatever order their edges allow. -/
import Derived.Test.YtghjblbkbelcfaaDnH
namespace Go.Proofs.Ytghjblbkbelcfaa
namespace Dn
open Go.RowKit
noncomputable section

structure St where
  s : List (Nat × Option SlotV)
  h : List (Nat × List At)
  r : List (Nat × Option RowI)
  next : Nat
  ro : List Nat := []
  roR : List Nat := []

def look {α : Type} : List (Nat × α) → Nat → Option α
  | [], _ => none
  | (j, x) :: r, i => match Nat.beq j i with
    | true => some x
    | false => look r i

def lookS (l : List (Nat × Option SlotV)) (i : Nat) : Option SlotV := match look l i with
  | some (some s) => some s
  | _ => none

def St.look (σ : St) : Look := { s := lookS σ.s, h := Dn.look σ.h, r := Dn.look σ.r }

theorem look_cons {α : Type} (j : Nat) (x : α) (r : List (Nat × α)) (i : Nat) : look ((j, x) :: r) i = if i = j then some x else look r i := by
  simp only [look]
  split
  · rename_i h
    have h : j = i := by simpa using h
    rw [if_pos h.symm]
  · rename_i h
    have h : j ≠ i := by intro e; subst e; simp at h
    rw [if_neg (Ne.symm h)]

theorem look_kill (l : List Nat) (m : List (Nat × Option RowI)) (i : Nat) : look (l.map (fun i => ((i, none) : Nat × Option RowI)) ++ m) i = if i ∈ l then some none else look m i := by
  induction l with
  | nil => simp
  | cons j l ih =>
    rw [List.map_cons, List.cons_append, look_cons]
    by_cases h : i = j
    · simp [h]
    · rw [if_neg h, ih]
      simp [h]

def St.putS (σ : St) (d : Nat) (s : SlotV) : St := { σ with s := (d, some s) :: σ.s }
def St.app (σ : St) : Eff → St
  | .none => σ
  | .alloc b l => { σ with h := (b, l) :: σ.h }
  | .store b l => { σ with h := (b, l) :: σ.h }
  | .row k r (some o) => { σ with r := (k, some r) :: (o, none) :: σ.r }
  | .row k r none => { σ with r := (k, some r) :: σ.r }
  | .rset k e l => match setL e l (Dn.look σ.r k) with
    | some x => { σ with r := (k, x) :: σ.r }
    | none => σ
  | .rkill l => { σ with r := l.map (fun i => (i, none)) ++ σ.r }
def St.plan (σ : St) (pl : Plan) : St := match pl.s with
  | some (d, s) => (σ.app pl.eff).putS d s
  | none => σ.app pl.eff

theorem putS_look (σ : St) (d : Nat) (s : SlotV) : (σ.putS d s).look = σ.look.setS d (some s) := by
  simp only [St.putS, St.look, Look.setS]
  congr 1
  funext i
  simp only [lookS, look_cons]
  by_cases h : i = d
  · simp [h]
  · simp [h]

theorem app_look (σ : St) (e : Eff) : (σ.app e).look = σ.look.app e := by
  cases e with
  | none => rfl
  | alloc b l => simp only [St.app, St.look, Look.app, Look.setH]; congr 1; funext i; exact look_cons _ _ _ _
  | store b l => simp only [St.app, St.look, Look.app, Look.setH]; congr 1; funext i; exact look_cons _ _ _ _
  | row k r o =>
    cases o with
    | none => simp only [St.app, St.look, Look.app, Look.setR]; congr 1; funext i; exact look_cons _ _ _ _
    | some o => simp only [St.app, St.look, Look.app, Look.setR]; congr 1; funext i; simp only [look_cons]
  | rset k e l =>
    simp only [St.app]
    split
    · rename_i x hx
      simp only [St.look, Look.app]
      congr 1
      funext i
      rw [look_cons, hx]
    · rename_i hx
      simp only [St.look, Look.app]
      congr 1
      funext i
      by_cases h : i = k
      · rw [if_pos h, hx, h]
        have : ∀ y : Option (Option RowI), setL e l y = none → y = none := fun y hy => by
          unfold setL at hy
          split at hy
          · split at hy <;> cases hy
          · exact hy
        exact this _ hx
      · rw [if_neg h]
  | rkill l => simp only [St.app, St.look, Look.app]; congr 1; funext i; exact look_kill l σ.r i

theorem plan_look (σ : St) (pl : Plan) : (σ.plan pl).look = σ.look.plan pl := by
  unfold St.plan Look.plan
  cases pl.s with
  | none => exact app_look σ pl.eff
  | some d => simp only [putS_look, app_look]

/-! ### What a region's operations do, one behind the other -/

structure Ent where
  looks : List Nat
  tb : List Nat
  tr : List Nat
  tm : Bool
  deps : List Nat
  pl : Plan

def idsA : At → List Nat
  | .ptr b _ => [b]
  | .clo _ cap => cap.map (·.1)
  | .ae b _ _ _ _ _ => [b]
  | _ => []
def idsL : List At → List Nat
  | [] => []
  | x :: r => idsA x ++ idsL r
def idsT : List (Bool × List At) → List Nat
  | [] => []
  | x :: r => idsL x.2 ++ idsT r
def idsS : SV → List Nat
  | .c _ l => idsL l
  | .tup l => idsT l
def idsO (sl : Nat → Option SlotV) : List Operand → List Nat
  | [] => []
  | x :: r => match getS sl x with
    | some s => idsS s ++ idsO sl r
    | none => idsO sl r

def memN (i : Nat) : List Nat → Bool
  | [] => false
  | j :: r => match Nat.beq i j with
    | true => true
    | false => memN i r
theorem memN_iff {i : Nat} : ∀ {l : List Nat}, memN i l = true ↔ i ∈ l
  | [] => by simp [memN]
  | j :: r => by
    simp only [memN]
    split
    · rename_i h
      have h : i = j := by simpa using h
      simp [h]
    · rename_i h
      have h : i ≠ j := by intro e; subst e; simp at h
      simp [memN_iff (l := r), h]

def bkT (tb : List Nat) (h : Nat → Option (List At)) (i : Nat) : Option (List At) := match memN i tb with
  | true => h i
  | false => none

def offL (l : List Nat) : List Nat → Bool
  | [] => true
  | j :: r => !memN j l && offL l r

/-- What may not change is not changed. -/
def effOk (ro roR : List Nat) (r : Rk) : Eff → Bool
  | .none => true
  | .alloc b _ => !memN b ro
  | .store b _ => !memN b ro
  | .row k _ (some o) => !memN k roR && !memN o roR
  | .row k _ none => !memN k roR
  | .rset k e _ => !memN k roR && (match r k with
    | some (some ri) => (Sh.eq? e ri.e).isSome
    | _ => false)
  | .rkill l => offL roR l

def guardB {R : Type} : List Bool → Option R → Option R
  | [], x => x
  | b :: l, x => bif allB (b :: l) then x else none

/-- By the recursor: so that the kernel unfolds it last. -/
noncomputable def obind {T R : Type} (m : Option T) (k : T → Option R) : Option R := Option.rec none k m

theorem guardB_some {R : Type} {p : List Bool} {x : Option R} {z : R} (h : guardB p x = some z) : allB p = true ∧ x = some z := by
  cases p with
  | nil => exact ⟨rfl, h⟩
  | cons b l =>
    simp only [guardB] at h
    cases hb : allB (b :: l) with
    | true => rw [hb] at h; exact ⟨rfl, h⟩
    | false => rw [hb] at h; cases h
theorem obind_some {T R : Type} {m : Option T} {k : T → Option R} {z : R} (h : obind m k = some z) : ∃ t, m = some t ∧ k t = some z := by
  cases m with
  | none => cases h
  | some t => exact ⟨t, rfl, h⟩

def tbOf (σ : St) (o : Oper) : List Nat := σ.next :: idsO σ.look.s o.op.operands.toList
def ridsA : At → List Nat
  | .row r => [r]
  | .re r _ _ _ => [r]
  | _ => []
def ridsL : List At → List Nat
  | [] => []
  | x :: r => ridsA x ++ ridsL r
def ridsT : List (Bool × List At) → List Nat
  | [] => []
  | x :: r => ridsL x.2 ++ ridsT r
def ridsS : SV → List Nat
  | .c _ l => ridsL l
  | .tup l => ridsT l
def ridsO (sl : Nat → Option SlotV) : List Operand → List Nat
  | [] => []
  | x :: r => match getS sl x with
    | some s => ridsS s ++ ridsO sl r
    | none => ridsO sl r
def ridsB (h : Nat → Option (List At)) : List Nat → List Nat
  | [] => []
  | b :: r => match h b with
    | some l => ridsL l ++ ridsB h r
    | none => ridsB h r
/-- The rows that an operation may touch. -/
def trOf (σ : St) (o : Oper) : List Nat := σ.next :: (ridsO σ.look.s o.op.operands.toList ++ ridsB σ.look.h (tbOf σ o))
def blank : Option (Option RowI) → Option (Option RowI)
  | some (some ri) => some (some ⟨ri.t, ri.e, ri.n, []⟩)
  | x => x
def rkT (o : Oper) (tr : List Nat) (r : Rk) (i : Nat) : Option (Option RowI) := match memN i tr with
  | true => (match metaOp o with
    | true => blank (r i)
    | false => r i)
  | false => none

theorem rkT_sub {o : Oper} {tr : List Nat} {r : Rk} (h : metaOp o = false) {i : Nat} {x : Option RowI} (hx : rkT o tr r i = some x) : i ∈ tr ∧ r i = some x := by
  unfold rkT at hx
  split at hx
  · rename_i hm
    rw [h] at hx
    exact ⟨memN_iff.1 hm, hx⟩
  · cases hx
theorem blank_some {x : Option (Option RowI)} {ri : RowI} (h : blank x = some (some ri)) : ∃ rj, x = some (some rj) ∧ rj.t = ri.t ∧ rj.e = ri.e ∧ rj.n = ri.n := by
  unfold blank at h
  split at h
  · rename_i rj
    simp only [Option.some.injEq] at h
    subst h
    exact ⟨rj, rfl, rfl, rfl, rfl⟩
  · exact ⟨ri, h, rfl, rfl, rfl⟩
theorem rkT_meta {o : Oper} {tr : List Nat} {r : Rk} {i : Nat} {ri : RowI} (hx : rkT o tr r i = some (some ri)) : i ∈ tr ∧ ∃ rj, r i = some (some rj) ∧ rj.t = ri.t ∧ rj.e = ri.e ∧ rj.n = ri.n := by
  unfold rkT at hx
  split at hx
  · rename_i hm
    refine ⟨memN_iff.1 hm, ?_⟩
    split at hx
    · exact blank_some hx
    · exact ⟨ri, hx, rfl, rfl, rfl⟩
  · cases hx
theorem rkT_none {o : Oper} {tr : List Nat} {r : Rk} {i : Nat} (hi : i ∈ tr) (hx : rkT o tr r i = none) : r i = none := by
  unfold rkT at hx
  rw [memN_iff.2 hi] at hx
  simp only at hx
  split at hx
  · unfold blank at hx
    split at hx
    · cases hx
    · exact hx
  · exact hx
def entOf (ops : Array Oper) (σ : St) (o : Oper) (pl : Plan) : Ent := ⟨o.looksAt ops, tbOf σ o, trOf σ o, metaOp o, (o.after.toList.filter (Region.binds .any)).map (·.on), pl⟩
def St.step (σ : St) (pl : Plan) : St := { σ.plan pl with next := σ.next + 1 }
def stepAt (C : Ctx) (N : Nat) (ops : Array Oper) (σ : St) (o : Oper) : Option Stp := stepOp C N ops σ.look.s (bkT (tbOf σ o) σ.look.h) (rkT o (trOf σ o) σ.look.r) σ.next o

/-- A region whose order is drawn. -/
def regD (C : Ctx) (N : Nat) (ops : Array Oper) {R : Type} : List Oper → St → (List Ent → St → Option R) → Option R
  | [], σ, K => K [] σ
  | o :: r, σ, K => match stepAt C N ops σ o with
    | some (.one p pl) => match effOk σ.ro σ.roR σ.look.r pl.eff with
      | true => guardB p (regD C N ops r (σ.step pl) fun es σ' => K (entOf ops σ o pl :: es) σ')
      | false => none
    | some (.call p _ m f) => guardB p (obind m fun t => match effOk σ.ro σ.roR σ.look.r (f t).eff with
      | true => regD C N ops r (σ.step (f t)) fun es σ' => K (entOf ops σ o (f t) :: es) σ'
      | false => none)
    | _ => none

/-- A function that is walked in place: with its arguments, in a state of memory. -/
abbrev Inl := (R : Type) → FuncId → List SV → St → (List SV → St → Option R) → Option R

def compsOf : List SV → Option (List (Bool × List At))
  | [] => some []
  | .c ag l :: r => match compsOf r with
    | some m => some ((ag, l) :: m)
    | none => none
  | .tup _ :: _ => none
def retSV : List SV → Option SV
  | [v] => some v
  | l => match compsOf l with
    | some m => some (.tup m)
    | none => none

def St.back (σ σ' : St) (d : Option Nat) (sv : SV) : St := match d with
  | some d => ({ σ' with s := σ.s } : St).putS d ⟨none, sv⟩
  | none => { σ' with s := σ.s }

/-- A region in the order of the text. -/
def regS (rec : Inl) (C : Ctx) (N : Nat) (ops : Array Oper) {R : Type} : List Oper → St → (St → Option R) → Option R
  | [], σ, K => K σ
  | o :: r, σ, K => match stepAt C N ops σ o with
    | some (.one p pl) => match effOk σ.ro σ.roR σ.look.r pl.eff with
      | true => guardB p (regS rec C N ops r (σ.step pl) K)
      | false => none
    | some (.call p _ m f) => guardB p (obind m fun t => match effOk σ.ro σ.roR σ.look.r (f t).eff with
      | true => regS rec C N ops r (σ.step (f t)) K
      | false => none)
    | some (.inl p id args) => guardB p (rec R id args { σ with s := [], next := σ.next + 1 } fun svs σ' => match retSV svs with
      | some sv => regS rec C N ops r (σ.back σ' o.dst sv) K
      | none => none)
    | none => none

/-! ### What the steps are -/

def RegR (C : Ctx) (N : Nat) (ops : Array Oper) : List Oper → St → List Ent → St → Prop
  | [], σ, es, σ' => es = [] ∧ σ' = σ
  | o :: r, σ, es, σ' => ∃ pl es', StepP C N ops σ.look.s (bkT (tbOf σ o) σ.look.h) (rkT o (trOf σ o) σ.look.r) σ.next o pl ∧ effOk σ.ro σ.roR σ.look.r pl.eff = true ∧ es = entOf ops σ o pl :: es' ∧ RegR C N ops r (σ.step pl) es' σ'

theorem regD_rel {C : Ctx} {N : Nat} {ops : Array Oper} {R : Type} {z : R} : ∀ {l : List Oper} {σ : St} {K : List Ent → St → Option R}, regD C N ops l σ K = some z → ∃ es σ', RegR C N ops l σ es σ' ∧ K es σ' = some z
  | [], σ, K, h => ⟨[], σ, ⟨rfl, rfl⟩, h⟩
  | o :: r, σ, K, h => by
    simp only [regD] at h
    split at h
    · rename_i p pl hst
      split at h
      · rename_i he
        obtain ⟨hp, h⟩ := guardB_some h
        obtain ⟨es, σ', h1, h2⟩ := regD_rel h
        exact ⟨_, σ', ⟨pl, es, ⟨_, hst, hp, rfl⟩, he, rfl, h1⟩, h2⟩
      · cases h
    · rename_i p T m f hst
      obtain ⟨hp, h⟩ := guardB_some h
      obtain ⟨t, ht, h⟩ := obind_some h
      split at h
      · rename_i he
        obtain ⟨es, σ', h1, h2⟩ := regD_rel h
        exact ⟨_, σ', ⟨f t, es, ⟨_, hst, hp, t, ht, rfl⟩, he, rfl, h1⟩, h2⟩
      · cases h
    · cases h

theorem look_step (σ : St) (pl : Plan) : (σ.step pl).look = σ.look.plan pl := plan_look σ pl

/-- Memory is as the symbolic state says. -/
structure MemOk (E : Env) (g : Look) : Prop where
  glob : Glob E g
  blks : ∀ i l, g.h i = some l → BlkOk E i l
  rows : ∀ i r, g.r i = some (some r) → RowOk E i r

theorem Glob.of {E : Env} {g g' : Look} (h : Glob E g) (hh : g'.h = g.h) (hr : g'.r = g.r) : Glob E g' := by
  obtain ⟨gs, gh, gr⟩ := g; obtain ⟨gs', gh', gr'⟩ := g'
  simp only at hh hr; subst hh; subst hr
  exact ⟨h.below, h.zlt, h.z0, h.zfrom, h.live, h.rlive, h.own, h.inj, h.rown, h.rinj⟩
theorem MemOk.of {E : Env} {g g' : Look} (h : MemOk E g) (hh : g'.h = g.h) (hr : g'.r = g.r) : MemOk E g' :=
  ⟨h.glob.of hh hr, fun i l hi => h.blks i l (by rw [← hh]; exact hi), fun i r hi => h.rows i r (by rw [← hr]; exact hi)⟩
theorem Mod.memOk {N : Nat} {E : Env} {a : Act} {g : Look} (h : Mod N E a g) : MemOk E g := ⟨h.glob, h.blks, h.rows⟩

/-- What may not change has not changed. -/
structure Fr (σ σ' : St) : Prop where
  ro : σ'.ro = σ.ro
  roR : σ'.roR = σ.roR
  h : ∀ i ∈ σ.ro, look σ'.h i = look σ.h i
  r : ∀ i ∈ σ.roR, look σ'.r i = look σ.r i

theorem Fr.refl (σ : St) : Fr σ σ := ⟨rfl, rfl, fun _ _ => rfl, fun _ _ => rfl⟩
theorem Fr.trans {σ σ' σ'' : St} (h : Fr σ σ') (h' : Fr σ' σ'') : Fr σ σ'' :=
  ⟨h'.ro.trans h.ro, h'.roR.trans h.roR, fun i hi => (h'.h i (by rw [h.ro]; exact hi)).trans (h.h i hi), fun i hi => (h'.r i (by rw [h.roR]; exact hi)).trans (h.r i hi)⟩

theorem offL_mem {l : List Nat} : ∀ {m : List Nat}, offL l m = true → ∀ i ∈ m, i ∉ l
  | j :: r, h, i, hi => by
    simp only [offL, Bool.and_eq_true, Bool.not_eq_true'] at h
    rcases List.mem_cons.1 hi with rfl | hi
    · intro hm; rw [memN_iff.2 hm] at h; cases h.1
    · exact offL_mem h.2 i hi
theorem notMem {i : Nat} {l : List Nat} (h : (!memN i l) = true) : i ∉ l := fun hm => by
  rw [memN_iff.2 hm] at h; cases h

theorem app_fr {σ : St} {e : Eff} (h : effOk σ.ro σ.roR σ.look.r e = true) : Fr σ (σ.app e) := by
  cases e with
  | none => exact Fr.refl σ
  | alloc b l => exact ⟨rfl, rfl, fun i hi => by simp only [St.app]; rw [look_cons, if_neg (fun e => notMem h (by rw [← e]; exact hi))], fun _ _ => rfl⟩
  | store b l => exact ⟨rfl, rfl, fun i hi => by simp only [St.app]; rw [look_cons, if_neg (fun e => notMem h (by rw [← e]; exact hi))], fun _ _ => rfl⟩
  | row k r o =>
    cases o with
    | none => exact ⟨rfl, rfl, fun _ _ => rfl, fun i hi => by simp only [St.app]; rw [look_cons, if_neg (fun e => notMem h (by rw [← e]; exact hi))]⟩
    | some o =>
      simp only [effOk, Bool.and_eq_true] at h
      exact ⟨rfl, rfl, fun _ _ => rfl, fun i hi => by simp only [St.app]; rw [look_cons, if_neg (fun e => notMem h.1 (by rw [← e]; exact hi)), look_cons, if_neg (fun e => notMem h.2 (by rw [← e]; exact hi))]⟩
  | rset k e l =>
    simp only [St.app]
    split
    · exact ⟨rfl, rfl, fun _ _ => rfl, fun i hi => by simp only; rw [look_cons, if_neg (fun e => notMem (by simp only [effOk, Bool.and_eq_true] at h; exact h.1) (by rw [← e]; exact hi))]⟩
    · exact Fr.refl σ
  | rkill l => exact ⟨rfl, rfl, fun _ _ => rfl, fun i hi => by simp only [St.app]; rw [look_kill, if_neg (fun e => offL_mem h i e hi)]⟩

theorem plan_fr {σ : St} {pl : Plan} (h : effOk σ.ro σ.roR σ.look.r pl.eff = true) : Fr σ (σ.plan pl) := by
  have := app_fr h
  unfold St.plan
  split
  · exact ⟨this.ro, this.roR, this.h, this.r⟩
  · exact this
theorem step_fr {σ : St} {pl : Plan} (h : effOk σ.ro σ.roR σ.look.r pl.eff = true) : Fr σ (σ.step pl) := ⟨(plan_fr h).ro, (plan_fr h).roR, (plan_fr h).h, (plan_fr h).r⟩

theorem app_s (σ : St) (e : Eff) : (σ.app e).s = σ.s := by
  cases e with
  | row k r o => cases o <;> rfl
  | rset k e l => simp only [St.app]; split <;> rfl
  | _ => rfl

theorem stepP_dst {C : Ctx} {N : Nat} {ops : Array Oper} {sl : Nat → Option SlotV} {bk : Nat → Option (List At)} {rk : Rk} {b : Nat} {o : Oper} {pl : Plan} (h : StepP C N ops sl bk rk b o pl) : ∀ d s, pl.s = some (d, s) → o.dst = some d := by
  have aux : ∀ (f : Nat → Nat × SlotV), (∀ d, (f d).1 = d) → ∀ d s, o.dst.map f = some (d, s) → o.dst = some d := by
    intro f hf d s h
    cases hd : o.dst with
    | none => rw [hd] at h; cases h
    | some d' =>
      rw [hd] at h
      simp only [Option.map_some, Option.some.injEq] at h
      have := hf d'
      rw [h] at this
      rw [← this]
  obtain ⟨st, h, hst⟩ := h
  unfold stepOp at h
  split at h
  · cases h
  · split at h
    · cases h
    · split at h
      · injection h with h; subst h; obtain ⟨_, rfl⟩ := hst; exact aux _ fun _ => rfl
      · injection h with h; subst h; obtain ⟨_, t, _, rfl⟩ := hst; exact aux _ fun _ => rfl
      · injection h with h; subst h; exact hst.elim
      · cases h
    · split at h
      · split at h
        · injection h with h; subst h; obtain ⟨_, rfl⟩ := hst; exact aux _ fun _ => rfl
        · cases h
      · split at h
        · injection h with h; subst h; obtain ⟨_, t, _, rfl⟩ := hst; exact aux _ fun _ => rfl
        · cases h
      · cases h

theorem step_slots {C : Ctx} {N : Nat} {ops : Array Oper} {sl : Nat → Option SlotV} {bk : Nat → Option (List At)} {rk : Rk} {b : Nat} {o : Oper} {σ : St} {pl : Plan} (h : StepP C N ops sl bk rk b o pl) {i : Nat} (hi : o.dst ≠ some i) : look (σ.step pl).s i = look σ.s i := by
  show look (σ.plan pl).s i = look σ.s i
  unfold St.plan
  split
  · rename_i d s hs
    have hd := stepP_dst h d s hs
    show look ((d, some s) :: (σ.app pl.eff).s) i = _
    rw [look_cons, if_neg (fun e => hi (by rw [e, hd])), app_s]
  · rw [app_s]

theorem RegR.frame {C : Ctx} {N : Nat} {ops : Array Oper} : ∀ {l : List Oper} {σ σ' : St} {es : List Ent}, RegR C N ops l σ es σ' → Fr σ σ' ∧ ∀ i, i ∉ l.filterMap (·.dst) → look σ'.s i = look σ.s i
  | [], σ, σ', es, h => by
    obtain ⟨_, rfl⟩ := h
    exact ⟨Fr.refl _, fun _ _ => rfl⟩
  | o :: r, σ, σ', es, h => by
    obtain ⟨pl, es', h1, h2, _, h4⟩ := h
    obtain ⟨h5, h6⟩ := h4.frame
    refine ⟨(step_fr h2).trans h5, fun i hi => ?_⟩
    have hd : o.dst ≠ some i := fun e => hi (by rw [List.filterMap_cons, e]; simp)
    rw [h6 i fun hm => hi (by
      rw [List.filterMap_cons]
      split
      · exact hm
      · exact List.mem_cons_of_mem _ hm), step_slots h1 hd]

/-! ### Functions that are walked in place -/

/-- Rows that may not change are there. -/
def RoR (σ : St) : Prop := ∀ i ∈ σ.roR, (look σ.r i).isSome = true
theorem RoR.fr {σ σ' : St} (h : RoR σ) (hf : Fr σ σ') : RoR σ' := fun i hi => by
  rw [hf.roR] at hi
  rw [hf.r i hi]
  exact h i hi

def InlOk (C : Ctx) (rec : Inl) : Prop := ∀ (R : Type) id args σ K (z : R), rec R id args σ K = some z → RoR σ → ∀ E, MemOk E σ.look → E.P = C.P → ∀ vs : Array Value, RelVs E args vs.toList → ∀ post : Ending → World → Prop,
  (∀ svs σ' E' v, K svs σ' = some z → Same E E' → Keep E E' → Fr σ σ' → MemOk E' σ'.look → (∀ sv, retSV svs = some sv → RelV E' sv v) → post (.returned v) E'.w) → Calls C.P id vs E.w post

section
variable {N : Nat} {E : Env} {a : Act}

theorem bkT_sub {tb : List Nat} {h : Nat → Option (List At)} {i : Nat} {l : List At} (hh : bkT tb h i = some l) : i ∈ tb ∧ h i = some l := by
  unfold bkT at hh
  split at hh
  · rename_i hm
    exact ⟨memN_iff.1 hm, hh⟩
  · cases hh
theorem bkT_none {tb : List Nat} {h : Nat → Option (List At)} {i : Nat} (hi : i ∈ tb) (hh : bkT tb h i = none) : h i = none := by
  unfold bkT at hh
  rw [memN_iff.2 hi] at hh
  exact hh

theorem stepOp_inl {C : Ctx} {ops : Array Oper} {sl : Nat → Option SlotV} {bk : Nat → Option (List At)} {rk : Rk} {b : Nat} {o : Oper} {p : List Bool} {id : FuncId} {args : List SV} (h : stepOp C N ops sl bk rk b o = some (.inl p id args)) :
    dstOk N o.dst = true ∧ guardC ops sl o.guard = .always ∧ coreC C .always sl bk rk b o = some (p, .inl id args) := by
  unfold stepOp at h
  split at h
  · cases h
  · rename_i hd
    split at h
    · cases h
    · rename_i hg
      split at h <;> first | (cases h; done) | (injection h with h; cases h; done) | skip
      rename_i p' id' args' hc
      injection h with h
      injection h with h1 h2 h3
      subst h1; subst h2; subst h3
      exact ⟨hd, hg, hc⟩
    · split at h
      · split at h <;> first | (injection h with h; cases h) | cases h
      · split at h <;> first | (injection h with h; cases h) | cases h
      · cases h

theorem Mod.slots_keep {a' : Act} {g g' : Look} {E' : Env} (hm : Mod N E a g) (hk : Keep E E') (hm' : MemOk E' g') (hs : g'.s = g.s) (ha : a' = a) : Mod N E' a' g' := by
  subst ha
  exact ⟨hm'.glob, hm.nodef, hm.size, fun i s hi => by
    rw [hs] at hi
    obtain ⟨v, h1, h2⟩ := hm.slots i s hi
    exact ⟨v, h1, hk.S h2⟩, hm'.blks, hm'.rows⟩

/-- A region whose order is the text's. -/
theorem seq_ok {rec : Inl} {C : Ctx} (hC : C.ok) (hI : InlOk C rec) {ops : Array Oper} {Q : Exit → Act → World → Prop} {R : Type} {z : R} : ∀ {l : List Oper} {σ : St} {K : St → Option R} {E : Env} {a : Act}, regS rec C N ops l σ K = some z → RoR σ → E.P = C.P →
    Mod N E a σ.look → (∀ σ' E' a', K σ' = some z → Same E E' → Keep E E' → Fr σ σ' → (∀ i, i ∉ l.filterMap (·.dst) → look σ'.s i = look σ.s i) → Mod N E' a' σ'.look → Q .normal a' E'.w) → wpList C.P ops Q l a E.w
  | [], σ, K, E, a, h, _, hP, hm, hQ => hQ σ E a h rfl (Keep.refl E) (Fr.refl σ) (fun _ _ => rfl) hm
  | o :: r, σ, K, E, a, h, hro, hP, hm, hQ => by
    simp only [regS] at h
    have dstne : ∀ i, i ∉ (o :: r).filterMap (·.dst) → o.dst ≠ some i ∧ i ∉ r.filterMap (·.dst) := fun i hi => by
      rw [List.filterMap_cons] at hi
      split at hi
      · rename_i hd; exact ⟨by rw [hd]; simp, hi⟩
      · rename_i d hd
        rw [hd]
        simp only [List.mem_cons, not_or] at hi
        exact ⟨fun e => hi.1 (by injection e with e; exact e.symm), hi.2⟩
    have go : ∀ pl, StepP C N ops σ.look.s (bkT (tbOf σ o) σ.look.h) (rkT o (trOf σ o) σ.look.r) σ.next o pl → effOk σ.ro σ.roR σ.look.r pl.eff = true → regS rec C N ops r (σ.step pl) K = some z → wpList C.P ops Q (o :: r) a E.w := by
      intro pl hpl he hr
      have hs := step_ok (K := wpList C.P ops Q r) (Q := Q) (X := o.asks C.P a E.w ∧ LetsOut Q) hC hP hpl hm (fun _ _ => rfl) (fun i l hi => (bkT_sub hi).2) (fun hb => bkT_none (by simp [tbOf]) hb) (fun hmo _ _ h => (rkT_sub hmo h).2) (fun _ _ h => by obtain ⟨_, rj, h1, _, h2, h3⟩ := rkT_meta h; exact ⟨rj, h1, h2, h3⟩) (fun h => rkT_none (by simp [trOf]) h)
        (fun E' a' h0 hk0 hm' => seq_ok hC hI hr (hro.fr (step_fr he)) (h0.P.trans hP) (by rw [look_step]; exact hm') fun σ' E'' a'' hz h1 hk1 hf hsl hm'' =>
          hQ σ' E'' a'' hz (h0.trans h1) (hk0.trans hk1) ((step_fr he).trans hf) (fun i hi => (hsl i (dstne i hi).2).trans (step_slots hpl (dstne i hi).1)) hm'')
      unfold wpList
      exact hs
    split at h
    · rename_i p pl hst
      split at h
      · rename_i he
        obtain ⟨hp, h⟩ := guardB_some h
        exact go pl ⟨_, hst, hp, rfl⟩ he h
      · cases h
    · rename_i p T m f hst
      obtain ⟨hp, h⟩ := guardB_some h
      obtain ⟨t, ht, h⟩ := obind_some h
      split at h
      · rename_i he
        exact go (f t) ⟨_, hst, hp, t, ht, rfl⟩ he h
      · cases h
    · rename_i p id args hst
      obtain ⟨hp, h⟩ := guardB_some h
      obtain ⟨hd, hg, hc⟩ := stepOp_inl hst
      have hgr := guard_run hm (ops := ops) (o := o) (sl := σ.look.s) (fun _ _ => rfl)
      rw [hg] at hgr
      simp only at hgr
      obtain ⟨vs, hrun, hvs⟩ := coreC_ok hC hP hc hp hm (fun _ _ => rfl) (fun i l hi => (bkT_sub hi).2) (fun hb => bkT_none (by simp [tbOf]) hb) (fun hmo _ _ h => (rkT_sub hmo h).2) (fun _ _ h => by obtain ⟨_, rj, h1, _, h2, h3⟩ := rkT_meta h; exact ⟨rj, h1, h2, h3⟩) (fun h => rkT_none (by simp [trOf]) h) (fun c hc => hc)
      unfold wpList
      rw [if_pos hgr]
      refine .inl ?_
      unfold Oper.wp
      rw [hrun]
      refine hI R id args _ _ z h (fun i hi => hro i hi) E (hm.memOk.of rfl rfl) hP vs hvs _ fun svs σ' E' v hk h0 hk0 hf hmem hret => ?_
      split at hk
      · rename_i sv hsv
        have hrel := hret sv hsv
        have hmb : Mod N E' a (({ σ' with s := σ.s } : St)).look := hm.slots_keep hk0 (hmem.of rfl rfl) rfl rfl
        have hmod : Mod N E' (a.put o.dst v) (σ.back σ' o.dst sv).look := by
          unfold St.back
          cases hdd : o.dst with
          | none => exact hmb
          | some d =>
            rw [hdd] at hd
            simp only [putS_look]
            exact hmb.put (by simp [dstOk, Nat.blt] at hd; omega) hrel
        have hfb : Fr σ (σ.back σ' o.dst sv) := by
          unfold St.back
          cases o.dst <;> exact ⟨hf.ro, hf.roR, hf.h, hf.r⟩
        have hsb : ∀ i, o.dst ≠ some i → look (σ.back σ' o.dst sv).s i = look σ.s i := fun i hi => by
          unfold St.back
          cases hdd : o.dst with
          | none => rfl
          | some d =>
            show look ((d, some _) :: σ.s) i = _
            rw [look_cons, if_neg (fun e => hi (by rw [hdd, e]))]
        exact seq_ok hC hI hk (hro.fr hfb) (h0.P.trans hP) hmod fun σ2 E2 a2 hz h1 hk1 hf1 hsl hm2 =>
          hQ σ2 E2 a2 hz (h0.trans h1) (hk0.trans hk1) (hfb.trans hf1) (fun i hi => (hsl i (dstne i hi).2).trans (hsb i (dstne i hi).1)) hm2
      · cases hk
    · cases h
end
end
end Dn
end Go.Proofs.Ytghjblbkbelcfaa
