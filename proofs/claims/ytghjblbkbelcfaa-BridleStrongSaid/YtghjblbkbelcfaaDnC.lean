/- A symbolic executor: operations that touch no memory, loads, stores, new variables, addresses. -/
import Derived.Test.YtghjblbkbelcfaaDnB
import Derived.Laws.CopyRow
import Derived.Laws.StructEq
namespace Go.Proofs.Ytghjblbkbelcfaa
namespace Dn
open Go.RowKit

/-- A number is an index of a list of some length; a number is not 0; a length of elements of some size fits. -/
def inB (i : Int) (n : Nat) : Bool := decide (0 ≤ i) && decide (i < n)
def nzB (n : Int) : Bool := !decide (n = 0)
def fitB (n k : Nat) : Bool := Nat.ble (n * k) 140737488355328
theorem inB_iff {i : Int} {n : Nat} : inB i n = true ↔ 0 ≤ i ∧ i < n := by simp [inB]
theorem nzB_iff {n : Int} : nzB n = true ↔ n ≠ 0 := by simp [nzB]
theorem fitB_iff {n k : Nat} : fitB n k = true ↔ n * k ≤ 140737488355328 := by simp [fitB]

/-! ### What touches no world -/

def pureS {α : Type} (P : Program) : Sem α → Option α
  | .pure a => some a
  | .program k => pureS P (k P)
  | .mark _ k => pureS P k
  | _ => none

theorem pureS_run {α : Type} {P : Program} : ∀ {s : Sem α} {a : α}, pureS P s = some a → ∀ w, s.run P w = .ok a w
  | .pure _, _, h, w => by injection h with h; subst h; rfl
  | .program k, _, h, w => pureS_run (s := k P) h w
  | .mark _ k, _, h, w => pureS_run (s := k) h w
  | .load .., _, h, _ => by cases h
  | .store .., _, h, _ => by cases h
  | .new .., _, h, _ => by cases h
  | .shape .., _, h, _ => by cases h
  | .freeze .., _, h, _ => by cases h
  | .frozen .., _, h, _ => by cases h
  | .getObj .., _, h, _ => by cases h
  | .setObj .., _, h, _ => by cases h
  | .choose .., _, h, _ => by cases h
  | .sys .., _, h, _ => by cases h
  | .halt .., _, h, _ => by cases h

def atV : At → Option Value
  | .v x => some x
  | _ => none

def atsV : List At → Option (List Value)
  | [] => some []
  | a :: l => match atV a, atsV l with
    | some x, some r => some (x :: r)
    | _, _ => none

def tupV : List (Bool × List At) → Option (List Value)
  | [] => some []
  | c :: l => match atsV c.2, tupV l with
    | some x, some r => some (mkV c.1 x :: r)
    | _, _ => none

def SV.toV : SV → Option Value
  | .c ag l => match atsV l with
    | some x => some (mkV ag x)
    | none => none
  | .tup l => match tupV l with
    | some x => some (.tuple x.toArray)
    | none => none

section
variable {E : Env}
theorem atV_rel {a : At} {x v : Value} (h : atV a = some x) (hv : RelA E a v) : v = x := by
  cases a <;> simp only [atV] at h <;> first | (cases h; exact hv) | cases h

theorem atsV_rel : ∀ {l : List At} {xs vs : List Value}, atsV l = some xs → RelL E l vs → vs = xs
  | [], _, [], h, _ => by simp only [atsV] at h; cases h; rfl
  | a :: l, xs, v :: vs, h, hv => by
    simp only [atsV] at h
    split at h
    · rename_i x r hx hr
      injection h with h; subst h
      rw [atV_rel hx hv.1, atsV_rel hr hv.2]
    · cases h
  | [], _, _ :: _, _, hv => hv.elim
  | _ :: _, _, [], _, hv => hv.elim

theorem tupV_rel : ∀ {l : List (Bool × List At)} {xs vs : List Value}, tupV l = some xs → RelT E l vs → vs = xs
  | [], _, [], h, _ => by simp only [tupV] at h; cases h; rfl
  | c :: l, xs, v :: vs, h, hv => by
    simp only [tupV] at h
    split at h
    · rename_i x r hx hr
      injection h with h; subst h
      obtain ⟨cs, rfl, h2, _⟩ := hv.1
      rw [tupV_rel hr hv.2, atsV_rel hx h2]
    · cases h
  | [], _, _ :: _, _, hv => hv.elim
  | _ :: _, _, [], _, hv => hv.elim

theorem toV_rel {s : SV} {x v : Value} (h : s.toV = some x) (hv : RelV E s v) : v = x := by
  cases s with
  | c ag l =>
    simp only [SV.toV] at h
    split at h
    · rename_i y hy
      injection h with h; subst h
      obtain ⟨cs, rfl, h2, _⟩ := hv
      rw [atsV_rel hy h2]
    · cases h
  | tup l =>
    simp only [SV.toV] at h
    split at h
    · rename_i y hy
      injection h with h; subst h
      obtain ⟨vs, rfl, h2⟩ := hv
      rw [tupV_rel hy h2]
    · cases h

def compV (v : Value) : Bool × List At := match v with
  | .agg cs => (true, cs.toList.map .v)
  | v => (false, [.v v])
def ofV (v : Value) : SV := match v with
  | .tuple vs => .tup (vs.toList.map compV)
  | .agg cs => .c true (cs.toList.map .v)
  | v => .c false [.v v]

theorem relL_v : ∀ (cs : List Value), RelL E (cs.map .v) cs
  | [] => trivial
  | _ :: r => ⟨rfl, relL_v r⟩
theorem compV_rel (v : Value) : RelC E (compV v).1 (compV v).2 v := by
  cases v <;> simp only [compV] <;> first
    | exact ⟨[_], rfl, ⟨rfl, trivial⟩, fun _ => rfl⟩
    | (rename_i cs; exact ⟨cs.toList, by simp [mkV], relL_v _, fun h => by cases h⟩)
theorem relT_v : ∀ (vs : List Value), RelT E (vs.map compV) vs
  | [] => trivial
  | v :: r => ⟨compV_rel v, relT_v r⟩
theorem ofV_rel (v : Value) : RelV E (ofV v) v := by
  cases v <;> simp only [ofV] <;> first
    | exact ⟨[_], rfl, ⟨rfl, trivial⟩, fun _ => rfl⟩
    | (rename_i cs; exact ⟨cs.toList, by simp [mkV], relL_v _, fun h => by cases h⟩)
    | (rename_i vs; exact ⟨vs.toList, by simp, relT_v _⟩)
end

/-! ### The frame of all operations -/

inductive Eff where
  | none
  | alloc (b : Nat) (l : List At)
  | store (b : Nat) (l : List At)
  | row (k : Nat) (r : RowI) (old : Option Nat)
  | rset (k : Nat) (e : Sh) (l : List e.T)
  | rkill (l : List Nat)

/-- A row with other elements, as many. -/
def setL (e : Sh) (l : List e.T) : Option (Option RowI) → Option (Option RowI)
  | some (some ri) => match Sh.eq? e ri.e with
    | some ⟨h⟩ => some (some ⟨ri.t, ri.e, ri.n, h ▸ l⟩)
    | none => some (some ri)
  | x => x

def Look.app (g : Look) : Eff → Look
  | .none => g
  | .alloc b l => g.setH b l
  | .store b l => g.setH b l
  | .row k r (some o) => (g.setR o none).setR k (some r)
  | .row k r none => g.setR k (some r)
  | .rset k e l => { g with r := fun i => if i = k then setL e l (g.r k) else g.r i }
  | .rkill l => { g with r := fun i => if i ∈ l then some none else g.r i }

structure Core where
  sv : SV
  eff : Eff
  p : List Bool

/-- What an operation comes to: its answer; or that of a call, which may have none; or a call of a function that is walked in place. -/
inductive Cor where
  | one (r : Core)
  | call (T : Type) (d : T) (m : Option T) (sv : T → SV) (eff : T → Eff) (pu : Bool)
  | inl (id : FuncId) (args : List SV)

/-- The parts of the setting that never change. -/
def Same (E E' : Env) : Prop := (E'.P, E'.w0, E'.Z0) = (E.P, E.w0, E.Z0)
theorem Same.P {E E' : Env} (h : Same E E') : E'.P = E.P := by unfold Same at h; injection h
theorem Same.w0 {E E' : Env} (h : Same E E') : E'.w0 = E.w0 := by unfold Same at h; injection h with _ h; injection h
theorem Same.Z0 {E E' : Env} (h : Same E E') : E'.Z0 = E.Z0 := by unfold Same at h; injection h with _ h; injection h
theorem Same.trans {E E' E'' : Env} (h : Same E E') (h' : Same E' E'') : Same E E'' := Eq.trans h' h

/-- The operation runs in every machine state that is the symbolic one, and leaves what 'r' says. -/
def CoreOk (P : Program) (N : Nat) (g : Look) (E : Env) (a : Act) (o : Oper) (r : Core) : Prop :=
  ∀ (K : Act → World → Prop) (Q : Exit → Act → World → Prop), (∀ E' v', Same E E' → Keep E E' → Mod N E' a (g.app r.eff) → RelV E' r.sv v' → K (a.put o.dst v') E'.w) → o.wp P a E.w K Q

def RelVs (E : Env) : List SV → List Value → Prop
  | [], [] => True
  | s :: l, v :: r => RelV E s v ∧ RelVs E l r
  | _, _ => False

def CorOk (P : Program) (N : Nat) (g : Look) (E : Env) (a : Act) (o : Oper) : Cor → Prop
  | .one r => allB r.p = true → CoreOk P N g E a o r
  | .call _ _ m sv eff pu => (pu = true → ∀ t, eff t = .none) ∧ ∀ t, m = some t → CoreOk P N g E a o ⟨sv t, eff t, []⟩
  | .inl id args => ∃ vs, (execOp a.eval o).run P E.w = .ok (.enter id vs) E.w ∧ RelVs E args vs.toList

section
variable {P : Program} {N : Nat} {g : Look} {E : Env} {a : Act} {o : Oper}

/-- What a getter of operands must give. -/
def Gets (E : Env) (a : Act) (get : Operand → Option SV) (o : Oper) : Prop := ∀ x s, x ∈ o.op.operands → get x = some s → RelV E s (a.eval x)

theorem CoreOk.value {r : Core} {E' : Env} {v : Value} (hrun : (execOp a.eval o).run P E.w = .ok (.value v) E'.w) (h0 : Same E E') (hk : Keep E E') (hm : Mod N E' a (g.app r.eff)) (hv : RelV E' r.sv v) : CoreOk P N g E a o r := by
  intro K Q hK
  unfold Oper.wp
  rw [hrun]
  exact hK E' v h0 hk hm hv

theorem CoreOk.skip {r : Core} {E' : Env} (hrun : (execOp a.eval o).run P E.w = .ok .skip E'.w) (h0 : Same E E') (hk : Keep E E') (hm : Mod N E' a (g.app r.eff)) (hv : RelV E' r.sv undef) : CoreOk P N g E a o r := by
  intro K Q hK
  unfold Oper.wp
  rw [hrun]
  exact hK E' undef h0 hk hm hv

def noSel (o : Oper) : Bool := match o.op with
  | .select .. => false
  | _ => true

def getV (get : Operand → Option SV) (x : Operand) : Option Value := match get x with
  | some s => s.toV
  | none => none

def pureC (P : Program) (get : Operand → Option SV) (o : Oper) : Option Core :=
  match noSel o && o.op.operands.toList.all fun x => (getV get x).isSome with
  | true => match pureS P (execOp (fun x => (getV get x).getD undef) o) with
    | some (.value v) => some ⟨ofV v, .none, []⟩
    | _ => none
  | false => none

theorem getV_eval {get : Operand → Option SV} (hg : Gets E a get o) {x : Operand} (hx : x ∈ o.op.operands) {v : Value} (h : getV get x = some v) : a.eval x = v := by
  unfold getV at h
  split at h
  · rename_i s hs
    exact toV_rel h (hg x s hx hs)
  · cases h

theorem pureC_ok {get : Operand → Option SV} {r : Core} (h : pureC P get o = some r) (hg : Gets E a get o) (hm : Mod N E a g) : CoreOk P N g E a o r := by
  unfold pureC at h
  split at h
  · rename_i hall
    simp only [Bool.and_eq_true, List.all_eq_true, Array.mem_toList_iff] at hall
    obtain ⟨hsel, hall⟩ := hall
    split at h
    · rename_i v hv
      injection h with h; subst h
      have hs : ∀ cs b, o.op ≠ .select cs b := fun cs b he => by simp [noSel, he] at hsel
      have he : execOp a.eval o = execOp (fun x => (getV get x).getD undef) o := execOp_congr o hs fun x hx => by
        have h1 := hall x hx
        cases h2 : getV get x with
        | none => rw [h2] at h1; cases h1
        | some y => rw [getV_eval hg hx h2]; rfl
      exact CoreOk.value (E' := E) (by rw [he]; exact pureS_run hv E.w) rfl (Keep.refl E) hm (ofV_rel v)
    · cases h
  · cases h

/-- A copy. -/
theorem moveC_ok {x : Operand} {s : SV} (ho : o.op = .move x ∨ o.op = .assign x) (h : RelV E s (a.eval x)) (hm : Mod N E a g) : CoreOk P N g E a o ⟨s, .none, []⟩ := by
  refine CoreOk.value (E' := E) (v := a.eval x) ?_ rfl (Keep.refl E) hm h
  rcases ho with ho | ho <;> simp [execOp, ho]

/-- A component of a tuple. -/
theorem RelT.get : ∀ {l : List (Bool × List At)} {vs : List Value} {i : Nat} {c : Bool × List At}, RelT E l vs → l[i]? = some c → ∃ v, vs[i]? = some v ∧ RelC E c.1 c.2 v
  | [], [], i, c, _, h => by simp at h
  | d :: l, v :: vs, 0, c, h, hi => by
    simp only [List.getElem?_cons_zero, Option.some.injEq] at hi
    subst hi
    exact ⟨v, rfl, h.1⟩
  | d :: l, v :: vs, i + 1, c, h, hi => by
    simp only [List.getElem?_cons_succ] at hi ⊢
    exact RelT.get h.2 hi
  | [], _ :: _, _, _, h, _ => h.elim
  | _ :: _, [], _, _, h, _ => h.elim

theorem extractC_ok {x : Operand} {ix : Nat} {l : List (Bool × List At)} {c : Bool × List At} (ho : o.op = .extract x ix) (h : RelV E (.tup l) (a.eval x)) (hc : l[ix]? = some c) (hm : Mod N E a g) :
    CoreOk P N g E a o ⟨.c c.1 c.2, .none, []⟩ := by
  obtain ⟨vs, hv, h2⟩ := h
  obtain ⟨v, hi, hr⟩ := RelT.get h2 hc
  refine CoreOk.value (E' := E) (v := v) ?_ rfl (Keep.refl E) hm hr
  simp [execOp, ho, hv, Instr.extract, hi]

/-! ### Loads -/

theorem RelL.take : ∀ {l : List At} {vs : List Value} (n : Nat), RelL E l vs → RelL E (l.take n) (vs.take n)
  | [], [], n, _ => by simp [RelL]
  | _ :: _, _ :: _, 0, _ => trivial
  | _ :: _, _ :: _, n + 1, h => ⟨h.1, RelL.take n h.2⟩
  | [], _ :: _, _, h => h.elim
  | _ :: _, [], _, h => h.elim
theorem RelL.drop : ∀ {l : List At} {vs : List Value} (n : Nat), RelL E l vs → RelL E (l.drop n) (vs.drop n)
  | [], [], n, _ => by simp [RelL]
  | _ :: _, _ :: _, 0, h => h
  | _ :: _, _ :: _, n + 1, h => RelL.drop n h.2
  | [], _ :: _, _, h => h.elim
  | _ :: _, [], _, h => h.elim
theorem RelL.append : ∀ {l l' : List At} {vs vs' : List Value}, RelL E l vs → RelL E l' vs' → RelL E (l ++ l') (vs ++ vs')
  | [], _, [], _, _, h => h
  | _ :: _, _, _ :: _, _, h, h' => ⟨h.1, RelL.append h.2 h'⟩
  | [], _, _ :: _, _, h, _ => h.elim
  | _ :: _, _, [], _, h, _ => h.elim

def Sh.cells : (s : Sh) → s.T → List At
  | .int k, n => [.v (.int k n)]
  | .bool, b => [.v (.bool b)]
  | .str, s => [.v (.string s)]
  | .sl e, l => [.sl e l]
  | .pair a b, x => a.cells x.1 ++ b.cells x.2
  | .agg e, x => e.cells x

theorem Dat.rel : ∀ {s : Sh} {x : s.T} {cs : List Value}, Dat E.w E.Z s x cs → RelL E (s.cells x) cs
  | .int _, _, _, h => by simp only [Dat] at h; subst h; exact ⟨rfl, trivial⟩
  | .bool, _, _, h => by simp only [Dat] at h; subst h; exact ⟨rfl, trivial⟩
  | .str, _, _, h => by simp only [Dat] at h; subst h; exact ⟨rfl, trivial⟩
  | .sl e, l, cs, h => by
    have h' := h
    simp only [Dat] at h'
    obtain ⟨A, c, rfl, _⟩ := h'
    exact ⟨h, trivial⟩
  | .pair _ _, _, _, h => by
    simp only [Dat] at h
    obtain ⟨c1, c2, rfl, h1, h2⟩ := h
    exact RelL.append h1.rel h2.rel
  | .agg e, x, cs, h => Dat.rel (s := e) (x := x) h

def aggT (P : Program) (t : TypeId) : Option Bool := match P.underlying t with
  | some (.struct _) => some true
  | some (.array _ _) => some true
  | some _ => some false
  | none => none
def sizeT (P : Program) (t : TypeId) : Option Nat := match P.info? t with
  | some i => some i.size
  | none => none

theorem run_isAgg {t : TypeId} {b : Bool} (h : aggT P t = some b) (w : World) : (isAgg t).run P w = .ok b w := by
  unfold aggT at h
  split at h <;> simp_all [isAgg, run_underlying]
theorem run_sizeOf {t : TypeId} {n : Nat} (h : sizeT P t = some n) (w : World) : (Go.sizeOf t).run P w = .ok n w := by
  unfold sizeT at h
  split at h
  · rename_i i hi
    injection h with h; subst h
    simp [Go.sizeOf, typeInfo, hi]
  · cases h

theorem run_loadVar_of {t : TypeId} {ag : Bool} {ad : Addr} {cs : List Value} (ha : aggT P t = some ag) (hz : sizeT P t = some cs.length) (h1 : ag = false → cs.length = 1) (w : World)
    (hc : ∀ j v, cs[j]? = some v → w.cell? (ad.add j) = some v) : (loadVar t ad).run P w = .ok (mkV ag cs) w := by
  cases ag with
  | true => simp [loadVar, run_isAgg ha, run_sizeOf hz, run_loadCells_list w ad cs hc, mkV]
  | false =>
    have h := h1 rfl
    match cs, h with
    | [c], _ =>
      have h0 := hc 0 c rfl
      simp only [Addr.add, if_true] at h0
      simp [loadVar, run_isAgg ha, mkV, load, Sem.run, h0]

theorem add_add (a : Addr) (i j : Nat) : (a.add i).add j = a.add (i + j) := by
  unfold Addr.add
  by_cases hi : i = 0 <;> by_cases hj : j = 0 <;> simp [hi, hj, Nat.add_assoc]
theorem add_lit (b o j : Nat) : (⟨b, o, none⟩ : Addr).add j = ⟨b, o + j, none⟩ := by
  unfold Addr.add
  split
  · rename_i h; subst h; rfl
  · rfl

/-- Cells out of 'l': a part of type 't' at place 'off'. -/
def partC (P : Program) (t : TypeId) (l : List At) (off : Nat) : Option SV := match aggT P t, sizeT P t with
  | some ag, some n => match Nat.ble (off + n) l.length && (ag || Nat.beq n 1) with
    | true => some (.c ag ((l.drop off).take n))
    | false => none
  | _, _ => none

theorem partC_run {t : TypeId} {l : List At} {off : Nat} {s : SV} (h : partC P t l off = some s) {cs : List Value} (hr : RelL E l cs) {ad : Addr} (w : World)
    (hc : ∀ j v, cs[j]? = some v → w.cell? (ad.add j) = some v) : ∃ v, (loadVar t (ad.add off)).run P w = .ok v w ∧ RelV E s v := by
  unfold partC at h
  split at h
  · rename_i ag n ha hz
    split at h
    · rename_i hb
      injection h with h; subst h
      simp only [Bool.and_eq_true, Nat.ble_eq, Bool.or_eq_true, Nat.beq_eq] at hb
      have hl : ((cs.drop off).take n).length = n := by
        have := hr.length
        simp [List.length_take, List.length_drop]
        omega
      have h1 : ag = false → ((cs.drop off).take n).length = 1 := fun h0 => by
        rw [hl]
        rcases hb.2 with h | h
        · rw [h0] at h; cases h
        · exact h
      refine ⟨mkV ag ((cs.drop off).take n), run_loadVar_of ha (by rw [hl]; exact hz) h1 w (fun j v hv => ?_), ⟨_, rfl, (hr.drop off).take n, h1⟩⟩
      rw [add_add]
      refine hc _ v ?_
      rw [List.getElem?_take] at hv
      split at hv
      · rwa [List.getElem?_drop] at hv
      · cases hv
    · cases h
  · cases h

theorem blk_cells {b : Nat} {l : List At} (h : BlkOk E b l) : ∃ cs, RelL E l cs ∧ (∀ j v, cs[j]? = some v → E.w.cell? ((⟨E.β b, 0, none⟩ : Addr).add j) = some v) := by
  obtain ⟨_, cs, t, hh, hr, _⟩ := h
  refine ⟨cs, hr, fun j v hv => ?_⟩
  rw [add_lit]
  simp [World.cell?, hh, hv]

theorem loadPtr_ok {t : TypeId} {x : Operand} {b off : Nat} {l : List At} {s : SV} (ho : o.op = .load t x) (hx : RelV E (.c false [.ptr b off]) (a.eval x)) (hb : g.h b = some l) (hs : partC P t l off = some s)
    (hm : Mod N E a g) : CoreOk P N g E a o ⟨s, .none, []⟩ := by
  obtain ⟨cs, hv, hr, _⟩ := hx
  match cs, hr with
  | [y], hr =>
    obtain ⟨⟨hy, _⟩, _⟩ := hr
    obtain ⟨ds, hd, hc⟩ := blk_cells (hm.blks b l hb)
    obtain ⟨v, hrun, hrel⟩ := partC_run hs hd E.w hc
    refine CoreOk.value (E' := E) (v := v) ?_ rfl (Keep.refl E) hm hrel
    rw [add_lit, Nat.zero_add] at hrun
    simp [execOp, ho, hv, mkV, hy, ptrV, Instr.loadAt, Instr.sureAddr, hrun]

theorem loadRf_ok {t : TypeId} {x : Operand} {sh : Sh} {d : sh.T} {off : Nat} {s : SV} (ho : o.op = .load t x) (hx : RelV E (.c false [.rf sh d off]) (a.eval x)) (hs : partC P t (sh.cells d) off = some s)
    (hm : Mod N E a g) : CoreOk P N g E a o ⟨s, .none, []⟩ := by
  obtain ⟨cs, hv, hr, _⟩ := hx
  match cs, hr with
  | [y], hr =>
    obtain ⟨⟨ad, ds, hy, _, hd, hc⟩, _⟩ := hr
    obtain ⟨v, hrun, hrel⟩ := partC_run hs hd.rel E.w hc
    refine CoreOk.value (E' := E) (v := v) ?_ rfl (Keep.refl E) hm hrel
    simp [execOp, ho, hv, mkV, hy, Instr.loadAt, Instr.sureAddr, hrun]

/-! ### Addresses of fields -/

def fieldT (P : Program) (t : TypeId) (f : Nat) : Option Nat := match P.underlying t with
  | some (.struct fs) => match fs[f]? with
    | some x => match sizeT P x.type with
      | some 0 => none
      | some _ => some x.offset
      | none => none
    | none => none
  | _ => none

theorem run_fieldAt {t : TypeId} {f off : Nat} (h : fieldT P t f = some off) (ad : Addr) (w : World) : (Instr.fieldAt t (.pointer (some ad)) f).run P w = .ok (.pointer (some (ad.add off))) w := by
  unfold fieldT at h
  split at h
  · rename_i fs hu
    split at h
    · rename_i x hf
      split at h
      · cases h
      · rename_i n hn hz
        injection h with h; subst h
        have hz' : (Go.sizeOf x.type).run P w = .ok n w := run_sizeOf hz w
        simp only [Instr.fieldAt, Sem.run_bind, run_underlying hu, Result.andThen_ok, hf, Instr.sureAddr, Sem.run_pure, fieldPlace, hz']
        have hne : n ≠ 0 := fun e => hn (by rw [e])
        simp [hne]
      · cases h
    · cases h
  · cases h

theorem fieldPtr_ok {t : TypeId} {x : Operand} {f b off d : Nat} (ho : o.op = .fieldAddr t x f) (hx : RelV E (.c false [.ptr b off]) (a.eval x)) (hf : fieldT P t f = some d) (hm : Mod N E a g) :
    CoreOk P N g E a o ⟨.c false [.ptr b (off + d)], .none, []⟩ := by
  obtain ⟨cs, hv, hr, _⟩ := hx
  match cs, hr with
  | [y], hr =>
    obtain ⟨⟨hy, hl⟩, _⟩ := hr
    refine CoreOk.value (E' := E) (v := .pointer (some ⟨E.β b, off + d, none⟩)) ?_ rfl (Keep.refl E) hm ⟨[_], rfl, ⟨⟨rfl, hl⟩, trivial⟩, fun _ => rfl⟩
    simp [execOp, ho, hv, mkV, hy, ptrV, run_fieldAt hf, add_lit]

theorem fieldRf_ok {t : TypeId} {x : Operand} {f d : Nat} {sh : Sh} {y : sh.T} {off : Nat} (ho : o.op = .fieldAddr t x f) (hx : RelV E (.c false [.rf sh y off]) (a.eval x)) (hf : fieldT P t f = some d) (hm : Mod N E a g) :
    CoreOk P N g E a o ⟨.c false [.rf sh y (off + d)], .none, []⟩ := by
  obtain ⟨cs, hv, hr, _⟩ := hx
  match cs, hr with
  | [z], hr =>
    obtain ⟨⟨ad, ds, hy, h1, h2, h3⟩, _⟩ := hr
    refine CoreOk.value (E' := E) (v := .pointer (some (ad.add (off + d)))) ?_ rfl (Keep.refl E) hm ⟨[_], rfl, ⟨⟨ad, ds, rfl, h1, h2, h3⟩, trivial⟩, fun _ => rfl⟩
    simp [execOp, ho, hv, mkV, hy, run_fieldAt hf, add_add]

end
end Dn
end Go.Proofs.Ytghjblbkbelcfaa
