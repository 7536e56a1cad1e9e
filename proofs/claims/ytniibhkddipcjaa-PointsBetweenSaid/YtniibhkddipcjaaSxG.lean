/- A symbolic executor: equality of structs, shifts, function values, calls by contract, and the step of one operation. -/
import Derived.Test.YtniibhkddipcjaaSxF
namespace Go.Proofs.Ytniibhkddipcjaa
namespace Sx
open Go.RowKit

structure Ctx where
  P : Program
  sh : TypeId → Option Sh
  ctr : FuncId → Option Ctr

def Ctx.ok (C : Ctx) : Prop := ∀ id c, C.ctr id = some c → callable C.P id = true ∧ c.ok C.P id

section
variable {P : Program} {N : Nat} {g : Look} {E : Env} {a : Act} {o : Oper}

/-! ### Equality of structs -/

def eqFs (P : Program) (rec : TypeId → Value → Value → Option Bool) (xs ys : Array Value) : List Field → Option Bool
  | [] => some true
  | f :: r => match f.name == "_" with
    | true => eqFs P rec xs ys r
    | false => match pureS P (part f.type xs f.offset), pureS P (part f.type ys f.offset) with
      | some x, some y => match rec f.type x y, eqFs P rec xs ys r with
        | some p, some q => some (p && q)
        | _, _ => none
      | _, _ => none

def eqS (P : Program) : Nat → TypeId → Value → Value → Option Bool
  | 0, _, _, _ => none
  | d + 1, t, x, y => match P.underlying t with
    | some (.int _) => match x, y with
      | .int k m, .int k' n => match decide (k = k') with
        | true => some (m == n)
        | false => none
      | _, _ => none
    | some .bool => match x, y with
      | .bool m, .bool n => some (m == n)
      | _, _ => none
    | some .string => match x, y with
      | .string m, .string n => some (m == n)
      | _, _ => none
    | some (.struct fs) => match x, y with
      | .agg xs, .agg ys => match P.stoodInHeld t with
        | true => none
        | false => eqFs P (eqS P d) xs ys fs.toList
      | _, _ => none
    | _ => none

theorem eqFs_run {d : Nat} {rec : TypeId → Value → Value → Option Bool} (hrec : ∀ t x y b, rec t x y = some b → ∀ w, (Op.equalIn d t x y).run P w = .ok b w) (xs ys : Array Value) :
    ∀ (fs : List Field) (b : Bool), eqFs P rec xs ys fs = some b → ∀ w, (Op.eqFields d xs ys fs).run P w = .ok b w
  | [], b, h, w => by simp only [eqFs] at h; injection h with h; subst h; rfl
  | f :: r, b, h, w => by
    simp only [eqFs] at h
    split at h
    · rename_i hn
      have hn : f.name = "_" := by simpa using hn
      simp only [Op.eqFields, hn, ne_eq, not_true_eq_false, if_false]
      exact eqFs_run hrec xs ys r b h w
    · rename_i hn
      have hn : ¬ f.name = "_" := by simpa using hn
      split at h
      · rename_i x y hx hy
        split at h
        · rename_i p q hp hq
          injection h with h
          subst h
          simp only [Op.eqFields, ne_eq, hn, not_false_eq_true, if_true, Sem.run_bind, pureS_run hx, pureS_run hy, Result.andThen_ok, hrec _ _ _ _ hp]
          cases p
          · simp
          · simp only [Bool.not_true, Bool.false_eq_true, if_false, Bool.true_and]
            exact eqFs_run hrec xs ys r q hq w
        · cases h
      · cases h

theorem eqS_run : ∀ {d : Nat} {t : TypeId} {x y : Value} {b : Bool}, eqS P d t x y = some b → ∀ w, (Op.equalIn d t x y).run P w = .ok b w
  | 0, _, _, _, _, h, _ => by cases h
  | d + 1, t, x, y, b, h, w => by
    simp only [eqS] at h
    split at h
    · rename_i hu
      split at h
      · split at h
        · rename_i hk
          have hk := of_decide_eq_true hk
          subst hk
          injection h with h; subst h
          exact run_equalIn_int w d t _ _ _ _ hu
        · cases h
      · cases h
    · rename_i hu
      split at h
      · injection h with h; subst h
        exact run_equalIn_bool' w d t _ _ hu
      · cases h
    · rename_i hu
      split at h
      · injection h with h; subst h
        rw [beq_toListBytes]
        exact run_equalIn_string w d t _ _ hu
      · cases h
    · rename_i fs hu
      split at h
      · rename_i xs ys
        split at h
        · cases h
        · rename_i hs
          have hf : P.fieldsOf t = fs := by simp [Program.fieldsOf, hu]
          rw [run_equalIn_struct w d t xs ys (by rw [hf]; exact hu) hs, hf]
          exact eqFs_run (fun _ _ _ _ h w => eqS_run h w) xs ys fs.toList b h w
      · cases h
    · cases h

def eqC (P : Program) (get : Operand → Option SV) (o : Oper) : Option Core := match o.op with
  | .binOp .eql t x y _ => match getV get x, getV get y with
    | some (.agg xs), some (.agg ys) => match P.eqGuardType P.depth t, eqS P 10000 t (.agg xs) (.agg ys) with
      | false, some b => some ⟨.c false [.v (.bool b)], .none, []⟩
      | _, _ => none
    | _, _ => pureC P get o
  | .binOp .neq t x y _ => match getV get x, getV get y with
    | some (.agg xs), some (.agg ys) => match P.eqGuardType P.depth t, eqS P 10000 t (.agg xs) (.agg ys) with
      | false, some b => some ⟨.c false [.v (.bool !b)], .none, []⟩
      | _, _ => none
    | _, _ => pureC P get o
  | _ => none

theorem eqC_ok {get : Operand → Option SV} {r : Core} (h : eqC P get o = some r) (hg : Gets E a get o) (hm : Mod N E a g) : CoreOk P N g E a o r := by
  unfold eqC at h
  split at h
  · rename_i t x y t' ho
    split at h
    · rename_i xs ys hx hy
      split at h
      · rename_i b hgd hb
        injection h with h
        subst h
        have e1 := getV_eval hg (by simp [ho, Op.operands]) hx
        have e2 := getV_eval hg (by simp [ho, Op.operands]) hy
        refine CoreOk.value (E' := E) (v := .bool b) ?_ rfl hm ⟨[_], rfl, ⟨rfl, trivial⟩, fun _ => rfl⟩
        simp only [execOp, ho, e1, e2, Sem.run_bind, run_eqGuard_agg E.w _ t _ _ xs ys hgd, Result.andThen_ok, run_eql_struct, eqS_run hb E.w, Sem.run_pure]
      · cases h
    · exact pureC_ok h hg hm
  · rename_i t x y t' ho
    split at h
    · rename_i xs ys hx hy
      split at h
      · rename_i b hgd hb
        injection h with h
        subst h
        have e1 := getV_eval hg (by simp [ho, Op.operands]) hx
        have e2 := getV_eval hg (by simp [ho, Op.operands]) hy
        refine CoreOk.value (E' := E) (v := .bool !b) ?_ rfl hm ⟨[_], rfl, ⟨rfl, trivial⟩, fun _ => rfl⟩
        simp only [execOp, ho, e1, e2, Sem.run_bind, run_eqGuard_agg E.w _ t _ _ xs ys hgd, Result.andThen_ok, run_neq_struct, eqS_run hb E.w, Sem.run_pure]
      · cases h
    · exact pureC_ok h hg hm
  · cases h

/-! ### Shifts -/

def shiftC (get : Operand → Option SV) (o : Oper) : Option Core := match o.op with
  | .binOp .shl _ x y _ => match getV get x, getV get y with
    | some (.int k m), some (.int _ n) => some ⟨.c false [.v (.int k (k.wrap (m * 2 ^ (min n.toNat k.bits))))], .none, [0 ≤ n]⟩
    | _, _ => none
  | .binOp .shr _ x y _ => match getV get x, getV get y with
    | some (.int k m), some (.int _ n) => some ⟨.c false [.v (.int k (m.fdiv (2 ^ (min n.toNat k.bits))))], .none, [0 ≤ n]⟩
    | _, _ => none
  | _ => none

theorem shiftC_ok {get : Operand → Option SV} {r : Core} (h : shiftC get o = some r) (hg : Gets E a get o) (hm : Mod N E a g) (hp : allP r.p) : CoreOk P N g E a o r := by
  unfold shiftC at h
  split at h
  · rename_i t x y t' ho
    split at h
    · rename_i k m k' n hx hy
      injection h with h
      subst h
      have e1 := getV_eval hg (by simp [ho, Op.operands]) hx
      have e2 := getV_eval hg (by simp [ho, Op.operands]) hy
      have hn : ¬ n < 0 := by have : 0 ≤ n := hp; omega
      refine CoreOk.value (E' := E) ?_ rfl hm ⟨[_], rfl, ⟨rfl, trivial⟩, fun _ => rfl⟩
      simp [execOp, ho, e1, e2, eqGuard, binOp, Op.shift, hn, mkV]
    · cases h
  · rename_i t x y t' ho
    split at h
    · rename_i k m k' n hx hy
      injection h with h
      subst h
      have e1 := getV_eval hg (by simp [ho, Op.operands]) hx
      have e2 := getV_eval hg (by simp [ho, Op.operands]) hy
      have hn : ¬ n < 0 := by have : 0 ≤ n := hp; omega
      refine CoreOk.value (E' := E) ?_ rfl hm ⟨[_], rfl, ⟨rfl, trivial⟩, fun _ => rfl⟩
      simp [execOp, ho, e1, e2, eqGuard, binOp, Op.shift, hn, mkV]
    · cases h
  · cases h

/-! ### Function values -/

def capsC (get : Operand → Option SV) : List Operand → Option (List (Nat × Nat))
  | [] => some []
  | x :: r => match get x, capsC get r with
    | some (.c false [.ptr b off]), some l => some ((b, off) :: l)
    | _, _ => none

theorem capsC_rel {get : Operand → Option SV} : ∀ {xs : List Operand} {l : List (Nat × Nat)}, capsC get xs = some l → (∀ x ∈ xs, ∀ s, get x = some s → RelV E s (a.eval x)) →
    xs.map a.eval = l.map (ptrV E.β) ∧ ∀ p ∈ l, E.L p.1
  | [], l, h, _ => by simp only [capsC] at h; injection h with h; subst h; exact ⟨rfl, fun p hp => by cases hp⟩
  | x :: r, l, h, hg => by
    simp only [capsC] at h
    split at h
    · rename_i b off l' hx hr
      injection h with h
      subst h
      obtain ⟨h1, h2⟩ := capsC_rel hr fun y hy => hg y (by simp [hy])
      obtain ⟨cs, hv, hc, _⟩ := hg x (by simp) _ hx
      match cs, hc with
      | [z], hc =>
        obtain ⟨hz, hl⟩ := hc.1
        refine ⟨by simp [h1, hv, mkV, hz], fun p hp => ?_⟩
        rcases List.mem_cons.1 hp with rfl | hp
        · exact hl
        · exact h2 p hp
    · cases h

def funcC (get : Operand → Option SV) (o : Oper) : Option Core := match o.op with
  | .makeFunc (.func f) first caps => match first.toList, caps.toList with
    | [], [] => some ⟨.c false [.v (.func (.func f) #[] #[])], .none, []⟩
    | [], c :: cs => match capsC get (c :: cs) with
      | some l => some ⟨.c false [.clo f l], .none, []⟩
      | none => none
    | _, _ => none
  | _ => none

theorem funcC_ok {get : Operand → Option SV} {r : Core} (h : funcC get o = some r) (hg : Gets E a get o) (hm : Mod N E a g) : CoreOk P N g E a o r := by
  unfold funcC at h
  split at h
  · rename_i f first caps ho
    split at h
    · rename_i h1 h2
      injection h with h
      subst h
      have h1 : first = #[] := by simpa using h1
      have h2 : caps = #[] := by simpa using h2
      refine CoreOk.value (E' := E) ?_ rfl hm ⟨[_], rfl, ⟨rfl, trivial⟩, fun _ => rfl⟩
      simp [execOp, ho, h1, h2, Instr.makeFunc, mkV]
    · rename_i c cs h1 h2
      split at h
      · rename_i l hl
        injection h with h
        subst h
        have h1 : first = #[] := by simpa using h1
        have h2' : caps = (c :: cs).toArray := by rw [← h2]
        obtain ⟨e1, e2⟩ := capsC_rel hl fun x hx s hs => hg x s (by rw [ho]; simp only [Op.operands]; rw [Array.mem_append]; right; rw [h2']; simpa using hx) hs
        refine CoreOk.value (E' := E) (v := .func (.func f) #[] (l.map (ptrV E.β)).toArray) ?_ rfl hm ⟨[_], rfl, ⟨⟨rfl, e2⟩, trivial⟩, fun _ => rfl⟩
        have e3 : caps.map a.eval = (l.map (ptrV E.β)).toArray := by rw [h2', ← e1]; simp
        simp [execOp, ho, h1, Instr.makeFunc, e3]
      · cases h
    · cases h
  · cases h

/-! ### Calls by contract -/

def shs? : (a b : List Sh) → Option (PLift (a = b))
  | [], [] => some ⟨rfl⟩
  | x :: r, y :: r' => match Sh.eq? x y, shs? r r' with
    | some ⟨h⟩, some ⟨h'⟩ => some ⟨by rw [h, h']⟩
    | _, _ => none
  | _, _ => none

def takes : (as : List Sh) → List SV → Option (TsS as × List SV)
  | [], l => some ((), l)
  | s :: r, v :: l => match s.whole v, takes r l with
    | some x, some (y, l') => some ((x, y), l')
    | _, _ => none
  | _ :: _, [] => none

def wholeL (s : Sh) (l : List At) : Option s.T := match s.take l with
  | some (x, []) => some x
  | _ => none

def takeRefs (bk : Nat → Option (List At)) : (cs : List Sh) → List (Nat × Nat) → Option (TsS cs)
  | [], [] => some ()
  | s :: r, p :: l => match Nat.beq p.2 0, bk p.1, takeRefs bk r l with
    | true, some b, some y => match wholeL s b with
      | some x => some (x, y)
      | none => none
    | _, _, _ => none
  | _, _ => none

def Ctr.asFn (c : Ctr) (a : List Sh) (r : Sh) (y : TsS c.cs) : Option (FnT a r) := match c, y with
  | ⟨as, [], _, .one r', pre, m⟩, y => match shs? as a, Sh.eq? r' r with
    | some ⟨h⟩, some ⟨h'⟩ => some (h ▸ h' ▸ ((fun x => pre x () y, fun x => m x () y) : FnT as r'))
    | _, _ => none
  | _, _ => none

def fnOf : SV → Option (FuncId × List (Nat × Nat))
  | .c false [.v (.func (.func id) ⟨[]⟩ ⟨[]⟩)] => some (id, [])
  | .c false [.clo id cap] => some (id, cap)
  | _ => none

/-- A function that came in as a parameter, handed on. -/
def takeP (a : List Sh) (r : Sh) : SV → Option (FnT a r)
  | .c false [.fn a' r' F] => match shs? a' a, Sh.eq? r' r with
    | some ⟨h⟩, some ⟨h'⟩ => some (h ▸ h' ▸ F)
    | _, _ => none
  | _ => none

def takeG (C : Ctx) (bk : Nat → Option (List At)) (a : List Sh) (r : Sh) (v : SV) : Option (FnT a r) := match fnOf v with
  | some (id, cap) => match C.ctr id with
    | some c => match takeRefs bk c.cs cap with
      | some y => c.asFn a r y
      | none => none
    | none => none
  | none => none

def takeF (C : Ctx) (bk : Nat → Option (List At)) (a : List Sh) (r : Sh) (v : SV) : Option (FnT a r) := match takeP a r v with
  | some F => some F
  | none => takeG C bk a r v

def takeFs (C : Ctx) (bk : Nat → Option (List At)) : (fs : List (List Sh × Sh)) → List SV → Option (TsF fs)
  | [], [] => some ()
  | f :: r, v :: l => match takeF C bk f.1 f.2 v, takeFs C bk r l with
    | some x, some y => some (x, y)
    | _, _ => none
  | _, _ => none

def gets (get : Operand → Option SV) : List Operand → Option (List SV)
  | [] => some []
  | x :: r => match get x, gets get r with
    | some s, some l => some (s :: l)
    | _, _ => none

def callC (C : Ctx) (get : Operand → Option SV) (bk : Nat → Option (List At)) (f : Operand) (xs : Array Operand) : Option Core := match get f with
  | some fv => match fnOf fv, gets get xs.toList with
    | some (id, cap), some l => match C.ctr id with
      | some c => match takes c.as l, takeRefs bk c.cs cap with
        | some (x, l'), some y => match takeFs C bk c.fs l' with
          | some F => some ⟨retS c.r (c.m x F y), .none, [c.pre x F y]⟩
          | none => none
        | _, _ => none
      | none => none
    | _, _ => none
  | none => none

def RelVs (E : Env) : List SV → List Value → Prop
  | [], [] => True
  | s :: l, v :: r => RelV E s v ∧ RelVs E l r
  | _, _ => False

theorem gets_rel {get : Operand → Option SV} : ∀ {xs : List Operand} {l : List SV}, gets get xs = some l → (∀ x ∈ xs, ∀ s, get x = some s → RelV E s (a.eval x)) → RelVs E l (xs.map a.eval)
  | [], l, h, _ => by simp only [gets] at h; injection h with h; subst h; trivial
  | x :: r, l, h, hg => by
    simp only [gets] at h
    split at h
    · rename_i s l' hs hl
      injection h with h
      subst h
      exact ⟨hg x (by simp) s hs, gets_rel hl fun y hy => hg y (by simp [hy])⟩
    · cases h

theorem takes_rel : ∀ {as : List Sh} {l l' : List SV} {x : TsS as} {vs : List Value}, takes as l = some (x, l') → RelVs E l vs → ∃ vs1 vs2, vs = vs1 ++ vs2 ∧ DatVs E.w E.Z as x vs1 ∧ RelVs E l' vs2
  | [], l, l', x, vs, h, hr => by
    simp only [takes, Option.some.injEq, Prod.mk.injEq] at h
    obtain ⟨_, rfl⟩ := h
    exact ⟨[], vs, rfl, rfl, hr⟩
  | s :: r, v :: l, l', x, vs, h, hr => by
    simp only [takes] at h
    split at h
    · rename_i y z l'' hy hz
      simp only [Option.some.injEq, Prod.mk.injEq] at h
      obtain ⟨rfl, rfl⟩ := h
      match vs, hr with
      | u :: vs, hr =>
        obtain ⟨vs1, vs2, rfl, h1, h2⟩ := takes_rel hz hr.2
        exact ⟨u :: vs1, vs2, rfl, by simp only [DatVs]; exact ⟨u, vs1, rfl, whole_rel hy hr.1, h1⟩, h2⟩
    · cases h
  | _ :: _, [], _, _, _, h, _ => by cases h

theorem refV_of (hm : Mod N E a g) {bk : Nat → Option (List At)} (hbk : ∀ i l, bk i = some l → g.h i = some l) {s : Sh} {i : Nat} {l : List At} {x : s.T} (hb : bk i = some l) (hx : wholeL s l = some x)
    {w' : World} {Z' : Nat → Prop} (hw : Below E.w.heap.size E.w w') (hZ : ∀ b, E.Z b → Z' b) : RefV w' Z' s x (ptrV E.β (i, 0)) := by
  obtain ⟨_, cs, t, hh, hr, _⟩ := hm.blks i l (hbk i l hb)
  unfold wholeL at hx
  split at hx
  · rename_i y hy
    injection hx with hx
    subst hx
    obtain ⟨c1, c2, rfl, hd, h2⟩ := take_rel hy hr
    match c2, h2 with
    | [], _ =>
      have hlt := hm.blk_lt (hbk i l hb)
      rw [List.append_nil] at hh
      refine ⟨E.β i, c1, rfl, Nat.lt_of_lt_of_le hlt hw.size, Dat.mono hZ (fun b hb' => hw.block b (hm.glob.zlt b hb')) hd, fun j u hj => ?_⟩
      simp [World.cell?, hw.block _ hlt, hh, hj]
  · cases hx

theorem takeRefs_rel (hm : Mod N E a g) {bk : Nat → Option (List At)} (hbk : ∀ i l, bk i = some l → g.h i = some l) {w' : World} {Z' : Nat → Prop} (hw : Below E.w.heap.size E.w w') (hZ : ∀ b, E.Z b → Z' b) :
    ∀ {cs : List Sh} {cap : List (Nat × Nat)} {y : TsS cs}, takeRefs bk cs cap = some y → RefVs w' Z' cs y (cap.map (ptrV E.β))
  | [], [], _, _ => rfl
  | s :: r, p :: l, y, h => by
    simp only [takeRefs] at h
    split at h
    · rename_i b z h0 hb hz
      split at h
      · rename_i x hx
        injection h with h
        subst h
        obtain ⟨i, off⟩ := p
        have h0 : off = 0 := by simpa using h0
        subst h0
        simp only [List.map_cons, RefVs]
        exact ⟨_, _, rfl, refV_of hm hbk hb hx hw hZ, takeRefs_rel hm hbk hw hZ hz⟩
      · cases h
    · cases h
  | [], _ :: _, _, h => by cases h
  | _ :: _, [], _, h => by cases h

theorem fnOf_rel {v : SV} {id : FuncId} {cap : List (Nat × Nat)} {y : Value} (h : fnOf v = some (id, cap)) (hv : RelV E v y) : y = .func (.func id) #[] (cap.map (ptrV E.β)).toArray := by
  unfold fnOf at h
  split at h
  · simp only [Option.some.injEq, Prod.mk.injEq] at h
    obtain ⟨rfl, rfl⟩ := h
    exact toV_rel rfl hv
  · simp only [Option.some.injEq, Prod.mk.injEq] at h
    obtain ⟨rfl, rfl⟩ := h
    obtain ⟨cs, rfl, hr, _⟩ := hv
    match cs, hr with
    | [z], hr => rw [hr.1.1]; rfl
  · cases h

theorem takeP_rel (hm : Mod N E a g) {as : List Sh} {r : Sh} {v : SV} {F : FnT as r} {y : Value} (h : takeP as r v = some F) (hv : RelV E v y) : FnV E.P E.w E.Z as r F y := by
  unfold takeP at h
  split at h
  · rename_i a' r' F'
    split at h
    · rename_i h1 h2 _ _
      subst h1; subst h2
      injection h with h
      subst h
      obtain ⟨cs, rfl, hr, _⟩ := hv
      match cs, hr with
      | [z], hr =>
        obtain ⟨id, cap, hz, hcall, hfn⟩ := hr.1
        exact ⟨id, cap, hz, hcall, fun w' Z' x vals hw hZ => hfn w' Z' x vals (hm.glob.below.trans (hw.mono hm.glob.below.size)) fun b hb => hZ b (hm.glob.z0 b hb)⟩
    · cases h
  · cases h

theorem takeG_rel {C : Ctx} (hC : C.ok) (hm : Mod N E a g) {bk : Nat → Option (List At)} (hbk : ∀ i l, bk i = some l → g.h i = some l) {as : List Sh} {r : Sh} {v : SV} {F : FnT as r} {y : Value}
    (h : takeG C bk as r v = some F) (hv : RelV E v y) : FnV C.P E.w E.Z as r F y := by
  unfold takeG at h
  split at h
  · rename_i id cap hf
    split at h
    · rename_i c hc
      split at h
      · rename_i z hz
        obtain ⟨hcall, hok⟩ := hC id c hc
        refine ⟨id, _, fnOf_rel hf hv, hcall, fun w' Z' x vals hw hZ hZb hd hv' => ?_⟩
        have hrefs := takeRefs_rel hm hbk hw hZ hz
        obtain ⟨as', fs', cs', r', pre, m⟩ := c
        unfold Ctr.asFn at h
        split at h
        · rename_i as2 cs2 r2 pre2 m2 _ y2 heq1 heq2
          injection heq1 with e1 e2 e3 e4 e5 e6
          subst e1; subst e2; subst e3; subst e4
          cases e5; cases e6; cases heq2
          split at h
          · rename_i h1 h2 _ _
            subst h1; subst h2
            injection h with h
            subst h
            have := hok x () y2 hd w' Z' vals [] _ hZb hv' rfl hrefs
            simpa [RetV] using this
          · cases h
        · cases h
      · cases h
    · cases h
  · cases h

theorem takeF_rel {C : Ctx} (hC : C.ok) (hP : E.P = C.P) (hm : Mod N E a g) {bk : Nat → Option (List At)} (hbk : ∀ i l, bk i = some l → g.h i = some l) {as : List Sh} {r : Sh} {v : SV} {F : FnT as r} {y : Value}
    (h : takeF C bk as r v = some F) (hv : RelV E v y) : FnV C.P E.w E.Z as r F y := by
  unfold takeF at h
  split at h
  · rename_i F' hF
    injection h with h
    subst h
    rw [← hP]
    exact takeP_rel hm hF hv
  · exact takeG_rel hC hm hbk h hv

theorem takeFs_rel {C : Ctx} (hC : C.ok) (hP : E.P = C.P) (hm : Mod N E a g) {bk : Nat → Option (List At)} (hbk : ∀ i l, bk i = some l → g.h i = some l) :
    ∀ {fs : List (List Sh × Sh)} {l : List SV} {F : TsF fs} {vs : List Value}, takeFs C bk fs l = some F → RelVs E l vs → FnVs C.P E.w E.Z fs F vs
  | [], [], _, vs, _, hr => by
    match vs, hr with
    | [], _ => rfl
  | f :: r, v :: l, F, vs, h, hr => by
    simp only [takeFs] at h
    split at h
    · rename_i x y hx hy
      injection h with h
      subst h
      match vs, hr with
      | u :: vs, hr =>
        simp only [FnVs]
        exact ⟨u, vs, rfl, takeF_rel hC hP hm hbk hx hr.1, takeFs_rel hC hP hm hbk hy hr.2⟩
    · cases h
  | [], _ :: _, _, _, h, _ => by cases h
  | _ :: _, [], _, _, h, _ => by cases h

theorem callC_ok {C : Ctx} (hC : C.ok) (hP : E.P = C.P) {get : Operand → Option SV} {bk : Nat → Option (List At)} {f : Operand} {xs : Array Operand} {ts : Array TypeId} {r : Core} (ho : o.op = .call { callee := .value f, args := xs, argTypes := ts })
    (h : callC C get bk f xs = some r) (hg : Gets E a get o) (hm : Mod N E a g) (hbk : ∀ i l, bk i = some l → g.h i = some l) (hp : allP r.p) : CoreOk C.P N g E a o r := by
  unfold callC at h
  split at h
  · rename_i fv hfv
    split at h
    · rename_i id cap l hf hl
      split at h
      · rename_i c hc
        split at h
        · rename_i x l' y hx hy
          split at h
          · rename_i F hF
            injection h with h
            subst h
            obtain ⟨hcall, hok⟩ := hC id c hc
            have hfe := fnOf_rel hf (hg f fv (by rw [ho]; simp [Op.operands, Call.operands]) hfv)
            have hl' := gets_rel hl fun x hx s hs => hg x s (by rw [ho]; simp only [Op.operands, Call.operands]; rw [Array.mem_append]; right; exact Array.mem_toList_iff.1 hx) hs
            obtain ⟨vs1, vs2, e, h1, h2⟩ := takes_rel hx hl'
            have h3 := takeFs_rel hC hP hm hbk hF h2
            have h4 := takeRefs_rel hm hbk (Below.refl _ _) (fun _ h => h) hy
            refine call_ok ho hfe hcall hm ?_
            have := hok x F y hp E.w E.Z vs1 vs2 _ hm.glob.zlt h1 h3 h4
            rw [← e] at this
            have e2 : xs.map a.eval ++ (cap.map (ptrV E.β)).toArray = (xs.toList.map a.eval ++ cap.map (ptrV E.β)).toArray := by
              rw [← List.append_toArray]
              simp [← Array.toList_map]
            rw [e2]
            exact this
          · cases h
        · cases h
      · cases h
    · cases h
  · cases h

end
end Sx
end Go.Proofs.Ytniibhkddipcjaa
