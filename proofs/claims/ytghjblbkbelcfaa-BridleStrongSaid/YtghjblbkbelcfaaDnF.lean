/- A symbolic executor: slices that are written out become data; contracts; calls. -/
import Derived.Test.YtghjblbkbelcfaaDnE
namespace Go.Proofs.Ytghjblbkbelcfaa
namespace Dn
open Go.RowKit

theorem flatten_at {n : Nat} : ∀ {css : List (List Value)} {k : Nat} {c : List Value} {j : Nat} {v : Value}, (∀ x ∈ css, x.length = n) → css[k]? = some c → c[j]? = some v → css.flatten[k * n + j]? = some v
  | [], k, c, j, v, _, h, _ => by simp at h
  | d :: css, 0, c, j, v, hn, h, hj => by
    simp only [List.getElem?_cons_zero, Option.some.injEq] at h
    subst h
    have hl : j < d.length := (List.getElem?_eq_some_iff.1 hj).1
    simp only [Nat.zero_mul, Nat.zero_add, List.flatten_cons, List.getElem?_append, hl, if_true]
    exact hj
  | d :: css, k + 1, c, j, v, hn, h, hj => by
    simp only [List.getElem?_cons_succ] at h
    have hd : d.length = n := hn d (by simp)
    have e : (k + 1) * n + j = d.length + (k * n + j) := by rw [hd, Nat.add_mul]; omega
    rw [List.flatten_cons, e, List.getElem?_append_right (by omega), Nat.add_sub_cancel_left]
    exact flatten_at (fun x hx => hn x (by simp [hx])) h hj

section
variable {P : Program} {N : Nat} {g : Look} {E : Env} {a : Act} {o : Oper}

theorem dat_keep {w : World} (hm : Mod N E a g) (hb : Below E.w.heap.size E.w w) : Keep E (E.dat w) := (dat_ext hb).keep hm.glob (Free.none E)

theorem build_ok {t et n : Nat} {ps : Array (Nat × Operand)} {e : Sh} {l : List e.T} {get : Operand → Option SV} (ho : o.op = .buildSlice t n ps) (hgt : Gets E a get o)
    (ht : elemT P t = some et) (hz : sizeT P et = some e.size) (hw : wholes e get 0 ps.toList = some l) (hn : ps.size = n) {z : List Value} (hz0 : zeroT P et = some z) (hsm : n * e.size ≤ 2 ^ 24) (hm : Mod N E a g) :
    CoreOk P N g E a o ⟨.c false [.sl e l], .none, []⟩ := by
  obtain ⟨h1, css, h2, h3, h4⟩ := wholes_run hw (fun p hp s hs => hgt p.2 s (by rw [ho]; simp only [Op.operands]; simpa using ⟨p.1, Array.mem_toList_iff.1 hp⟩) hs)
  have hll := wholes_length hw
  have hln : l.length = n := by rw [hll, ← hn]; simp
  have hlen : ∀ c ∈ css, c.length = e.size := by
    intro c hc
    obtain ⟨k, hk, rfl⟩ := List.getElem_of_mem hc
    have hkl : k < l.length := by omega
    obtain ⟨c', e1, e2⟩ := h4 k l[k] (List.getElem?_eq_getElem hkl)
    rw [List.getElem?_eq_getElem hk] at e1
    injection e1 with e1
    rw [e1]
    exact e2.len
  have hcs : ∀ v ∈ ps.toList.map (fun p => a.eval p.2), v.cells.size = e.size := by
    intro v hv
    obtain ⟨p, hp, rfl⟩ := List.mem_map.1 hv
    have : (a.eval p.2).cells.toList ∈ css := by rw [← h3]; exact List.mem_map.2 ⟨p, hp, rfl⟩
    have := hlen _ this
    simpa using this
  have hflat : (ps.toList.map fun p => a.eval p.2).flatMap (fun v => v.cells.toList) = css.flatten := by
    rw [← h3, List.flatMap, List.map_map]
    rfl
  have hu := elemT_eq ht
  have hzv : ∃ i zv, P.info? et = some i ∧ i.zero = some zv := by
    unfold zeroT at hz0
    split at hz0
    · rename_i i hi
      split at hz0
      · rename_i zv hzv
        exact ⟨i, zv, hi, hzv⟩
      · cases hz0
    · cases hz0
  obtain ⟨ti, zv, hi, hzv⟩ := hzv
  have hfill : ∀ c0 : Array Value, c0.size = n * e.size → Instr.fill (fun i => some (i * e.size, e.size)) c0 (ps.map fun p => (p.1, a.eval p.2)).toList = some css.flatten.toArray := by
    intro c0 hc0
    rw [Array.toList_map, h1, fill_seq e.size _ 0 c0 hcs (by simp [hn, hc0]), hflat]
    simp [hn, hc0]
  have hb : Below E.w.heap.size E.w (E.w.alloc (.cells css.flatten.toArray et)) := (Below.refl _ _).alloc (Nat.le_refl _) _
  refine CoreOk.value (E' := E.dat (E.w.alloc (.cells css.flatten.toArray et))) (v := .slice (some ⟨E.w.heap.size, 0, none⟩) n n) ?_ rfl (dat_keep hm hb) (dat_mod hm hb) ⟨[_], rfl, ⟨?_, trivial⟩, fun _ => rfl⟩
  · simp only [execOp, ho, Instr.buildSlice, Sem.run_bind, run_underlying hu, Result.andThen_ok, run_sizeOf hz]
    rw [if_neg (by omega)]
    by_cases h0 : n * e.size = 0
    · rw [if_pos h0]
      simp only [pure_bind]
      rw [hfill _ (by simp)]
      rfl
    · rw [if_neg h0]
      simp only [Sem.run_bind, zeroValue, typeInfo]
      simp only [run_program, Result.andThen_ok, hi, hzv, Sem.run_pure]
      rw [hfill _ (by simp)]
      rfl
  · show Dat _ _ (.sl e) l _
    simp only [Dat]
    refine ⟨_, n, by rw [hln], by omega, fun h => (by cases h), fun _ => ⟨_, rfl, .inr ⟨Nat.le_refl _, by simp⟩, fun k x hx => ?_⟩⟩
    obtain ⟨c, e1, e2⟩ := h4 k x hx
    refine ⟨c, Dat.mono (fun _ h => .inl h) (fun b hb' => heap_push E.w _ b (hm.glob.zlt b hb')) e2, fun j v hj => ?_⟩
    rw [add_lit]
    have := flatten_at hlen e1 hj
    simp [Env.dat, this]

/-! ### Contracts -/

inductive RSh where
  | one (s : Sh)
  | tup (l : List Sh)
abbrev RSh.T : RSh → Type
  | .one s => s.T
  | .tup l => TsS l
def dflts : (l : List Sh) → TsS l
  | [] => ()
  | s :: r => (s.dflt, dflts r)
def RSh.dflt : (r : RSh) → r.T
  | .one s => s.dflt
  | .tup l => dflts l

def RetV (w : World) (Z : Nat → Prop) : (r : RSh) → r.T → Value → Prop
  | .one s, x, v => DatV w Z s x v
  | .tup l, x, v => ∃ vs, v = .tuple vs.toArray ∧ DatVs w Z l x vs

/-- A variable that was captured: its block holds the datum. -/
def RefV (w : World) (Z : Nat → Prop) (s : Sh) (x : s.T) (v : Value) : Prop :=
  ∃ b cs, v = .pointer (some ⟨b, 0, none⟩) ∧ b < w.heap.size ∧ Dat w Z s x cs ∧ ∀ j u, cs[j]? = some u → w.cell? ⟨b, j, none⟩ = some u

def RefVs (w : World) (Z : Nat → Prop) : (l : List Sh) → TsS l → List Value → Prop
  | [], _, vs => vs = []
  | s :: r, x, vs => ∃ v vs', vs = v :: vs' ∧ RefV w Z s x.1 v ∧ RefVs w Z r x.2 vs'

def FnVs (P : Program) (w : World) (Z : Nat → Prop) : (l : List (List Sh × Sh)) → TsF l → List Value → Prop
  | [], _, vs => vs = []
  | s :: r, x, vs => ∃ v vs', vs = v :: vs' ∧ FnV P w Z s.1 s.2 x.1 v ∧ FnVs P w Z r x.2 vs'

/-- What a function that only reads and makes memory answers: data parameters, then functions, then captured variables. -/
structure Ctr where
  as : List Sh
  fs : List (List Sh × Sh)
  cs : List Sh
  r : RSh
  m : TsS as → TsF fs → TsS cs → Option r.T

def Ctr.ok (P : Program) (f : FuncId) (c : Ctr) : Prop :=
  ∀ x F y z, c.m x F y = some z → ∀ (w : World) (Z : Nat → Prop) vals fvals cvals, (∀ b, Z b → b < w.heap.size) → DatVs w Z c.as x vals → FnVs P w Z c.fs F fvals → RefVs w Z c.cs y cvals →
    Calls P f (vals ++ fvals ++ cvals).toArray w fun e w' => ∃ v, e = .returned v ∧ RetV w' (fresh Z w w') c.r z v ∧ Below w.heap.size w w'

/-- What a function answers that makes a row: the row is the caller's own. -/
structure RCtr where
  as : List Sh
  t : TypeId
  e : Sh
  m : TsS as → Option (List e.T)

def RCtr.ok (P : Program) (f : FuncId) (c : RCtr) : Prop :=
  ∀ x l, c.m x = some l → ∀ (w : World) (Z : Nat → Prop) vals, (∀ b, Z b → b < w.heap.size) → DatVs w Z c.as x vals →
    Calls P f vals.toArray w fun e w' => ∃ (v : Value) (Z' : Nat → Prop), e = .returned v ∧ (∀ b, Z b → Z' b) ∧ (∀ b, Z' b → fresh Z w w' b) ∧ (∀ b, v.ownBlock = some b → ¬ Z' b) ∧
      (∃ xs, w'.ownsRow w.heap.size c.t c.e.size v l.length xs ∧ RowRel w' Z' c.e l xs) ∧ Below w.heap.size w w'

/-! ### Calls -/

theorem run_callFunc {f : FuncId} (h : callable P f = true) (args : Array Value) (w : World) : (callFunc f args).run P w = .ok (.enter f args) w := by
  unfold callable at h
  split at h
  · rename_i fn hf
    simp only [Bool.and_eq_true, Bool.not_eq_true'] at h
    have hb : ¬ fn.body = none := fun e => by rw [e] at h; simp at h
    have hn : ¬ fn.name = "runtime.NumGoroutine" := by simpa using h.1
    simp [callFunc, hf, hn, hb]
  · cases h

def compsS : (l : List Sh) → TsS l → List (Bool × List At)
  | [], _ => []
  | s :: r, x => (s.isAgg, Sh.cells s x.1) :: compsS r x.2
def retS : (r : RSh) → r.T → SV
  | .one s, x => .c s.isAgg (Sh.cells s x)
  | .tup l, x => .tup (compsS l x)

theorem datV_rel {s : Sh} {x : s.T} {v : Value} (h : DatV E.w E.Z s x v) : RelC E s.isAgg (Sh.cells s x) v :=
  let ⟨cs, h1, h2, h3⟩ := h
  ⟨cs, h2, h1.rel, h3⟩
theorem datVs_rel : ∀ {l : List Sh} {x : TsS l} {vs : List Value}, DatVs E.w E.Z l x vs → RelT E (compsS l x) vs
  | [], _, _, h => by simp only [DatVs] at h; subst h; trivial
  | _ :: _, _, _, h => by
    simp only [DatVs] at h
    obtain ⟨v, vs', rfl, h1, h2⟩ := h
    exact ⟨datV_rel h1, datVs_rel h2⟩
theorem retV_rel {r : RSh} {x : r.T} {v : Value} (h : RetV E.w E.Z r x v) : RelV E (retS r x) v := by
  cases r with
  | one s => exact datV_rel h
  | tup l =>
    obtain ⟨vs, h1, h2⟩ := h
    exact ⟨vs, h1, datVs_rel h2⟩

theorem call_ok {f : Operand} {xs : Array Operand} {ts : Array TypeId} {id : FuncId} {cap : Array Value} {r : RSh} {x : r.T} {p : List Bool} (ho : o.op = .call { callee := .value f, args := xs, argTypes := ts }) (hf : a.eval f = .func (.func id) #[] cap)
    (hcall : callable P id = true) (hm : Mod N E a g)
    (hc : Calls P id (xs.map a.eval ++ cap) E.w fun e w' => ∃ v, e = .returned v ∧ RetV w' (fresh E.Z E.w w') r x v ∧ Below E.w.heap.size E.w w') : CoreOk P N g E a o ⟨retS r x, .none, p⟩ := by
  intro K Q hK
  unfold Oper.wp
  have hrun : (execOp a.eval o).run P E.w = .ok (.enter id (xs.map a.eval ++ cap)) E.w := by
    simp only [execOp, ho, resolve, hf, Deferred.ofValue, pure_bind, invoke, Array.empty_append]
    exact run_callFunc hcall _ _
  rw [hrun]
  refine hc.mono fun e w' he => ?_
  obtain ⟨v, rfl, h1, h2⟩ := he
  exact hK (E.dat w') v rfl (dat_keep hm h2) (dat_mod hm h2) (retV_rel h1)

end
end Dn
end Go.Proofs.Ytghjblbkbelcfaa
