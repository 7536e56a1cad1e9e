/- A symbolic executor: new variables, stores, elements of slices, slices that are written out, divisions, equality of structs. -/
import Derived.Test.YtghjblbkbelcfaaDnC
namespace Go.Proofs.Ytghjblbkbelcfaa
namespace Dn
open Go.RowKit

section
variable {P : Program} {N : Nat} {g : Look} {E : Env} {a : Act} {o : Oper}

def at1 : At → Bool
  | .u => false
  | .v x => x.oneCell'
  | _ => true

theorem at1_one {x : At} {v : Value} (h : at1 x = true) (hv : RelA E x v) : v.oneCell' = true := by
  cases x with
  | u => cases h
  | v y => cases hv; exact h
  | ptr b o => obtain ⟨rfl, _⟩ := hv; rfl
  | clo f cap => obtain ⟨rfl, _⟩ := hv; rfl
  | sl e l => exact Dat.one hv v (by simp)
  | row r => exact hv.2.2
  | rf s x o => obtain ⟨ad, cs, rfl, _⟩ := hv; rfl
  | re r i sz off => obtain ⟨b, _, rfl, _⟩ := hv; rfl
  | ae b o e n i d => obtain ⟨rfl, _⟩ := hv; rfl
  | sn e l => exact Dat.one hv.2 v (by simp)
  | fn a r F => obtain ⟨f, cap, rfl, _⟩ := hv; rfl

theorem ats1_one : ∀ {l : List At} {vs : List Value}, l.all at1 = true → RelL E l vs → ∀ v ∈ vs, v.oneCell' = true
  | [], [], _, _, v, hv => by cases hv
  | x :: l, y :: vs, h, hr, v, hv => by
    simp only [List.all_cons, Bool.and_eq_true] at h
    rcases List.mem_cons.1 hv with rfl | hv
    · exact at1_one h.1 hr.1
    · exact ats1_one h.2 hr.2 v hv
  | [], _ :: _, _, hr, _, _ => hr.elim
  | _ :: _, [], _, hr, _, _ => hr.elim

theorem cells_mkV {ag : Bool} {cs : List Value} (h1 : ag = false → cs.length = 1) (hone : ∀ v ∈ cs, v.oneCell' = true) : (mkV ag cs).cells = cs.toArray := by
  cases ag with
  | true => rfl
  | false =>
    match cs, h1 rfl with
    | [c], _ =>
      have := hone c (by simp)
      cases c <;> first | rfl | (simp [Value.oneCell'] at this)

/-! ### A new block of the call's own -/

def Env.new (E : Env) (b : Nat) (ob : Obj) : Env := { E with w := E.w.alloc ob, β := fun i => if i = b then E.w.heap.size else E.β i, L := fun i => E.L i ∨ i = b }

theorem heap_push (w : World) (ob : Obj) (k : Nat) (h : k < w.heap.size) : (w.alloc ob).heap[k]? = w.heap[k]? := Below.heap_alloc w ob k h
theorem heap_new (w : World) (ob : Obj) : (w.alloc ob).heap[w.heap.size]? = some ob := by
  show (w.heap.push ob)[w.heap.size]? = _
  simp

theorem new_ext {b : Nat} {ob : Obj} (hf : ¬ E.L b) : Ext (fun _ => False) E (E.new b ob) where
  P := rfl
  w0 := rfl
  Z0 := rfl
  Z _ h := h
  heap k h _ := heap_push E.w ob k h
  β i h := by
    show (if i = b then E.w.heap.size else E.β i) = E.β i
    exact if_neg fun e => hf (by rw [← e]; exact h)
  L _ h := .inl h
  ρ _ _ := rfl
  R _ h := h

theorem Mod.blk_lt (hm : Mod N E a g) {i : Nat} {l : List At} (h : g.h i = some l) : E.β i < E.w.heap.size := by
  obtain ⟨_, cs, t, h1, _⟩ := hm.blks i l h
  rcases Nat.lt_or_ge (E.β i) E.w.heap.size with h' | h'
  · exact h'
  · rw [Array.getElem?_eq_none h'] at h1; cases h1

theorem Mod.row_lt (hm : Mod N E a g) {i b : Nat} {r : RowI} (h : g.r i = some (some r)) (hb : (E.ρ i).ownBlock = some b) : E.w0.heap.size ≤ b ∧ b < E.w.heap.size := by
  obtain ⟨_, xs, h1, _⟩ := hm.rows i r h
  exact h1.lt b hb

theorem Mod.fresh (hm : Mod N E a g) {b : Nat} (hf : g.h b = none) : ¬ E.L b := fun h => by
  have := hm.glob.live b h
  rw [hf] at this
  cases this

theorem new_keep (hm : Mod N E a g) {b : Nat} (hf : g.h b = none) {ob : Obj} : Keep E (E.new b ob) := (new_ext (ob := ob) (hm.fresh hf)).keep hm.glob (Free.none E)

theorem new_mod (hm : Mod N E a g) {b : Nat} (hf : g.h b = none) {l : List At} {cs : List Value} (hr : RelL E l cs) (h1 : ∀ v ∈ cs, v.oneCell' = true) (t : TypeId) :
    Mod N (E.new b (.cells cs.toArray t)) a (g.setH b l) := by
  have hfr := hm.fresh hf
  have hx := new_ext (ob := .cells cs.toArray t) hfr
  refine hm.move (Free.none E) hx ?_ hm.nodef hm.size (fun i s h => .inl ⟨h, rfl⟩) (fun i l' h => ?_) (fun i r h => .inl ⟨h, fun _ _ => id⟩)
  · have hz := hm.glob.below.size
    refine ⟨hm.glob.below.alloc hz _, fun k hk => ?_, hm.glob.z0, hm.glob.zfrom, fun i hi => ?_, hm.glob.rlive, fun i l' hi => ?_, fun i j l' l'' hi hj hij => ?_, fun i r k hi hk => ?_, hm.glob.rinj⟩
    · have := hm.glob.zlt k hk
      simp only [Env.new, World.size_alloc]
      omega
    · simp only [Look.setH]
      split
      · rfl
      · rename_i h
        exact hm.glob.live i (hi.resolve_right h)
    · simp only [Look.setH] at hi
      simp only [Env.new]
      split
      · exact ⟨hz, fun h => Nat.lt_irrefl _ (hm.glob.zlt _ h)⟩
      · rename_i h
        rw [if_neg h] at hi
        exact hm.glob.own i l' hi
    · simp only [Look.setH] at hi hj
      simp only [Env.new] at hij
      by_cases h1 : i = b <;> by_cases h2 : j = b
      · rw [h1, h2]
      · rw [if_pos h1, if_neg h2] at hij
        rw [if_neg h2] at hj
        have := hm.blk_lt hj
        omega
      · rw [if_neg h1, if_pos h2] at hij
        rw [if_neg h1] at hi
        have := hm.blk_lt hi
        omega
      · rw [if_neg h1, if_neg h2] at hij
        rw [if_neg h1] at hi
        rw [if_neg h2] at hj
        exact hm.glob.inj i j _ _ hi hj hij
    · obtain ⟨h2, h3⟩ := hm.glob.rown i r k hi hk
      refine ⟨h2, fun j l' hj => ?_⟩
      simp only [Look.setH] at hj
      simp only [Env.new]
      split
      · have := (hm.row_lt hi hk).2
        omega
      · rename_i h
        rw [if_neg h] at hj
        exact h3 j l' hj
  · simp only [Look.setH] at h
    split at h
    · rename_i hib
      subst hib
      injection h with h
      subst h
      refine .inr ⟨.inr rfl, cs, t, ?_, RelL.ext hm.glob (Free.none E) hx hr, h1⟩
      show (E.w.alloc _).heap[if i = i then E.w.heap.size else _]? = _
      rw [if_pos rfl]
      exact heap_new _ _
    · exact .inl ⟨h, id⟩

theorem newVar_run (t : TypeId) (v : Value) (w : World) : (newVar t v).run P w = .ok ⟨w.heap.size, 0, none⟩ (w.alloc (.cells v.cells t)) := by
  rfl

theorem relPtr_new {b : Nat} {ob : Obj} : RelV (E.new b ob) (.c false [.ptr b 0]) (.pointer (some ⟨E.w.heap.size, 0, none⟩)) :=
  ⟨[_], rfl, ⟨⟨by simp [ptrV, Env.new], .inr rfl⟩, trivial⟩, fun _ => rfl⟩

theorem box_ok {t : TypeId} {x : Operand} {ag : Bool} {l : List At} {b : Nat} (ho : o.op = .box t x) (hx : RelV E (.c ag l) (a.eval x)) (hl : l.all at1 = true) (hf : g.h b = none) (hm : Mod N E a g) :
    CoreOk P N g E a o ⟨.c false [.ptr b 0], .alloc b l, []⟩ := by
  obtain ⟨cs, hv, hr, h1⟩ := hx
  have hone := ats1_one hl hr
  refine CoreOk.value (E' := E.new b (.cells cs.toArray t)) ?_ rfl (new_keep hm hf) (new_mod hm hf hr hone t) relPtr_new
  simp [execOp, ho, hv, Instr.box, newVar_run, cells_mkV h1 hone, Env.new]

def zeroT (P : Program) (t : TypeId) : Option (List Value) := match P.info? t with
  | some i => match i.zero with
    | some z => match z.cells.toList.all Value.oneCell' with
      | true => some z.cells.toList
      | false => none
    | none => none
  | none => none

theorem alloc_ok {t : TypeId} {cs : List Value} {b : Nat} (ho : o.op = .alloc t) (hz : zeroT P t = some cs) (hf : g.h b = none) (hm : Mod N E a g) :
    CoreOk P N g E a o ⟨.c false [.ptr b 0], .alloc b (cs.map .v), []⟩ := by
  unfold zeroT at hz
  split at hz
  · rename_i i hi
    split at hz
    · rename_i z hz'
      split at hz
      · rename_i hall
        injection hz with hz
        subst hz
        refine CoreOk.value (E' := E.new b (.cells z.cells t)) ?_ rfl (new_keep hm hf) ?_ relPtr_new
        · simp [execOp, ho, Instr.alloc, zeroValue, typeInfo, hi, hz', newVar_run, Env.new]
        · have := new_mod hm hf (relL_v (E := E) z.cells.toList) (fun v hv => List.all_eq_true.1 hall v hv) t
          simpa [Look.app] using this
      · cases hz
    · cases hz
  · cases hz

/-! ### A store into a block of the call's own -/

theorem RelL.nth : ∀ {l : List At} {vs : List Value} {i : Nat} {x : At}, RelL E l vs → l[i]? = some x → ∃ v, vs[i]? = some v ∧ RelA E x v
  | [], [], i, x, _, h => by simp at h
  | d :: l, v :: vs, 0, x, h, hi => by
    simp only [List.getElem?_cons_zero, Option.some.injEq] at hi
    subst hi
    exact ⟨v, rfl, h.1⟩
  | d :: l, v :: vs, i + 1, x, h, hi => by
    simp only [List.getElem?_cons_succ] at hi ⊢
    exact RelL.nth h.2 hi
  | [], _ :: _, _, _, h, _ => h.elim
  | _ :: _, [], _, _, h, _ => h.elim

def Env.wset (E : Env) (w : World) : Env := { E with w := w }

theorem store_mod (hm : Mod N E a g) {b : Nat} {l l' : List At} (hb : g.h b = some l) {cs : List Value} (t : TypeId) {w' : World} (hw : w'.heap[E.β b]? = some (.cells cs.toArray t (0, 0)))
    (hk : ∀ k, k ≠ E.β b → w'.heap[k]? = E.w.heap[k]?) (hos : w'.os = E.w.os) (htp : w'.tape = E.w.tape) (hop : w'.output = E.w.output) (hsz : w'.heap.size = E.w.heap.size)
    (hr : RelL E l' cs) (h1 : ∀ v ∈ cs, v.oneCell' = true) : Mod N (E.wset w') a (g.setH b l') ∧ Keep E (E.wset w') := by
  have hX : Free E fun k => k = E.β b := fun k hk => by
    obtain ⟨h1, h2⟩ := hm.glob.own b l hb
    subst hk
    exact ⟨h2, h1⟩
  have hx : Ext (fun k => k = E.β b) E (E.wset w') := ⟨rfl, rfl, rfl, fun _ h => h, fun k _ h => hk k h, fun _ _ => rfl, fun _ h => h, fun _ _ => rfl, fun _ h => h⟩
  have hg : Glob (E.wset w') (g.setH b l') := by
    refine ⟨⟨hos.trans hm.glob.below.os, htp.trans hm.glob.below.tape, hop.trans hm.glob.below.output, by show _ ≤ w'.heap.size; rw [hsz]; exact hm.glob.below.size, fun k hk' => ?_⟩, fun k h => ?_, hm.glob.z0, hm.glob.zfrom, fun i h => ?_, hm.glob.rlive, fun i l'' h => ?_, fun i j l1 l2 hi hj hij => ?_,
      fun i r k hi hk' => ?_, hm.glob.rinj⟩
    · refine (hk k (fun e => ?_)).trans (hm.glob.below.block k hk')
      have := (hm.glob.own b l hb).1
      have h2 : k < E.w0.heap.size := hk'
      omega
    · show k < w'.heap.size
      rw [hsz]
      exact hm.glob.zlt k h
    · simp only [Look.setH]
      split
      · rfl
      · exact hm.glob.live i h
    · simp only [Look.setH] at h
      split at h
      · rename_i e; subst e
        exact hm.glob.own i l hb
      · exact hm.glob.own i l'' h
    · have e1 : ∃ l1', g.h i = some l1' := by
        simp only [Look.setH] at hi
        split at hi
        · rename_i e; subst e; exact ⟨l, hb⟩
        · exact ⟨l1, hi⟩
      have e2 : ∃ l2', g.h j = some l2' := by
        simp only [Look.setH] at hj
        split at hj
        · rename_i e; subst e; exact ⟨l, hb⟩
        · exact ⟨l2, hj⟩
      obtain ⟨l1', e1⟩ := e1
      obtain ⟨l2', e2⟩ := e2
      exact hm.glob.inj i j l1' l2' e1 e2 hij
    · obtain ⟨h2, h3⟩ := hm.glob.rown i r k hi hk'
      refine ⟨h2, fun j l'' hj => ?_⟩
      simp only [Look.setH] at hj
      split at hj
      · rename_i e; subst e
        exact h3 j l hb
      · exact h3 j l'' hj
  refine ⟨hm.move hX hx hg hm.nodef hm.size (fun i s h => .inl ⟨h, rfl⟩) (fun i l'' h => ?_) (fun i r h => .inl ⟨h, fun k hk' e => ?_⟩), hx.keep hm.glob hX⟩
  · simp only [Look.setH] at h
    split at h
    · rename_i e; subst e
      injection h with h; subst h
      exact .inr ⟨(hm.blks i l hb).1, cs, t, hw, RelL.ext hm.glob hX hx hr, h1⟩
    · rename_i e
      exact .inl ⟨h, fun e' => e (hm.glob.inj i b l'' l h hb e')⟩
  · exact (hm.glob.rown i r k h hk').2 b l hb e.symm

theorem store_ok {t : TypeId} {x y : Operand} {b off n : Nat} {l : List At} {ag : Bool} {l' : List At} (ho : o.op = .store t x y) (hx : RelV E (.c false [.ptr b off]) (a.eval x)) (hy : RelV E (.c ag l') (a.eval y)) (hb : g.h b = some l)
    (hz : sizeT P t = some n) (hl : l'.all at1 = true) (hn : Nat.beq l'.length n = true) (hfit : Nat.ble (off + n) l.length = true) (hm : Mod N E a g) :
    CoreOk P N g E a o ⟨.c false [.u], .store b (l.take off ++ l' ++ l.drop (off + l'.length)), []⟩ := by
  obtain ⟨cs, hv, hr, _⟩ := hx
  obtain ⟨vs, hv', hr', h1'⟩ := hy
  have hone := ats1_one hl hr'
  simp only [Nat.beq_eq] at hn
  simp only [Nat.ble_eq] at hfit
  have hlen := hr'.length
  match cs, hr with
  | [p], hr =>
    obtain ⟨⟨hp, _⟩, _⟩ := hr
    obtain ⟨_, ds, t', hh, hd, hd1⟩ := hm.blks b l hb
    have hdl := hd.length
    have hst := run_storeCells_at P (E.β b) off t' vs 0 ds.toArray E.w hh (by simp; omega) hone
    simp only [Nat.add_zero] at hst
    have hr2 : RelL E (l.take off ++ l' ++ l.drop (off + l'.length)) (ds.take off ++ vs ++ ds.drop (off + vs.length)) := by
      have e : l'.length = vs.length := hlen
      rw [e]
      exact ((hd.take off).append hr').append (hd.drop _)
    have h12 : ∀ v ∈ ds.take off ++ vs ++ ds.drop (off + vs.length), v.oneCell' = true := by
      intro v hv
      simp only [List.mem_append] at hv
      rcases hv with (hv | hv) | hv
      · exact hd1 v (List.mem_of_mem_take hv)
      · exact hone v hv
      · exact hd1 v (List.mem_of_mem_drop hv)
    have hsm := store_mod hm hb t' (setRow_heap E.w _ _ _ t' (0, 0) hh) (fun k hk => setRow_other E.w _ k _ hk) rfl rfl rfl (by simp [World.setRow]) hr2 h12
    refine CoreOk.skip (E' := E.wset (E.w.setRow (E.β b) ((ds.take off ++ vs ++ ds.drop (off + vs.length)).toArray))) ?_ rfl hsm.2 hsm.1 ⟨[_], rfl, ⟨trivial, trivial⟩, fun _ => rfl⟩
    have hsz : vs.length = n := by omega
    have hv0 : a.eval x = .pointer (some ⟨E.β b, off, none⟩) := by rw [hv, hp]; rfl
    simp only [execOp, ho, hv0, hv', Instr.storeAt, Instr.sureAddr, storeVar, pure_bind, Sem.run_bind, run_sizeOf hz, Result.andThen_ok]
    have hc := cells_mkV h1' hone
    simp only [hc, List.size_toArray, hsz, ne_eq, not_true_eq_false, if_false]
    simp [hst, Env.wset, hsz]

/-! ### An element of a slice that is data; its length -/

def elemT (P : Program) (t : TypeId) : Option TypeId := match P.underlying t with
  | some (.slice e) => some e
  | _ => none
theorem elemT_eq {t e : TypeId} (h : elemT P t = some e) : P.underlying t = some (.slice e) := by
  unfold elemT at h
  split at h
  · injection h with h; subst h; assumption
  · cases h

theorem indexSl_ok {t et : TypeId} {x y : Operand} {e : Sh} {l : List e.T} {k : IntKind} {i : Int} (ho : o.op = .indexAddr t x y) (hx : RelV E (.c false [.sl e l]) (a.eval x)) (hy : RelV E (.c false [.v (.int k i)]) (a.eval y))
    (ht : elemT P t = some et) (hz : sizeT P et = some e.size) (hm : Mod N E a g) (hp : 0 ≤ i ∧ i < l.length) : CoreOk P N g E a o ⟨.c false [.rf e (l.getD i.toNat e.dflt) 0], .none, [inB i l.length]⟩ := by
  obtain ⟨cs, hv, hr, _⟩ := hx
  have hyv := toV_rel (x := .int k i) rfl hy
  have hu := elemT_eq ht
  match cs, hr with
  | [z], hr =>
    have hd : Dat E.w E.Z (.sl e) l [z] := hr.1
    simp only [Dat] at hd
    obtain ⟨A, c, hz', hc, _, hd⟩ := hd
    injection hz' with hz' _
    subst hz'
    have hi : i.toNat < l.length := by omega
    obtain ⟨ad, rfl, hZ, hd⟩ := hd (by omega)
    have hget : l[i.toNat]? = some (l.getD i.toNat e.dflt) := by simp [List.getD, List.getElem?_eq_getElem hi]
    obtain ⟨ecs, h1, h2⟩ := hd i.toNat _ hget
    refine CoreOk.value (E' := E) (v := .pointer (some (ad.add (i.toNat * e.size)))) ?_ rfl (Keep.refl E) hm ⟨[_], rfl, ⟨⟨ad.add (i.toNat * e.size), ecs, by simp [Addr.add], .inl (by rw [add_block]; exact hZ), h1, fun j v hj => by rw [add_add]; exact h2 j v hj⟩, trivial⟩, fun _ => rfl⟩
    simp [execOp, ho, hv, hyv, mkV, Instr.indexAt, asIntOf, run_underlying hu, hp.1, hp.2, run_sizeOf hz]

theorem lenSl_ok {x : Operand} {t : TypeId} {e : Sh} {l : List e.T} {et : TypeId} {ts : Array TypeId} (ho : o.op = .call { callee := .builtin .len, args := #[x], argTypes := ts }) (hts : ts[0]? = some t) (ht : elemT P t = some et)
    (hx : RelV E (.c false [.sl e l]) (a.eval x)) (hm : Mod N E a g) : CoreOk P N g E a o ⟨.c false [.v (.int .i64 l.length)], .none, []⟩ := by
  obtain ⟨cs, hv, hr, _⟩ := hx
  have hu := elemT_eq ht
  match cs, hr with
  | [z], hr =>
    have hd : Dat E.w E.Z (.sl e) l [z] := hr.1
    simp only [Dat] at hd
    obtain ⟨A, c, hz', hc, _, hd⟩ := hd
    injection hz' with hz' _
    subst hz'
    refine CoreOk.value (E' := E) (v := .int .i64 l.length) ?_ rfl (Keep.refl E) hm ⟨[_], rfl, ⟨rfl, trivial⟩, fun _ => rfl⟩
    simp [execOp, ho, resolve, invoke, builtin, Builtin.len_, hv, mkV, hts, run_underlying hu, goInt]

/-! ### Division -/

def divC (get : Operand → Option SV) (o : Oper) : Option Core := match o.op with
  | .binOp .quo _ x y _ => match getV get x, getV get y with
    | some (.int k m), some (.int k' n) => match decide (k = k') with
      | true => some ⟨.c false [.v (.int k (k.wrap (m.tdiv n)))], .none, [nzB n]⟩
      | false => none
    | _, _ => none
  | .binOp .rem _ x y _ => match getV get x, getV get y with
    | some (.int k m), some (.int k' n) => match decide (k = k') with
      | true => some ⟨.c false [.v (.int k (m.tmod n))], .none, [nzB n]⟩
      | false => none
    | _, _ => none
  | _ => none

theorem divC_ok {get : Operand → Option SV} {r : Core} (h : divC get o = some r) (hg : Gets E a get o) (hm : Mod N E a g) (hp : allB r.p = true) : CoreOk P N g E a o r := by
  unfold divC at h
  split at h
  · rename_i t x y t' ho
    split at h
    · rename_i k m k' n hx hy
      split at h
      · rename_i hk
        have hk := of_decide_eq_true hk
        subst hk
        injection h with h
        subst h
        have e1 := getV_eval hg (by simp [ho, Op.operands]) hx
        have e2 := getV_eval hg (by simp [ho, Op.operands]) hy
        refine CoreOk.value (E' := E) (v := .int k (k.wrap (m.tdiv n))) ?_ rfl (Keep.refl E) hm ⟨[_], rfl, ⟨rfl, trivial⟩, fun _ => rfl⟩
        have hn : n ≠ 0 := nzB_iff.1 hp
        simp [execOp, ho, e1, e2, eqGuard, binOp, Op.intDiv, hn]
      · cases h
    · cases h
  · rename_i t x y t' ho
    split at h
    · rename_i k m k' n hx hy
      split at h
      · rename_i hk
        have hk := of_decide_eq_true hk
        subst hk
        injection h with h
        subst h
        have e1 := getV_eval hg (by simp [ho, Op.operands]) hx
        have e2 := getV_eval hg (by simp [ho, Op.operands]) hy
        refine CoreOk.value (E' := E) (v := .int k (m.tmod n)) ?_ rfl (Keep.refl E) hm ⟨[_], rfl, ⟨rfl, trivial⟩, fun _ => rfl⟩
        have hn : n ≠ 0 := nzB_iff.1 hp
        simp [execOp, ho, e1, e2, eqGuard, binOp, Op.intDiv, hn]
      · cases h
    · cases h
  · cases h

end
end Dn
end Go.Proofs.Ytghjblbkbelcfaa
