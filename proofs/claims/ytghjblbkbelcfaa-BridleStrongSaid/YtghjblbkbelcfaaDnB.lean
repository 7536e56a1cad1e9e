/- A symbolic executor: how a state of the machine that is a symbolic state goes on to the next one. -/
import Derived.Test.YtghjblbkbelcfaaDnA
namespace Go.Proofs.Ytghjblbkbelcfaa
namespace Dn
open Go.RowKit

structure Ext (X : Nat → Prop) (E E' : Env) : Prop where
  P : E'.P = E.P
  w0 : E'.w0 = E.w0
  Z0 : E'.Z0 = E.Z0
  Z : ∀ b, E.Z b → E'.Z b
  heap : ∀ b, b < E.w.heap.size → ¬ X b → E'.w.heap[b]? = E.w.heap[b]?
  β : ∀ b, E.L b → E'.β b = E.β b
  L : ∀ b, E.L b → E'.L b
  ρ : ∀ r, E.R r → E'.ρ r = E.ρ r
  R : ∀ r, E.R r → E'.R r

/-- What a step may write: blocks of the call's own that hold no data. -/
def Free (E : Env) (X : Nat → Prop) : Prop := ∀ b, X b → ¬ E.Z b ∧ E.w0.heap.size ≤ b

section
variable {X : Nat → Prop} {E E' : Env}

theorem Ext.zheap {g : Look} (hg : Glob E g) (hX : Free E X) (h : Ext X E E') : ∀ b, E.Z b → E'.w.heap[b]? = E.w.heap[b]? :=
  fun b hb => h.heap b (hg.zlt b hb) fun hx => (hX b hx).1 hb

theorem add_block (a : Addr) (n : Nat) : (a.add n).block = a.block := by unfold Addr.add; split <;> rfl

theorem RelA.ext {g : Look} (hg : Glob E g) (hX : Free E X) (h : Ext X E E') : ∀ {x : At} {v : Value}, RelA E x v → RelA E' x v
  | .u, _, _ => trivial
  | .v _, _, hv => hv
  | .ptr b o, v, hv => by
    obtain ⟨rfl, hl⟩ := hv
    exact ⟨by simp [ptrV, h.β b hl], h.L b hl⟩
  | .clo f cap, v, hv => by
    obtain ⟨rfl, hl⟩ := hv
    refine ⟨?_, fun p hp => h.L _ (hl p hp)⟩
    congr 2
    apply List.map_congr_left
    intro p hp
    simp [ptrV, h.β _ (hl p hp)]
  | .sl e l, v, hv => Dat.mono h.Z (h.zheap hg hX) hv
  | .row r, v, hv => by
    obtain ⟨rfl, hl, h1⟩ := hv
    exact ⟨(h.ρ r hl).symm, h.R r hl, h1⟩
  | .rf s x o, v, hv => by
    obtain ⟨ad, cs, rfl, hz, hd, hc⟩ := hv
    refine ⟨ad, cs, rfl, ?_, Dat.mono h.Z (h.zheap hg hX) hd, fun j v hj => ?_⟩
    · rcases hz with hz | hz
      · exact .inl (h.Z _ hz)
      · exact .inr (by rw [h.w0]; exact hz)
    · rw [← hc j v hj]
      refine World.cell?_of_block ?_
      rw [add_block]
      rcases hz with hz | hz
      · exact h.zheap hg hX _ hz
      · exact h.heap _ (Nat.lt_of_lt_of_le hz hg.below.size) fun hx => by have := (hX _ hx).2; omega
  | .re r _ _ _, v, hv => by
    obtain ⟨g, hg', rfl, hr⟩ := hv
    exact ⟨g, by rw [h.ρ r hr]; exact hg', rfl, h.R r hr⟩
  | .ae b _ _ _ _ _, v, hv => by
    obtain ⟨rfl, hl⟩ := hv
    exact ⟨by simp [ptrV, h.β b hl], h.L b hl⟩
  | .sn e l, v, hv => ⟨hv.1, Dat.mono h.Z (h.zheap hg hX) hv.2⟩
  | .fn a r F, v, hv => by
    show FnV E'.P E'.w0 E'.Z0 a r F v
    rw [h.P, h.w0, h.Z0]
    exact hv

theorem RelL.ext {g : Look} (hg : Glob E g) (hX : Free E X) (h : Ext X E E') : ∀ {l : List At} {vs : List Value}, RelL E l vs → RelL E' l vs
  | [], [], _ => trivial
  | _ :: _, _ :: _, hv => ⟨RelA.ext hg hX h hv.1, RelL.ext hg hX h hv.2⟩
  | [], _ :: _, hv => hv.elim
  | _ :: _, [], hv => hv.elim

theorem RelC.ext {g : Look} (hg : Glob E g) (hX : Free E X) (h : Ext X E E') {ag : Bool} {l : List At} {v : Value} (hv : RelC E ag l v) : RelC E' ag l v :=
  let ⟨cs, h1, h2, h3⟩ := hv
  ⟨cs, h1, RelL.ext hg hX h h2, h3⟩

theorem RelT.ext {g : Look} (hg : Glob E g) (hX : Free E X) (h : Ext X E E') : ∀ {l : List (Bool × List At)} {vs : List Value}, RelT E l vs → RelT E' l vs
  | [], [], _ => trivial
  | _ :: _, _ :: _, hv => ⟨RelC.ext hg hX h hv.1, RelT.ext hg hX h hv.2⟩
  | [], _ :: _, hv => hv.elim
  | _ :: _, [], hv => hv.elim

theorem RelV.ext {g : Look} (hg : Glob E g) (hX : Free E X) (h : Ext X E E') : ∀ {s : SV} {v : Value}, RelV E s v → RelV E' s v
  | .c _ _, _, hv => RelC.ext hg hX h hv
  | .tup _, _, ⟨vs, h1, h2⟩ => ⟨vs, h1, RelT.ext hg hX h h2⟩

theorem RelS.ext {g : Look} (hg : Glob E g) (hX : Free E X) (h : Ext X E E') {s : SlotV} {v : Value} (hv : RelS E s v) : RelS E' s v := by
  unfold RelS at *
  split at hv
  · exact RelV.ext hg hX h hv
  · exact ⟨fun hc => RelV.ext hg hX h (hv.1 hc), hv.2⟩

/-- All that was true of values stays true. -/
def Keep (E E' : Env) : Prop := ∀ x v, RelA E x v → RelA E' x v

theorem Keep.refl (E : Env) : Keep E E := fun _ _ h => h
theorem Keep.trans {E'' : Env} (h : Keep E E') (h' : Keep E' E'') : Keep E E'' := fun x v hv => h' x v (h x v hv)
theorem Ext.keep {g : Look} (h : Ext X E E') (hg : Glob E g) (hX : Free E X) : Keep E E' := fun _ _ hv => RelA.ext hg hX h hv
theorem Keep.L (h : Keep E E') : ∀ {l : List At} {vs : List Value}, RelL E l vs → RelL E' l vs
  | [], [], _ => trivial
  | _ :: _, _ :: _, hv => ⟨h _ _ hv.1, Keep.L h hv.2⟩
  | [], _ :: _, hv => hv.elim
  | _ :: _, [], hv => hv.elim
theorem Keep.C (h : Keep E E') {ag : Bool} {l : List At} {v : Value} (hv : RelC E ag l v) : RelC E' ag l v :=
  let ⟨cs, h1, h2, h3⟩ := hv
  ⟨cs, h1, h.L h2, h3⟩
theorem Keep.T (h : Keep E E') : ∀ {l : List (Bool × List At)} {vs : List Value}, RelT E l vs → RelT E' l vs
  | [], [], _ => trivial
  | _ :: _, _ :: _, hv => ⟨h.C hv.1, Keep.T h hv.2⟩
  | [], _ :: _, hv => hv.elim
  | _ :: _, [], hv => hv.elim
theorem Keep.V (h : Keep E E') : ∀ {s : SV} {v : Value}, RelV E s v → RelV E' s v
  | .c _ _, _, hv => h.C hv
  | .tup _, _, ⟨vs, h1, h2⟩ => ⟨vs, h1, h.T h2⟩
theorem Keep.S (h : Keep E E') {s : SlotV} {v : Value} (hv : RelS E s v) : RelS E' s v := by
  unfold RelS at *
  split at hv
  · exact h.V hv
  · exact ⟨fun hc => h.V (hv.1 hc), hv.2⟩

theorem RelL.length : ∀ {l : List At} {vs : List Value}, RelL E l vs → l.length = vs.length
  | [], [], _ => rfl
  | _ :: _, _ :: _, hv => by simp [RelL.length hv.2]
  | [], _ :: _, hv => hv.elim
  | _ :: _, [], hv => hv.elim

theorem BlkOk.ext {g : Look} (hg : Glob E g) (hX : Free E X) (h : Ext X E E') {i : Nat} {l : List At} (hb : BlkOk E i l) (hx : ¬ X (E.β i)) : BlkOk E' i l := by
  obtain ⟨hl, cs, t, h1, h2, h3⟩ := hb
  have hlt : E.β i < E.w.heap.size := by
    rcases Nat.lt_or_ge (E.β i) E.w.heap.size with h' | h'
    · exact h'
    · rw [Array.getElem?_eq_none h'] at h1; cases h1
  exact ⟨h.L i hl, cs, t, by rw [h.β i hl, h.heap _ hlt hx]; exact h1, RelL.ext hg hX h h2, h3⟩

theorem ownsRow_same {w w' : World} {base : Nat} {e : TypeId} {size n : Nat} {v : Value} {xs : List Value} (h : w.ownsRow base e size v n xs)
    (hh : ∀ b, v.ownBlock = some b → w'.heap[b]? = w.heap[b]?) : w'.ownsRow base e size v n xs := by
  obtain ⟨h1, h2⟩ := h
  refine ⟨h1, ?_⟩
  rcases h2 with h2 | ⟨g, cap, cur, rfl, hb, hc, h3⟩
  · exact .inl h2
  · exact .inr ⟨g, cap, cur, rfl, hb, by rw [hh g (by simp [Value.ownBlock])]; exact hc, h3⟩

theorem RowRel.mono {w w' : World} {Z Z' : Nat → Prop} (hZ : ∀ b, Z b → Z' b) (hw : ∀ b, Z b → w'.heap[b]? = w.heap[b]?) {e : Sh} :
    ∀ {l : List e.T} {xs : List Value}, RowRel w Z e l xs → RowRel w' Z' e l xs
  | [], _, h => h
  | _ :: _, _, ⟨c, r, h1, h2, h3⟩ => ⟨c, r, h1, Dat.mono hZ hw h2, RowRel.mono hZ hw h3⟩

theorem RowOk.ext {g : Look} (hg : Glob E g) (hX : Free E X) (h : Ext X E E') {i : Nat} {r : RowI} (hb : RowOk E i r) (hx : ∀ b, (E.ρ i).ownBlock = some b → ¬ X b) : RowOk E' i r := by
  obtain ⟨hl, xs, h1, h2⟩ := hb
  refine ⟨h.R i hl, xs, ?_, RowRel.mono h.Z (h.zheap hg hX) h2.1, h2.2⟩
  rw [h.ρ i hl, h.w0]
  exact ownsRow_same h1 fun b hb => h.heap b (h1.lt b hb).2 (hx b hb)

theorem Mod.move {N : Nat} {a a' : Act} {g g' : Look} (hm : Mod N E a g) (hX : Free E X) (h : Ext X E E') (hg' : Glob E' g') (hd : a'.defers = []) (hz : a'.tmps.size = N)
    (hs : ∀ i s, g'.s i = some s → (g.s i = some s ∧ a'.tmps[i]? = a.tmps[i]?) ∨ ∃ v, a'.tmps[i]? = some v ∧ RelS E' s v)
    (hh : ∀ i l, g'.h i = some l → (g.h i = some l ∧ ¬ X (E.β i)) ∨ BlkOk E' i l)
    (hr : ∀ i r, g'.r i = some (some r) → (g.r i = some (some r) ∧ ∀ b, (E.ρ i).ownBlock = some b → ¬ X b) ∨ RowOk E' i r) : Mod N E' a' g' where
  glob := hg'
  nodef := hd
  size := hz
  slots i s hi := by
    rcases hs i s hi with ⟨h1, h2⟩ | h1
    · obtain ⟨v, hv, hr⟩ := hm.slots i s h1
      exact ⟨v, h2.trans hv, hr.ext hm.glob hX h⟩
    · exact h1
  blks i l hi := by
    rcases hh i l hi with ⟨h1, h2⟩ | h1
    · exact (hm.blks i l h1).ext hm.glob hX h h2
    · exact h1
  rows i r hi := by
    rcases hr i r hi with ⟨h1, h2⟩ | h1
    · exact (hm.rows i r h1).ext hm.glob hX h h2
    · exact h1

def Look.setS (g : Look) (d : Nat) (s : Option SlotV) : Look := { g with s := fun i => if i = d then s else g.s i }
def Look.setH (g : Look) (b : Nat) (l : List At) : Look := { g with h := fun i => if i = b then some l else g.h i }
def Look.setR (g : Look) (k : Nat) (r : Option RowI) : Look := { g with r := fun i => if i = k then some r else g.r i }

theorem Glob.setS {g : Look} {d : Nat} {s : Option SlotV} (h : Glob E g) : Glob E (g.setS d s) := ⟨h.below, h.zlt, h.z0, h.zfrom, h.live, h.rlive, h.own, h.inj, h.rown, h.rinj⟩

theorem Ext.refl (E : Env) : Ext (fun _ => False) E E := ⟨rfl, rfl, rfl, fun _ h => h, fun _ _ _ => rfl, fun _ _ => rfl, fun _ h => h, fun _ _ => rfl, fun _ h => h⟩
theorem Free.none (E : Env) : Free E fun _ => False := fun _ h => h.elim

/-- The result is put into its slot. -/
theorem Mod.put {N : Nat} {a : Act} {g : Look} (hm : Mod N E a g) {d : Nat} (hd : d < N) {s : SlotV} {v : Value} (hv : RelS E s v) : Mod N E (a.put (some d) v) (g.setS d (some s)) := by
  refine hm.move (Free.none E) (Ext.refl E) hm.glob.setS (by simpa [Act.put] using hm.nodef) (by simpa [Act.put] using hm.size) (fun i t hi => ?_) (fun i l hi => .inl ⟨hi, id⟩) (fun i r hi => .inl ⟨hi, fun _ _ => id⟩)
  simp only [Look.setS] at hi
  split at hi
  · rename_i h; subst h
    injection hi with hi; subst hi
    refine .inr ⟨v, ?_, hv⟩
    simp [Act.put, hm.size, hd]
  · rename_i h
    exact .inl ⟨hi, by simp [Act.put, Array.getElem?_setIfInBounds_ne (Ne.symm h)]⟩

/-- A slot is forgotten. -/
theorem Mod.forget {N : Nat} {a : Act} {g g' : Look} (hm : Mod N E a g) (hs : ∀ i s, g'.s i = some s → g.s i = some s) (hh : g'.h = g.h) (hr : g'.r = g.r) : Mod N E a g' := by
  obtain ⟨gs, gh, gr⟩ := g; obtain ⟨gs', gh', gr'⟩ := g'
  simp only at hh hr; subst hh; subst hr
  exact ⟨⟨hm.glob.below, hm.glob.zlt, hm.glob.z0, hm.glob.zfrom, hm.glob.live, hm.glob.rlive, hm.glob.own, hm.glob.inj, hm.glob.rown, hm.glob.rinj⟩, hm.nodef, hm.size, fun i s h => hm.slots i s (hs i s h), hm.blks, hm.rows⟩

theorem Mod.putU {N : Nat} {a : Act} {g : Look} (hm : Mod N E a g) (d : Nat) (v : Value) : Mod N E (a.put (some d) v) (g.setS d none) := by
  refine hm.move (Free.none E) (Ext.refl E) hm.glob.setS (by simpa [Act.put] using hm.nodef) (by simpa [Act.put] using hm.size) (fun i t hi => ?_) (fun i l hi => .inl ⟨hi, id⟩) (fun i r hi => .inl ⟨hi, fun _ _ => id⟩)
  simp only [Look.setS] at hi
  split at hi
  · cases hi
  · rename_i h
    exact .inl ⟨hi, by simp [Act.put, Array.getElem?_setIfInBounds_ne (Ne.symm h)]⟩

end
end Dn
end Go.Proofs.Ytghjblbkbelcfaa
