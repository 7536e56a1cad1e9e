/- A symbolic executor: slices that are written out, contracts, calls. -/
import Derived.Test.YtghjblbkbelcfaaDnD
namespace Go.Proofs.Ytghjblbkbelcfaa
namespace Dn
open Go.RowKit

/-! ### Typed data out of symbolic cells -/

def takeInt (k : IntKind) : List At → Option (Int × List At)
  | .v (.int k' n) :: r => if k = k' then some (n, r) else none
  | _ => none
def takeBool : List At → Option (Bool × List At)
  | .v (.bool b) :: r => some (b, r)
  | _ => none
def takeStr : List At → Option (ByteArray × List At)
  | .v (.string b) :: r => some (b, r)
  | _ => none
def takeSl (e : Sh) : List At → Option (List e.T × List At)
  | .sl e' l :: r => match Sh.eq? e' e with
    | some ⟨h⟩ => some (h ▸ l, r)
    | none => none
  | .sn e' l :: r => match Sh.eq? e' e with
    | some ⟨h⟩ => some (h ▸ l, r)
    | none => none
  | .v (.slice none 0 0) :: r => some ([], r)
  | _ => none

def Sh.take : (s : Sh) → List At → Option (s.T × List At)
  | .int k, l => takeInt k l
  | .bool, l => takeBool l
  | .str, l => takeStr l
  | .sl e, l => takeSl e l
  | .pair a b, l => match a.take l with
    | some (x, r) => match b.take r with
      | some (y, r') => some ((x, y), r')
      | none => none
    | none => none
  | .agg e, l => e.take l

section
variable {E : Env}

theorem take_rel : ∀ {s : Sh} {l rest : List At} {x : s.T} {cs : List Value}, s.take l = some (x, rest) → RelL E l cs → ∃ c1 c2, cs = c1 ++ c2 ∧ Dat E.w E.Z s x c1 ∧ RelL E rest c2
  | .int k, l, rest, x, cs, h, hr => by
    simp only [Sh.take, takeInt] at h
    split at h
    · split at h
      · rename_i hk
        subst hk
        simp only [Option.some.injEq, Prod.mk.injEq] at h
        obtain ⟨rfl, rfl⟩ := h
        match cs, hr with
        | v :: cs, hr => exact ⟨[v], cs, rfl, by simp only [Dat]; rw [show v = _ from hr.1], hr.2⟩
      · cases h
    · cases h
  | .bool, l, rest, x, cs, h, hr => by
    simp only [Sh.take, takeBool] at h
    split at h
    · simp only [Option.some.injEq, Prod.mk.injEq] at h
      obtain ⟨rfl, rfl⟩ := h
      match cs, hr with
      | v :: cs, hr => exact ⟨[v], cs, rfl, by simp only [Dat]; rw [show v = _ from hr.1], hr.2⟩
    · cases h
  | .str, l, rest, x, cs, h, hr => by
    simp only [Sh.take, takeStr] at h
    split at h
    · simp only [Option.some.injEq, Prod.mk.injEq] at h
      obtain ⟨rfl, rfl⟩ := h
      match cs, hr with
      | v :: cs, hr => exact ⟨[v], cs, rfl, by simp only [Dat]; rw [show v = _ from hr.1], hr.2⟩
    · cases h
  | .sl e, l, rest, x, cs, h, hr => by
    simp only [Sh.take, takeSl] at h
    split at h
    · split at h
      · rename_i h' _
        subst h'
        simp only [Option.some.injEq, Prod.mk.injEq] at h
        obtain ⟨rfl, rfl⟩ := h
        match cs, hr with
        | v :: cs, hr => exact ⟨[v], cs, rfl, hr.1, hr.2⟩
      · cases h
    · split at h
      · rename_i h' _
        subst h'
        simp only [Option.some.injEq, Prod.mk.injEq] at h
        obtain ⟨rfl, rfl⟩ := h
        match cs, hr with
        | v :: cs, hr => exact ⟨[v], cs, rfl, hr.1.2, hr.2⟩
      · cases h
    · simp only [Option.some.injEq, Prod.mk.injEq] at h
      obtain ⟨rfl, rfl⟩ := h
      match cs, hr with
      | v :: cs, hr =>
        refine ⟨[v], cs, rfl, ?_, hr.2⟩
        have hv : v = _ := hr.1
        simp only [Dat]
        exact ⟨none, 0, by rw [hv]; rfl, Nat.le_refl _, fun _ => rfl, fun h => absurd h (by simp)⟩
    · cases h
  | .pair a b, l, rest, x, cs, h, hr => by
    simp only [Sh.take] at h
    split at h
    · rename_i y r hy
      split at h
      · rename_i z r' hz
        simp only [Option.some.injEq, Prod.mk.injEq] at h
        obtain ⟨rfl, rfl⟩ := h
        obtain ⟨c1, c2, rfl, h1, h2⟩ := take_rel hy hr
        obtain ⟨c3, c4, rfl, h3, h4⟩ := take_rel hz h2
        exact ⟨c1 ++ c3, c4, by simp, by simp only [Dat]; exact ⟨c1, c3, rfl, h1, h3⟩, h4⟩
      · cases h
    · cases h
  | .agg e, l, rest, x, cs, h, hr => take_rel (s := e) h hr

/-- A whole value. -/
def Sh.whole (s : Sh) : SV → Option s.T
  | .c ag l => match ag == s.isAgg with
    | true => match s.take l with
      | some (x, []) => some x
      | _ => none
    | false => none
  | .tup _ => none

theorem whole_rel {s : Sh} {v : SV} {x : s.T} {y : Value} (h : s.whole v = some x) (hv : RelV E v y) : DatV E.w E.Z s x y := by
  cases v with
  | c ag l =>
    simp only [Sh.whole] at h
    split at h
    · rename_i hag
      have hag : ag = s.isAgg := by simpa using hag
      split at h
      · rename_i z hz
        injection h with h; subst h
        obtain ⟨cs, rfl, hr, h1⟩ := hv
        obtain ⟨c1, c2, rfl, hd, h2⟩ := take_rel hz hr
        match c2, h2 with
        | [], _ => exact ⟨c1, hd, by rw [hag, List.append_nil], fun h => by rw [hag, List.append_nil] at h1; exact h1 h⟩
      · cases h
    · cases h
  | tup l => cases h
end

/-! ### Slices that are written out -/

theorem foldl_seg (off : Nat) : ∀ (vs : List Value) (k : Nat) (cells : Array Value), off + k + vs.length ≤ cells.size →
    (vs.zipIdx k).foldl (fun cs p => cs.setIfInBounds (off + p.2) p.1) cells = (cells.toList.take (off + k) ++ vs ++ cells.toList.drop (off + k + vs.length)).toArray
  | [], k, cells, _ => by simp
  | v :: vs, k, cells, h => by
    simp only [List.zipIdx_cons, List.foldl_cons, List.length_cons] at h ⊢
    rw [foldl_seg off vs (k + 1) _ (by simp; omega)]
    have e := list_seg_step cells.toList (off + k) v vs (by simp; omega)
    simp only [Array.toList_setIfInBounds]
    have e1 : off + (k + 1) = off + k + 1 := by omega
    rw [e1, e]

theorem fill_seq (n : Nat) : ∀ (vs : List Value) (i : Nat) (cells : Array Value), (∀ v ∈ vs, v.cells.size = n) → (i + vs.length) * n ≤ cells.size →
    Instr.fill (fun i => some (i * n, n)) cells ((vs.zipIdx i).map fun p => (p.2, p.1)) = some (cells.toList.take (i * n) ++ (vs.flatMap fun v => v.cells.toList) ++ cells.toList.drop ((i + vs.length) * n)).toArray
  | [], i, cells, _, _ => by simp [Instr.fill]
  | v :: vs, i, cells, hv, hl => by
    have hn : v.cells.size = n := hv v (by simp)
    have hlen : (i + (vs.length + 1)) * n = i * n + n + vs.length * n := by rw [Nat.add_mul, Nat.add_mul]; omega
    have hfit : i * n + n ≤ cells.size := by
      have hl' : (i + (vs.length + 1)) * n ≤ cells.size := hl
      rw [hlen] at hl'
      omega
    simp only [List.zipIdx_cons, List.map_cons, Instr.fill, hn]
    rw [if_neg (by simp; omega)]
    have hf := foldl_seg (i * n) v.cells.toList 0 cells (by simp [hn]; omega)
    have hf' : (v.cells.zipIdx.foldl (fun cs x => cs.setIfInBounds (i * n + x.2) x.1) cells) = (cells.toList.take (i * n + 0) ++ v.cells.toList ++ cells.toList.drop (i * n + 0 + v.cells.toList.length)).toArray := by
      rw [← hf, ← Array.foldl_toList, Array.toList_zipIdx]
    have e : (fun (cs : Array Value) (x : Value × Nat) => match x with | (c, j) => cs.setIfInBounds (i * n + j) c) = fun cs x => cs.setIfInBounds (i * n + x.2) x.1 := rfl
    rw [e, hf', fill_seq n vs (i + 1) _ (fun u hu => hv u (by simp [hu])) (by
      simp only [List.size_toArray, List.length_append, List.length_take, List.length_drop, Array.length_toList, hn]
      have : (i + 1 + vs.length) * n = i * n + n + vs.length * n := by rw [Nat.add_mul, Nat.add_mul]; omega
      rw [this]
      have hl' : (i + (vs.length + 1)) * n ≤ cells.size := hl
      rw [hlen] at hl'
      omega)]
    simp only [Nat.add_zero, Array.length_toList, hn, List.flatMap_cons, List.length_cons]
    congr 2
    have e1 : (i + 1) * n = i * n + n := by rw [Nat.add_mul]; omega
    have e2 : (i + 1 + vs.length) * n = i * n + n + vs.length * n := by rw [Nat.add_mul, Nat.add_mul]; omega
    have t1 : (cells.toList.take (i * n)).length = i * n := by simp; omega
    rw [e1, e2, hlen]
    have tk : List.take (i * n + n) (cells.toList.take (i * n) ++ v.cells.toList ++ cells.toList.drop (i * n + n)) = cells.toList.take (i * n) ++ v.cells.toList := by
      rw [List.take_append_of_le_length (by simp [hn]; omega), List.take_of_length_le (by simp [hn]; omega)]
    have dr : List.drop (i * n + n + vs.length * n) (cells.toList.take (i * n) ++ v.cells.toList ++ cells.toList.drop (i * n + n)) = cells.toList.drop (i * n + n + vs.length * n) := by
      rw [List.drop_append, List.drop_of_length_le (by simp [hn]; omega), List.nil_append, List.drop_drop]
      congr 1
      simp [hn]
      omega
    rw [tk, dr]
    simp [List.append_assoc]

section
variable {P : Program} {N : Nat} {g : Look} {E : Env} {a : Act} {o : Oper}

/-- New data: their block joins the zone. -/
def Env.dat (E : Env) (w : World) : Env := { E with w := w, Z := fun b => E.Z b ∨ (E.w.heap.size ≤ b ∧ b < w.heap.size) }

theorem dat_ext {w : World} (hb : Below E.w.heap.size E.w w) : Ext (fun _ => False) E (E.dat w) := ⟨rfl, rfl, rfl, fun _ h => .inl h, fun k h _ => hb.block k h, fun _ _ => rfl, fun _ h => h, fun _ _ => rfl, fun _ h => h⟩

theorem dat_mod {w : World} (hm : Mod N E a g) (hb : Below E.w.heap.size E.w w) : Mod N (E.dat w) a g := by
  refine hm.move (Free.none E) (dat_ext hb) ?_ hm.nodef hm.size (fun i s h => .inl ⟨h, rfl⟩) (fun i l h => .inl ⟨h, id⟩) (fun i r h => .inl ⟨h, fun _ _ => id⟩)
  refine ⟨hm.glob.below.trans (hb.mono hm.glob.below.size), fun k hk => ?_, fun k hk => ?_, fun k hk => ?_, hm.glob.live, hm.glob.rlive, fun i l h => ?_, hm.glob.inj, fun i r k h hk => ?_, hm.glob.rinj⟩
  · rcases hk with hk | hk
    · exact Nat.lt_of_lt_of_le (hm.glob.zlt k hk) hb.size
    · exact hk.2
  · exact .inl (hm.glob.z0 k hk)
  · rcases hk with hk | hk
    · exact hm.glob.zfrom k hk
    · exact .inr (Nat.le_trans hm.glob.below.size hk.1)
  · obtain ⟨h1, h2⟩ := hm.glob.own i l h
    have := hm.blk_lt h
    exact ⟨h1, fun hz => hz.elim h2 fun hz => by have h3 : E.w.heap.size ≤ E.β i := hz.1; omega⟩
  · obtain ⟨h1, h2⟩ := hm.glob.rown i r k h hk
    have := (hm.row_lt h hk).2
    exact ⟨fun hz => hz.elim h1 fun hz => by have h3 : E.w.heap.size ≤ k := hz.1; omega, h2⟩

def wholes (e : Sh) (get : Operand → Option SV) : Nat → List (Nat × Operand) → Option (List e.T)
  | _, [] => some []
  | i, p :: r => match Nat.beq p.1 i, get p.2 with
    | true, some s => match e.whole s, wholes e get (i + 1) r with
      | some x, some l => some (x :: l)
      | _, _ => none
    | _, _ => none

theorem wholes_length {e : Sh} {get : Operand → Option SV} : ∀ {i : Nat} {ps : List (Nat × Operand)} {l : List e.T}, wholes e get i ps = some l → l.length = ps.length
  | _, [], _, h => by simp only [wholes] at h; injection h with h; subst h; rfl
  | i, p :: r, l, h => by
    simp only [wholes] at h
    split at h
    · split at h
      · rename_i x l' hx hl
        injection h with h; subst h
        simp [wholes_length hl]
      · cases h
    · cases h

theorem wholes_run {e : Sh} {get : Operand → Option SV} : ∀ {i : Nat} {ps : List (Nat × Operand)} {l : List e.T}, wholes e get i ps = some l → (∀ p ∈ ps, ∀ s, get p.2 = some s → RelV E s (a.eval p.2)) →
    (ps.map fun p => (p.1, a.eval p.2)) = ((ps.map fun p => a.eval p.2).zipIdx i).map (fun q => (q.2, q.1)) ∧
    ∃ css : List (List Value), css.length = l.length ∧ (ps.map fun p => (a.eval p.2).cells.toList) = css ∧ ∀ (k : Nat) (x : e.T), l[k]? = some x → ∃ c, css[k]? = some c ∧ Dat E.w E.Z e x c
  | i, [], l, h, _ => by simp only [wholes] at h; injection h with h; subst h; exact ⟨rfl, [], rfl, rfl, fun k x hx => by simp at hx⟩
  | i, p :: r, l, h, hgt => by
    simp only [wholes] at h
    split at h
    · rename_i s hp hs
      split at h
      · rename_i x l' hx hl
        injection h with h; subst h
        obtain ⟨h1, css, h2, h3, h4⟩ := wholes_run hl (fun q hq => hgt q (by simp [hq]))
        have hp' : p.1 = i := by simpa using hp
        obtain ⟨c, hc, hv, hc1⟩ := whole_rel hx (hgt p (by simp) _ hs)
        have hcells : (a.eval p.2).cells.toList = c := by
          rw [hv, cells_mkV hc1 hc.one]
        refine ⟨by simp [h1, hp'], c :: css, by simp [h2], by simp [hcells, h3], fun k y hy => ?_⟩
        cases k with
        | zero => simp only [List.getElem?_cons_zero, Option.some.injEq] at hy ⊢; subst hy; exact ⟨c, rfl, hc⟩
        | succ k => simp only [List.getElem?_cons_succ] at hy ⊢; exact h4 k y hy
      · cases h
    · cases h
end
end Dn
end Go.Proofs.Ytghjblbkbelcfaa
