/- A symbolic executor: a state that has come to a place is the place's own state. -/
import Derived.Test.YtghjblbkbelcfaaDnK
namespace Go.Proofs.Ytghjblbkbelcfaa
namespace Dn
noncomputable section
open Go.RowKit

section
variable {N : Nat} {E E0 : Env} {a a0 : Act}

theorem cellsAt_slot {σ : St} (hm : Mod N E a σ.look) {i : Nat} {ag : Bool} {l : List At} (h : cellsAt σ (.slot i ag) = some l) : ∃ v cs, a.tmps[i]? = some v ∧ v = mkV ag cs ∧ RelL E l cs ∧ (ag = false → cs.length = 1) := by
  simp only [cellsAt] at h
  split at h
  · rename_i ag' l' hs
    split at h
    · rename_i hag
      have hag : ag = ag' := by simpa using hag
      subst hag
      injection h with h
      subst h
      obtain ⟨v, hv, hr⟩ := hm.slots i _ hs
      obtain ⟨cs, h1, h2, h3⟩ := (hr : RelC E ag l' v)
      exact ⟨v, cs, hv, h1, h2, h3⟩
    · cases h
  · cases h

theorem restP_read {rk : Rk} : ∀ {ps : List Pat} {l : List At} {X : Type} {y : X} {z : TsPr ps X}, readP rk ps l y = some z → restP ps z = y ∧ (srcP ps l).length = cntP ps
  | [], [], _, _, z, hz => by
    simp only [readP, Option.some.injEq] at hz
    exact ⟨hz.symm, rfl⟩
  | [], _ :: _, _, _, _, hz => by simp [readP] at hz
  | .d s :: ps, l, X, y, z, hz => by
    simp only [readP] at hz
    split at hz
    · rename_i x l' hx
      split at hz
      · rename_i w hw
        injection hz with hz
        subst hz
        have e := take_drop hx
        simp only [srcP, ← e]
        exact restP_read (ps := ps) hw
      · cases hz
    · cases hz
  | .row t e :: ps, a :: l, X, y, z, hz => by
    simp only [readP] at hz
    split at hz
    · rename_i x w hx hw
      injection hz with hz
      subst hz
      obtain ⟨h1, h2⟩ := restP_read (ps := ps) hw
      exact ⟨h1, by simp [srcP, cntP, h2]⟩
    · cases hz
  | .row _ _ :: _, [], _, _, _, hz => by simp [readP] at hz

/-- The slots of a place. -/
theorem instS_rel {σ : St} (hm : Mod N E a σ.look) {h r : Nat → Prop} {src : Nat → Option (Option Nat)} : ∀ {rh : List (Plc × List Pat)} {x : TsR rh} {k : Nat}, readR σ rh = some x →
    (∀ j o, srcAt (srcR σ rh) k j = some o → r j ∧ src j = some o) → (srcR σ rh).length = cntR rh ∧ (∀ i t, look (instS rh x k) i = some (some t) → ∃ v, a.tmps[i]? = some v ∧ RelS (E.re h r src) t v) ∧
    (∀ i l, look (instB rh x k) i = some l → ∃ l', look σ.h i = some l' ∧ ∀ cs, RelL E l' cs → RelL (E.re h r src) l cs)
  | [], x, k, _, _ => ⟨rfl, fun i t h => by simp [instS, look] at h, fun i l h => by simp [instB, look] at h⟩
  | (p, ps) :: rh, x, k, hx, hs => by
    simp only [readR] at hx
    split at hx
    · rename_i l y hl hy
      cases p with
      | row q =>
        obtain ⟨g2, _⟩ := restP_read (ps := ps) hx
        simp only [srcR] at hs ⊢
        have ih := instS_rel hm (h := h) (r := r) (src := src) (k := k) hy hs
        rw [← g2] at ih
        obtain ⟨j1, j2, j3⟩ := ih
        exact ⟨by rw [j1]; simp [cntR, cntE], j2, j3⟩
      | slot i ag =>
        simp only [srcR, hl] at hs ⊢
        have hs1 : ∀ j o, srcAt (srcP ps l) k j = some o → r j ∧ src j = some o := fun j o hj => hs j o (by rw [srcAt_append, hj])
        obtain ⟨v, cs, h1, h2, h3, h4⟩ := cellsAt_slot hm hl
        obtain ⟨g1, g2, g3⟩ := readP_rel hm.memOk (h := h) (r := r) (src := src) (k := k) hx h3 hs1
        have hs2 : ∀ j o, srcAt (srcR σ rh) (k + cntP ps) j = some o → r j ∧ src j = some o := fun j o hj => hs j o (by
          rw [srcAt_append]
          cases hq : srcAt (srcP ps l) k j with
          | none => simp only [g3]; exact hj
          | some o' =>
            have e1 := (srcAt_get hj).1
            obtain ⟨_, e3⟩ := srcAt_get hq
            have := (List.getElem?_eq_some_iff.1 e3).1
            omega)
        have ih := instS_rel hm (h := h) (r := r) (src := src) (k := k + cntP ps) hy hs2
        rw [← g2] at ih
        obtain ⟨j1, j2, j3⟩ := ih
        refine ⟨by rw [List.length_append, g3, j1]; rfl, fun i' t ht => ?_, j3⟩
        simp only [instS] at ht
        rw [look_cons] at ht
        split at ht
        · rename_i e
          subst e
          simp only [Option.some.injEq] at ht
          subst ht
          exact ⟨v, h1, (⟨cs, h2, g1, h4⟩ : RelC _ ag _ v)⟩
        · exact j2 i' t ht
      | blk b =>
        simp only [srcR, hl] at hs ⊢
        have hs1 : ∀ j o, srcAt (srcP ps l) k j = some o → r j ∧ src j = some o := fun j o hj => hs j o (by rw [srcAt_append, hj])
        have hb : look σ.h b = some l := hl
        obtain ⟨_, cs0, t0, _, h3, _⟩ := hm.blks b l hb
        obtain ⟨_, g2, g3⟩ := readP_rel hm.memOk (h := h) (r := r) (src := src) (k := k) hx h3 hs1
        have hs2 : ∀ j o, srcAt (srcR σ rh) (k + cntP ps) j = some o → r j ∧ src j = some o := fun j o hj => hs j o (by
          rw [srcAt_append]
          cases hq : srcAt (srcP ps l) k j with
          | none => simp only [g3]; exact hj
          | some o' =>
            have e1 := (srcAt_get hj).1
            obtain ⟨_, e3⟩ := srcAt_get hq
            have := (List.getElem?_eq_some_iff.1 e3).1
            omega)
        have ih := instS_rel hm (h := h) (r := r) (src := src) (k := k + cntP ps) hy hs2
        rw [← g2] at ih
        obtain ⟨j1, j2, j3⟩ := ih
        refine ⟨by rw [List.length_append, g3, j1]; rfl, j2, fun i l' ht => ?_⟩
        simp only [instB] at ht
        rw [look_cons] at ht
        split at ht
        · rename_i e
          subst e
          injection ht with ht
          subst ht
          exact ⟨l, hb, fun cs hcs => (readP_rel hm.memOk (h := h) (r := r) (src := src) (k := k) hx hcs hs1).1⟩
        · exact j3 i l' ht
    · cases hx

theorem instR_rows {σ : St} : ∀ {rh : List (Plc × List Pat)} {x : TsR rh} {k : Nat}, readR σ rh = some x →
    ∀ i ri, look (instR rh x k) i = some ri → (∃ q n, srcAt (srcR σ rh) k i = some (some q) ∧ look σ.r q = some (some ⟨ri.t, ri.e, n, ri.l⟩) ∧ ri.n = ri.l.length) ∨ (srcAt (srcR σ rh) k i = some none ∧ ri.l = [] ∧ ri.n = ri.l.length) ∨ (i ∈ rowsOf rh ∧ ∃ n, look σ.r i = some (some ⟨ri.t, ri.e, n, ri.l⟩) ∧ ri.n = ri.l.length)
  | [], x, k, _, i, ri, h => by simp [instR, look] at h
  | (p, ps) :: rh, x, k, hx, i, ri, h => by
    simp only [readR] at hx
    split at hx
    · rename_i l y hl hy
      obtain ⟨g2, g3⟩ := restP_read (ps := ps) hx
      simp only [instR] at h
      rw [look_append] at h
      have other : ∀ q : Plc, q = p → (∀ z, q ≠ .row z) → (∀ ri', look (rowsE p ps x k) i = some ri' → look (rowsP ps x k) i = some ri') → (look (rowsE p ps x k) i = none → look (rowsP ps x k) i = none) → cntE p ps = cntP ps → srcR σ ((p, ps) :: rh) = srcP ps l ++ srcR σ rh → rowsOf ((p, ps) :: rh) = rowsOf rh →
          (∃ q n, srcAt (srcR σ ((p, ps) :: rh)) k i = some (some q) ∧ look σ.r q = some (some ⟨ri.t, ri.e, n, ri.l⟩) ∧ ri.n = ri.l.length) ∨ (srcAt (srcR σ ((p, ps) :: rh)) k i = some none ∧ ri.l = [] ∧ ri.n = ri.l.length) ∨ (i ∈ rowsOf ((p, ps) :: rh) ∧ ∃ n, look σ.r i = some (some ⟨ri.t, ri.e, n, ri.l⟩) ∧ ri.n = ri.l.length) := by
        intro _ _ _ e1 e2 e3 e4 e5
        rw [e4, e5, srcAt_append, g3]
        cases hq : look (rowsE p ps x k) i with
        | some ri' =>
          rw [hq] at h
          injection h with h
          subst h
          rcases readP_rows rfl hx i ri' (e1 ri' hq) with ⟨q, n, h1, h2⟩ | ⟨h1, h2⟩
          · exact .inl ⟨q, n, by rw [h1], h2⟩
          · exact .inr (.inl ⟨by rw [h1], h2⟩)
        | none =>
          rw [hq] at h
          simp only at h
          have hno : srcAt (srcP ps l) k i = none := by
            cases hh : srcAt (srcP ps l) k i with
            | none => rfl
            | some o =>
              obtain ⟨e1, e3⟩ := srcAt_get hh
              have := (List.getElem?_eq_some_iff.1 e3).1
              have := rowsP_none (ps := ps) (x := x) (k := k) (i := i) (by omega)
              rw [e2 hq] at this
              cases this
          rw [hno]
          rw [g2, e3] at h
          exact instR_rows hy i ri h
      cases p with
      | slot j ag => exact other _ rfl (by simp) (fun _ h => h) (fun h => h) rfl (by simp [srcR, hl]) rfl
      | blk b => exact other _ rfl (by simp) (fun _ h => h) (fun h => h) rfl (by simp only [srcR, hl]) rfl
      | row q =>
        have hl' : l = [.row q] := by simp only [cellsAt, Option.some.injEq] at hl; exact hl.symm
        subst hl'
        cases hq : look (rowsE (.row q) ps x k) i with
        | some ri' =>
          rw [hq] at h
          injection h with h
          subst h
          match ps, x, hx, hq with
          | .row t e :: _, x, hx, hq =>
            simp only [rowsE] at hq
            rw [look_cons] at hq
            split at hq
            · rename_i e'
              injection hq with hq
              subst hq; subst e'
              refine .inr (.inr ⟨by simp [rowsOf], ?_⟩)
              simp only [readP] at hx
              split at hx
              · rename_i xl w hxl hw
                injection hx with hx
                subst hx
                simp only [rowOf] at hxl
                split at hxl
                · rename_i ri hri
                  split at hxl
                  · rename_i he ht _
                    obtain ⟨rt, re, rn, rl⟩ := ri
                    simp only at he ht
                    subst he
                    have ht : rt = t := by simpa using ht
                    subst ht
                    injection hxl with hxl
                    subst hxl
                    exact ⟨rn, hri, rfl⟩
                  · cases hxl
                · cases hxl
              · cases hx
            · cases hq
          | [], x, _, hq => simp [rowsE, look] at hq
          | .d _ :: _, x, _, hq => simp [rowsE, look] at hq
        | none =>
          rw [hq] at h
          simp only [cntE, Nat.add_zero] at h
          rw [g2] at h
          simp only [srcR]
          rcases instR_rows hy i ri h with h | h | ⟨h1, h2⟩
          · exact .inl h
          · exact .inr (.inl h)
          · exact .inr (.inr ⟨by simp [rowsOf, h1], h2⟩)
    · cases hx

theorem instB_keys {i : Nat} : ∀ {rh : List (Plc × List Pat)} {x : TsR rh} {k : Nat}, (look (instB rh x k) i).isSome = true ↔ i ∈ blksOf rh
  | [], _, _ => by simp [instB, look, blksOf]
  | (.slot _ _, ps) :: r, x, k => by simp only [instB, blksOf]; exact instB_keys
  | (.row _, ps) :: r, x, k => by simp only [instB, blksOf]; exact instB_keys
  | (.blk b, ps) :: r, x, k => by
    simp only [instB, blksOf]
    rw [look_cons]
    split
    · rename_i e; simp [e]
    · rename_i e
      rw [instB_keys]
      simp [e]

theorem take_row : ∀ {s : Sh} {q : Nat} {x : s.T} {l : List At}, s.take [.row q] = some (x, l) → False
  | .int _, _, _, _, h => by simp [Sh.take, takeInt] at h
  | .bool, _, _, _, h => by simp [Sh.take, takeBool] at h
  | .str, _, _, _, h => by simp [Sh.take, takeStr] at h
  | .sl _, _, _, _, h => by simp [Sh.take, takeSl] at h
  | .pair a b, q, x, l, h => by
    simp only [Sh.take] at h
    split at h
    · rename_i y r hy
      exact take_row hy
    · cases h
  | .agg e, _, _, _, h => take_row (s := e) h

/-- A row whose elements alone are told is there. -/
theorem instR_of {σ : St} {i : Nat} : ∀ {rh : List (Plc × List Pat)} {x : TsR rh} {k : Nat}, readR σ rh = some x → i ∈ rowsOf rh → (look (instR rh x k) i).isSome = true
  | (p, ps) :: r, x, k, hx, h => by
    simp only [readR] at hx
    split at hx
    · rename_i l y hl hy
      obtain ⟨g2, _⟩ := restP_read (ps := ps) hx
      simp only [instR]
      rw [look_append]
      cases hq : look (rowsE p ps x k) i with
      | some ri => rfl
      | none =>
        simp only
        rw [g2]
        refine instR_of hy ?_
        cases p with
        | slot j ag => exact h
        | blk b => exact h
        | row q =>
          simp only [rowsOf, List.mem_cons] at h
          rcases h with h | h
          · exfalso
            subst h
            have hl' : l = [.row i] := by simp only [cellsAt, Option.some.injEq] at hl; exact hl.symm
            subst hl'
            match ps, x, hx, hq with
            | .row t e :: _, x, _, hq => simp [rowsE, look_cons] at hq
            | [], x, hx, _ => simp [readP] at hx
            | .d s :: _, x, hx, _ =>
              simp only [readP] at hx
              split at hx
              · rename_i hh
                have := take_row hh
                exact this
              · cases hx
          · exact h
    · cases hx

theorem okSlots_spec {σ : St} : ∀ {l : List (Nat × Option SlotV)}, okSlots σ l = true → ∀ i s, look l i = some (some s) → (∀ b ∈ idsS s.s, (look σ.h b).isSome = true) ∧ ∀ q ∈ ridsS s.s, (look σ.r q).isSome = true
  | (j, none) :: r, hh, i, s, hi => by
    simp only [okSlots] at hh
    rw [look_cons] at hi
    split at hi
    · cases hi
    · exact okSlots_spec hh i s hi
  | (j, some t) :: r, hh, i, s, hi => by
    simp only [okSlots, Bool.and_eq_true] at hh
    rw [look_cons] at hi
    split at hi
    · injection hi with hi
      injection hi with hi
      subst hi
      exact ⟨allIn_look hh.1.1, allIn_look hh.1.2⟩
    · exact okSlots_spec hh.2 i s hi
theorem okBlks_spec {σ : St} : ∀ {l : List (Nat × List At)}, okBlks σ l = true → ∀ i m, look l i = some m → (∀ b ∈ idsL m, (look σ.h b).isSome = true) ∧ ∀ q ∈ ridsL m, (look σ.r q).isSome = true
  | (j, t) :: r, hh, i, m, hi => by
    simp only [okBlks, Bool.and_eq_true] at hh
    rw [look_cons] at hi
    split at hi
    · injection hi with hi
      subst hi
      exact ⟨allIn_look hh.1.1, allIn_look hh.1.2⟩
    · exact okBlks_spec hh.2 i m hi

/-- From the state 'σ' on, a state 'σ'' has come to the place. -/
theorem place_mod {rh : List (Plc × List Pat)} {W : List Nat} {srcs : List Nat} {σ σ' : St} {x : TsR rh} (hok : placeOk rh W srcs σ = true) (hm0 : Mod N E0 a0 σ.look) (hk : Keep E0 E) (hm : Mod N E a σ'.look) (hx : readAt rh (keysBut (rowsOf rh ++ srcs) σ.r ++ σ.roR) σ' = some x)
    (hs : ∀ i, i ∉ W → look σ'.s i = look σ.s i) (hh : ∀ i ∈ keysBut (blksOf rh) σ.h ++ σ.ro, look σ'.h i = look σ.h i) (hr : ∀ i ∈ keysBut (rowsOf rh ++ srcs) σ.r ++ σ.roR, look σ'.r i = look σ.r i) :
    ∃ E', Same E E' ∧ E'.w = E.w ∧ Keep E0 E' ∧ Mod N E' a (head rh W srcs σ x).look := by
  simp only [placeOk, Bool.and_eq_true] at hok
  obtain ⟨⟨⟨⟨⟨⟨k1, k2⟩, k3⟩, k4⟩, k5⟩, k6⟩, ⟨⟨⟨k7, k8⟩, k9⟩, k10⟩⟩ := hok
  unfold readAt at hx
  split at hx
  case h_2 => cases hx
  rename_i hro
  simp only [readOk, Bool.and_eq_true] at hro
  obtain ⟨⟨hnd, hoff⟩, hoff2⟩ := hro
  have hoff2 := offL_mem hoff2
  have hrk9 := allIn_look k9
  have hnd := nodupN_spec hnd
  have hoff := offL_mem hoff
  have hfresh := freshN_spec k3
  let g' := (head rh W srcs σ x).look
  let src : Nat → Option (Option Nat) := srcAt (srcR σ' rh) σ.next
  let E' := E.re (fun i => (g'.h i).isSome = true) (fun i => (g'.r i).isSome = true) src
  have hlen : (srcR σ' rh).length = cntR rh := (instS_rel hm (h := fun _ => True) (r := fun _ => True) (src := src) (k := σ.next) hx fun j o hj => ⟨trivial, hj⟩).1
  -- the head's rows: new ones, and those kept
  have gr : ∀ i, g'.r i = match look (instR rh x σ.next) i with | some ri => some (some ri) | none => if i ∈ srcs then some none else look σ.r i := by
    intro i
    show look (lift (instR rh x σ.next) ++ (kills srcs ++ σ.r)) i = _
    rw [look_append, look_lift]
    cases look (instR rh x σ.next) i with
    | some ri => rfl
    | none =>
      simp only
      rw [look_append, look_kills]
      by_cases h : i ∈ srcs
      · simp [h]
      · simp [h]
  have gh : ∀ i, g'.h i = match look (instB rh x σ.next) i with | some l => some l | none => look σ.h i := by
    intro i
    show look (instB rh x σ.next ++ σ.h) i = _
    rw [look_append]
    cases look (instB rh x σ.next) i <;> rfl
  have srcNew : ∀ i, (src i).isSome = true ↔ (σ.next ≤ i ∧ i < σ.next + cntR rh) := by
    intro i
    constructor
    · intro h
      cases hq : src i with
      | none => rw [hq] at h; cases h
      | some o =>
        obtain ⟨e1, e2⟩ := srcAt_get hq
        have := (List.getElem?_eq_some_iff.1 e2).1
        omega
    · intro h
      cases hq : src i with
      | some o => rfl
      | none =>
        exfalso
        have : ∀ (l : List (Option Nat)) (k : Nat), k ≤ i → i < k + l.length → srcAt l k i = none → False := by
          intro l
          induction l with
          | nil => intro k h1 h2; simp at h2; omega
          | cons o l ih =>
            intro k h1 h2 h3
            simp only [srcAt] at h3
            split at h3
            · cases h3
            · simp only [List.length_cons] at h2; exact ih (k + 1) (by omega) (by omega) h3
        exact this _ _ h.1 (by omega) hq
  have srcNone : ∀ i, (look σ.r i).isSome = true → src i = none := by
    intro i h
    cases hq : src i with
    | none => rfl
    | some o =>
      have := (srcNew i).1 (by rw [hq]; rfl)
      rw [hfresh i this.1 this.2] at h
      cases h
  have rkey : ∀ i, (look σ.r i).isSome = true → (g'.r i).isSome = true := by
    intro i h
    rw [gr]
    split
    · rfl
    · split
      · rfl
      · exact h
  have hkey : ∀ i, (look σ.h i).isSome = true → (g'.h i).isSome = true := by
    intro i h
    rw [gh]
    split
    · rfl
    · exact h
  have newR : ∀ i, (σ.next ≤ i ∧ i < σ.next + cntR rh) → (g'.r i).isSome = true := by
    intro i h
    rw [gr]
    have := instR_new (rh := rh) (x := x) (k := σ.next) (i := i) h
    cases hq : look (instR rh x σ.next) i with
    | some ri => rfl
    | none => rw [hq] at this; cases this
  obtain ⟨_, hS, hB⟩ := instS_rel hm (h := fun i => (g'.h i).isSome = true) (r := fun i => (g'.r i).isSome = true) (src := src) (k := σ.next) hx fun j o hj => ⟨newR j ((srcNew j).1 (by show (srcAt _ _ j).isSome = true; rw [hj]; rfl)), hj⟩
  have hR := instR_rows (k := σ.next) hx
  -- keeping
  have keep : Keep E0 E' := fun y v hv => by
    have hv' := hk y v hv
    refine RelA.re hv' (fun i hi => ?_) (fun i hi => ?_)
    · have : E0.L i := by
        cases y <;> simp only [idsA] at hi
        case ptr => simp only [List.mem_singleton] at hi; subst hi; exact hv.2
        case ae => simp only [List.mem_singleton] at hi; subst hi; exact hv.2
        case clo => obtain ⟨p, hp, rfl⟩ := List.mem_map.1 hi; exact hv.2 p hp
        all_goals cases hi
      exact hkey i (hm0.glob.live i this)
    · have : E0.R i := by
        cases y <;> simp only [ridsA] at hi
        case row r => simp only [List.mem_singleton] at hi; subst hi; exact hv.2.1
        case re r _ _ _ => simp only [List.mem_singleton] at hi; subst hi; obtain ⟨_, _, _, h⟩ := hv; exact h
        all_goals cases hi
      have := hm0.glob.rlive i this
      exact ⟨rkey i this, srcNone i this⟩
  -- rows that live
  have rowsL : ∀ i ri, g'.r i = some (some ri) → (∃ q n, look σ'.r q = some (some ⟨ri.t, ri.e, n, ri.l⟩) ∧ E'.ρ i = E.ρ q ∧ ((src i = some (some q)) ∨ (src i = none ∧ q = i ∧ (i ∈ keysBut (rowsOf rh ++ srcs) σ.r ++ σ.roR ∨ i ∈ rowsOf rh))) ∧ (ri.n = ri.l.length ∨ ri.n = n)) ∨ (E'.ρ i = .slice none 0 0 ∧ ri.l = [] ∧ ri.n = ri.l.length) := by
    intro i ri hi
    rw [gr] at hi
    cases hq : look (instR rh x σ.next) i with
    | some ri' =>
      rw [hq] at hi
      simp only [Option.some.injEq] at hi
      subst hi
      rcases hR i ri' hq with ⟨q, n, h1, h2, h3⟩ | ⟨h1, h2⟩ | ⟨h1, n, h2, h3⟩
      · exact .inl ⟨q, n, h2, by show (match src i with | some (some q) => E.ρ q | some none => .slice none 0 0 | none => E.ρ i) = _; rw [show src i = some (some q) from h1], .inl h1, .inl h3⟩
      · exact .inr ⟨by show (match src i with | some (some q) => E.ρ q | some none => .slice none 0 0 | none => E.ρ i) = _; rw [show src i = some none from h1], h2⟩
      · refine .inl ⟨i, n, h2, ?_, .inr ⟨srcNone i (hrk9 i h1), rfl, .inr h1⟩, .inl h3⟩
        show (match src i with | some (some q) => E.ρ q | some none => .slice none 0 0 | none => E.ρ i) = _
        rw [srcNone i (hrk9 i h1)]
    | none =>
      rw [hq] at hi
      simp only at hi
      split at hi
      · cases hi
      · rename_i hns
        have hsome : (look σ.r i).isSome = true := by rw [hi]; rfl
        have hnq : i ∉ rowsOf rh := fun hr => by
          have : (look (instR rh x σ.next) i).isSome = true := instR_of hx hr
          rw [hq] at this
          cases this
        have hmem : i ∈ keysBut (rowsOf rh ++ srcs) σ.r ++ σ.roR := List.mem_append_left _ (keysBut_mem (fun h => (List.mem_append.1 h).elim hnq hns) hsome)
        refine .inl ⟨i, ri.n, by rw [hr i hmem]; exact hi, ?_, .inr ⟨srcNone i hsome, rfl, .inl hmem⟩, .inr rfl⟩
        show (match src i with | some (some q) => E.ρ q | some none => .slice none 0 0 | none => E.ρ i) = _
        rw [srcNone i hsome]
  have blksL : ∀ i l, g'.h i = some l → ∃ l', look σ'.h i = some l' ∧ ∀ cs, RelL E l' cs → RelL E' l cs := by
    intro i l hi
    rw [gh] at hi
    cases hq : look (instB rh x σ.next) i with
    | some l0 =>
      rw [hq] at hi
      injection hi with hi
      subst hi
      exact hB i l0 hq
    | none =>
      rw [hq] at hi
      simp only at hi
      have hnb : i ∉ blksOf rh := fun hb => by
        have := (instB_keys (rh := rh) (x := x) (k := σ.next)).2 hb
        rw [hq] at this
        cases this
      have hmem : i ∈ keysBut (blksOf rh) σ.h ++ σ.ro := List.mem_append_left _ (keysBut_mem hnb (by rw [hi]; rfl))
      obtain ⟨o1, o2⟩ := okBlks_spec k2 i l hi
      exact ⟨l, by rw [hh i hmem]; exact hi, fun cs hcs => RelL.re hcs (fun b hb => hkey b (o1 b hb)) (fun q hq => ⟨rkey q (o2 q hq), srcNone q (o2 q hq)⟩)⟩
  refine ⟨E', rfl, rfl, keep, ⟨⟨hm.glob.below, hm.glob.zlt, hm.glob.z0, hm.glob.zfrom, fun b hb => hb, fun q hq => hq, fun i l hi => ?_, fun i j l l' hi hj hij => ?_, fun i ri b hi hb => ?_, fun i j ri rj b hi hj hb hb' => ?_⟩, hm.nodef, hm.size, fun i t hi => ?_, fun i l hi => ?_, fun i ri hi => ?_⟩⟩
  · obtain ⟨l', h1, _⟩ := blksL i l hi
    exact hm.glob.own i l' h1
  · obtain ⟨l1, h1, _⟩ := blksL i l hi
    obtain ⟨l2, h2, _⟩ := blksL j l' hj
    exact hm.glob.inj i j l1 l2 h1 h2 hij
  · rcases rowsL i ri hi with ⟨q, n, h1, h2, _⟩ | ⟨h1, _⟩
    · rw [h2] at hb
      obtain ⟨h3, h4⟩ := hm.glob.rown q _ b h1 hb
      exact ⟨h3, fun j l hj => by obtain ⟨l', h5, _⟩ := blksL j l hj; exact h4 j l' h5⟩
    · rw [h1] at hb; cases hb
  · rcases rowsL i ri hi with ⟨q, n, h1, h2, h3, _⟩ | ⟨h1, _⟩
    · rcases rowsL j rj hj with ⟨p, n', g1, g2, g3, _⟩ | ⟨g1, _⟩
      · rw [h2] at hb
        rw [g2] at hb'
        have hqp := hm.glob.rinj q p _ _ b h1 g1 hb hb'
        subst hqp
        rcases h3 with h3 | ⟨h3, rfl, h4⟩
        · rcases g3 with g3 | ⟨g3, rfl, g4⟩
          · obtain ⟨e1, e2⟩ := srcAt_get h3
            obtain ⟨e3, e4⟩ := srcAt_get g3
            have := somes_inj hnd e2 e4
            omega
          · rcases g4 with g4 | g4
            · exact absurd g4 (hoff q (somes_get (srcAt_get h3).2))
            · exact absurd g4 (hoff2 q (somes_get (srcAt_get h3).2))
        · rcases g3 with g3 | ⟨_, rfl, _⟩
          · rcases h4 with h4 | h4
            · exact absurd h4 (hoff q (somes_get (srcAt_get g3).2))
            · exact absurd h4 (hoff2 q (somes_get (srcAt_get g3).2))
          · rfl
      · rw [g1] at hb'; cases hb'
    · rw [h1] at hb; cases hb
  · -- slots
    simp only [St.look, lookS, head] at hi
    split at hi
    · rename_i t' hl
      injection hi with hi
      subst hi
      rw [look_append] at hl
      cases hq : look (instS rh x σ.next) i with
      | some t0 =>
        rw [hq] at hl
        injection hl with hl
        subst hl
        exact hS i t' hq
      | none =>
        rw [hq] at hl
        simp only at hl
        obtain ⟨h1, h2⟩ := look_dropK hl
        have e : σ'.look.s i = some t' := by
          show lookS σ'.s i = some t'
          simp only [lookS, hs i h2, h1]
        obtain ⟨v, h3, h4⟩ := hm.slots i t' e
        obtain ⟨o1, o2⟩ := okSlots_spec k1 i t' hl
        exact ⟨v, h3, RelS.re h4 (fun b hb => hkey b (o1 b hb)) (fun q hq => ⟨rkey q (o2 q hq), srcNone q (o2 q hq)⟩)⟩
    · cases hi
  · obtain ⟨l', h1, h2⟩ := blksL i l hi
    obtain ⟨_, cs, t, h4, h5, h6⟩ := hm.blks i l' h1
    exact ⟨by show (g'.h i).isSome = true; rw [hi]; rfl, cs, t, h4, h2 cs h5, h6⟩
  · rcases rowsL i ri hi with ⟨q, n, h1, h2, _, h5⟩ | ⟨h1, h2, h3⟩
    · obtain ⟨_, xs, h3, h4, h6⟩ := hm.rows q _ h1
      exact ⟨by show (g'.r i).isSome = true; rw [hi]; rfl, xs, by rw [h2]; exact h3, h4, h5.elim id fun e => e.trans h6⟩
    · obtain ⟨t, e, n, l⟩ := ri
      simp only at h2 h3
      subst h2
      exact ⟨by show (g'.r i).isSome = true; rw [hi]; rfl, [], by rw [h1]; exact World.ownsRow_nil _ _ _ _, rfl, h3⟩

end
end
end Dn
end Go.Proofs.Ytghjblbkbelcfaa
