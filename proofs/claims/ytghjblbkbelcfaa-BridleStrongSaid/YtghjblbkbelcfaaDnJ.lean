/- A symbolic executor: a region whose order is open. The symbolic run in the text's order serves every order that the edges allow, where operations that touch one another's slots or blocks wait for one another. -/
import Derived.Test.YtghjblbkbelcfaaDnI
namespace Go.Proofs.Ytghjblbkbelcfaa
namespace Dn
noncomputable section
open Go.RowKit

def Ent.w (e : Ent) : Option Nat := match e.pl.eff with
  | .alloc b _ => some b
  | .store b _ => some b
  | _ => none
def Ent.d (e : Ent) : Option Nat := match e.pl.s with
  | some x => some x.1
  | none => none
/-- The rows that change, and those of them that change not in their elements alone. -/
def effC : Eff → List Nat
  | .rset k _ _ => [k]
  | .row k _ (some o) => [k, o]
  | .row k _ none => [k]
  | .rkill l => l
  | _ => []
def effHard : Eff → Bool
  | .row .. => true
  | .rkill _ => true
  | _ => false
def Ent.c (e : Ent) : List Nat := effC e.pl.eff
def Ent.hard (e : Ent) : Bool := effHard e.pl.eff

def offO : Option Nat → List Nat → Bool
  | some d, l => !memN d l
  | none, _ => true
def neO : Option Nat → Option Nat → Bool
  | some d, some e => !Nat.beq d e
  | _, _ => true

def disj : List Nat → List Nat → Bool
  | [], _ => true
  | x :: l, m => !memN x m && disj l m
def indep (e f : Ent) : Bool := offO e.d f.looks && neO e.d f.d && offO f.d e.looks && offO e.w f.tb && offO f.w e.tb && (disj e.c f.tr || (f.tm && !e.hard)) && (disj f.c e.tr || (e.tm && !f.hard))

def chk1 (i : Nat) (e : Ent) : List Ent → Bool
  | [] => true
  | f :: r => (indep e f || memN i f.deps) && chk1 i e r
def depsLt (i : Nat) : List Nat → Bool
  | [] => true
  | d :: r => Nat.blt d i && depsLt i r
def ownW (e : Ent) : Bool := match e.w with
  | some b => memN b e.tb
  | none => true
def subN : List Nat → List Nat → Bool
  | [], _ => true
  | x :: l, m => memN x m && subN l m
def ownC (e : Ent) : Bool := match e.c with
  | [] => true
  | x :: l => subN (x :: l) e.tr && !e.tm
def chkAll : Nat → List Ent → Bool
  | _, [] => true
  | i, e :: r => chk1 i e r && depsLt i e.deps && ownW e && ownC e && chkAll (i + 1) r

theorem disj_spec : ∀ {l m : List Nat}, disj l m = true → ∀ {x}, x ∈ l → x ∉ m
  | [], _, _, _, h => by cases h
  | y :: l, m, h, x, hx => by
    simp only [disj, Bool.and_eq_true, Bool.not_eq_true'] at h
    rcases List.mem_cons.1 hx with rfl | hx
    · intro hm
      rw [memN_iff.2 hm] at h
      cases h.1
    · exact disj_spec h.2 hx
theorem subN_spec : ∀ {l m : List Nat}, subN l m = true → ∀ {x}, x ∈ l → x ∈ m
  | [], _, _, _, h => by cases h
  | y :: l, m, h, x, hx => by
    simp only [subN, Bool.and_eq_true] at h
    rcases List.mem_cons.1 hx with rfl | hx
    · exact memN_iff.1 h.1
    · exact subN_spec h.2 hx
theorem offO_spec {x : Option Nat} {l : List Nat} (h : offO x l = true) {d : Nat} (hd : x = some d) : d ∉ l := by
  subst hd
  simp only [offO, Bool.not_eq_true'] at h
  intro hm
  rw [memN_iff.2 hm] at h
  cases h
theorem neO_spec {x y : Option Nat} (h : neO x y = true) {d : Nat} (hx : x = some d) (hy : y = some d) : False := by
  subst hx; subst hy
  simp [neO] at h

theorem chk1_spec {i : Nat} {e : Ent} : ∀ {l : List Ent} {k : Nat} {f : Ent}, chk1 i e l = true → l[k]? = some f → indep e f = true ∨ i ∈ f.deps
  | [], k, f, _, hk => by simp at hk
  | x :: r, k, f, h, hk => by
    simp only [chk1, Bool.and_eq_true, Bool.or_eq_true] at h
    cases k with
    | zero =>
      simp only [List.getElem?_cons_zero, Option.some.injEq] at hk
      subst hk
      exact h.1.imp id memN_iff.1
    | succ k =>
      simp only [List.getElem?_cons_succ] at hk
      exact chk1_spec h.2 hk

theorem depsLt_spec {i : Nat} : ∀ {l : List Nat}, depsLt i l = true → ∀ d ∈ l, d < i
  | [], _, d, hd => by cases hd
  | x :: r, h, d, hd => by
    simp only [depsLt, Bool.and_eq_true, Nat.blt, Nat.ble_eq] at h
    rcases List.mem_cons.1 hd with rfl | hd
    · omega
    · exact depsLt_spec h.2 d hd

/-- What the check gives of all operations. -/
structure Chk (es : List Ent) : Prop where
  pair : ∀ (i j : Nat) (e f : Ent), i < j → es[i]? = some e → es[j]? = some f → indep e f = true ∨ i ∈ f.deps
  lt : ∀ (i : Nat) (e : Ent), es[i]? = some e → ∀ d ∈ e.deps, d < i
  own : ∀ (i : Nat) (e : Ent) (b : Nat), es[i]? = some e → e.w = some b → b ∈ e.tb
  ownc : ∀ (i : Nat) (e : Ent) (b : Nat), es[i]? = some e → b ∈ e.c → b ∈ e.tr ∧ e.tm = false

theorem ownC_spec {e : Ent} (h : ownC e = true) {b : Nat} (hb : b ∈ e.c) : b ∈ e.tr ∧ e.tm = false := by
  unfold ownC at h
  split at h
  · rename_i hc; rw [hc] at hb; cases hb
  · rename_i x l hc
    simp only [Bool.and_eq_true, Bool.not_eq_true'] at h
    rw [hc] at hb
    exact ⟨subN_spec h.1 hb, h.2⟩

theorem chkAll_spec : ∀ {l : List Ent} {n : Nat}, chkAll n l = true →
    (∀ (i j : Nat) (e f : Ent), i < j → l[i]? = some e → l[j]? = some f → indep e f = true ∨ n + i ∈ f.deps) ∧ (∀ (i : Nat) (e : Ent), l[i]? = some e → ∀ d ∈ e.deps, d < n + i) ∧ (∀ (i : Nat) (e : Ent) (b : Nat), l[i]? = some e → e.w = some b → b ∈ e.tb) ∧ (∀ (i : Nat) (e : Ent) (b : Nat), l[i]? = some e → b ∈ e.c → b ∈ e.tr ∧ e.tm = false)
  | [], n, _ => ⟨fun i j e f _ h => by simp at h, fun i e h => by simp at h, fun i e b h => by simp at h, fun i e b h => by simp at h⟩
  | x :: r, n, h => by
    simp only [chkAll, Bool.and_eq_true] at h
    obtain ⟨⟨⟨⟨h1, h2⟩, h4⟩, h6⟩, h5⟩ := h
    obtain ⟨i1, i2, i4, i5⟩ := chkAll_spec h5
    refine ⟨fun i j e f hij hi hj => ?_, fun i e hi d hd => ?_, fun i e b hi hb => ?_, fun i e b hi hb => ?_⟩
    · cases j with
      | zero => omega
      | succ j =>
        simp only [List.getElem?_cons_succ] at hj
        cases i with
        | zero =>
          simp only [List.getElem?_cons_zero, Option.some.injEq] at hi
          subst hi
          exact chk1_spec h1 hj
        | succ i =>
          simp only [List.getElem?_cons_succ] at hi
          have := i1 i j e f (by omega) hi hj
          rwa [show n + 1 + i = n + (i + 1) by omega] at this
    · cases i with
      | zero =>
        simp only [List.getElem?_cons_zero, Option.some.injEq] at hi
        subst hi
        exact depsLt_spec h2 d hd
      | succ i =>
        simp only [List.getElem?_cons_succ] at hi
        have := i2 i e hi d hd
        omega
    · cases i with
      | zero =>
        simp only [List.getElem?_cons_zero, Option.some.injEq] at hi
        subst hi
        simp only [ownW, hb] at h4
        exact memN_iff.1 h4
      | succ i =>
        simp only [List.getElem?_cons_succ] at hi
        exact i4 i e b hi hb
    · cases i with
      | zero =>
        simp only [List.getElem?_cons_zero, Option.some.injEq] at hi
        subst hi
        exact ownC_spec h6 hb
      | succ i =>
        simp only [List.getElem?_cons_succ] at hi
        exact i5 i e b hi hb

theorem chk_of {es : List Ent} (h : chkAll 0 es = true) : Chk es := by
  obtain ⟨h1, h2, h4, h5⟩ := chkAll_spec h
  exact ⟨fun i j e f hij hi hj => by have := h1 i j e f hij hi hj; simpa using this, fun i e hi d hd => by have := h2 i e hi d hd; omega, h4, h5⟩

/-- The state behind those operations whose numbers 'p' holds of. -/
def fil (g : Look) (p : Nat → Bool) : Nat → List Ent → Look
  | _, [] => g
  | i, e :: r => fil (match p i with | true => g.plan e.pl | false => g) p (i + 1) r

theorem plan_s (g : Look) (e : Ent) (t : Nat) : (g.plan e.pl).s t = match e.pl.s with
    | some (d, s) => if t = d then some s else g.s t
    | none => g.s t := by
  unfold Look.plan
  have happ : (g.app e.pl.eff).s = g.s := by cases e.pl.eff <;> first | rfl | (rename_i k r o; cases o <;> rfl)
  cases e.pl.s with
  | none => exact congrFun happ t
  | some d => simp only [Look.setS, happ]

theorem plan_h (g : Look) (e : Ent) (b : Nat) : (g.plan e.pl).h b = match e.pl.eff with
    | .alloc i l => if b = i then some l else g.h b
    | .store i l => if b = i then some l else g.h b
    | _ => g.h b := by
  unfold Look.plan
  cases e.pl.s <;> (cases e.pl.eff <;> first | rfl | (rename_i k r o; cases o <;> rfl))

/-- What an effect makes of a row. -/
def updR (f : Eff) (t : Nat) (x : Option (Option RowI)) : Option (Option RowI) := match f with
  | .row k r (some o) => if t = k then some (some r) else if t = o then some none else x
  | .row k r none => if t = k then some (some r) else x
  | .rset k e l => if t = k then setL e l x else x
  | .rkill l => if t ∈ l then some none else x
  | _ => x
theorem plan_r (g : Look) (e : Ent) (t : Nat) : (g.plan e.pl).r t = updR e.pl.eff t (g.r t) := by
  unfold Look.plan
  cases e.pl.s <;> (cases he : e.pl.eff with
    | row k r o => cases o <;> rfl
    | rset k s l =>
      simp only [Look.app, Look.setS, updR]
      by_cases h : t = k
      · subst h; rfl
      · rw [if_neg h, if_neg h]
    | _ => rfl)
theorem updR_off {f : Eff} {t : Nat} {x : Option (Option RowI)} (h : t ∉ effC f) : updR f t x = x := by
  cases f with
  | row k r o =>
    cases o <;> simp only [effC, List.mem_cons, List.not_mem_nil, or_false, not_or] at h <;> simp [updR, h]
  | rset k s l => simp only [effC, List.mem_cons, List.not_mem_nil, or_false] at h; simp [updR, h]
  | rkill l => simp only [effC] at h; simp [updR, h]
  | _ => rfl

theorem setL_blank (s : Sh) (l : List s.T) (x : Option (Option RowI)) : blank (setL s l x) = blank x := by
  unfold setL
  split
  · split <;> rfl
  · rfl
theorem updR_soft {f : Eff} {t : Nat} (h : effHard f = false) (x : Option (Option RowI)) : blank (updR f t x) = blank x := by
  cases f with
  | row k r o => cases h
  | rkill l => cases h
  | rset k s l =>
    simp only [updR]
    split
    · exact setL_blank s l x
    · rfl
  | _ => rfl
theorem updR_cong {f : Eff} {t : Nat} {x y : Option (Option RowI)} (h : blank x = blank y) : blank (updR f t x) = blank (updR f t y) := by
  cases f with
  | row k r o => cases o <;> simp only [updR] <;> split <;> first | rfl | (split <;> first | rfl | exact h) | exact h
  | rkill l => simp only [updR]; split <;> first | rfl | exact h
  | rset k s l =>
    simp only [updR]
    split
    · rw [setL_blank, setL_blank]; exact h
    · exact h
  | _ => exact h
theorem plan_r_off (g : Look) (e : Ent) (t : Nat) (h : t ∉ e.c) : (g.plan e.pl).r t = g.r t := by rw [plan_r, updR_off h]

theorem plan_s_off (g : Look) (e : Ent) (t : Nat) (h : e.d ≠ some t) : (g.plan e.pl).s t = g.s t := by
  rw [plan_s]
  unfold Ent.d at h
  cases hs : e.pl.s with
  | none => rfl
  | some x => rw [hs] at h; simp only [ne_eq, Option.some.injEq] at h; exact if_neg (Ne.symm h)
theorem plan_s_on (g g' : Look) (e : Ent) (t : Nat) (h : e.d = some t) : (g.plan e.pl).s t = (g'.plan e.pl).s t := by
  rw [plan_s, plan_s]
  unfold Ent.d at h
  cases hs : e.pl.s with
  | none => rw [hs] at h; cases h
  | some x => rw [hs] at h; simp only [Option.some.injEq] at h; simp [h]
theorem plan_h_off (g : Look) (e : Ent) (b : Nat) (h : e.w ≠ some b) : (g.plan e.pl).h b = g.h b := by
  rw [plan_h]
  unfold Ent.w at h
  cases he : e.pl.eff <;> rw [he] at h <;> first | rfl | (simp only [ne_eq, Option.some.injEq] at h; exact if_neg (Ne.symm h))
theorem plan_h_on (g g' : Look) (e : Ent) (b : Nat) (h : e.w = some b) : (g.plan e.pl).h b = (g'.plan e.pl).h b := by
  rw [plan_h, plan_h]
  unfold Ent.w at h
  cases he : e.pl.eff <;> rw [he] at h <;> first | cases h; done | (simp only [Option.some.injEq] at h; simp [h])

theorem fil_s {p q : Nat → Bool} {t : Nat} : ∀ {l : List Ent} {i : Nat} {g g' : Look}, (∀ (k : Nat) (e : Ent), l[k]? = some e → e.d = some t → p (i + k) = q (i + k)) → g.s t = g'.s t → (fil g p i l).s t = (fil g' q i l).s t
  | [], i, g, g', _, h => h
  | e :: r, i, g, g', hpq, h => by
    simp only [fil]
    refine fil_s (fun k f hk hd => ?_) ?_
    · have := hpq (k + 1) f (by simpa using hk) hd
      rwa [show i + (k + 1) = i + 1 + k by omega] at this
    · by_cases hd : e.d = some t
      · have := hpq 0 e rfl hd
        simp only [Nat.add_zero] at this
        rw [this]
        cases q i
        · exact h
        · exact plan_s_on g g' e t hd
      · have e1 : (match p i with | true => g.plan e.pl | false => g).s t = g.s t := by cases p i <;> first | rfl | exact plan_s_off g e t hd
        have e2 : (match q i with | true => g'.plan e.pl | false => g').s t = g'.s t := by cases q i <;> first | rfl | exact plan_s_off g' e t hd
        rw [e1, e2, h]

theorem fil_h {p q : Nat → Bool} {t : Nat} : ∀ {l : List Ent} {i : Nat} {g g' : Look}, (∀ (k : Nat) (e : Ent), l[k]? = some e → e.w = some t → p (i + k) = q (i + k)) → g.h t = g'.h t → (fil g p i l).h t = (fil g' q i l).h t
  | [], i, g, g', _, h => h
  | e :: r, i, g, g', hpq, h => by
    simp only [fil]
    refine fil_h (fun k f hk hd => ?_) ?_
    · have := hpq (k + 1) f (by simpa using hk) hd
      rwa [show i + (k + 1) = i + 1 + k by omega] at this
    · by_cases hd : e.w = some t
      · have := hpq 0 e rfl hd
        simp only [Nat.add_zero] at this
        rw [this]
        cases q i
        · exact h
        · exact plan_h_on g g' e t hd
      · have e1 : (match p i with | true => g.plan e.pl | false => g).h t = g.h t := by cases p i <;> first | rfl | exact plan_h_off g e t hd
        have e2 : (match q i with | true => g'.plan e.pl | false => g').h t = g'.h t := by cases q i <;> first | rfl | exact plan_h_off g' e t hd
        rw [e1, e2, h]

theorem fil_r {p q : Nat → Bool} {t : Nat} : ∀ {l : List Ent} {i : Nat} {g g' : Look}, (∀ (k : Nat) (e : Ent), l[k]? = some e → t ∈ e.c → p (i + k) = q (i + k)) → g.r t = g'.r t → (fil g p i l).r t = (fil g' q i l).r t
  | [], i, g, g', _, h => h
  | e :: r, i, g, g', hpq, h => by
    simp only [fil]
    refine fil_r (fun k f hk hd => ?_) ?_
    · have := hpq (k + 1) f (by simpa using hk) hd
      rwa [show i + (k + 1) = i + 1 + k by omega] at this
    · by_cases hd : t ∈ e.c
      · have := hpq 0 e rfl hd
        simp only [Nat.add_zero] at this
        rw [this]
        cases q i
        · exact h
        · simp only [plan_r, h]
      · have e1 : (match p i with | true => g.plan e.pl | false => g).r t = g.r t := by cases p i <;> first | rfl | exact plan_r_off g e t hd
        have e2 : (match q i with | true => g'.plan e.pl | false => g').r t = g'.r t := by cases q i <;> first | rfl | exact plan_r_off g' e t hd
        rw [e1, e2, h]

theorem fil_blank {p q : Nat → Bool} {t : Nat} : ∀ {l : List Ent} {i : Nat} {g g' : Look}, (∀ (k : Nat) (e : Ent), l[k]? = some e → t ∈ e.c → e.hard = true → p (i + k) = q (i + k)) → blank (g.r t) = blank (g'.r t) → blank ((fil g p i l).r t) = blank ((fil g' q i l).r t)
  | [], i, g, g', _, h => h
  | e :: r, i, g, g', hpq, h => by
    simp only [fil]
    refine fil_blank (fun k f hk hd hh => ?_) ?_
    · have := hpq (k + 1) f (by simpa using hk) hd hh
      rwa [show i + (k + 1) = i + 1 + k by omega] at this
    · have same : e.hard = false ∨ t ∉ e.c → ∀ g : Look, blank ((g.plan e.pl).r t) = blank (g.r t) := fun ho g => by
        rcases ho with ho | ho
        · rw [plan_r]; exact updR_soft ho _
        · rw [plan_r_off g e t ho]
      by_cases hd : t ∈ e.c ∧ e.hard = true
      · have := hpq 0 e rfl hd.1 hd.2
        simp only [Nat.add_zero] at this
        rw [this]
        cases q i
        · exact h
        · simp only [plan_r]; exact updR_cong h
      · have ho : e.hard = false ∨ t ∉ e.c := by
          cases hh : e.hard with
          | false => exact .inl rfl
          | true => exact .inr fun hc => hd ⟨hc, hh⟩
        have e1 : blank ((match p i with | true => g.plan e.pl | false => g).r t) = blank (g.r t) := by cases p i <;> first | rfl | exact same ho g
        have e2 : blank ((match q i with | true => g'.plan e.pl | false => g').r t) = blank (g'.r t) := by cases q i <;> first | rfl | exact same ho g'
        rw [e1, e2, h]

/-- The last writer decides. -/
theorem fil_s_at {p : Nat → Bool} {t : Nat} : ∀ {l : List Ent} {i j : Nat} {g : Look} {e : Ent}, l[j]? = some e → p (i + j) = true → e.d = some t → (∀ (k : Nat) (f : Ent), j < k → l[k]? = some f → f.d = some t → p (i + k) = false) → ∀ g' : Look, (fil g p i l).s t = (g'.plan e.pl).s t
  | [], i, j, g, e, h, _, _, _, _ => by simp at h
  | x :: r, i, 0, g, e, h, hp, hd, hl, g' => by
    simp only [List.getElem?_cons_zero, Option.some.injEq] at h
    subst h
    simp only [Nat.add_zero] at hp
    simp only [fil, hp]
    have := fil_s (p := p) (q := fun _ => false) (t := t) (l := r) (i := i + 1) (g := g.plan x.pl) (g' := g.plan x.pl) (fun k f hk hf => by
      have := hl (k + 1) f (by omega) (by simpa using hk) hf
      rwa [show i + (k + 1) = i + 1 + k by omega] at this) rfl
    rw [this]
    have none_ : ∀ (l : List Ent) (i : Nat) (g : Look), fil g (fun _ => false) i l = g := by
      intro l
      induction l with
      | nil => intro i g; rfl
      | cons y l ih => intro i g; exact ih (i + 1) g
    rw [none_]
    exact plan_s_on g g' x t hd
  | x :: r, i, j + 1, g, e, h, hp, hd, hl, g' => by
    simp only [List.getElem?_cons_succ] at h
    simp only [fil]
    refine fil_s_at (j := j) h (by rwa [show i + 1 + j = i + (j + 1) by omega]) hd (fun k f hk hf hfd => ?_) g'
    have := hl (k + 1) f (by omega) (by simpa using hf) hfd
    rwa [show i + (k + 1) = i + 1 + k by omega] at this

theorem fil_h_at {p : Nat → Bool} {t : Nat} : ∀ {l : List Ent} {i j : Nat} {g : Look} {e : Ent}, l[j]? = some e → p (i + j) = true → e.w = some t → (∀ (k : Nat) (f : Ent), j < k → l[k]? = some f → f.w = some t → p (i + k) = false) → ∀ g' : Look, (fil g p i l).h t = (g'.plan e.pl).h t
  | [], i, j, g, e, h, _, _, _, _ => by simp at h
  | x :: r, i, 0, g, e, h, hp, hd, hl, g' => by
    simp only [List.getElem?_cons_zero, Option.some.injEq] at h
    subst h
    simp only [Nat.add_zero] at hp
    simp only [fil, hp]
    have := fil_h (p := p) (q := fun _ => false) (t := t) (l := r) (i := i + 1) (g := g.plan x.pl) (g' := g.plan x.pl) (fun k f hk hf => by
      have := hl (k + 1) f (by omega) (by simpa using hk) hf
      rwa [show i + (k + 1) = i + 1 + k by omega] at this) rfl
    rw [this]
    have none_ : ∀ (l : List Ent) (i : Nat) (g : Look), fil g (fun _ => false) i l = g := by
      intro l
      induction l with
      | nil => intro i g; rfl
      | cons y l ih => intro i g; exact ih (i + 1) g
    rw [none_]
    exact plan_h_on g g' x t hd
  | x :: r, i, j + 1, g, e, h, hp, hd, hl, g' => by
    simp only [List.getElem?_cons_succ] at h
    simp only [fil]
    refine fil_h_at (j := j) h (by rwa [show i + 1 + j = i + (j + 1) by omega]) hd (fun k f hk hf hfd => ?_) g'
    have := hl (k + 1) f (by omega) (by simpa using hf) hfd
    rwa [show i + (k + 1) = i + 1 + k by omega] at this

theorem fil_none (l : List Ent) (i : Nat) (g : Look) (p : Nat → Bool) (t : Nat) (h : ∀ (k : Nat) (f : Ent), l[k]? = some f → t ∈ f.c → p (i + k) = false) : (fil g p i l).r t = g.r t := by
  rw [fil_r (q := fun _ => false) (g' := g) h rfl]
  have none_ : ∀ (l : List Ent) (i : Nat) (g : Look), fil g (fun _ => false) i l = g := by
    intro l
    induction l with
    | nil => intro i g; rfl
    | cons y l ih => intro i g; exact ih (i + 1) g
  rw [none_]

/-- One more operation, behind all that change the row. -/
theorem fil_r_at {p q : Nat → Bool} {t : Nat} : ∀ {l : List Ent} {i j : Nat} {g g' : Look} {e : Ent}, l[j]? = some e → p (i + j) = true → q (i + j) = false → (∀ k, k ≠ j → p (i + k) = q (i + k)) → (∀ (k : Nat) (f : Ent), j < k → l[k]? = some f → t ∈ f.c → p (i + k) = false) →
    g.r t = g'.r t → (fil g p i l).r t = updR e.pl.eff t ((fil g' q i l).r t)
  | [], i, j, g, g', e, h, _, _, _, _, _ => by simp at h
  | x :: r, i, 0, g, g', e, h, hp, hq, hpq, hl, hg => by
    simp only [List.getElem?_cons_zero, Option.some.injEq] at h
    subst h
    simp only [Nat.add_zero] at hp hq
    simp only [fil, hp, hq]
    have hl' : ∀ (k : Nat) (f : Ent), r[k]? = some f → t ∈ f.c → p (i + 1 + k) = false := fun k f hk hf => by
      have := hl (k + 1) f (by omega) (by simpa using hk) hf
      rwa [show i + (k + 1) = i + 1 + k by omega] at this
    rw [fil_none r (i + 1) _ p t hl', fil_none r (i + 1) _ q t fun k f hk hf => ?_, plan_r, hg]
    have := hpq (k + 1) (by omega)
    rw [show i + (k + 1) = i + 1 + k by omega] at this
    rw [← this]
    exact hl' k f hk hf
  | x :: r, i, j + 1, g, g', e, h, hp, hq, hpq, hl, hg => by
    simp only [List.getElem?_cons_succ] at h
    simp only [fil]
    refine fil_r_at (j := j) h (by rwa [show i + 1 + j = i + (j + 1) by omega]) (by rwa [show i + 1 + j = i + (j + 1) by omega]) (fun k hk => ?_) (fun k f hk hf hfd => ?_) ?_
    · have := hpq (k + 1) (by omega)
      rwa [show i + (k + 1) = i + 1 + k by omega] at this
    · have := hl (k + 1) f (by omega) (by simpa using hf) hfd
      rwa [show i + (k + 1) = i + 1 + k by omega] at this
    · have := hpq 0 (by omega)
      simp only [Nat.add_zero] at this
      rw [this]
      cases q i
      · exact hg
      · simp only [plan_r, hg]

theorem fil_shift {p : Nat → Bool} : ∀ {l : List Ent} {i : Nat} {g : Look}, fil g p (i + 1) l = fil g (fun k => p (k + 1)) i l
  | [], _, _ => rfl
  | e :: r, i, g => by simp only [fil]; exact fil_shift

theorem fil_true : ∀ {l : List Ent} {i : Nat} {g : Look}, fil g (fun _ => true) i l = l.foldl (fun g e => g.plan e.pl) g
  | [], _, _ => rfl
  | e :: r, i, g => by simp only [fil, List.foldl_cons]; exact fil_true

/-- What the run in the text's order says of each operation. -/
structure At0 (C : Ctx) (N : Nat) (ops : Array Oper) (g : Look) (es : List Ent) (j : Nat) (o : Oper) (e : Ent) : Prop where
  get : es[j]? = some e
  step : ∃ b, b ∈ e.tb ∧ b ∈ e.tr ∧ StepP C N ops (fil g (fun k => decide (k < j)) 0 es).s (bkT e.tb (fil g (fun k => decide (k < j)) 0 es).h) (rkT o e.tr (fil g (fun k => decide (k < j)) 0 es).r) b o e.pl
  tmeq : e.tm = metaOp o
  looks : e.looks = o.looksAt ops
  deps : e.deps = (o.after.toList.filter (Region.binds .any)).map (·.on)

theorem regR_at {C : Ctx} {N : Nat} {ops : Array Oper} : ∀ {l : List Oper} {σ σ' : St} {es : List Ent}, RegR C N ops l σ es σ' →
    σ'.look = es.foldl (fun g e => g.plan e.pl) σ.look ∧ es.length = l.length ∧ (∀ (j : Nat) (o : Oper), l[j]? = some o → ∃ e, At0 C N ops σ.look es j o e)
  | [], σ, σ', es, h => by
    obtain ⟨rfl, rfl⟩ := h
    exact ⟨rfl, rfl, fun j o h => by simp at h⟩
  | o :: r, σ, σ', es, h => by
    obtain ⟨pl, es', hpl, hef, rfl, hr⟩ := h
    obtain ⟨h1, h2, h3⟩ := regR_at hr
    have e0 := look_step σ pl
    rw [e0] at h1 h3
    refine ⟨h1, by simp [h2], fun j o' hj => ?_⟩
    cases j with
    | zero =>
      simp only [List.getElem?_cons_zero, Option.some.injEq] at hj
      subst hj
      refine ⟨_, rfl, ⟨σ.next, by simp [entOf, tbOf], by simp [entOf, trOf], ?_⟩, rfl, rfl, rfl⟩
      have e00 : ∀ (l : List Ent) (i : Nat) (g : Look), fil g (fun k => decide (k < 0)) i l = g := by
        intro l
        induction l with
        | nil => intro i g; rfl
        | cons y l ih => intro i g; exact ih (i + 1) g
      rw [e00]
      exact hpl
    | succ j =>
      simp only [List.getElem?_cons_succ] at hj
      obtain ⟨e, a1, ⟨b, hb, hbr, a2⟩, am, a3, a4⟩ := h3 j o' hj
      refine ⟨e, by simpa using a1, ⟨b, hb, hbr, ?_⟩, am, a3, a4⟩
      have e1 : ∀ (x : Ent), x.pl = pl → fil σ.look (fun k => decide (k < j + 1)) 0 (x :: es') = fil (σ.look.plan pl) (fun k => decide (k < j)) 0 es' := by
        intro x hx
        have hf : (fun k => decide (k + 1 < j + 1)) = fun k => decide (k < j) := by funext k; simp
        simp only [fil]
        rw [fil_shift, hf, hx]
        rfl
      rw [e1 _ rfl]
      exact a2

section
variable {N : Nat} {E : Env} {a : Act}

theorem drew_mod {g : Look} (hm : Mod N E a g) (n : Nat) : Mod N { E with w := { E.w with drawn := n } } a g ∧ Keep E { E with w := { E.w with drawn := n } } := by
  have hx : Ext (fun _ => False) E { E with w := { E.w with drawn := n } } := ⟨rfl, rfl, rfl, fun _ h => h, fun _ _ _ => rfl, fun _ _ => rfl, fun _ h => h, fun _ _ => rfl, fun _ h => h⟩
  refine ⟨hm.move (Free.none E) hx ?_ hm.nodef hm.size (fun i s h => .inl ⟨h, rfl⟩) (fun i l h => .inl ⟨h, id⟩) (fun i r h => .inl ⟨h, fun _ _ => id⟩), hx.keep hm.glob (Free.none E)⟩
  obtain ⟨⟨b1, b2, b3, b4, b5⟩, h2, h3, h4, h5, h6, h7, h8, h9, h10⟩ := hm.glob
  exact ⟨⟨b1, b2, b3, b4, b5⟩, h2, h3, h4, h5, h6, h7, h8, h9, h10⟩

theorem step_any {C : Ctx} (hC : C.ok) {ops : Array Oper} {g0 : Look} {es : List Ent} (hk : Chk es) {L : Nat → Bool} (hL : ∀ (k : Nat) (e : Ent), es[k]? = some e → L k = true → ∀ d ∈ e.deps, L d = true)
    {j : Nat} {o : Oper} {e : Ent} (h0 : At0 C N ops g0 es j o e) (hj : L j = false) (hd : ∀ d ∈ e.deps, L d = true) (hP : E.P = C.P) (hm : Mod N E a (fil g0 L 0 es)) {K : Act → World → Prop} {Q : Exit → Act → World → Prop} {X : Prop}
    (hK : ∀ E' a', Same E E' → Keep E E' → Mod N E' a' (fil g0 (fun k => L k || k == j) 0 es) → K a' E'.w) :
    if Region.wanted o (yielded ops a.tmps) then o.wp C.P a E.w K Q ∨ X else K (a.put o.dst undef) E.w := by
  obtain ⟨hget, ⟨b, hb, hbr, hst⟩, hmeta, hlk, hdp⟩ := h0
  -- the writers that count are those ahead in the text
  have before : ∀ (k : Nat) (f : Ent), es[k]? = some f → k ≠ j → (indep f e = true → False) → k < j → L k = true := fun k f hf hne hi hlt =>
    hd k ((hk.pair k j f e hlt hf hget).resolve_left fun h => hi h)
  have after : ∀ (k : Nat) (f : Ent), es[k]? = some f → (indep e f = true → False) → j < k → L k = false := fun k f hf hi hlt => by
    have hdep := (hk.pair j k e f hlt hget hf).resolve_left fun h => hi h
    cases hLk : L k with
    | false => rfl
    | true =>
      have := hL k f hf hLk j hdep
      rw [hj] at this
      cases this
  have slotsEq : ∀ t ∈ e.looks, (fil g0 L 0 es).s t = (fil g0 (fun k => decide (k < j)) 0 es).s t := fun t ht => by
    refine fil_s (fun k f hf hfd => ?_) rfl
    rw [Nat.zero_add]
    rcases Nat.lt_trichotomy k j with h | h | h
    · rw [before k f hf (by omega) (fun hi => by
        simp only [indep, Bool.and_eq_true] at hi
        exact offO_spec hi.1.1.1.1.1.1 hfd ht) h]
      simp [h]
    · subst h
      simp [hj]
    · rw [after k f hf (fun hi => by
        simp only [indep, Bool.and_eq_true] at hi
        exact offO_spec hi.1.1.1.1.2 hfd ht) h]
      simp; omega
  have blksEq : ∀ t ∈ e.tb, (fil g0 L 0 es).h t = (fil g0 (fun k => decide (k < j)) 0 es).h t := fun t ht => by
    refine fil_h (fun k f hf hfd => ?_) rfl
    rw [Nat.zero_add]
    rcases Nat.lt_trichotomy k j with h | h | h
    · rw [before k f hf (by omega) (fun hi => by
        simp only [indep, Bool.and_eq_true] at hi
        exact offO_spec hi.1.1.1.2 hfd ht) h]
      simp [h]
    · subst h
      simp [hj]
    · rw [after k f hf (fun hi => by
        simp only [indep, Bool.and_eq_true] at hi
        exact offO_spec hi.1.1.2 hfd ht) h]
      simp; omega
  have soft : ∀ (f g : Ent), (disj f.c g.tr || (g.tm && !f.hard)) = true → ∀ t, t ∈ f.c → t ∈ g.tr → g.tm = true ∧ f.hard = false := fun f g h t h1 h2 => by
    simp only [Bool.or_eq_true, Bool.and_eq_true, Bool.not_eq_true'] at h
    rcases h with h | h
    · exact absurd h2 (disj_spec h h1)
    · exact h
  have pick : ∀ t ∈ e.tr, ∀ (k : Nat) (f : Ent), es[k]? = some f → t ∈ f.c → k ≠ j → (e.tm = false ∨ f.hard = true) → L k = decide (k < j) := fun t ht k f hf hfd hne ho => by
    have no : ∀ {q : Prop}, e.tm = true ∧ f.hard = false → q := fun hq => by
      rcases ho with ho | ho
      · rw [ho] at hq; cases hq.1
      · rw [ho] at hq; cases hq.2
    rcases Nat.lt_trichotomy k j with h | h | h
    · rw [before k f hf (by omega) (fun hi => by
        simp only [indep, Bool.and_eq_true] at hi
        exact no (soft f e hi.1.2 t hfd ht)) h]
      simp [h]
    · exact absurd h hne
    · rw [after k f hf (fun hi => by
        simp only [indep, Bool.and_eq_true] at hi
        exact no (soft f e hi.2 t hfd ht)) h]
      simp; omega
  have pick' : ∀ t ∈ e.tr, ∀ (k : Nat) (f : Ent), es[k]? = some f → t ∈ f.c → (e.tm = false ∨ f.hard = true) → L k = decide (k < j) := fun t ht k f hf hfd ho => by
    by_cases hne : k = j
    · subst hne
      simp [hj]
    · exact pick t ht k f hf hfd hne ho
  have blankEq : ∀ t ∈ e.tr, blank ((fil g0 L 0 es).r t) = blank ((fil g0 (fun k => decide (k < j)) 0 es).r t) := fun t ht => by
    refine fil_blank (fun k f hf hfd hh => ?_) rfl
    rw [Nat.zero_add]
    exact pick' t ht k f hf hfd (.inr hh)
  have rowsEq : ∀ t ∈ e.tr, e.tm = false → (fil g0 L 0 es).r t = (fil g0 (fun k => decide (k < j)) 0 es).r t := fun t ht htm => by
    refine fil_r (fun k f hf hfd => ?_) rfl
    rw [Nat.zero_add]
    exact pick' t ht k f hf hfd (.inl htm)
  refine step_ok (K := K) (Q := Q) (X := X) hC hP hst hm (fun t ht => slotsEq t (by rw [hlk]; exact ht)) (fun i l hi => ?_) (fun hn => ?_) (fun hmo i r hi => ?_) (fun i ri hi => ?_) (fun hi => ?_) fun E' a' hs hkp hm' => hK E' a' hs hkp ?_
  · obtain ⟨h1, h2⟩ := bkT_sub hi
    rw [blksEq i h1]
    exact h2
  · rw [blksEq b hb]
    exact bkT_none hb hn
  · obtain ⟨h1, h2⟩ := rkT_sub hmo hi
    rw [rowsEq i h1 (by rw [hmeta]; exact hmo)]
    exact h2
  · obtain ⟨h1, rj, h2, h3, h4, h5⟩ := rkT_meta hi
    have hbl := blankEq i h1
    rw [h2] at hbl
    obtain ⟨rk, g1, g2, g3, g4⟩ := blank_some (ri := ⟨rj.t, rj.e, rj.n, []⟩) hbl
    exact ⟨rk, g1, g3.trans h4, g4.trans h5⟩
  · have h1 := rkT_none hbr hi
    have hbl := blankEq b hbr
    rw [h1] at hbl
    have : ∀ x : Option (Option RowI), blank x = none → x = none := fun x hx => by
      unfold blank at hx
      split at hx
      · cases hx
      · exact hx
    exact this _ hbl
  · have hg : (fil g0 L 0 es).plan e.pl = fil g0 (fun k => L k || k == j) 0 es := by
      have es_s : ((fil g0 L 0 es).plan e.pl).s = (fil g0 (fun k => L k || k == j) 0 es).s := by
        funext t
        by_cases ht : e.d = some t
        · symm
          refine fil_s_at (j := j) hget (by simp) ht (fun k f hlt hf hfd => ?_) _
          rw [Nat.zero_add, after k f hf (fun hi => by
            simp only [indep, Bool.and_eq_true] at hi
            exact neO_spec hi.1.1.1.1.1.2 ht hfd) hlt]
          simp; omega
        · rw [plan_s_off _ e t ht]
          refine fil_s (fun k f hf hfd => ?_) rfl
          rw [Nat.zero_add]
          have hkj : k ≠ j := fun h => by subst h; rw [hget] at hf; injection hf with hf; subst hf; exact ht hfd
          simp [hkj]
      have es_h : ((fil g0 L 0 es).plan e.pl).h = (fil g0 (fun k => L k || k == j) 0 es).h := by
        funext t
        by_cases ht : e.w = some t
        · symm
          refine fil_h_at (j := j) hget (by simp) ht (fun k f hlt hf hfd => ?_) _
          rw [Nat.zero_add, after k f hf (fun hi => by
            simp only [indep, Bool.and_eq_true] at hi
            exact offO_spec hi.1.1.2 hfd (hk.own j e t hget ht)) hlt]
          simp; omega
        · rw [plan_h_off _ e t ht]
          refine fil_h (fun k f hf hfd => ?_) rfl
          rw [Nat.zero_add]
          have hkj : k ≠ j := fun h => by subst h; rw [hget] at hf; injection hf with hf; subst hf; exact ht hfd
          simp [hkj]
      have es_r : ((fil g0 L 0 es).plan e.pl).r = (fil g0 (fun k => L k || k == j) 0 es).r := by
        funext t
        by_cases ht : t ∈ e.c
        · symm
          rw [plan_r]
          obtain ⟨o1, o2⟩ := hk.ownc j e t hget ht
          refine fil_r_at (j := j) hget (by simp) (by rw [Nat.zero_add]; exact hj) (fun k hkj => by simp [hkj]) (fun k f hlt hf hfd => ?_) rfl
          have := pick t o1 k f hf hfd (by omega) (.inl o2)
          rw [Nat.zero_add, this]
          simp; omega
        · rw [plan_r_off _ e t ht]
          refine fil_r (fun k f hf hfd => ?_) rfl
          rw [Nat.zero_add]
          have hkj : k ≠ j := fun h => by subst h; rw [hget] at hf; injection hf with hf; subst hf; exact ht hfd
          simp [hkj]
      have mk : ∀ x y : Look, x.s = y.s → x.h = y.h → x.r = y.r → x = y := by
        intro x y h1 h2 h3
        cases x; cases y
        simp only at h1 h2 h3
        subst h1; subst h2; subst h3
        rfl
      exact mk _ _ es_s es_h es_r
    rw [hg] at hm'
    exact hm'

theorem count_set {l : List Bool} {j : Nat} (h : l[j]? = some false) : (l.set j true).count false + 1 = l.count false := by
  induction l generalizing j with
  | nil => simp at h
  | cons b l ih =>
    cases j with
    | zero => simp only [List.getElem?_cons_zero, Option.some.injEq] at h; subst h; simp
    | succ j =>
      simp only [List.getElem?_cons_succ] at h
      have := ih h
      simp only [List.set_cons_succ, List.count_cons]
      omega

theorem any_ok {C : Ctx} (hC : C.ok) {ops : Array Oper} {g0 : Look} {es : List Ent} (hk : Chk es) (hlen : es.length = ops.size) (hat : ∀ (j : Nat) (o : Oper), ops[j]? = some o → ∃ e, At0 C N ops g0 es j o e)
    {Q : Exit → Act → World → Prop} {E0 : Env} (hQ : ∀ E' a', Same E0 E' → Keep E0 E' → Mod N E' a' (fil g0 (fun _ => true) 0 es) → Q .normal a' E'.w) (hP0 : E0.P = C.P) :
    ∀ (fuel : Nat) (listed : Array Bool) (a : Act) (E : Env), listed.size = ops.size → listed.toList.count false ≤ fuel → (∀ (k : Nat) (e : Ent), es[k]? = some e → listed.getD k false = true → ∀ d ∈ e.deps, listed.getD d false = true) → Same E0 E → Keep E0 E →
      Mod N E a (fil g0 (fun k => listed.getD k false) 0 es) → wpAny C.P .any ops Q fuel listed a E.w := by
  -- where nothing is ready all are listed
  have all : ∀ (listed : Array Bool), listed.size = ops.size → Region.ready .any ops listed = [] → ∀ j, j < ops.size → listed.getD j false = true := by
    intro listed hsz hr j
    induction j using Nat.strongRecOn with
    | _ j ih =>
      intro hj
      cases hl : listed.getD j false with
      | true => rfl
      | false =>
        exfalso
        have hoj : ops[j]? = some ops[j] := Array.getElem?_eq_getElem hj
        obtain ⟨e, a1, _, _, _, a4⟩ := hat j _ hoj
        have : j ∈ Region.ready .any ops listed := by
          refine mem_ready.2 ⟨?_, ops[j], hoj, fun ed hed hb => ?_⟩
          · have hj' : j < listed.size := by omega
            simp only [Array.getD_eq_getD_getElem?, Array.getElem?_eq_getElem hj', Option.getD_some] at hl ⊢
            exact hl
          · have hlt := hk.lt j e a1 ed.on (by rw [a4]; exact List.mem_map.2 ⟨ed, List.mem_filter.2 ⟨Array.mem_toList_iff.2 hed, hb⟩, rfl⟩)
            exact ih ed.on hlt (by omega)
        rw [hr] at this
        cases this
  have fin : ∀ (listed : Array Bool) (a : Act) (E : Env), listed.size = ops.size → Region.ready .any ops listed = [] → Same E0 E → Keep E0 E → Mod N E a (fil g0 (fun k => listed.getD k false) 0 es) → Q .normal a E.w := by
    intro listed a E hsz hr hs hkp hm
    refine hQ E a hs hkp ?_
    have hl := all listed hsz hr
    have hT : ∀ (k : Nat) (e : Ent), es[k]? = some e → listed.getD k false = true := fun k e hke => hl k (by
      have := (List.getElem?_eq_some_iff.1 hke).1
      omega)
    have : fil g0 (fun k => listed.getD k false) 0 es = fil g0 (fun _ => true) 0 es := by
      have mk : ∀ x y : Look, x.s = y.s → x.h = y.h → x.r = y.r → x = y := by
        intro x y h1 h2 h3
        cases x; cases y
        simp only at h1 h2 h3
        subst h1; subst h2; subst h3
        rfl
      refine mk _ _ (funext fun t => fil_s (fun k e hke _ => by rw [Nat.zero_add]; exact hT k e hke) rfl) (funext fun t => fil_h (fun k e hke _ => by rw [Nat.zero_add]; exact hT k e hke) rfl) ?_
      exact funext fun t => fil_r (fun k e hke _ => by rw [Nat.zero_add]; exact hT k e hke) rfl
    rw [this] at hm
    exact hm
  intro fuel
  induction fuel with
  | zero =>
    intro listed a E hsz hc hdn hs hkp hm
    have hr : Region.ready .any ops listed = [] := by
      rw [List.eq_nil_iff_forall_not_mem]
      intro j hj
      obtain ⟨h0, o, ho, _⟩ := mem_ready.1 hj
      have hlt : j < listed.size := by
        rcases Nat.lt_or_ge j listed.size with h | h
        · exact h
        · simp [Array.getD_eq_getD_getElem?, Array.getElem?_eq_none h] at h0
      have : false ∈ listed.toList := by
        rw [List.mem_iff_getElem?]
        refine ⟨j, ?_⟩
        simp only [Array.getD_eq_getD_getElem?, Array.getElem?_eq_getElem hlt, Option.getD_some] at h0
        simp [hlt, h0]
      have := List.count_pos_iff.2 this
      omega
    exact ⟨hr, fin listed a E hsz hr hs hkp hm⟩
  | succ fuel ih =>
    intro listed a E hsz hc hdn hs hkp hm
    refine ⟨fun hr => fin listed a E hsz hr hs hkp hm, fun j hj => ?_⟩
    obtain ⟨h0, o, ho, hall⟩ := mem_ready.1 hj
    have hlt : j < listed.size := by
      rcases Nat.lt_or_ge j listed.size with h | h
      · exact h
      · simp [Array.getD_eq_getD_getElem?, Array.getElem?_eq_none h] at h0
    have h0' : listed.getD j false = false := by
      simp only [Array.getD_eq_getD_getElem?, Array.getElem?_eq_getElem hlt, Option.getD_some] at h0 ⊢
      exact h0
    obtain ⟨e, he⟩ := hat j o ho
    have hd : ∀ d ∈ e.deps, listed.getD d false = true := fun d hdm => by
      rw [he.deps] at hdm
      obtain ⟨ed, h1, rfl⟩ := List.mem_map.1 hdm
      obtain ⟨h2, h3⟩ := List.mem_filter.1 h1
      exact hall ed (Array.mem_toList_iff.1 h2) h3
    have key := step_any (K := wpAny C.P .any ops Q fuel (listed.setIfInBounds j true)) (Q := Q) (X := o.asks C.P a E.w ∧ LetsOut Q) hC hk (L := fun k => listed.getD k false) hdn he h0' hd (hs.P.trans hP0) hm fun E' a' hs' hkp' hm' => by
      have hf : (fun k => listed.getD k false || k == j) = fun k => (listed.setIfInBounds j true).getD k false := by
        funext k
        by_cases hkj : k = j
        · subst hkj
          simp [Array.getD_eq_getD_getElem?, hlt]
        · simp [Array.getD_eq_getD_getElem?, hkj, Array.getElem?_setIfInBounds_ne (Ne.symm hkj)]
      rw [hf] at hm'
      refine ih (listed.setIfInBounds j true) a' E' (by simpa using hsz) ?_ ?_ (hs.trans hs') (hkp.trans hkp') hm'
      · have hl : listed.toList[j]? = some false := by
          simp only [Array.getD_eq_getD_getElem?, Array.getElem?_eq_getElem hlt, Option.getD_some] at h0
          simp [hlt, h0]
        have := count_set hl
        rw [Array.toList_setIfInBounds]
        omega
      · intro k f hkf hlk d hdf
        have hlk' : (listed.getD k false || k == j) = true := by rw [← hlk]; exact congrFun hf k
        have goal : (listed.getD d false || d == j) = true := by
          by_cases hkj : k = j
          · subst hkj
            rw [he.get] at hkf
            injection hkf with hkf
            subst hkf
            rw [hd d hdf]
            rfl
          · have : listed.getD k false = true := by
              have hne : (k == j) = false := by simpa using hkj
              rwa [hne, Bool.or_false] at hlk'
            rw [hdn k f hkf this d hdf]
            rfl
        exact (congrFun hf d).symm.trans goal
    unfold wpOp
    simp only [ho]
    exact key

theorem draw_ok {C : Ctx} (hC : C.ok) (hmix : C.P.follows .mixedOrders = true) {id : Nat} {ops : Array Oper} {Q : Exit → Act → World → Prop} {σ σ' : St} {es : List Ent} (h : RegR C N ops ops.toList σ es σ') (hc : chkAll 0 es = true)
    (hP : E.P = C.P) (hm : Mod N E a σ.look) (hQ : ∀ E' a', Same E E' → Keep E E' → Mod N E' a' σ'.look → Q .normal a' E'.w) : (Code.region id ops true).wp C.P Q a E.w := by
  obtain ⟨h1, h2, h3⟩ := regR_at h
  have hk := chk_of hc
  refine wp_region_any hmix ?_
  obtain ⟨hm', hk0⟩ := drew_mod hm (E.w.drawn + 1)
  have hno : ∀ k, (Array.replicate ops.size false).getD k false = false := fun k => by
    simp only [Array.getD_eq_getD_getElem?, Array.getElem?_replicate]
    split <;> rfl
  have hf : (fun k => (Array.replicate ops.size false).getD k false) = fun _ => false := funext hno
  have none_ : ∀ (l : List Ent) (i : Nat) (g : Look), fil g (fun _ => false) i l = g := by
    intro l
    induction l with
    | nil => intro i g; rfl
    | cons y l ih => intro i g; exact ih (i + 1) g
  refine any_ok (E0 := E) hC hk (by simpa using h2) (fun j o ho => h3 j o (by simpa using ho)) (fun E' a' hs hkp hm'' => hQ E' a' hs hkp ?_) hP ops.size _ a { E with w := { E.w with drawn := E.w.drawn + 1 } } (by simp) (by simp) (fun k e _ hl => by rw [hno] at hl; cases hl) rfl hk0 ?_
  · rw [fil_true, ← h1] at hm''
    exact hm''
  · rw [hf, none_]
    exact hm'

end
end
end Dn
end Go.Proofs.Ytghjblbkbelcfaa
