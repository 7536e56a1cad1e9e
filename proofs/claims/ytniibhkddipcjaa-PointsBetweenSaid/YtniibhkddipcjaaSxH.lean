/- A symbolic executor: one operation, with its guard; regions in the order of the text. -/
import Derived.Test.YtniibhkddipcjaaSxG
namespace Go.Proofs.Ytniibhkddipcjaa
namespace Sx
open Go.RowKit

section
variable {N : Nat} {g : Look} {E : Env} {a : Act} {o : Oper}

/-! ### A call of a function that came in as a parameter -/

def callF (get : Operand → Option SV) (f : Operand) (xs : Array Operand) : Option Core := match get f with
  | some (.c false [.fn a r F]) => match gets get xs.toList with
    | some l => match takes a l with
      | some (x, []) => some ⟨retS (.one r) (F.2 x), .none, [F.1 x]⟩
      | _ => none
    | none => none
  | _ => none

theorem callF_ok {get : Operand → Option SV} {f : Operand} {xs : Array Operand} {ts : Array TypeId} {r : Core} (ho : o.op = .call { callee := .value f, args := xs, argTypes := ts })
    (h : callF get f xs = some r) (hg : Gets E a get o) (hm : Mod N E a g) (hp : allP r.p) : CoreOk E.P N g E a o r := by
  unfold callF at h
  split at h
  · rename_i as rs F hf
    split at h
    · rename_i l hl
      split at h
      · rename_i x hx
        injection h with h
        subst h
        obtain ⟨cs, hv, hr, _⟩ := hg f _ (by rw [ho]; simp [Op.operands, Call.operands]) hf
        match cs, hr with
        | [z], hr =>
          obtain ⟨id, cap, hz, hcall, hfn⟩ := hr.1
          have hl' := gets_rel hl fun x hx s hs => hg x s (by rw [ho]; simp only [Op.operands, Call.operands]; rw [Array.mem_append]; right; exact Array.mem_toList_iff.1 hx) hs
          obtain ⟨vs1, vs2, e, h1, h2⟩ := takes_rel hx hl'
          match vs2, h2 with
          | [], _ =>
            rw [List.append_nil] at e
            refine call_ok (cap := cap) ho (by rw [hv, hz]; rfl) hcall hm ?_
            have := hfn E.w E.Z x vs1 hm.glob.below hm.glob.z0 hm.glob.zlt hp h1
            have e2 : xs.map a.eval = vs1.toArray := by rw [← e]; simp [← Array.toList_map]
            rw [e2]
            exact this
      · cases h
    · cases h
  · cases h

def callX (C : Ctx) (get : Operand → Option SV) (bk : Nat → Option (List At)) (f : Operand) (xs : Array Operand) : Option Core := match callF get f xs with
  | some r => some r
  | none => callC C get bk f xs

/-! ### One operation without its guard -/

def sameC (get : Operand → Option SV) (x : Operand) : Option Core := match get x with
  | some s => some ⟨s, .none, []⟩
  | none => none

def extractC (get : Operand → Option SV) (x : Operand) (ix : Nat) : Option Core := match get x with
  | some (.tup l) => match l[ix]? with
    | some c => some ⟨.c c.1 c.2, .none, []⟩
    | none => none
  | _ => none

def loadC (P : Program) (get : Operand → Option SV) (bk : Nat → Option (List At)) (t : TypeId) (x : Operand) : Option Core := match get x with
  | some (.c false [.ptr i off]) => match bk i with
    | some l => match partC P t l off with
      | some s => some ⟨s, .none, []⟩
      | none => none
    | none => none
  | some (.c false [.rf sh d off]) => match partC P t (Sh.cells sh d) off with
    | some s => some ⟨s, .none, []⟩
    | none => none
  | _ => none

def storeC (P : Program) (get : Operand → Option SV) (bk : Nat → Option (List At)) (t : TypeId) (x y : Operand) : Option Core := match get x, get y with
  | some (.c false [.ptr i off]), some (.c _ l') => match bk i, sizeT P t with
    | some l, some n => match l'.all at1, Nat.beq l'.length n, Nat.ble (off + n) l.length with
      | true, true, true => some ⟨.c false [.u], .store i (l.take off ++ l' ++ l.drop (off + l'.length)), []⟩
      | _, _, _ => none
    | _, _ => none
  | _, _ => none

def allocC (P : Program) (bk : Nat → Option (List At)) (b : Nat) (t : TypeId) : Option Core := match zeroT P t, bk b with
  | some cs, none => some ⟨.c false [.ptr b 0], .alloc b (cs.map .v), []⟩
  | _, _ => none

def boxC (get : Operand → Option SV) (bk : Nat → Option (List At)) (b : Nat) (x : Operand) : Option Core := match get x, bk b with
  | some (.c _ l), none => match l.all at1 with
    | true => some ⟨.c false [.ptr b 0], .alloc b l, []⟩
    | false => none
  | _, _ => none

def fieldC (P : Program) (get : Operand → Option SV) (t : TypeId) (x : Operand) (f : Nat) : Option Core := match get x, fieldT P t f with
  | some (.c false [.ptr i off]), some d => some ⟨.c false [.ptr i (off + d)], .none, []⟩
  | some (.c false [.rf sh y off]), some d => some ⟨.c false [.rf sh y (off + d)], .none, []⟩
  | _, _ => none

def indexC (P : Program) (get : Operand → Option SV) (t : TypeId) (x y : Operand) : Option Core := match get x, get y, elemT P t with
  | some (.c false [.sl e l]), some (.c false [.v (.int _ i)]), some et => match sizeT P et with
    | some n => match Nat.beq n e.size with
      | true => some ⟨.c false [.rf e (l.getD i.toNat e.dflt) 0], .none, [0 ≤ i ∧ i < l.length]⟩
      | false => none
    | none => none
  | _, _, _ => none

def buildC (C : Ctx) (get : Operand → Option SV) (t : TypeId) (n : Nat) (ps : Array (Nat × Operand)) : Option Core := match elemT C.P t with
  | some et => match C.sh et, sizeT C.P et, zeroT C.P et with
    | some e, some m, some _ => match Nat.beq m e.size, Nat.beq ps.size n, Nat.ble (n * e.size) 16777216, wholes e get 0 ps.toList with
      | true, true, true, some l => some ⟨.c false [.sl e l], .none, []⟩
      | _, _, _, _ => none
    | _, _, _ => none
  | none => none

def lenC (P : Program) (get : Operand → Option SV) (xs : Array Operand) (ts : Array TypeId) (o : Oper) : Option Core := match xs.toList, ts[0]? with
  | [x], some t => match get x, elemT P t with
    | some (.c false [.sl _ l]), some _ => some ⟨.c false [.v (.int .i64 l.length)], .none, []⟩
    | _, _ => pureC P get o
  | _, _ => none

def evalCore (C : Ctx) (get : Operand → Option SV) (bk : Nat → Option (List At)) (b : Nat) (o : Oper) : Option Core := match o.op with
  | .move x => sameC get x
  | .assign x => sameC get x
  | .extract x ix => extractC get x ix
  | .load t x => loadC C.P get bk t x
  | .store t x y => storeC C.P get bk t x y
  | .alloc t => allocC C.P bk b t
  | .box _ x => boxC get bk b x
  | .fieldAddr t x f => fieldC C.P get t x f
  | .indexAddr t x y => indexC C.P get t x y
  | .buildSlice t n ps => buildC C get t n ps
  | .binOp .quo _ _ _ _ => divC get o
  | .binOp .rem _ _ _ _ => divC get o
  | .binOp .shl _ _ _ _ => shiftC get o
  | .binOp .shr _ _ _ _ => shiftC get o
  | .binOp .eql _ _ _ _ => eqC C.P get o
  | .binOp .neq _ _ _ _ => eqC C.P get o
  | .makeFunc _ _ _ => funcC get o
  | .call ⟨.value f, xs, _⟩ => callX C get bk f xs
  | .call ⟨.builtin .len, xs, ts⟩ => lenC C.P get xs ts o
  | _ => pureC C.P get o

theorem evalCore_ok {C : Ctx} (hC : C.ok) (hP : E.P = C.P) {get : Operand → Option SV} {bk : Nat → Option (List At)} {b : Nat} {r : Core} (h : evalCore C get bk b o = some r) (hp : allP r.p) (hg : Gets E a get o) (hm : Mod N E a g)
    (hbk : ∀ i l, bk i = some l → g.h i = some l) (hb : bk b = none → g.h b = none) : CoreOk C.P N g E a o r := by
  unfold evalCore at h
  split at h
  case h_1 x ho =>
    unfold sameC at h
    split at h
    · rename_i s hs
      injection h with h; subst h
      exact moveC_ok (.inl ho) (hg x s (by rw [ho]; simp [Op.operands]) hs) hm
    · cases h
  case h_2 x ho =>
    unfold sameC at h
    split at h
    · rename_i s hs
      injection h with h; subst h
      exact moveC_ok (.inr ho) (hg x s (by rw [ho]; simp [Op.operands]) hs) hm
    · cases h
  case h_3 x ix ho =>
    unfold extractC at h
    split at h
    · rename_i l hl
      split at h
      · rename_i c hc
        injection h with h; subst h
        exact extractC_ok ho (hg x _ (by rw [ho]; simp [Op.operands]) hl) hc hm
      · cases h
    · cases h
  case h_4 t x ho =>
    unfold loadC at h
    split at h
    · rename_i i off hx
      split at h
      · rename_i l hl
        split at h
        · rename_i s hs
          injection h with h; subst h
          exact loadPtr_ok ho (hg x _ (by rw [ho]; simp [Op.operands]) hx) (hbk i l hl) hs hm
        · cases h
      · cases h
    · rename_i sh d off hx
      split at h
      · rename_i s hs
        injection h with h; subst h
        exact loadRf_ok ho (hg x _ (by rw [ho]; simp [Op.operands]) hx) hs hm
      · cases h
    · cases h
  case h_5 t x y ho =>
    unfold storeC at h
    split at h
    · rename_i i off ag l' hx hy
      split at h
      · rename_i l n hl hn
        split at h
        · rename_i h1 h2 h3
          injection h with h; subst h
          exact store_ok ho (hg x _ (by rw [ho]; simp [Op.operands]) hx) (hg y _ (by rw [ho]; simp [Op.operands]) hy) (hbk i l hl) hn h1 h2 h3 hm
        · cases h
      · cases h
    · cases h
  case h_6 t ho =>
    unfold allocC at h
    split at h
    · rename_i cs hz hbn
      injection h with h; subst h
      exact alloc_ok ho hz (hb hbn) hm
    · cases h
  case h_7 t x ho =>
    unfold boxC at h
    split at h
    · rename_i ag l hx hbn
      split at h
      · rename_i hl
        injection h with h; subst h
        exact box_ok ho (hg x _ (by rw [ho]; simp [Op.operands]) hx) hl (hb hbn) hm
      · cases h
    · cases h
  case h_8 t x f ho =>
    unfold fieldC at h
    split at h
    · rename_i i off d hx hd
      injection h with h; subst h
      exact fieldPtr_ok ho (hg x _ (by rw [ho]; simp [Op.operands]) hx) hd hm
    · rename_i sh y off d hx hd
      injection h with h; subst h
      exact fieldRf_ok ho (hg x _ (by rw [ho]; simp [Op.operands]) hx) hd hm
    · cases h
  case h_9 t x y ho =>
    unfold indexC at h
    split at h
    · rename_i e l k i et hx hy ht
      split at h
      · rename_i n hn
        split at h
        · rename_i hne
          injection h with h; subst h
          have hne : n = e.size := by simpa using hne
          subst hne
          exact indexSl_ok ho (hg x _ (by rw [ho]; simp [Op.operands]) hx) (hg y _ (by rw [ho]; simp [Op.operands]) hy) ht hn hm hp
        · cases h
      · cases h
    · cases h
  case h_10 t n ps ho =>
    unfold buildC at h
    split at h
    · rename_i et ht
      split at h
      · rename_i e m z he hm' hz
        split at h
        · rename_i l h1 h2 h3 hw
          injection h with h; subst h
          have h1 : m = e.size := by simpa using h1
          have h2 : ps.size = n := by simpa using h2
          have h3 : n * e.size ≤ 16777216 := by simpa using h3
          subst h1
          exact build_ok ho hg ht hm' hw h2 hz (by omega) hm
        · cases h
      · cases h
    · cases h
  case h_11 => exact divC_ok h hg hm hp
  case h_12 => exact divC_ok h hg hm hp
  case h_13 => exact shiftC_ok h hg hm hp
  case h_14 => exact shiftC_ok h hg hm hp
  case h_15 => exact eqC_ok h hg hm
  case h_16 => exact eqC_ok h hg hm
  case h_17 => exact funcC_ok h hg hm
  case h_18 f xs ts ho =>
    unfold callX at h
    split at h
    · rename_i r' hr
      injection h with h; subst h
      rw [← hP]
      exact callF_ok ho hr hg hm hp
    · exact callC_ok hC hP ho h hg hm hbk hp
  case h_19 xs ts ho =>
    unfold lenC at h
    split at h
    · rename_i x t hxs hts
      have hxs : xs = #[x] := by rw [← Array.toArray_toList (xs := xs), hxs]
      subst hxs
      split at h
      · rename_i e l et hx ht
        injection h with h; subst h
        exact lenSl_ok ho hts ht (hg x _ (by rw [ho]; simp [Op.operands, Call.operands]) hx) hm
      · exact pureC_ok h hg hm
    · cases h
  case h_20 => exact pureC_ok h hg hm

/-! ### One operation with its guard -/

structure Plan where
  s : Option (Nat × SlotV)
  eff : Eff
  p : List Prop

def Look.plan (g : Look) (pl : Plan) : Look := match pl.s with
  | some (d, s) => (g.app pl.eff).setS d (some s)
  | none => g.app pl.eff

/-- The condition under which an operation runs. -/
inductive Cond where
  | always
  | under (c : Bool)
  | bad

def guardC (ops : Array Oper) (sl : Nat → Option SlotV) : Option (Nat × Bool) → Cond
  | none => .always
  | some (j, want) => match (ops[j]?).bind (·.dst) with
    | some d => match sl d with
      | some ⟨none, .c false [.v (.bool h)]⟩ => .under (bif want then h else !h)
      | some ⟨some c, .c false [.v (.bool h)]⟩ => .under (c && (bif want then h else !h))
      | _ => .bad
    | none => .bad

def Cond.implies (k : Cond) (c : Bool) : Prop := match k with
  | .always => c = true
  | .under q => q = true → c = true
  | .bad => False

def getS (sl : Nat → Option SlotV) (x : Operand) : Option SV := match x with
  | .tmp t => match sl t with
    | some s => some s.s
    | none => none
  | .const v => some (ofV v)
  | .func f => some (.c false [.v (.func (.func f) #[] #[])])
  | .global _ => none

def condS (sl : Nat → Option SlotV) (x : Operand) : Option Bool := match x with
  | .tmp t => match sl t with
    | some s => s.c
    | none => none
  | _ => none

def needs (k : Cond) (sl : Nat → Option SlotV) : List Operand → List Prop
  | [] => []
  | x :: r => match condS sl x with
    | none => needs k sl r
    | some c => k.implies c :: needs k sl r

theorem getS_rel (hm : Mod N E a g) {sl : Nat → Option SlotV} {x : Operand} (hsl : ∀ t, x = .tmp t → g.s t = sl t) {s : SV} (h : getS sl x = some s) (hc : ∀ c, condS sl x = some c → c = true) : RelV E s (a.eval x) := by
  cases x with
  | tmp t =>
    simp only [getS] at h
    split at h
    · rename_i sv hsv
      injection h with h; subst h
      obtain ⟨v, hv, hr⟩ := hm.slots t sv (by rw [hsl t rfl]; exact hsv)
      have he : a.eval (.tmp t) = v := by simp [Act.eval, hv]
      rw [he]
      unfold RelS at hr
      split at hr
      · exact hr
      · rename_i c hcc
        exact hr.1 (hc c (by simp only [condS, hsv]; exact hcc))
    · cases h
  | const v => simp only [getS] at h; injection h with h; subst h; exact ofV_rel v
  | func f => simp only [getS] at h; injection h with h; subst h; exact ⟨[_], rfl, ⟨rfl, trivial⟩, fun _ => rfl⟩
  | global _ => cases h

theorem needs_all {k : Cond} {sl : Nat → Option SlotV} : ∀ {xs : List Operand}, allP (needs k sl xs) → ∀ x ∈ xs, ∀ c, condS sl x = some c → k.implies c
  | y :: r, h, x, hx, c, hc => by
    simp only [needs] at h
    rcases List.mem_cons.1 hx with rfl | hx
    · rw [hc] at h; exact (allP_cons h).1
    · split at h
      · exact needs_all h x hx c hc
      · exact needs_all (allP_cons h).2 x hx c hc

def pickSV (q : Bool) : SV → SV → Option SV
  | .c false [.v (.bool x)], .c false [.v (.bool y)] => some (.c false [.v (.bool (bif q then x else y))])
  | _, _ => none

/-- 'pick' asks of each of its two values only where it is taken. -/
def pickC (k : Cond) (sl : Nat → Option SlotV) (c x y : Operand) : Option Core := match getS sl c, getS sl x, getS sl y with
  | some (.c false [.v (.bool q)]), some s, some t => match pickSV q s t with
    | some r => some ⟨r, .none, needs k sl [c] ++ (match condS sl x with | none => [] | some cx => [q = true → k.implies cx]) ++ (match condS sl y with | none => [] | some cy => [q = false → k.implies cy])⟩
    | none => none
  | _, _, _ => none

theorem pickC_ok {P : Program} (hm : Mod N E a g) {sl : Nat → Option SlotV} {c x y : Operand} (ho : o.op = .pick c x y) (hsl : ∀ t, (Operand.tmp t) ∈ o.op.operands → g.s t = sl t) {k : Cond} {r : Core} (h : pickC k sl c x y = some r)
    (hp : allP r.p) (hk : ∀ c, k.implies c → c = true) : CoreOk P N g E a o r := by
  unfold pickC at h
  split at h
  · rename_i q s t hc hx hy
    split at h
    · rename_i w hw
      injection h with h
      subst h
      obtain ⟨h12, h3⟩ := allP_append hp
      obtain ⟨h1, h2⟩ := allP_append h12
      have ec : a.eval c = .bool q := toV_rel rfl (getS_rel hm (fun t e => hsl t (by rw [ho, ← e]; simp [Op.operands])) hc fun d hd => hk d (needs_all h1 c (by simp) d hd))
      unfold pickSV at hw
      split at hw
      · rename_i p1 p2
        injection hw with hw
        subst hw
        refine CoreOk.value (E' := E) (v := .bool (bif q then p1 else p2)) ?_ rfl hm ⟨[_], rfl, ⟨rfl, trivial⟩, fun _ => rfl⟩
        cases q
        · have e2 : a.eval y = .bool p2 := toV_rel rfl (getS_rel hm (fun t e => hsl t (by rw [ho, ← e]; simp [Op.operands])) hy fun d hd => hk d (by rw [hd] at h3; exact h3 rfl))
          simp [execOp, ho, ec, e2, asBool]
        · have e1 : a.eval x = .bool p1 := toV_rel rfl (getS_rel hm (fun t e => hsl t (by rw [ho, ← e]; simp [Op.operands])) hx fun d hd => hk d (by rw [hd] at h2; exact h2 rfl))
          simp [execOp, ho, ec, e1, asBool]
      · cases hw
    · cases h
  · cases h

def effNone : Eff → Bool
  | .none => true
  | _ => false

def coreC (C : Ctx) (k : Cond) (sl : Nat → Option SlotV) (bk : Nat → Option (List At)) (b : Nat) (o : Oper) : Option Core := match o.op with
  | .pick c x y => pickC k sl c x y
  | _ => match evalCore C (getS sl) bk b o with
    | some r => some ⟨r.sv, r.eff, needs k sl o.op.operands.toList ++ r.p⟩
    | none => none

def dstOk (N : Nat) : Option Nat → Bool
  | none => true
  | some d => Nat.blt d N

def stepOp (C : Ctx) (N : Nat) (ops : Array Oper) (sl : Nat → Option SlotV) (bk : Nat → Option (List At)) (b : Nat) (o : Oper) : Option Plan := match dstOk N o.dst with
  | false => none
  | true => match guardC ops sl o.guard with
    | .bad => none
    | .always => match coreC C .always sl bk b o with
      | some r => some ⟨o.dst.map fun d => (d, ⟨none, r.sv⟩), r.eff, r.p⟩
      | none => none
    | .under c => match coreC C (.under c) sl bk b o with
      | some r => match effNone r.eff with
        | true => some ⟨o.dst.map fun d => (d, ⟨some c, r.sv⟩), .none, r.p.map fun q => c = true → q⟩
        | false => none
      | none => none

theorem coreC_ok {C : Ctx} (hC : C.ok) (hP : E.P = C.P) {k : Cond} {sl : Nat → Option SlotV} {bk : Nat → Option (List At)} {b : Nat} {r : Core} (h : coreC C k sl bk b o = some r) (hp : allP r.p) (hm : Mod N E a g)
    (hsl : ∀ t, (Operand.tmp t) ∈ o.op.operands → g.s t = sl t) (hbk : ∀ i l, bk i = some l → g.h i = some l) (hb : bk b = none → g.h b = none) (hk : ∀ c, k.implies c → c = true) : CoreOk C.P N g E a o r := by
  unfold coreC at h
  split at h
  · rename_i c x y ho
    exact pickC_ok hm ho hsl h hp hk
  · split at h
    · rename_i r' hr
      injection h with h
      subst h
      obtain ⟨h1, h2⟩ := allP_append hp
      have := evalCore_ok hC hP hr h2 (fun x s hx hs => getS_rel hm (fun t e => hsl t (by rw [← e]; exact hx)) hs fun c hc => hk c (needs_all h1 x (by simpa using hx) c hc)) hm hbk hb
      exact this
    · cases h

theorem looks_op {ops : Array Oper} {t : Nat} (h : (Operand.tmp t) ∈ o.op.operands) : t ∈ o.looksAt ops :=
  List.mem_append_left _ (List.mem_filterMap.2 ⟨.tmp t, by simpa using h, rfl⟩)

theorem guard_look {ops : Array Oper} {j : Nat} {want : Bool} {d : Nat} (h : o.guard = some (j, want)) (hd : (ops[j]?).bind (·.dst) = some d) : d ∈ o.looksAt ops := by
  refine List.mem_append_right _ ?_
  simp [h, hd]

theorem guard_run (hm : Mod N E a g) {ops : Array Oper} {sl : Nat → Option SlotV} (hsl : ∀ t ∈ o.looksAt ops, g.s t = sl t) :
    match guardC ops sl o.guard with
    | .always => Region.wanted o (yielded ops a.tmps) = true
    | .under c => Region.wanted o (yielded ops a.tmps) = c
    | .bad => True := by
  cases hg : o.guard with
  | none => simp [guardC, Region.wanted, hg]
  | some jw =>
    obtain ⟨j, want⟩ := jw
    simp only [guardC]
    cases hd : (ops[j]?).bind (·.dst) with
    | none => trivial
    | some d =>
      have hl := hsl d (guard_look hg hd)
      simp only
      split <;> rename_i hs
      · split at hs <;> cases hs
      · split at hs
        · rename_i h hsd
          injection hs with hs
          subst hs
          obtain ⟨v, hv, hr⟩ := hm.slots d _ (hl.trans hsd)
          have hr' : RelV E (.c false [.v (.bool h)]) v := hr
          have hv' : v = .bool h := toV_rel rfl hr'
          subst hv'
          simp only [Region.wanted, hg, yielded, hd, Option.bind_some, hv]
          cases want <;> cases h <;> rfl
        · rename_i c h hsd
          injection hs with hs
          subst hs
          obtain ⟨v, hv, hr⟩ := hm.slots d _ (hl.trans hsd)
          simp only [Region.wanted, hg, yielded, hd, Option.bind_some, hv]
          cases c with
          | true =>
            have hv' : v = .bool h := toV_rel rfl (hr.1 rfl)
            subst hv'
            cases want <;> cases h <;> rfl
          | false =>
            have hv' := hr.2 rfl
            subst hv'
            simp [undef]
        · cases hs
      · trivial

theorem put_none (a : Act) (v : Value) : a.put none v = a := rfl

theorem step_ok {C : Ctx} (hC : C.ok) (hP : E.P = C.P) {ops : Array Oper} {sl : Nat → Option SlotV} {bk : Nat → Option (List At)} {b : Nat} {pl : Plan} (h : stepOp C N ops sl bk b o = some pl) (hp : allP pl.p) (hm : Mod N E a g)
    (hsl : ∀ t ∈ o.looksAt ops, g.s t = sl t) (hbk : ∀ i l, bk i = some l → g.h i = some l) (hb : bk b = none → g.h b = none) {K : Act → World → Prop} {Q : Exit → Act → World → Prop} {X : Prop}
    (hK : ∀ E' a', Same E E' → Mod N E' a' (g.plan pl) → K a' E'.w) :
    if Region.wanted o (yielded ops a.tmps) then o.wp C.P a E.w K Q ∨ X else K (a.put o.dst undef) E.w := by
  unfold stepOp at h
  split at h
  · cases h
  · rename_i hdst
    have hgr := guard_run hm hsl
    have hsl' : ∀ t, (Operand.tmp t) ∈ o.op.operands → g.s t = sl t := fun t ht => hsl t (looks_op ht)
    split at h
    · cases h
    · rename_i hgc
      rw [hgc] at hgr
      simp only at hgr
      rw [if_pos hgr]
      split at h
      · rename_i r hr
        injection h with h
        subst h
        refine .inl (coreC_ok hC hP hr hp hm hsl' hbk hb (fun c hc => hc) K Q fun E' v h0 hm' hv => ?_)
        have : Mod N E' (a.put o.dst v) (g.plan ⟨o.dst.map fun d => (d, ⟨none, r.sv⟩), r.eff, r.p⟩) := by
          cases hd : o.dst with
          | none => exact hm'
          | some d =>
            rw [hd] at hdst
            exact hm'.put (by simp [dstOk, Nat.blt] at hdst; omega) (by exact hv)
        exact hK E' _ h0 this
      · cases h
    · rename_i c hgc
      rw [hgc] at hgr
      simp only at hgr
      split at h
      · rename_i r hr
        split at h
        · rename_i heff
          injection h with h
          subst h
          have he : r.eff = .none := by
            cases hh : r.eff <;> rw [hh] at heff <;> first | rfl | cases heff
          by_cases hc : c = true
          · rw [if_pos (by rw [hgr]; exact hc)]
            refine .inl (coreC_ok hC hP hr (allP_map hp hc) hm hsl' hbk hb (fun d hd => hd hc) K Q fun E' v h0 hm' hv => ?_)
            rw [he] at hm'
            have : Mod N E' (a.put o.dst v) (g.plan ⟨o.dst.map fun d => (d, ⟨some c, r.sv⟩), .none, r.p.map fun q => c = true → q⟩) := by
              cases hd : o.dst with
              | none => exact hm'
              | some d =>
                rw [hd] at hdst
                exact hm'.put (by simp [dstOk, Nat.blt] at hdst; omega) (show RelS E' ⟨some c, r.sv⟩ v from ⟨fun _ => hv, fun hf => absurd hf (by rw [hc]; decide)⟩)
            exact hK E' _ h0 this
          · have hc : c = false := by simpa using hc
            rw [if_neg (by rw [hgr, hc]; simp)]
            have : Mod N E (a.put o.dst undef) (g.plan ⟨o.dst.map fun d => (d, ⟨some c, r.sv⟩), .none, r.p.map fun q => c = true → q⟩) := by
              cases hd : o.dst with
              | none => exact hm
              | some d =>
                rw [hd] at hdst
                exact hm.put (by simp [dstOk, Nat.blt] at hdst; omega) (show RelS E ⟨some c, r.sv⟩ undef from ⟨fun ht => absurd ht (by rw [hc]; decide), fun _ => rfl⟩)
            exact hK E _ rfl this
        · cases h
      · cases h

end
end Sx
end Go.Proofs.Ytniibhkddipcjaa
