/- A symbolic executor: one operation, with its guard; regions in the order of the text. A symbolic executor: states; regions in the order of the text, and in whatever order their edges allow. A symbolic executor: a region whose order is open. The symbolic run in the text's order serves every order that the edges allow, where operations that touch one another's slots or blocks wait for one another. A symbolic executor: states made general (at a loop's head, where two ways meet, behind a function that is walked in place): data of patterns in place of what slots, blocks and rows hold. A symbolic executor: a state that has come to a place is the place's own state. A symbolic executor: what code answers, as a plain function of data; loops go round with what their places hold. A symbolic executor: the contract of a function out of its body; functions that are walked in place; contexts. A symbolic executor: what is handed in at the law's own door is data of a shape: each argument that reads has such a datum, well formed. -/
import Derived.ProofKit
import Derived.Deep.Slices
import Derived.OpenShut
import Derived.Test.YtghjblbkbelcfaaMgA

namespace Go.Proofs.Ytghjblbkbelcfaa
namespace Dn
open Go.RowKit

section
variable {N : Nat} {g : Look} {E : Env} {a : Act} {o : Oper}

/-! ### A call of a function that came in as a parameter -/

def callF (get : Operand → Option SV) (f : Operand) (xs : Array Operand) : Option Cor := match get f with
  | some (.c false [.fn a r F]) => match gets get xs.toList with
    | some l => match takes a l with
      | some (x, []) => some (.call r.T r.dflt (F x) (retS (.one r)) (fun _ => .none) true)
      | _ => none
    | none => none
  | _ => none

theorem callF_ok {get : Operand → Option SV} {f : Operand} {xs : Array Operand} {ts : Array TypeId} {r : Cor} (ho : o.op = .call { callee := .value f, args := xs, argTypes := ts })
    (h : callF get f xs = some r) (hg : Gets E a get o) (hm : Mod N E a g) : CorOk E.P N g E a o r := by
  unfold callF at h
  split at h
  · rename_i as rs F hf
    split at h
    · rename_i l hl
      split at h
      · rename_i x hx
        injection h with h
        subst h
        refine ⟨fun _ _ => rfl, ?_⟩
        intro y hy
        obtain ⟨cs, hv, hr, _⟩ := hg f _ (by rw [ho]; simp [Op.operands, Call.operands]) hf
        match cs, hr with
        | [z], hr =>
          obtain ⟨id, cap, hz, hcall, hfn⟩ := hr.1
          have hl' := gets_rel hl fun x hx s hs => hg x s (by rw [ho]; simp only [Op.operands, Call.operands]; rw [Array.mem_append]; right; exact Array.mem_toList_iff.1 hx) hs
          obtain ⟨vs1, vs2, e, h1, h2⟩ := takes_rel hx hl'
          match vs2, h2 with
          | [], _ =>
            rw [List.append_nil] at e
            refine call_ok (cap := cap) ho (by rw [hv, hz]; rfl) hcall hm ?_
            have := hfn E.w E.Z x y vs1 hm.glob.below hm.glob.z0 hm.glob.zlt hy h1
            have e2 : xs.map a.eval = vs1.toArray := by rw [← e]; simp [← Array.toList_map]
            rw [e2]
            exact this
      · cases h
    · cases h
  · cases h

/-- A call of a function that the model stands in for. -/
def callE (P : Program) (get : Operand → Option SV) (f : Operand) (xs : Array Operand) : Option Core := match get f with
  | some fv => match fnOf fv with
    | some (id, []) => carryC P get id xs
    | _ => none
  | none => none

def callX (C : Ctx) (get : Operand → Option SV) (bk : Nat → Option (List At)) (rk : Rk) (b : Nat) (f : Operand) (xs : Array Operand) : Option Cor := match callF get f xs with
  | some r => some r
  | none => match callE C.P get f xs with
    | some r => some (.one r)
    | none => callC C get bk rk b f xs

/-! ### One operation without its guard -/

def sameC (get : Operand → Option SV) (x : Operand) : Option Core := match get x with
  | some s => some ⟨s, .none, []⟩
  | none => none

def extractC (get : Operand → Option SV) (x : Operand) (ix : Nat) : Option Core := match get x with
  | some (.tup l) => match l[ix]? with
    | some c => some ⟨.c c.1 c.2, .none, []⟩
    | none => none
  | _ => none

def loadC (P : Program) (get : Operand → Option SV) (bk : Nat → Option (List At)) (rk : Rk) (t : TypeId) (x : Operand) : Option Core := match get x with
  | some (.c false [.ptr i off]) => match bk i with
    | some l => match partC P t l off with
      | some s => some ⟨s, .none, []⟩
      | none => none
    | none => none
  | some (.c false [.rf sh d off]) => match partC P t (Sh.cells sh d) off with
    | some s => some ⟨s, .none, []⟩
    | none => none
  | some (.c false [.ae b off e n i d]) => match bk b with
    | some l => match els e n (l.drop off) with
      | some xs => match partC P t (e.cells (xs.getD i e.dflt)) d with
        | some s => some ⟨s, .none, [Nat.blt i n]⟩
        | none => none
      | none => none
    | none => none
  | some (.c false [.re r i sz off]) => match rk r with
    | some (some ri) => match Nat.beq sz ri.e.size, partC P t (ri.e.cells (ri.l.getD i ri.e.dflt)) off with
      | true, some s => some ⟨s, .none, [Nat.blt i ri.n]⟩
      | _, _ => none
    | _ => none
  | _ => none

def storeC (P : Program) (get : Operand → Option SV) (bk : Nat → Option (List At)) (rk : Rk) (t : TypeId) (x y : Operand) : Option Core := match get x, get y with
  | some (.c false [.ptr i off]), some (.c _ l') => match bk i, sizeT P t with
    | some l, some n => match l'.all at1, Nat.beq l'.length n, Nat.ble (off + n) l.length with
      | true, true, true => some ⟨.c false [.u], .store i (l.take off ++ l' ++ l.drop (off + l'.length)), []⟩
      | _, _, _ => none
    | _, _ => none
  | some (.c false [.ae b off e n i d]), some (.c _ l') => match bk b, sizeT P t with
    | some l, some m => match els e n ((l.drop off).take (n * e.size)), l'.all at1, Nat.beq l'.length m, Nat.ble (d + m) e.size, Nat.ble (off + n * e.size) l.length with
      | some xs, true, true, true, true => match e.take ((e.cells (xs.getD i e.dflt)).take d ++ l' ++ (e.cells (xs.getD i e.dflt)).drop (d + l'.length)) with
        | some (z, []) => some ⟨.c false [.u], .store b (l.take off ++ cellsE e (setAt xs 0 i z) ++ l.drop (off + n * e.size)), [Nat.blt i n]⟩
        | _ => none
      | _, _, _, _, _ => none
    | _, _ => none
  | some (.c false [.re r i sz off]), some (.c _ l') => match rk r, sizeT P t with
    | some (some ri), some n => match l'.all at1, Nat.beq l'.length n, Nat.ble (off + n) ri.e.size, Nat.beq sz ri.e.size, ri.e.take ((ri.e.cells (ri.l.getD i ri.e.dflt)).take off ++ l' ++ (ri.e.cells (ri.l.getD i ri.e.dflt)).drop (off + l'.length)) with
      | true, true, true, true, some (z, []) => some ⟨.c false [.u], .rset r ri.e (ri.l.set i z), [Nat.blt i ri.n]⟩
      | _, _, _, _, _ => none
    | _, _ => none
  | _, _ => none

def allocC (P : Program) (bk : Nat → Option (List At)) (b : Nat) (t : TypeId) : Option Core := match zeroT P t, bk b with
  | some cs, none => some ⟨.c false [.ptr b 0], .alloc b (cs.map .v), []⟩
  | _, _ => none

def boxC (get : Operand → Option SV) (bk : Nat → Option (List At)) (b : Nat) (x : Operand) : Option Core := match get x, bk b with
  | some (.c _ l), none => match l.all at1 with
    | true => some ⟨.c false [.ptr b 0], .alloc b l, []⟩
    | false => none
  | _, _ => none

def fieldC (P : Program) (get : Operand → Option SV) (t : TypeId) (x : Operand) (f : Nat) : Option Core := match get x, fieldT P t f with
  | some (.c false [.ptr i off]), some d => some ⟨.c false [.ptr i (off + d)], .none, []⟩
  | some (.c false [.rf sh y off]), some d => some ⟨.c false [.rf sh y (off + d)], .none, []⟩
  | some (.c false [.re r i sz off]), some d => some ⟨.c false [.re r i sz (off + d)], .none, []⟩
  | some (.c false [.ae b off e n i d0]), some d => some ⟨.c false [.ae b off e n i (d0 + d)], .none, []⟩
  | _, _ => none

def indexC (P : Program) (get : Operand → Option SV) (rk : Rk) (t : TypeId) (x y : Operand) : Option Core := match get x, get y, elemT P t with
  | some (.c false [.sl e l]), some (.c false [.v (.int _ i)]), some et => match sizeT P et with
    | some n => match Nat.beq n e.size with
      | true => some ⟨.c false [.rf e (l.getD i.toNat e.dflt) 0], .none, [inB i l.length]⟩
      | false => none
    | none => none
  | some (.c false [.row r]), some (.c false [.v (.int _ i)]), some et => match sizeT P et, rk r with
    | some n, some (some ri) => match Nat.beq n ri.e.size with
      | true => some ⟨.c false [.re r i.toNat ri.e.size 0], .none, [inB i ri.n]⟩
      | false => none
    | _, _ => none
  | _, _, _ => none

/-- An element of an array, by its address. -/
def indexArrC (C : Ctx) (get : Operand → Option SV) (t : TypeId) (x y : Operand) : Option Core := match arrT C.P t, get x, get y with
  | some (n, et), some (.c false [.ptr b off]), some (.c false [.v (.int _ i)]) => match C.sh et, sizeT C.P et with
    | some e, some m => match Nat.beq m e.size with
      | true => some ⟨.c false [.ae b off e n i.toNat 0], .none, [inB i n]⟩
      | false => none
    | _, _ => none
  | some (n, et), some (.c false [.rf s d off]), some (.c false [.v (.int _ i)]) => match C.sh et, sizeT C.P et with
    | some e, some m => match Nat.beq m e.size, els e n ((s.cells d).drop off) with
      | true, some xs => some ⟨.c false [.rf e (xs.getD i.toNat e.dflt) 0], .none, [inB i n]⟩
      | _, _ => none
    | _, _ => none
  | some (n, et), some (.c false [.re r q sz off]), some (.c false [.v (.int _ i)]) => match sizeT C.P et with
    | some m => some ⟨.c false [.re r q sz (off + i.toNat * m)], .none, [inB i n]⟩
    | none => none
  | _, _, _ => none

/-- A part of a slice, or of a string. -/
def sliceC (P : Program) (get : Operand → Option SV) (t : TypeId) (x : Operand) (lo hi : Option Operand) : Option Core := match get x with
  | some (.c false [.sl e l]) => match elemT P t, bndC get 0 lo, bndC get l.length hi with
    | some et, some i, some j => match sizeT P et with
      | some m => match Nat.beq m e.size with
        | true => some ⟨.c false [.sl e ((l.take j.toNat).drop i.toNat)], .none, [slB i j l.length]⟩
        | false => none
      | none => none
    | _, _, _ => none
  | some (.c false [.v (.string s)]) => match P.underlying t, bndC get 0 lo, bndC get s.size hi with
    | some .string, some i, some j => some ⟨.c false [.v (.string (s.extract i.toNat j.toNat))], .none, [slB i j s.size]⟩
    | _, _, _ => none
  | _ => none

/-- A slice that is not nil, for all that asks no more than its elements. -/
def unsn : SV → SV
  | .c false [.sn e l] => .c false [.sl e l]
  | s => s
def getU (get : Operand → Option SV) (x : Operand) : Option SV := match get x with
  | some s => some (unsn s)
  | none => none

theorem unsn_rel {s : SV} {v : Value} (h : RelV E s v) : RelV E (unsn s) v := by
  unfold unsn
  split
  · obtain ⟨cs, h1, h2, h3⟩ := h
    match cs, h2 with
    | [z], h2 => exact ⟨[z], h1, ⟨h2.1.2, trivial⟩, h3⟩
  · exact h
theorem getU_gets {get : Operand → Option SV} (hg : Gets E a get o) : Gets E a (getU get) o := fun x s hx h => by
  unfold getU at h
  split at h
  · rename_i s' hs
    injection h with h
    subst h
    exact unsn_rel (hg x s' hx hs)
  · cases h

/-- A slice that is not nil, and nil. -/
def eqNilC (P : Program) (get : Operand → Option SV) (o : Oper) : Option Core := match o.op with
  | .binOp .eql t x (.const (.slice none 0 0)) _ => match get x, elemT P t with
    | some (.c false [.sn _ _]), some _ => some ⟨.c false [.v (.bool false)], .none, []⟩
    | _, _ => none
  | .binOp .neq t x (.const (.slice none 0 0)) _ => match get x, elemT P t with
    | some (.c false [.sn _ _]), some _ => some ⟨.c false [.v (.bool true)], .none, []⟩
    | _, _ => none
  | _ => none

def buildC (C : Ctx) (get : Operand → Option SV) (t : TypeId) (n : Nat) (ps : Array (Nat × Operand)) : Option Core := match elemT C.P t with
  | some et => match C.sh et, sizeT C.P et, zeroT C.P et with
    | some e, some m, some _ => match Nat.beq m e.size, Nat.beq ps.size n, Nat.ble (n * e.size) 16777216, wholes e get 0 ps.toList with
      | true, true, true, some l => some ⟨.c false [.sl e l], .none, []⟩
      | _, _, _, _ => none
    | _, _, _ => none
  | none => none

/-- An empty slice that is written out: a row of the call's own. -/
def build0C (C : Ctx) (get : Operand → Option SV) (rk : Rk) (b : Nat) (t : TypeId) (n : Nat) (ps : Array (Nat × Operand)) : Option Core := match n, ps.toList, rk b, elemT C.P t with
  | 0, [], none, some et => match C.sh et, sizeT C.P et with
    | some e, some m => match Nat.beq m e.size with
      | true => some ⟨.c false [.row b], .row b ⟨et, e, 0, []⟩ none, []⟩
      | false => none
    | _, _ => none
  | _, _, _, _ => buildC C get t n ps

/-- A slice that is written out of parts that hold rows of the call's own: these become data. -/
def getW (rk : Rk) (get : Operand → Option SV) (x : Operand) : Option SV := match get x with
  | some s => some (thawS rk s)
  | none => none
def rowsPs (get : Operand → Option SV) : List (Nat × Operand) → List Nat
  | [] => []
  | p :: r => match get p.2 with
    | some s => rowsS s ++ rowsPs get r
    | none => rowsPs get r
def buildTC (C : Ctx) (get : Operand → Option SV) (rk : Rk) (t : TypeId) (n : Nat) (ps : Array (Nat × Operand)) : Option Core := match rowsPs get ps.toList with
  | [] => none
  | q :: u => match buildC C (getW rk get) t n ps with
    | some ⟨sv, .none, p⟩ => some ⟨sv, .rkill (q :: u), p⟩
    | _ => none

/-- An element of an array that is a value, or a byte of a string. -/
def indexVC (C : Ctx) (get : Operand → Option SV) (t : TypeId) (x y : Operand) : Option Core := match get x, get y with
  | some (.c false [.v (.string s)]), some (.c false [.v (.int _ i)]) => match C.P.underlying t with
    | some .string => some ⟨.c false [.v (.int .u8 (byteAt s i.toNat))], .none, [inB i s.size]⟩
    | _ => none
  | some (.c true l), some (.c false [.v (.int _ i)]) => match arrT C.P t with
    | some (n, et) => match C.sh et with
      | some e => match aggT C.P et, sizeT C.P et, els e n l with
        | some ag, some m, some xs => match ag == e.isAgg, Nat.beq m e.size, e.isAgg || Nat.beq e.size 1 with
          | true, true, true => some ⟨.c e.isAgg (e.cells (xs.getD i.toNat e.dflt)), .none, [inB i n]⟩
          | _, _, _ => none
        | _, _, _ => none
      | none => none
    | none => none
  | _, _ => none

def fieldVC (P : Program) (get : Operand → Option SV) (t : TypeId) (x : Operand) (f : Nat) : Option Core := match get x, fieldTy P t f with
  | some (.c true l), some (ft, off) => match partC P ft l off with
    | some s => some ⟨s, .none, []⟩
    | none => none
  | _, _ => none

def orPure (P : Program) (get : Operand → Option SV) (o : Oper) : Option Core → Option Core
  | some r => some r
  | none => pureC P get o

def lenC (P : Program) (get : Operand → Option SV) (rk : Rk) (xs : Array Operand) (ts : Array TypeId) (o : Oper) : Option Core := match xs.toList, ts[0]? with
  | [x], some t => match get x, elemT P t with
    | some (.c false [.sl _ l]), some _ => some ⟨.c false [.v (.int .i64 l.length)], .none, []⟩
    | some (.c false [.row r]), some _ => match rk r with
      | some (some ri) => some ⟨.c false [.v (.int .i64 ri.n)], .none, []⟩
      | _ => none
    | _, _ => pureC P get o
  | _, _ => none

/-- Operations that ask of rows nothing but how many elements they have. -/
def metaOp (o : Oper) : Bool := match o.op with
  | .indexAddr .. => true
  | .move _ => true
  | .assign _ => true
  | .extract .. => true
  | .call ⟨.builtin .len, _, _⟩ => true
  | _ => false

def one? : Option Core → Option Cor
  | some r => some (.one r)
  | none => none

def evalCore (C : Ctx) (get : Operand → Option SV) (bk : Nat → Option (List At)) (rk : Rk) (b : Nat) (o : Oper) : Option Core := match o.op with
  | .move x => sameC get x
  | .assign x => sameC get x
  | .extract x ix => extractC get x ix
  | .load t x => loadC C.P get bk rk t x
  | .store t x y => storeC C.P get bk rk t x y
  | .alloc t => allocC C.P bk b t
  | .box _ x => boxC get bk b x
  | .fieldAddr t x f => fieldC C.P get t x f
  | .indexAddr t x y => match indexArrC C get t x y with
    | some r => some r
    | none => indexC C.P get rk t x y
  | .slice t x lo hi none => sliceC C.P get t x lo hi
  | .buildSlice t n ps => match buildTC C get rk t n ps with
    | some r => some r
    | none => build0C C get rk b t n ps
  | .index t x y => orPure C.P get o (indexVC C get t x y)
  | .field t x f => orPure C.P get o (fieldVC C.P get t x f)
  | .build t ps => orPure C.P get o (buildStC C.P get t ps)
  | .makeSlice t l c => makeC C.sh C.P get rk b t l c
  | .binOp .quo _ _ _ _ => divC get o
  | .binOp .rem _ _ _ _ => divC get o
  | .binOp .shl _ _ _ _ => shiftC get o
  | .binOp .shr _ _ _ _ => shiftC get o
  | .binOp .eql _ _ _ _ => eqC C.P get o
  | .binOp .neq _ _ _ _ => eqC C.P get o
  | .makeFunc _ _ _ => funcC get o
  | .call ⟨.builtin .len, xs, ts⟩ => lenC C.P get rk xs ts o
  | .call ⟨.builtin .append, xs, ts⟩ => appendC C.P C.sh get rk b xs ts
  | _ => pureC C.P get o

def evalCor (C : Ctx) (get : Operand → Option SV) (bk : Nat → Option (List At)) (rk : Rk) (b : Nat) (o : Oper) : Option Cor := match o.op with
  | .call ⟨.value f, xs, _⟩ => callX C (getU get) bk rk b f xs
  | .move x => one? (sameC get x)
  | .assign x => one? (sameC get x)
  | _ => match eqNilC C.P get o with
    | some r => some (.one r)
    | none => one? (evalCore C (getU get) bk rk b o)

theorem indexArrC_ok {C : Ctx} {get : Operand → Option SV} {t : TypeId} {x y : Operand} {r : Core} (ho : o.op = .indexAddr t x y) (h : indexArrC C get t x y = some r) (hp : allB r.p = true) (hg : Gets E a get o) (hm : Mod N E a g) : CoreOk C.P N g E a o r := by
  unfold indexArrC at h
  split at h
  · rename_i n et b off k i ht hx hy
    split at h
    · rename_i e m he hz
      split at h
      · rename_i hne
        injection h with h; subst h
        have hne : m = e.size := by simpa using hne
        subst hne
        exact indexPtr_ok ho (hg x _ (by rw [ho]; simp [Op.operands]) hx) (hg y _ (by rw [ho]; simp [Op.operands]) hy) ht hz hm (inB_iff.1 hp)
      · cases h
    · cases h
  · rename_i n et s d off k i ht hx hy
    split at h
    · rename_i e m he hz
      split at h
      · rename_i xs hne hxs
        injection h with h; subst h
        have hne : m = e.size := by simpa using hne
        subst hne
        exact indexRf_ok ho (hg x _ (by rw [ho]; simp [Op.operands]) hx) (hg y _ (by rw [ho]; simp [Op.operands]) hy) ht hz hxs hm (inB_iff.1 hp)
      · cases h
    · cases h
  · rename_i n et r q sz off k i ht hx hy
    split at h
    · rename_i m hz
      injection h with h; subst h
      exact indexReA_ok ho (hg x _ (by rw [ho]; simp [Op.operands]) hx) (hg y _ (by rw [ho]; simp [Op.operands]) hy) ht hz hm (inB_iff.1 hp)
    · cases h
  · cases h

theorem sliceC_ok {P : Program} {get : Operand → Option SV} {t : TypeId} {x : Operand} {lo hi : Option Operand} {r : Core} (ho : o.op = .slice t x lo hi none) (h : sliceC P get t x lo hi = some r) (hp : allB r.p = true) (hg : Gets E a get o) (hm : Mod N E a g) : CoreOk P N g E a o r := by
  unfold sliceC at h
  split at h
  · rename_i e l hx
    split at h
    · rename_i et i j ht hi' hj
      split at h
      · rename_i m hz
        split at h
        · rename_i hne
          injection h with h; subst h
          have hne : m = e.size := by simpa using hne
          subst hne
          exact sliceSl_ok ho hg (hg x _ (by rw [ho]; simp [Op.operands]) hx) ht hz hi' hj hm (slB_iff.1 hp)
        · cases h
      · cases h
    · cases h
  · rename_i s hx
    split at h
    · rename_i i j ht hi' hj
      injection h with h; subst h
      exact sliceStr_ok ho hg (hg x _ (by rw [ho]; simp [Op.operands]) hx) ht hi' hj hm (slB_iff.1 hp)
    · cases h
  · cases h

theorem orPure_ok {P : Program} {get : Operand → Option SV} {r : Core} {q : Option Core} (h : orPure P get o q = some r) (hp : allB r.p = true) (hg : Gets E a get o) (hm : Mod N E a g) (hq : ∀ r', q = some r' → allB r'.p = true → CoreOk P N g E a o r') : CoreOk P N g E a o r := by
  unfold orPure at h
  split at h
  · injection h with h
    subst h
    exact hq _ rfl hp
  · exact pureC_ok h hg hm

theorem indexVC_ok {C : Ctx} {get : Operand → Option SV} {t : TypeId} {x y : Operand} {r : Core} (ho : o.op = .index t x y) (h : indexVC C get t x y = some r) (hp : allB r.p = true) (hg : Gets E a get o) (hm : Mod N E a g) : CoreOk C.P N g E a o r := by
  unfold indexVC at h
  split at h
  · rename_i s k i hx hy
    split at h
    · rename_i ht
      injection h with h; subst h
      exact indexStr_ok ho (hg x _ (by rw [ho]; simp [Op.operands]) hx) (hg y _ (by rw [ho]; simp [Op.operands]) hy) ht hm (inB_iff.1 hp)
    · cases h
  · rename_i l k i hx hy
    split at h
    · rename_i n et ht
      split at h
      · rename_i e he
        split at h
        · rename_i ag m xs ha hz hxs
          split at h
          · rename_i h1 h2 h3
            injection h with h; subst h
            have h1 : ag = e.isAgg := by simpa using h1
            have h2 : m = e.size := by simpa using h2
            subst h1; subst h2
            exact indexAgg_ok ho (hg x _ (by rw [ho]; simp [Op.operands]) hx) (hg y _ (by rw [ho]; simp [Op.operands]) hy) ht ha hz h3 hxs hm (inB_iff.1 hp)
          · cases h
        · cases h
      · cases h
    · cases h
  · cases h

theorem fieldVC_ok {P : Program} {get : Operand → Option SV} {t : TypeId} {x : Operand} {f : Nat} {r : Core} (ho : o.op = .field t x f) (h : fieldVC P get t x f = some r) (hg : Gets E a get o) (hm : Mod N E a g) : CoreOk P N g E a o r := by
  unfold fieldVC at h
  split at h
  · rename_i l ft off hx hf
    split at h
    · rename_i s hs
      injection h with h; subst h
      exact fieldV_ok ho (hg x _ (by rw [ho]; simp [Op.operands]) hx) hf hs hm
    · cases h
  · cases h

theorem buildC_ok {C : Ctx} {get : Operand → Option SV} {t n : Nat} {ps : Array (Nat × Operand)} {r : Core} (ho : o.op = .buildSlice t n ps) (h : buildC C get t n ps = some r) (hg : Gets E a get o) (hm : Mod N E a g) : CoreOk C.P N g E a o r := by
  unfold buildC at h
  split at h
  · rename_i et ht
    split at h
    · rename_i e m z he hm' hz
      split at h
      · rename_i l h1 h2 h3 hw
        injection h with h; subst h
        have h1 : m = e.size := by simpa using h1
        subst h1
        exact build_ok ho hg ht hm' hw (by simpa using h2) hz (by have := Nat.le_of_ble_eq_true h3; omega) hm
      · cases h
    · cases h
  · cases h

theorem rowsPs_mem {get : Operand → Option SV} : ∀ {ps : List (Nat × Operand)} {p : Nat × Operand} {s : SV}, p ∈ ps → get p.2 = some s → ∀ r ∈ rowsS s, r ∈ rowsPs get ps
  | q :: l, p, s, hp, hs, r, hr => by
    simp only [rowsPs]
    rcases List.mem_cons.1 hp with rfl | hp
    · rw [hs]; exact List.mem_append_left _ hr
    · split
      · exact List.mem_append_right _ (rowsPs_mem hp hs r hr)
      · exact rowsPs_mem hp hs r hr

theorem buildTC_ok {C : Ctx} {get : Operand → Option SV} {rk : Rk} {t n : Nat} {ps : Array (Nat × Operand)} {r : Core} (ho : o.op = .buildSlice t n ps) (h : buildTC C get rk t n ps = some r) (hg : Gets E a get o) (hm : Mod N E a g) (hrk : ∀ i r, rk i = some r → g.r i = some r) : CoreOk C.P N g E a o r := by
  unfold buildTC at h
  split at h
  · cases h
  · rename_i q u hu
    split at h
    · rename_i sv p hb
      injection h with h; subst h
      refine CoreOk.thaw hm fun hmz => buildC_ok ho hb (fun x s hx hs => ?_) hmz
      unfold getW at hs
      split at hs
      · rename_i s' hs'
        injection hs with hs
        subst hs
        refine thawS_rel hm hrk (hg x s' hx hs') fun r hr => ?_
        have hx' : ∃ i, (i, x) ∈ ps := by
          rw [ho] at hx
          simpa [Op.operands] using hx
        obtain ⟨i, hx'⟩ := hx'
        rw [← hu]
        exact rowsPs_mem (p := (i, x)) (by simpa using hx') hs' r hr
      · cases hs
    · cases h

theorem evalConst (a : Act) (v : Value) : a.eval (.const v) = v := rfl

theorem eqNilC_ok {P : Program} {get : Operand → Option SV} {r : Core} (h : eqNilC P get o = some r) (hg : Gets E a get o) (hm : Mod N E a g) : CoreOk P N g E a o r := by
  have key : ∀ {x : Operand} {e : Sh} {l : List e.T}, x ∈ o.op.operands → get x = some (.c false [.sn e l]) → ∃ ad m c, a.eval x = .slice (some ad) m c := fun hx hs => by
    obtain ⟨cs, hv, hr, _⟩ := hg _ _ hx hs
    match cs, hr with
    | [z], hr =>
      obtain ⟨⟨ad, m, c, hz⟩, _⟩ := hr.1
      exact ⟨ad, m, c, by rw [hv, hz]; rfl⟩
  unfold eqNilC at h
  split at h
  · rename_i t x t' ho
    split at h
    · rename_i e l et hx ht
      injection h with h
      subst h
      obtain ⟨ad, m, c, hv⟩ := key (by simp [ho, Op.operands]) hx
      refine CoreOk.value (E' := E) (v := .bool false) ?_ rfl (Keep.refl E) hm ⟨[_], rfl, ⟨rfl, trivial⟩, fun _ => rfl⟩
      simp only [execOp, ho, hv, evalConst]
      simp [eqGuard, binOp, run_equal_slice_nil _ t et (some ad) m c (elemT_eq ht)]
    · cases h
  · rename_i t x t' ho
    split at h
    · rename_i e l et hx ht
      injection h with h
      subst h
      obtain ⟨ad, m, c, hv⟩ := key (by simp [ho, Op.operands]) hx
      refine CoreOk.value (E' := E) (v := .bool true) ?_ rfl (Keep.refl E) hm ⟨[_], rfl, ⟨rfl, trivial⟩, fun _ => rfl⟩
      simp only [execOp, ho, hv, evalConst]
      simp [eqGuard, run_neq_slice_nil _ t et (some ad) m c (elemT_eq ht)]
    · cases h
  · cases h

theorem evalCore_ok {C : Ctx} (_ : E.P = C.P) {get : Operand → Option SV} {bk : Nat → Option (List At)} {rk : Rk} {b : Nat} {r : Core} (h : evalCore C get bk rk b o = some r) (hp : allB r.p = true) (hg : Gets E a get o) (hm : Mod N E a g)
    (hbk : ∀ i l, bk i = some l → g.h i = some l) (hb : bk b = none → g.h b = none) (hrk : metaOp o = false → ∀ i r, rk i = some r → g.r i = some r) (hrm : ∀ i ri, rk i = some (some ri) → ∃ rj, g.r i = some (some rj) ∧ rj.e = ri.e ∧ rj.n = ri.n) (hrb : rk b = none → g.r b = none) : CoreOk C.P N g E a o r := by
  unfold evalCore at h
  split at h
  case h_1 x ho =>
    unfold sameC at h
    split at h
    · rename_i s hs
      injection h with h; subst h
      exact moveC_ok (.inl ho) (hg x s (by rw [ho]; simp [Op.operands]) hs) hm
    · cases h
  case h_2 x ho =>
    unfold sameC at h
    split at h
    · rename_i s hs
      injection h with h; subst h
      exact moveC_ok (.inr ho) (hg x s (by rw [ho]; simp [Op.operands]) hs) hm
    · cases h
  case h_3 x ix ho =>
    unfold extractC at h
    split at h
    · rename_i l hl
      split at h
      · rename_i c hc
        injection h with h; subst h
        exact extractC_ok ho (hg x _ (by rw [ho]; simp [Op.operands]) hl) hc hm
      · cases h
    · cases h
  case h_4 t x ho =>
    unfold loadC at h
    split at h
    · rename_i i off hx
      split at h
      · rename_i l hl
        split at h
        · rename_i s hs
          injection h with h; subst h
          exact loadPtr_ok ho (hg x _ (by rw [ho]; simp [Op.operands]) hx) (hbk i l hl) hs hm
        · cases h
      · cases h
    · rename_i sh d off hx
      split at h
      · rename_i s hs
        injection h with h; subst h
        exact loadRf_ok ho (hg x _ (by rw [ho]; simp [Op.operands]) hx) hs hm
      · cases h
    · rename_i b' off e n i d hx
      split at h
      · rename_i l hl
        split at h
        · rename_i xs hxs
          split at h
          · rename_i s hs
            injection h with h; subst h
            exact loadAe_ok ho (hg x _ (by rw [ho]; simp [Op.operands]) hx) (hbk _ l hl) hxs hs hm (Nat.blt_eq.mp hp)
          · cases h
        · cases h
      · cases h
    · rename_i q i sz off hx
      split at h
      · rename_i ri hri
        split at h
        · rename_i s hsz hs
          injection h with h; subst h
          have hsz : sz = ri.e.size := by simpa using hsz
          subst hsz
          exact loadRe_ok ho (hg x _ (by rw [ho]; simp [Op.operands]) hx) (hrk (by simp [metaOp, ho]) q _ hri) hs hm (Nat.blt_eq.mp hp)
        · cases h
      · cases h
    · cases h
  case h_5 t x y ho =>
    unfold storeC at h
    split at h
    · rename_i i off ag l' hx hy
      split at h
      · rename_i l n hl hn
        split at h
        · rename_i h1 h2 h3
          injection h with h; subst h
          exact store_ok ho (hg x _ (by rw [ho]; simp [Op.operands]) hx) (hg y _ (by rw [ho]; simp [Op.operands]) hy) (hbk i l hl) hn h1 h2 h3 hm
        · cases h
      · cases h
    · rename_i b' off e n i d ag l' hx hy
      split at h
      · rename_i l m hl hmz
        split at h
        · rename_i xs h1 h2 h3 h4 hxs
          split at h
          · rename_i z hz
            injection h with h; subst h
            exact storeAe_ok ho (hg x _ (by rw [ho]; simp [Op.operands]) hx) (hg y _ (by rw [ho]; simp [Op.operands]) hy) (hbk _ l hl) hmz h2 h3 h4 h1 hxs hz hm (Nat.blt_eq.mp hp)
          · cases h
        · cases h
      · cases h
    · rename_i q i sz off ag l' hx hy
      split at h
      · rename_i ri n hri hn
        split at h
        · rename_i z h1 h2 h3 h4 hz
          injection h with h; subst h
          have h4 : sz = ri.e.size := by simpa using h4
          subst h4
          exact storeRe_ok ho (hg x _ (by rw [ho]; simp [Op.operands]) hx) (hg y _ (by rw [ho]; simp [Op.operands]) hy) (hrk (by simp [metaOp, ho]) q _ hri) hn h1 h2 h3 hz hm (Nat.blt_eq.mp hp)
        · cases h
      · cases h
    · cases h
  case h_6 t ho =>
    unfold allocC at h
    split at h
    · rename_i cs hz hbn
      injection h with h; subst h
      exact alloc_ok ho hz (hb hbn) hm
    · cases h
  case h_7 t x ho =>
    unfold boxC at h
    split at h
    · rename_i ag l hx hbn
      split at h
      · rename_i hl
        injection h with h; subst h
        exact box_ok ho (hg x _ (by rw [ho]; simp [Op.operands]) hx) hl (hb hbn) hm
      · cases h
    · cases h
  case h_8 t x f ho =>
    unfold fieldC at h
    split at h
    · rename_i i off d hx hd
      injection h with h; subst h
      exact fieldPtr_ok ho (hg x _ (by rw [ho]; simp [Op.operands]) hx) hd hm
    · rename_i sh y off d hx hd
      injection h with h; subst h
      exact fieldRf_ok ho (hg x _ (by rw [ho]; simp [Op.operands]) hx) hd hm
    · rename_i q i sz off d hx hd
      injection h with h; subst h
      exact fieldRe_ok ho (hg x _ (by rw [ho]; simp [Op.operands]) hx) hd hm
    · rename_i b' off e n i d0 d hx hd
      injection h with h; subst h
      exact fieldAe_ok ho (hg x _ (by rw [ho]; simp [Op.operands]) hx) hd hm
    · cases h
  case h_9 t x y ho =>
    split at h
    · rename_i r' hr'
      injection h with h; subst h
      exact indexArrC_ok ho hr' hp hg hm
    unfold indexC at h
    split at h
    · rename_i e l k i et hx hy ht
      split at h
      · rename_i n hn
        split at h
        · rename_i hne
          injection h with h; subst h
          have hne : n = e.size := by simpa using hne
          subst hne
          exact indexSl_ok ho (hg x _ (by rw [ho]; simp [Op.operands]) hx) (hg y _ (by rw [ho]; simp [Op.operands]) hy) ht hn hm (inB_iff.1 hp)
        · cases h
      · cases h
    · rename_i q k i et hx hy ht
      split at h
      · rename_i n ri hn hri
        split at h
        · rename_i hne
          injection h with h; subst h
          have hne : n = ri.e.size := by simpa using hne
          subst hne
          exact indexRow_ok ho (hg x _ (by rw [ho]; simp [Op.operands]) hx) (hg y _ (by rw [ho]; simp [Op.operands]) hy) ht hn (hrm q _ hri) hm (inB_iff.1 hp)
        · cases h
      · cases h
    · cases h
  case h_10 t x lo hi ho => exact sliceC_ok ho h hp hg hm
  case h_11 t n ps ho =>
    split at h
    · rename_i r' hr'
      injection h with h; subst h
      exact buildTC_ok ho hr' hg hm (hrk (by simp [metaOp, ho]))
    rename_i hno
    clear hno
    unfold build0C at h
    split at h
    · rename_i et hps hbn ht
      split at h
      · rename_i e m he hz
        split at h
        · rename_i hne
          injection h with h; subst h
          have hne : m = e.size := by simpa using hne
          subst hne
          exact build0_ok ho (by rw [← Array.toArray_toList (xs := ps), hps]) ht hz (hrb hbn) hm
        · cases h
      · cases h
    exact buildC_ok ho h hg hm
  case h_12 t x y ho => exact orPure_ok h hp hg hm fun r' hr' hp' => indexVC_ok ho hr' hp' hg hm
  case h_13 t x f ho => exact orPure_ok h hp hg hm fun r' hr' hp' => fieldVC_ok ho hr' hg hm
  case h_14 t ps ho => exact orPure_ok h hp hg hm fun r' hr' hp' => buildStC_ok ho hr' hg hm
  case h_15 t l c ho => exact makeC_ok ho h hp hg hm hrb
  case h_16 => exact divC_ok h hg hm hp
  case h_17 => exact divC_ok h hg hm hp
  case h_18 => exact shiftC_ok h hg hm hp
  case h_19 => exact shiftC_ok h hg hm hp
  case h_20 => exact eqC_ok h hg hm
  case h_21 => exact eqC_ok h hg hm
  case h_22 => exact funcC_ok h hg hm
  case h_23 xs ts ho =>
    unfold lenC at h
    split at h
    · rename_i x t hxs hts
      have hxs : xs = #[x] := by rw [← Array.toArray_toList (xs := xs), hxs]
      subst hxs
      split at h
      · rename_i e l et hx ht
        injection h with h; subst h
        exact lenSl_ok ho hts ht (hg x _ (by rw [ho]; simp [Op.operands, Call.operands]) hx) hm
      · rename_i q et hx ht
        split at h
        · rename_i ri hri
          injection h with h; subst h
          exact lenRow_ok ho hts ht (hg x _ (by rw [ho]; simp [Op.operands, Call.operands]) hx) (hrm q _ hri) hm
        · cases h
      · exact pureC_ok h hg hm
    · cases h
  case h_24 xs ts ho => exact appendC_ok ho h hg hm (hrk (by simp [metaOp, ho])) hrb hp
  case h_25 => exact pureC_ok h hg hm

theorem evalCor_ok {C : Ctx} (hC : C.ok) (hP : E.P = C.P) {get : Operand → Option SV} {bk : Nat → Option (List At)} {rk : Rk} {b : Nat} {r : Cor} (h : evalCor C get bk rk b o = some r) (hg : Gets E a get o) (hm : Mod N E a g)
    (hbk : ∀ i l, bk i = some l → g.h i = some l) (hb : bk b = none → g.h b = none) (hrk : metaOp o = false → ∀ i r, rk i = some r → g.r i = some r) (hrm : ∀ i ri, rk i = some (some ri) → ∃ rj, g.r i = some (some rj) ∧ rj.e = ri.e ∧ rj.n = ri.n) (hrb : rk b = none → g.r b = none) : CorOk C.P N g E a o r := by
  unfold evalCor at h
  split at h
  · rename_i f xs ts ho
    unfold callX at h
    split at h
    · rename_i r' hr
      injection h with h; subst h
      rw [← hP]
      exact callF_ok ho hr (getU_gets hg) hm
    · split at h
      · rename_i r' hr'
        injection h with h; subst h
        unfold callE at hr'
        split at hr'
        · rename_i fv hfv
          split at hr'
          · rename_i id hid
            intro hp
            have hfe := fnOf_rel hid (getU_gets hg f fv (by rw [ho]; simp [Op.operands, Call.operands]) hfv)
            exact carryC_ok ho (by simpa using hfe) hr' hp (getU_gets hg) hm
          · cases hr'
        · cases hr'
      · exact callC_ok hC hP ho h (getU_gets hg) hm hbk (hrk (by simp [metaOp, ho])) hrb
  · rename_i x ho
    unfold sameC at h
    split at h
    · rename_i s hs
      injection h with h; subst h
      exact fun _ => moveC_ok (.inl ho) (hg x s (by rw [ho]; simp [Op.operands]) hs) hm
    · cases h
  · rename_i x ho
    unfold sameC at h
    split at h
    · rename_i s hs
      injection h with h; subst h
      exact fun _ => moveC_ok (.inr ho) (hg x s (by rw [ho]; simp [Op.operands]) hs) hm
    · cases h
  · split at h
    · rename_i r' hr'
      injection h with h; subst h
      exact fun _ => eqNilC_ok hr' hg hm
    unfold one? at h
    split at h
    · rename_i r' hr
      injection h with h; subst h
      exact fun hp => evalCore_ok hP hr hp (getU_gets hg) hm hbk hb hrk hrm hrb
    · cases h

/-! ### One operation with its guard -/

structure Plan where
  s : Option (Nat × SlotV)
  eff : Eff

def Look.plan (g : Look) (pl : Plan) : Look := match pl.s with
  | some (d, s) => (g.app pl.eff).setS d (some s)
  | none => g.app pl.eff

/-- The condition under which an operation runs. -/
inductive Cond where
  | always
  | under (c : Bool)
  | bad

def guardC (ops : Array Oper) (sl : Nat → Option SlotV) : Option (Nat × Bool) → Cond
  | none => .always
  | some (j, want) => match (ops[j]?).bind (·.dst) with
    | some d => match sl d with
      | some ⟨none, .c false [.v (.bool h)]⟩ => .under (bif want then h else !h)
      | some ⟨some c, .c false [.v (.bool h)]⟩ => .under (c && (bif want then h else !h))
      | _ => .bad
    | none => .bad

def Cond.implies (k : Cond) (c : Bool) : Bool := match k with
  | .always => c
  | .under q => !q || c
  | .bad => false

def getS (sl : Nat → Option SlotV) (x : Operand) : Option SV := match x with
  | .tmp t => match sl t with
    | some s => some s.s
    | none => none
  | .const v => some (ofV v)
  | .func f => some (.c false [.v (.func (.func f) #[] #[])])
  | .global _ => none

def condS (sl : Nat → Option SlotV) (x : Operand) : Option Bool := match x with
  | .tmp t => match sl t with
    | some s => s.c
    | none => none
  | _ => none

def needs (k : Cond) (sl : Nat → Option SlotV) : List Operand → List Bool
  | [] => []
  | x :: r => match condS sl x with
    | none => needs k sl r
    | some c => k.implies c :: needs k sl r

theorem getS_rel (hm : Mod N E a g) {sl : Nat → Option SlotV} {x : Operand} (hsl : ∀ t, x = .tmp t → g.s t = sl t) {s : SV} (h : getS sl x = some s) (hc : ∀ c, condS sl x = some c → c = true) : RelV E s (a.eval x) := by
  cases x with
  | tmp t =>
    simp only [getS] at h
    split at h
    · rename_i sv hsv
      injection h with h; subst h
      obtain ⟨v, hv, hr⟩ := hm.slots t sv (by rw [hsl t rfl]; exact hsv)
      have he : a.eval (.tmp t) = v := by simp [Act.eval, hv]
      rw [he]
      unfold RelS at hr
      split at hr
      · exact hr
      · rename_i c hcc
        exact hr.1 (hc c (by simp only [condS, hsv]; exact hcc))
    · cases h
  | const v => simp only [getS] at h; injection h with h; subst h; exact ofV_rel v
  | func f => simp only [getS] at h; injection h with h; subst h; exact ⟨[_], rfl, ⟨rfl, trivial⟩, fun _ => rfl⟩
  | global _ => cases h

theorem needs_all {k : Cond} {sl : Nat → Option SlotV} : ∀ {xs : List Operand}, allB (needs k sl xs) = true → ∀ x ∈ xs, ∀ c, condS sl x = some c → k.implies c = true
  | y :: r, h, x, hx, c, hc => by
    simp only [needs] at h
    rcases List.mem_cons.1 hx with rfl | hx
    · rw [hc] at h; exact (allB_cons h).1
    · split at h
      · exact needs_all h x hx c hc
      · exact needs_all (allB_cons h).2 x hx c hc

def pickSV (q : Bool) : SV → SV → Option SV
  | .c false [.v (.bool x)], .c false [.v (.bool y)] => some (.c false [.v (.bool (bif q then x else y))])
  | _, _ => none

/-- 'pick' asks of each of its two values only where it is taken. -/
def pickC (k : Cond) (sl : Nat → Option SlotV) (c x y : Operand) : Option Core := match getS sl c, getS sl x, getS sl y with
  | some (.c false [.v (.bool q)]), some s, some t => match pickSV q s t with
    | some r => some ⟨r, .none, needs k sl [c] ++ (match condS sl x with | none => [] | some cx => [!q || k.implies cx]) ++ (match condS sl y with | none => [] | some cy => [q || k.implies cy])⟩
    | none => none
  | _, _, _ => none

theorem pickC_ok {P : Program} (hm : Mod N E a g) {sl : Nat → Option SlotV} {c x y : Operand} (ho : o.op = .pick c x y) (hsl : ∀ t, (Operand.tmp t) ∈ o.op.operands → g.s t = sl t) {k : Cond} {r : Core} (h : pickC k sl c x y = some r)
    (hp : allB r.p = true) (hk : ∀ c, k.implies c = true → c = true) : CoreOk P N g E a o r := by
  unfold pickC at h
  split at h
  · rename_i q s t hc hx hy
    split at h
    · rename_i w hw
      injection h with h
      subst h
      obtain ⟨h12, h3⟩ := allB_append hp
      obtain ⟨h1, h2⟩ := allB_append h12
      have ec : a.eval c = .bool q := toV_rel rfl (getS_rel hm (fun t e => hsl t (by rw [ho, ← e]; simp [Op.operands])) hc fun d hd => hk d (needs_all h1 c (by simp) d hd))
      unfold pickSV at hw
      split at hw
      · rename_i p1 p2
        injection hw with hw
        subst hw
        refine CoreOk.value (E' := E) (v := .bool (bif q then p1 else p2)) ?_ rfl (Keep.refl E) hm ⟨[_], rfl, ⟨rfl, trivial⟩, fun _ => rfl⟩
        cases q
        · have e2 : a.eval y = .bool p2 := toV_rel rfl (getS_rel hm (fun t e => hsl t (by rw [ho, ← e]; simp [Op.operands])) hy fun d hd => hk d (by rw [hd] at h3; simpa [allB] using h3))
          simp [execOp, ho, ec, e2, asBool]
        · have e1 : a.eval x = .bool p1 := toV_rel rfl (getS_rel hm (fun t e => hsl t (by rw [ho, ← e]; simp [Op.operands])) hx fun d hd => hk d (by rw [hd] at h2; simpa [allB] using h2))
          simp [execOp, ho, ec, e1, asBool]
      · cases hw
    · cases h
  · cases h

/-- An operation with what it asks of its operands. -/
def coreC (C : Ctx) (k : Cond) (sl : Nat → Option SlotV) (bk : Nat → Option (List At)) (rk : Rk) (b : Nat) (o : Oper) : Option (List Bool × Cor) := match o.op with
  | .pick c x y => match pickC k sl c x y with
    | some r => some ([], .one r)
    | none => none
  | _ => match evalCor C (getS sl) bk rk b o with
    | some r => some (needs k sl o.op.operands.toList, r)
    | none => none

def dstOk (N : Nat) : Option Nat → Bool
  | none => true
  | some d => Nat.blt d N

/-- One operation, as a step: its conditions, and what it changes. -/
inductive Stp where
  | one (p : List Bool) (pl : Plan)
  | call (p : List Bool) (T : Type) (m : Option T) (pl : T → Plan)
  | inl (p : List Bool) (id : FuncId) (args : List SV)

def stepOp (C : Ctx) (N : Nat) (ops : Array Oper) (sl : Nat → Option SlotV) (bk : Nat → Option (List At)) (rk : Rk) (b : Nat) (o : Oper) : Option Stp := match dstOk N o.dst with
  | false => none
  | true => match guardC ops sl o.guard with
    | .bad => none
    | .always => match coreC C .always sl bk rk b o with
      | some (p, .one r) => some (.one (p ++ r.p) ⟨o.dst.map fun d => (d, ⟨none, r.sv⟩), r.eff⟩)
      | some (p, .call T _ m sv eff _) => some (.call p T m fun t => ⟨o.dst.map fun d => (d, ⟨none, sv t⟩), eff t⟩)
      | some (p, .inl id args) => some (.inl p id args)
      | none => none
    | .under c => match coreC C (.under c) sl bk rk b o with
      | some (p, .one r) => match effNone r.eff with
        | true => some (.one (p ++ r.p.map fun q => !c || q) ⟨o.dst.map fun d => (d, ⟨some c, r.sv⟩), .none⟩)
        | false => none
      | some (p, .call T d m sv _ pu) => match pu with
        | true => some (.call p T (bif c then m else some d) fun t => ⟨o.dst.map fun d => (d, ⟨some c, sv t⟩), .none⟩)
        | false => none
      | _ => none

/-- A step that has been taken. -/
def StepP (C : Ctx) (N : Nat) (ops : Array Oper) (sl : Nat → Option SlotV) (bk : Nat → Option (List At)) (rk : Rk) (b : Nat) (o : Oper) (pl : Plan) : Prop :=
  ∃ st, stepOp C N ops sl bk rk b o = some st ∧ match st with
    | .one p pl' => allB p = true ∧ pl = pl'
    | .call p _ m f => allB p = true ∧ ∃ t, m = some t ∧ pl = f t
    | .inl .. => False

theorem coreC_ok {C : Ctx} (hC : C.ok) (hP : E.P = C.P) {k : Cond} {sl : Nat → Option SlotV} {bk : Nat → Option (List At)} {rk : Rk} {b : Nat} {r : Cor} {p : List Bool} (h : coreC C k sl bk rk b o = some (p, r)) (hp : allB p = true) (hm : Mod N E a g)
    (hsl : ∀ t, (Operand.tmp t) ∈ o.op.operands → g.s t = sl t) (hbk : ∀ i l, bk i = some l → g.h i = some l) (hb : bk b = none → g.h b = none) (hrk : metaOp o = false → ∀ i r, rk i = some r → g.r i = some r) (hrm : ∀ i ri, rk i = some (some ri) → ∃ rj, g.r i = some (some rj) ∧ rj.e = ri.e ∧ rj.n = ri.n) (hrb : rk b = none → g.r b = none) (hk : ∀ c, k.implies c = true → c = true) : CorOk C.P N g E a o r := by
  unfold coreC at h
  split at h
  · rename_i c x y ho
    split at h
    · rename_i r' hr
      simp only [Option.some.injEq, Prod.mk.injEq] at h
      obtain ⟨rfl, rfl⟩ := h
      exact fun hp => pickC_ok hm ho hsl hr hp hk
    · cases h
  · split at h
    · rename_i r' hr
      simp only [Option.some.injEq, Prod.mk.injEq] at h
      obtain ⟨rfl, rfl⟩ := h
      exact evalCor_ok hC hP hr (fun x s hx hs => getS_rel hm (fun t e => hsl t (by rw [← e]; exact hx)) hs fun c hc => hk c (needs_all hp x (by simpa using hx) c hc)) hm hbk hb hrk hrm hrb
    · cases h

theorem looks_op {ops : Array Oper} {t : Nat} (h : (Operand.tmp t) ∈ o.op.operands) : t ∈ o.looksAt ops :=
  List.mem_append_left _ (List.mem_filterMap.2 ⟨.tmp t, by simpa using h, rfl⟩)

theorem guard_look {ops : Array Oper} {j : Nat} {want : Bool} {d : Nat} (h : o.guard = some (j, want)) (hd : (ops[j]?).bind (·.dst) = some d) : d ∈ o.looksAt ops := by
  refine List.mem_append_right _ ?_
  simp [h, hd]

theorem guard_run (hm : Mod N E a g) {ops : Array Oper} {sl : Nat → Option SlotV} (hsl : ∀ t ∈ o.looksAt ops, g.s t = sl t) :
    match guardC ops sl o.guard with
    | .always => Region.wanted o (yielded ops a.tmps) = true
    | .under c => Region.wanted o (yielded ops a.tmps) = c
    | .bad => True := by
  cases hg : o.guard with
  | none => simp [guardC, Region.wanted, hg]
  | some jw =>
    obtain ⟨j, want⟩ := jw
    simp only [guardC]
    cases hd : (ops[j]?).bind (·.dst) with
    | none => trivial
    | some d =>
      have hl := hsl d (guard_look hg hd)
      simp only
      split <;> rename_i hs
      · split at hs <;> cases hs
      · split at hs
        · rename_i h hsd
          injection hs with hs
          subst hs
          obtain ⟨v, hv, hr⟩ := hm.slots d _ (hl.trans hsd)
          have hr' : RelV E (.c false [.v (.bool h)]) v := hr
          have hv' : v = .bool h := toV_rel rfl hr'
          subst hv'
          simp only [Region.wanted, hg, yielded, hd, Option.bind_some, hv]
          cases want <;> cases h <;> rfl
        · rename_i c h hsd
          injection hs with hs
          subst hs
          obtain ⟨v, hv, hr⟩ := hm.slots d _ (hl.trans hsd)
          simp only [Region.wanted, hg, yielded, hd, Option.bind_some, hv]
          cases c with
          | true =>
            have hv' : v = .bool h := toV_rel rfl (hr.1 rfl)
            subst hv'
            cases want <;> cases h <;> rfl
          | false =>
            have hv' := hr.2 rfl
            subst hv'
            simp [undef]
        · cases hs
      · trivial

theorem put_none (a : Act) (v : Value) : a.put none v = a := rfl

theorem put_plan {E' : Env} {v : Value} {c : Option Bool} {sv : SV} {eff : Eff} (hdst : dstOk N o.dst = true) (hm : Mod N E' a (g.app eff)) (hv : ∀ d, o.dst = some d → RelS E' ⟨c, sv⟩ v) :
    Mod N E' (a.put o.dst v) (g.plan ⟨o.dst.map fun d => (d, ⟨c, sv⟩), eff⟩) := by
  cases hd : o.dst with
  | none => exact hm
  | some d =>
    rw [hd] at hdst
    exact hm.put (by simp [dstOk, Nat.blt] at hdst; omega) (hv d hd)

theorem step_ok {C : Ctx} (hC : C.ok) (hP : E.P = C.P) {ops : Array Oper} {sl : Nat → Option SlotV} {bk : Nat → Option (List At)} {rk : Rk} {b : Nat} {pl : Plan} (h : StepP C N ops sl bk rk b o pl) (hm : Mod N E a g)
    (hsl : ∀ t ∈ o.looksAt ops, g.s t = sl t) (hbk : ∀ i l, bk i = some l → g.h i = some l) (hb : bk b = none → g.h b = none) (hrk : metaOp o = false → ∀ i r, rk i = some r → g.r i = some r) (hrm : ∀ i ri, rk i = some (some ri) → ∃ rj, g.r i = some (some rj) ∧ rj.e = ri.e ∧ rj.n = ri.n) (hrb : rk b = none → g.r b = none) {K : Act → World → Prop} {Q : Exit → Act → World → Prop} {X : Prop}
    (hK : ∀ E' a', Same E E' → Keep E E' → Mod N E' a' (g.plan pl) → K a' E'.w) :
    if Region.wanted o (yielded ops a.tmps) then o.wp C.P a E.w K Q ∨ X else K (a.put o.dst undef) E.w := by
  obtain ⟨st, h, hst⟩ := h
  unfold stepOp at h
  split at h
  · cases h
  · rename_i hdst
    have hgr := guard_run hm hsl
    have hsl' : ∀ t, (Operand.tmp t) ∈ o.op.operands → g.s t = sl t := fun t ht => hsl t (looks_op ht)
    split at h
    · cases h
    · rename_i hgc
      rw [hgc] at hgr
      simp only at hgr
      rw [if_pos hgr]
      split at h
      · rename_i p r hr
        injection h with h
        subst h
        obtain ⟨hp, rfl⟩ := hst
        obtain ⟨hp1, hp2⟩ := allB_append hp
        exact .inl (coreC_ok hC hP hr hp1 hm hsl' hbk hb hrk hrm hrb (fun c hc => hc) hp2 K Q fun E' v h0 hkp hm' hv => hK E' _ h0 hkp (put_plan hdst hm' fun _ _ => hv))
      · rename_i p T d m sv eff _ hr
        injection h with h
        subst h
        obtain ⟨hp, t, ht, rfl⟩ := hst
        exact .inl ((coreC_ok hC hP hr hp hm hsl' hbk hb hrk hrm hrb (fun c hc => hc)).2 t ht K Q fun E' v h0 hkp hm' hv => hK E' _ h0 hkp (put_plan hdst hm' fun _ _ => hv))
      · injection h with h
        subst h
        exact hst.elim
      · cases h
    · rename_i c hgc
      rw [hgc] at hgr
      simp only at hgr
      have skip : ∀ sv, c = false → Mod N E (a.put o.dst undef) (g.plan ⟨o.dst.map fun d => (d, ⟨some c, sv⟩), .none⟩) := fun sv hc => put_plan (eff := .none) hdst hm fun _ _ => (show RelS E ⟨some c, sv⟩ undef from ⟨fun ht => absurd ht (by rw [hc]; decide), fun _ => rfl⟩)
      split at h
      · rename_i p r hr
        split at h
        · rename_i heff
          injection h with h
          subst h
          obtain ⟨hp, rfl⟩ := hst
          have he : r.eff = .none := by
            cases hh : r.eff <;> rw [hh] at heff <;> first | rfl | cases heff
          by_cases hc : c = true
          · rw [if_pos (by rw [hgr]; exact hc)]
            obtain ⟨hp1, hp2'⟩ := allB_append hp
            have hp2 := allB_map hp2' hc
            refine .inl (coreC_ok hC hP hr hp1 hm hsl' hbk hb hrk hrm hrb (fun d hd => by simpa [Cond.implies, hc] using hd) hp2 K Q fun E' v h0 hkp hm' hv => ?_)
            rw [he] at hm'
            exact hK E' _ h0 hkp (put_plan hdst hm' fun _ _ => (show RelS E' ⟨some c, r.sv⟩ v from ⟨fun _ => hv, fun hf => absurd hf (by rw [hc]; decide)⟩))
          · have hc : c = false := by simpa using hc
            rw [if_neg (by rw [hgr, hc]; simp)]
            exact hK E _ rfl (Keep.refl E) (skip r.sv hc)
        · cases h
      · rename_i p T d m sv eff pu hr
        split at h
        · injection h with h
          subst h
          obtain ⟨hp, t, ht, rfl⟩ := hst
          by_cases hc : c = true
          · rw [if_pos (by rw [hgr]; exact hc)]
            rw [hc] at ht
            have hcc := coreC_ok hC hP hr hp hm hsl' hbk hb hrk hrm hrb (fun d hd => by simpa [Cond.implies, hc] using hd)
            refine .inl (hcc.2 t ht K Q fun E' v h0 hkp hm' hv => ?_)
            simp only [hcc.1 rfl t] at hm'
            exact hK E' _ h0 hkp (put_plan hdst hm' fun _ _ => (show RelS E' ⟨some c, sv t⟩ v from ⟨fun _ => hv, fun hf => absurd hf (by rw [hc]; decide)⟩))
          · have hc : c = false := by simpa using hc
            rw [if_neg (by rw [hgr, hc]; simp)]
            exact hK E _ rfl (Keep.refl E) (skip (sv t) hc)
        · cases h
      · cases h

end
end Dn
end Go.Proofs.Ytghjblbkbelcfaa

namespace Go.Proofs.Ytghjblbkbelcfaa
namespace Dn
open Go.RowKit
noncomputable section

structure St where
  s : List (Nat × Option SlotV)
  h : List (Nat × List At)
  r : List (Nat × Option RowI)
  next : Nat
  ro : List Nat := []
  roR : List Nat := []

def look {α : Type} : List (Nat × α) → Nat → Option α
  | [], _ => none
  | (j, x) :: r, i => match Nat.beq j i with
    | true => some x
    | false => look r i

def lookS (l : List (Nat × Option SlotV)) (i : Nat) : Option SlotV := match look l i with
  | some (some s) => some s
  | _ => none

def St.look (σ : St) : Look := { s := lookS σ.s, h := Dn.look σ.h, r := Dn.look σ.r }

theorem look_cons {α : Type} (j : Nat) (x : α) (r : List (Nat × α)) (i : Nat) : look ((j, x) :: r) i = if i = j then some x else look r i := by
  simp only [look]
  split
  · rename_i h
    have h : j = i := by simpa using h
    rw [if_pos h.symm]
  · rename_i h
    have h : j ≠ i := by intro e; subst e; simp at h
    rw [if_neg (Ne.symm h)]

theorem look_kill (l : List Nat) (m : List (Nat × Option RowI)) (i : Nat) : look (l.map (fun i => ((i, none) : Nat × Option RowI)) ++ m) i = if i ∈ l then some none else look m i := by
  induction l with
  | nil => simp
  | cons j l ih =>
    rw [List.map_cons, List.cons_append, look_cons]
    by_cases h : i = j
    · simp [h]
    · rw [if_neg h, ih]
      simp [h]

def St.putS (σ : St) (d : Nat) (s : SlotV) : St := { σ with s := (d, some s) :: σ.s }
def St.app (σ : St) : Eff → St
  | .none => σ
  | .alloc b l => { σ with h := (b, l) :: σ.h }
  | .store b l => { σ with h := (b, l) :: σ.h }
  | .row k r (some o) => { σ with r := (k, some r) :: (o, none) :: σ.r }
  | .row k r none => { σ with r := (k, some r) :: σ.r }
  | .rset k e l => match setL e l (Dn.look σ.r k) with
    | some x => { σ with r := (k, x) :: σ.r }
    | none => σ
  | .rkill l => { σ with r := l.map (fun i => (i, none)) ++ σ.r }
def St.plan (σ : St) (pl : Plan) : St := match pl.s with
  | some (d, s) => (σ.app pl.eff).putS d s
  | none => σ.app pl.eff

theorem putS_look (σ : St) (d : Nat) (s : SlotV) : (σ.putS d s).look = σ.look.setS d (some s) := by
  simp only [St.putS, St.look, Look.setS]
  congr 1
  funext i
  simp only [lookS, look_cons]
  by_cases h : i = d
  · simp [h]
  · simp [h]

theorem app_look (σ : St) (e : Eff) : (σ.app e).look = σ.look.app e := by
  cases e with
  | none => rfl
  | alloc b l => simp only [St.app, St.look, Look.app, Look.setH]; congr 1; funext i; exact look_cons _ _ _ _
  | store b l => simp only [St.app, St.look, Look.app, Look.setH]; congr 1; funext i; exact look_cons _ _ _ _
  | row k r o =>
    cases o with
    | none => simp only [St.app, St.look, Look.app, Look.setR]; congr 1; funext i; exact look_cons _ _ _ _
    | some o => simp only [St.app, St.look, Look.app, Look.setR]; congr 1; funext i; simp only [look_cons]
  | rset k e l =>
    simp only [St.app]
    split
    · rename_i x hx
      simp only [St.look, Look.app]
      congr 1
      funext i
      rw [look_cons, hx]
    · rename_i hx
      simp only [St.look, Look.app]
      congr 1
      funext i
      by_cases h : i = k
      · rw [if_pos h, hx, h]
        have : ∀ y : Option (Option RowI), setL e l y = none → y = none := fun y hy => by
          unfold setL at hy
          split at hy
          · split at hy <;> cases hy
          · exact hy
        exact this _ hx
      · rw [if_neg h]
  | rkill l => simp only [St.app, St.look, Look.app]; congr 1; funext i; exact look_kill l σ.r i

theorem plan_look (σ : St) (pl : Plan) : (σ.plan pl).look = σ.look.plan pl := by
  unfold St.plan Look.plan
  cases pl.s with
  | none => exact app_look σ pl.eff
  | some d => simp only [putS_look, app_look]

/-! ### What a region's operations do, one behind the other -/

structure Ent where
  looks : List Nat
  tb : List Nat
  tr : List Nat
  tm : Bool
  deps : List Nat
  pl : Plan

def idsA : At → List Nat
  | .ptr b _ => [b]
  | .clo _ cap => cap.map (·.1)
  | .ae b _ _ _ _ _ => [b]
  | _ => []
def idsL : List At → List Nat
  | [] => []
  | x :: r => idsA x ++ idsL r
def idsT : List (Bool × List At) → List Nat
  | [] => []
  | x :: r => idsL x.2 ++ idsT r
def idsS : SV → List Nat
  | .c _ l => idsL l
  | .tup l => idsT l
def idsO (sl : Nat → Option SlotV) : List Operand → List Nat
  | [] => []
  | x :: r => match getS sl x with
    | some s => idsS s ++ idsO sl r
    | none => idsO sl r

def memN (i : Nat) : List Nat → Bool
  | [] => false
  | j :: r => match Nat.beq i j with
    | true => true
    | false => memN i r
theorem memN_iff {i : Nat} : ∀ {l : List Nat}, memN i l = true ↔ i ∈ l
  | [] => by simp [memN]
  | j :: r => by
    simp only [memN]
    split
    · rename_i h
      have h : i = j := by simpa using h
      simp [h]
    · rename_i h
      have h : i ≠ j := by intro e; subst e; simp at h
      simp [memN_iff (l := r), h]

def bkT (tb : List Nat) (h : Nat → Option (List At)) (i : Nat) : Option (List At) := match memN i tb with
  | true => h i
  | false => none

def offL (l : List Nat) : List Nat → Bool
  | [] => true
  | j :: r => !memN j l && offL l r

/-- What may not change is not changed. -/
def effOk (ro roR : List Nat) (r : Rk) : Eff → Bool
  | .none => true
  | .alloc b _ => !memN b ro
  | .store b _ => !memN b ro
  | .row k _ (some o) => !memN k roR && !memN o roR
  | .row k _ none => !memN k roR
  | .rset k e _ => !memN k roR && (match r k with
    | some (some ri) => (Sh.eq? e ri.e).isSome
    | _ => false)
  | .rkill l => offL roR l

def guardB {R : Type} : List Bool → Option R → Option R
  | [], x => x
  | b :: l, x => bif allB (b :: l) then x else none

/-- By the recursor: so that the kernel unfolds it last. -/
noncomputable def obind {T R : Type} (m : Option T) (k : T → Option R) : Option R := Option.rec none k m

theorem guardB_some {R : Type} {p : List Bool} {x : Option R} {z : R} (h : guardB p x = some z) : allB p = true ∧ x = some z := by
  cases p with
  | nil => exact ⟨rfl, h⟩
  | cons b l =>
    simp only [guardB] at h
    cases hb : allB (b :: l) with
    | true => rw [hb] at h; exact ⟨rfl, h⟩
    | false => rw [hb] at h; cases h
theorem obind_some {T R : Type} {m : Option T} {k : T → Option R} {z : R} (h : obind m k = some z) : ∃ t, m = some t ∧ k t = some z := by
  cases m with
  | none => cases h
  | some t => exact ⟨t, rfl, h⟩

def tbOf (σ : St) (o : Oper) : List Nat := σ.next :: idsO σ.look.s o.op.operands.toList
def ridsA : At → List Nat
  | .row r => [r]
  | .re r _ _ _ => [r]
  | _ => []
def ridsL : List At → List Nat
  | [] => []
  | x :: r => ridsA x ++ ridsL r
def ridsT : List (Bool × List At) → List Nat
  | [] => []
  | x :: r => ridsL x.2 ++ ridsT r
def ridsS : SV → List Nat
  | .c _ l => ridsL l
  | .tup l => ridsT l
def ridsO (sl : Nat → Option SlotV) : List Operand → List Nat
  | [] => []
  | x :: r => match getS sl x with
    | some s => ridsS s ++ ridsO sl r
    | none => ridsO sl r
def ridsB (h : Nat → Option (List At)) : List Nat → List Nat
  | [] => []
  | b :: r => match h b with
    | some l => ridsL l ++ ridsB h r
    | none => ridsB h r
/-- The rows that an operation may touch. -/
def trOf (σ : St) (o : Oper) : List Nat := σ.next :: (ridsO σ.look.s o.op.operands.toList ++ ridsB σ.look.h (tbOf σ o))
def blank : Option (Option RowI) → Option (Option RowI)
  | some (some ri) => some (some ⟨ri.t, ri.e, ri.n, []⟩)
  | x => x
def rkT (o : Oper) (tr : List Nat) (r : Rk) (i : Nat) : Option (Option RowI) := match memN i tr with
  | true => (match metaOp o with
    | true => blank (r i)
    | false => r i)
  | false => none

theorem rkT_sub {o : Oper} {tr : List Nat} {r : Rk} (h : metaOp o = false) {i : Nat} {x : Option RowI} (hx : rkT o tr r i = some x) : i ∈ tr ∧ r i = some x := by
  unfold rkT at hx
  split at hx
  · rename_i hm
    rw [h] at hx
    exact ⟨memN_iff.1 hm, hx⟩
  · cases hx
theorem blank_some {x : Option (Option RowI)} {ri : RowI} (h : blank x = some (some ri)) : ∃ rj, x = some (some rj) ∧ rj.t = ri.t ∧ rj.e = ri.e ∧ rj.n = ri.n := by
  unfold blank at h
  split at h
  · rename_i rj
    simp only [Option.some.injEq] at h
    subst h
    exact ⟨rj, rfl, rfl, rfl, rfl⟩
  · exact ⟨ri, h, rfl, rfl, rfl⟩
theorem rkT_meta {o : Oper} {tr : List Nat} {r : Rk} {i : Nat} {ri : RowI} (hx : rkT o tr r i = some (some ri)) : i ∈ tr ∧ ∃ rj, r i = some (some rj) ∧ rj.t = ri.t ∧ rj.e = ri.e ∧ rj.n = ri.n := by
  unfold rkT at hx
  split at hx
  · rename_i hm
    refine ⟨memN_iff.1 hm, ?_⟩
    split at hx
    · exact blank_some hx
    · exact ⟨ri, hx, rfl, rfl, rfl⟩
  · cases hx
theorem rkT_none {o : Oper} {tr : List Nat} {r : Rk} {i : Nat} (hi : i ∈ tr) (hx : rkT o tr r i = none) : r i = none := by
  unfold rkT at hx
  rw [memN_iff.2 hi] at hx
  simp only at hx
  split at hx
  · unfold blank at hx
    split at hx
    · cases hx
    · exact hx
  · exact hx
def entOf (ops : Array Oper) (σ : St) (o : Oper) (pl : Plan) : Ent := ⟨o.looksAt ops, tbOf σ o, trOf σ o, metaOp o, (o.after.toList.filter (Region.binds .any)).map (·.on), pl⟩
def St.step (σ : St) (pl : Plan) : St := { σ.plan pl with next := σ.next + 1 }
def stepAt (C : Ctx) (N : Nat) (ops : Array Oper) (σ : St) (o : Oper) : Option Stp := stepOp C N ops σ.look.s (bkT (tbOf σ o) σ.look.h) (rkT o (trOf σ o) σ.look.r) σ.next o

/-- A region whose order is drawn. -/
def regD (C : Ctx) (N : Nat) (ops : Array Oper) {R : Type} : List Oper → St → (List Ent → St → Option R) → Option R
  | [], σ, K => K [] σ
  | o :: r, σ, K => match stepAt C N ops σ o with
    | some (.one p pl) => match effOk σ.ro σ.roR σ.look.r pl.eff with
      | true => guardB p (regD C N ops r (σ.step pl) fun es σ' => K (entOf ops σ o pl :: es) σ')
      | false => none
    | some (.call p _ m f) => guardB p (obind m fun t => match effOk σ.ro σ.roR σ.look.r (f t).eff with
      | true => regD C N ops r (σ.step (f t)) fun es σ' => K (entOf ops σ o (f t) :: es) σ'
      | false => none)
    | _ => none

/-- A function that is walked in place: with its arguments, in a state of memory. -/
abbrev Inl := (R : Type) → FuncId → List SV → St → (List SV → St → Option R) → Option R

def compsOf : List SV → Option (List (Bool × List At))
  | [] => some []
  | .c ag l :: r => match compsOf r with
    | some m => some ((ag, l) :: m)
    | none => none
  | .tup _ :: _ => none
def retSV : List SV → Option SV
  | [v] => some v
  | l => match compsOf l with
    | some m => some (.tup m)
    | none => none

def St.back (σ σ' : St) (d : Option Nat) (sv : SV) : St := match d with
  | some d => ({ σ' with s := σ.s } : St).putS d ⟨none, sv⟩
  | none => { σ' with s := σ.s }

/-- A region in the order of the text. -/
def regS (rec : Inl) (C : Ctx) (N : Nat) (ops : Array Oper) {R : Type} : List Oper → St → (St → Option R) → Option R
  | [], σ, K => K σ
  | o :: r, σ, K => match stepAt C N ops σ o with
    | some (.one p pl) => match effOk σ.ro σ.roR σ.look.r pl.eff with
      | true => guardB p (regS rec C N ops r (σ.step pl) K)
      | false => none
    | some (.call p _ m f) => guardB p (obind m fun t => match effOk σ.ro σ.roR σ.look.r (f t).eff with
      | true => regS rec C N ops r (σ.step (f t)) K
      | false => none)
    | some (.inl p id args) => guardB p (rec R id args { σ with s := [], next := σ.next + 1 } fun svs σ' => match retSV svs with
      | some sv => regS rec C N ops r (σ.back σ' o.dst sv) K
      | none => none)
    | none => none

/-! ### What the steps are -/

def RegR (C : Ctx) (N : Nat) (ops : Array Oper) : List Oper → St → List Ent → St → Prop
  | [], σ, es, σ' => es = [] ∧ σ' = σ
  | o :: r, σ, es, σ' => ∃ pl es', StepP C N ops σ.look.s (bkT (tbOf σ o) σ.look.h) (rkT o (trOf σ o) σ.look.r) σ.next o pl ∧ effOk σ.ro σ.roR σ.look.r pl.eff = true ∧ es = entOf ops σ o pl :: es' ∧ RegR C N ops r (σ.step pl) es' σ'

theorem regD_rel {C : Ctx} {N : Nat} {ops : Array Oper} {R : Type} {z : R} : ∀ {l : List Oper} {σ : St} {K : List Ent → St → Option R}, regD C N ops l σ K = some z → ∃ es σ', RegR C N ops l σ es σ' ∧ K es σ' = some z
  | [], σ, K, h => ⟨[], σ, ⟨rfl, rfl⟩, h⟩
  | o :: r, σ, K, h => by
    simp only [regD] at h
    split at h
    · rename_i p pl hst
      split at h
      · rename_i he
        obtain ⟨hp, h⟩ := guardB_some h
        obtain ⟨es, σ', h1, h2⟩ := regD_rel h
        exact ⟨_, σ', ⟨pl, es, ⟨_, hst, hp, rfl⟩, he, rfl, h1⟩, h2⟩
      · cases h
    · rename_i p T m f hst
      obtain ⟨hp, h⟩ := guardB_some h
      obtain ⟨t, ht, h⟩ := obind_some h
      split at h
      · rename_i he
        obtain ⟨es, σ', h1, h2⟩ := regD_rel h
        exact ⟨_, σ', ⟨f t, es, ⟨_, hst, hp, t, ht, rfl⟩, he, rfl, h1⟩, h2⟩
      · cases h
    · cases h

theorem look_step (σ : St) (pl : Plan) : (σ.step pl).look = σ.look.plan pl := plan_look σ pl

/-- Memory is as the symbolic state says. -/
structure MemOk (E : Env) (g : Look) : Prop where
  glob : Glob E g
  blks : ∀ i l, g.h i = some l → BlkOk E i l
  rows : ∀ i r, g.r i = some (some r) → RowOk E i r

theorem Glob.of {E : Env} {g g' : Look} (h : Glob E g) (hh : g'.h = g.h) (hr : g'.r = g.r) : Glob E g' := by
  obtain ⟨gs, gh, gr⟩ := g; obtain ⟨gs', gh', gr'⟩ := g'
  simp only at hh hr; subst hh; subst hr
  exact ⟨h.below, h.zlt, h.z0, h.zfrom, h.live, h.rlive, h.own, h.inj, h.rown, h.rinj⟩
theorem MemOk.of {E : Env} {g g' : Look} (h : MemOk E g) (hh : g'.h = g.h) (hr : g'.r = g.r) : MemOk E g' :=
  ⟨h.glob.of hh hr, fun i l hi => h.blks i l (by rw [← hh]; exact hi), fun i r hi => h.rows i r (by rw [← hr]; exact hi)⟩
theorem Mod.memOk {N : Nat} {E : Env} {a : Act} {g : Look} (h : Mod N E a g) : MemOk E g := ⟨h.glob, h.blks, h.rows⟩

/-- What may not change has not changed. -/
structure Fr (σ σ' : St) : Prop where
  ro : σ'.ro = σ.ro
  roR : σ'.roR = σ.roR
  h : ∀ i ∈ σ.ro, look σ'.h i = look σ.h i
  r : ∀ i ∈ σ.roR, look σ'.r i = look σ.r i

theorem Fr.refl (σ : St) : Fr σ σ := ⟨rfl, rfl, fun _ _ => rfl, fun _ _ => rfl⟩
theorem Fr.trans {σ σ' σ'' : St} (h : Fr σ σ') (h' : Fr σ' σ'') : Fr σ σ'' :=
  ⟨h'.ro.trans h.ro, h'.roR.trans h.roR, fun i hi => (h'.h i (by rw [h.ro]; exact hi)).trans (h.h i hi), fun i hi => (h'.r i (by rw [h.roR]; exact hi)).trans (h.r i hi)⟩

theorem offL_mem {l : List Nat} : ∀ {m : List Nat}, offL l m = true → ∀ i ∈ m, i ∉ l
  | j :: r, h, i, hi => by
    simp only [offL, Bool.and_eq_true, Bool.not_eq_true'] at h
    rcases List.mem_cons.1 hi with rfl | hi
    · intro hm; rw [memN_iff.2 hm] at h; cases h.1
    · exact offL_mem h.2 i hi
theorem notMem {i : Nat} {l : List Nat} (h : (!memN i l) = true) : i ∉ l := fun hm => by
  rw [memN_iff.2 hm] at h; cases h

theorem app_fr {σ : St} {e : Eff} (h : effOk σ.ro σ.roR σ.look.r e = true) : Fr σ (σ.app e) := by
  cases e with
  | none => exact Fr.refl σ
  | alloc b l => exact ⟨rfl, rfl, fun i hi => by simp only [St.app]; rw [look_cons, if_neg (fun e => notMem h (by rw [← e]; exact hi))], fun _ _ => rfl⟩
  | store b l => exact ⟨rfl, rfl, fun i hi => by simp only [St.app]; rw [look_cons, if_neg (fun e => notMem h (by rw [← e]; exact hi))], fun _ _ => rfl⟩
  | row k r o =>
    cases o with
    | none => exact ⟨rfl, rfl, fun _ _ => rfl, fun i hi => by simp only [St.app]; rw [look_cons, if_neg (fun e => notMem h (by rw [← e]; exact hi))]⟩
    | some o =>
      simp only [effOk, Bool.and_eq_true] at h
      exact ⟨rfl, rfl, fun _ _ => rfl, fun i hi => by simp only [St.app]; rw [look_cons, if_neg (fun e => notMem h.1 (by rw [← e]; exact hi)), look_cons, if_neg (fun e => notMem h.2 (by rw [← e]; exact hi))]⟩
  | rset k e l =>
    simp only [St.app]
    split
    · exact ⟨rfl, rfl, fun _ _ => rfl, fun i hi => by simp only; rw [look_cons, if_neg (fun e => notMem (by simp only [effOk, Bool.and_eq_true] at h; exact h.1) (by rw [← e]; exact hi))]⟩
    · exact Fr.refl σ
  | rkill l => exact ⟨rfl, rfl, fun _ _ => rfl, fun i hi => by simp only [St.app]; rw [look_kill, if_neg (fun e => offL_mem h i e hi)]⟩

theorem plan_fr {σ : St} {pl : Plan} (h : effOk σ.ro σ.roR σ.look.r pl.eff = true) : Fr σ (σ.plan pl) := by
  have := app_fr h
  unfold St.plan
  split
  · exact ⟨this.ro, this.roR, this.h, this.r⟩
  · exact this
theorem step_fr {σ : St} {pl : Plan} (h : effOk σ.ro σ.roR σ.look.r pl.eff = true) : Fr σ (σ.step pl) := ⟨(plan_fr h).ro, (plan_fr h).roR, (plan_fr h).h, (plan_fr h).r⟩

theorem app_s (σ : St) (e : Eff) : (σ.app e).s = σ.s := by
  cases e with
  | row k r o => cases o <;> rfl
  | rset k e l => simp only [St.app]; split <;> rfl
  | _ => rfl

theorem stepP_dst {C : Ctx} {N : Nat} {ops : Array Oper} {sl : Nat → Option SlotV} {bk : Nat → Option (List At)} {rk : Rk} {b : Nat} {o : Oper} {pl : Plan} (h : StepP C N ops sl bk rk b o pl) : ∀ d s, pl.s = some (d, s) → o.dst = some d := by
  have aux : ∀ (f : Nat → Nat × SlotV), (∀ d, (f d).1 = d) → ∀ d s, o.dst.map f = some (d, s) → o.dst = some d := by
    intro f hf d s h
    cases hd : o.dst with
    | none => rw [hd] at h; cases h
    | some d' =>
      rw [hd] at h
      simp only [Option.map_some, Option.some.injEq] at h
      have := hf d'
      rw [h] at this
      rw [← this]
  obtain ⟨st, h, hst⟩ := h
  unfold stepOp at h
  split at h
  · cases h
  · split at h
    · cases h
    · split at h
      · injection h with h; subst h; obtain ⟨_, rfl⟩ := hst; exact aux _ fun _ => rfl
      · injection h with h; subst h; obtain ⟨_, t, _, rfl⟩ := hst; exact aux _ fun _ => rfl
      · injection h with h; subst h; exact hst.elim
      · cases h
    · split at h
      · split at h
        · injection h with h; subst h; obtain ⟨_, rfl⟩ := hst; exact aux _ fun _ => rfl
        · cases h
      · split at h
        · injection h with h; subst h; obtain ⟨_, t, _, rfl⟩ := hst; exact aux _ fun _ => rfl
        · cases h
      · cases h

theorem step_slots {C : Ctx} {N : Nat} {ops : Array Oper} {sl : Nat → Option SlotV} {bk : Nat → Option (List At)} {rk : Rk} {b : Nat} {o : Oper} {σ : St} {pl : Plan} (h : StepP C N ops sl bk rk b o pl) {i : Nat} (hi : o.dst ≠ some i) : look (σ.step pl).s i = look σ.s i := by
  show look (σ.plan pl).s i = look σ.s i
  unfold St.plan
  split
  · rename_i d s hs
    have hd := stepP_dst h d s hs
    show look ((d, some s) :: (σ.app pl.eff).s) i = _
    rw [look_cons, if_neg (fun e => hi (by rw [e, hd])), app_s]
  · rw [app_s]

theorem RegR.frame {C : Ctx} {N : Nat} {ops : Array Oper} : ∀ {l : List Oper} {σ σ' : St} {es : List Ent}, RegR C N ops l σ es σ' → Fr σ σ' ∧ ∀ i, i ∉ l.filterMap (·.dst) → look σ'.s i = look σ.s i
  | [], σ, σ', es, h => by
    obtain ⟨_, rfl⟩ := h
    exact ⟨Fr.refl _, fun _ _ => rfl⟩
  | o :: r, σ, σ', es, h => by
    obtain ⟨pl, es', h1, h2, _, h4⟩ := h
    obtain ⟨h5, h6⟩ := h4.frame
    refine ⟨(step_fr h2).trans h5, fun i hi => ?_⟩
    have hd : o.dst ≠ some i := fun e => hi (by rw [List.filterMap_cons, e]; simp)
    rw [h6 i fun hm => hi (by
      rw [List.filterMap_cons]
      split
      · exact hm
      · exact List.mem_cons_of_mem _ hm), step_slots h1 hd]

/-! ### Functions that are walked in place -/

/-- Rows that may not change are there. -/
def RoR (σ : St) : Prop := ∀ i ∈ σ.roR, (look σ.r i).isSome = true
theorem RoR.fr {σ σ' : St} (h : RoR σ) (hf : Fr σ σ') : RoR σ' := fun i hi => by
  rw [hf.roR] at hi
  rw [hf.r i hi]
  exact h i hi

def InlOk (C : Ctx) (rec : Inl) : Prop := ∀ (R : Type) id args σ K (z : R), rec R id args σ K = some z → RoR σ → ∀ E, MemOk E σ.look → E.P = C.P → ∀ vs : Array Value, RelVs E args vs.toList → ∀ post : Ending → World → Prop,
  (∀ svs σ' E' v, K svs σ' = some z → Same E E' → Keep E E' → Fr σ σ' → MemOk E' σ'.look → (∀ sv, retSV svs = some sv → RelV E' sv v) → post (.returned v) E'.w) → Calls C.P id vs E.w post

section
variable {N : Nat} {E : Env} {a : Act}

theorem bkT_sub {tb : List Nat} {h : Nat → Option (List At)} {i : Nat} {l : List At} (hh : bkT tb h i = some l) : i ∈ tb ∧ h i = some l := by
  unfold bkT at hh
  split at hh
  · rename_i hm
    exact ⟨memN_iff.1 hm, hh⟩
  · cases hh
theorem bkT_none {tb : List Nat} {h : Nat → Option (List At)} {i : Nat} (hi : i ∈ tb) (hh : bkT tb h i = none) : h i = none := by
  unfold bkT at hh
  rw [memN_iff.2 hi] at hh
  exact hh

theorem stepOp_inl {C : Ctx} {ops : Array Oper} {sl : Nat → Option SlotV} {bk : Nat → Option (List At)} {rk : Rk} {b : Nat} {o : Oper} {p : List Bool} {id : FuncId} {args : List SV} (h : stepOp C N ops sl bk rk b o = some (.inl p id args)) :
    dstOk N o.dst = true ∧ guardC ops sl o.guard = .always ∧ coreC C .always sl bk rk b o = some (p, .inl id args) := by
  unfold stepOp at h
  split at h
  · cases h
  · rename_i hd
    split at h
    · cases h
    · rename_i hg
      split at h <;> first | (cases h; done) | (injection h with h; cases h; done) | skip
      rename_i p' id' args' hc
      injection h with h
      injection h with h1 h2 h3
      subst h1; subst h2; subst h3
      exact ⟨hd, hg, hc⟩
    · split at h
      · split at h <;> first | (injection h with h; cases h) | cases h
      · split at h <;> first | (injection h with h; cases h) | cases h
      · cases h

theorem Mod.slots_keep {a' : Act} {g g' : Look} {E' : Env} (hm : Mod N E a g) (hk : Keep E E') (hm' : MemOk E' g') (hs : g'.s = g.s) (ha : a' = a) : Mod N E' a' g' := by
  subst ha
  exact ⟨hm'.glob, hm.nodef, hm.size, fun i s hi => by
    rw [hs] at hi
    obtain ⟨v, h1, h2⟩ := hm.slots i s hi
    exact ⟨v, h1, hk.S h2⟩, hm'.blks, hm'.rows⟩

/-- A region whose order is the text's. -/
theorem seq_ok {rec : Inl} {C : Ctx} (hC : C.ok) (hI : InlOk C rec) {ops : Array Oper} {Q : Exit → Act → World → Prop} {R : Type} {z : R} : ∀ {l : List Oper} {σ : St} {K : St → Option R} {E : Env} {a : Act}, regS rec C N ops l σ K = some z → RoR σ → E.P = C.P →
    Mod N E a σ.look → (∀ σ' E' a', K σ' = some z → Same E E' → Keep E E' → Fr σ σ' → (∀ i, i ∉ l.filterMap (·.dst) → look σ'.s i = look σ.s i) → Mod N E' a' σ'.look → Q .normal a' E'.w) → wpList C.P ops Q l a E.w
  | [], σ, K, E, a, h, _, hP, hm, hQ => hQ σ E a h rfl (Keep.refl E) (Fr.refl σ) (fun _ _ => rfl) hm
  | o :: r, σ, K, E, a, h, hro, hP, hm, hQ => by
    simp only [regS] at h
    have dstne : ∀ i, i ∉ (o :: r).filterMap (·.dst) → o.dst ≠ some i ∧ i ∉ r.filterMap (·.dst) := fun i hi => by
      rw [List.filterMap_cons] at hi
      split at hi
      · rename_i hd; exact ⟨by rw [hd]; simp, hi⟩
      · rename_i d hd
        rw [hd]
        simp only [List.mem_cons, not_or] at hi
        exact ⟨fun e => hi.1 (by injection e with e; exact e.symm), hi.2⟩
    have go : ∀ pl, StepP C N ops σ.look.s (bkT (tbOf σ o) σ.look.h) (rkT o (trOf σ o) σ.look.r) σ.next o pl → effOk σ.ro σ.roR σ.look.r pl.eff = true → regS rec C N ops r (σ.step pl) K = some z → wpList C.P ops Q (o :: r) a E.w := by
      intro pl hpl he hr
      have hs := step_ok (K := wpList C.P ops Q r) (Q := Q) (X := o.asks C.P a E.w ∧ LetsOut Q) hC hP hpl hm (fun _ _ => rfl) (fun i l hi => (bkT_sub hi).2) (fun hb => bkT_none (by simp [tbOf]) hb) (fun hmo _ _ h => (rkT_sub hmo h).2) (fun _ _ h => by obtain ⟨_, rj, h1, _, h2, h3⟩ := rkT_meta h; exact ⟨rj, h1, h2, h3⟩) (fun h => rkT_none (by simp [trOf]) h)
        (fun E' a' h0 hk0 hm' => seq_ok hC hI hr (hro.fr (step_fr he)) (h0.P.trans hP) (by rw [look_step]; exact hm') fun σ' E'' a'' hz h1 hk1 hf hsl hm'' =>
          hQ σ' E'' a'' hz (h0.trans h1) (hk0.trans hk1) ((step_fr he).trans hf) (fun i hi => (hsl i (dstne i hi).2).trans (step_slots hpl (dstne i hi).1)) hm'')
      unfold wpList
      exact hs
    split at h
    · rename_i p pl hst
      split at h
      · rename_i he
        obtain ⟨hp, h⟩ := guardB_some h
        exact go pl ⟨_, hst, hp, rfl⟩ he h
      · cases h
    · rename_i p T m f hst
      obtain ⟨hp, h⟩ := guardB_some h
      obtain ⟨t, ht, h⟩ := obind_some h
      split at h
      · rename_i he
        exact go (f t) ⟨_, hst, hp, t, ht, rfl⟩ he h
      · cases h
    · rename_i p id args hst
      obtain ⟨hp, h⟩ := guardB_some h
      obtain ⟨hd, hg, hc⟩ := stepOp_inl hst
      have hgr := guard_run hm (ops := ops) (o := o) (sl := σ.look.s) (fun _ _ => rfl)
      rw [hg] at hgr
      simp only at hgr
      obtain ⟨vs, hrun, hvs⟩ := coreC_ok hC hP hc hp hm (fun _ _ => rfl) (fun i l hi => (bkT_sub hi).2) (fun hb => bkT_none (by simp [tbOf]) hb) (fun hmo _ _ h => (rkT_sub hmo h).2) (fun _ _ h => by obtain ⟨_, rj, h1, _, h2, h3⟩ := rkT_meta h; exact ⟨rj, h1, h2, h3⟩) (fun h => rkT_none (by simp [trOf]) h) (fun c hc => hc)
      unfold wpList
      rw [if_pos hgr]
      refine .inl ?_
      unfold Oper.wp
      rw [hrun]
      refine hI R id args _ _ z h (fun i hi => hro i hi) E (hm.memOk.of rfl rfl) hP vs hvs _ fun svs σ' E' v hk h0 hk0 hf hmem hret => ?_
      split at hk
      · rename_i sv hsv
        have hrel := hret sv hsv
        have hmb : Mod N E' a (({ σ' with s := σ.s } : St)).look := hm.slots_keep hk0 (hmem.of rfl rfl) rfl rfl
        have hmod : Mod N E' (a.put o.dst v) (σ.back σ' o.dst sv).look := by
          unfold St.back
          cases hdd : o.dst with
          | none => exact hmb
          | some d =>
            rw [hdd] at hd
            simp only [putS_look]
            exact hmb.put (by simp [dstOk, Nat.blt] at hd; omega) hrel
        have hfb : Fr σ (σ.back σ' o.dst sv) := by
          unfold St.back
          cases o.dst <;> exact ⟨hf.ro, hf.roR, hf.h, hf.r⟩
        have hsb : ∀ i, o.dst ≠ some i → look (σ.back σ' o.dst sv).s i = look σ.s i := fun i hi => by
          unfold St.back
          cases hdd : o.dst with
          | none => rfl
          | some d =>
            show look ((d, some _) :: σ.s) i = _
            rw [look_cons, if_neg (fun e => hi (by rw [hdd, e]))]
        exact seq_ok hC hI hk (hro.fr hfb) (h0.P.trans hP) hmod fun σ2 E2 a2 hz h1 hk1 hf1 hsl hm2 =>
          hQ σ2 E2 a2 hz (h0.trans h1) (hk0.trans hk1) (hfb.trans hf1) (fun i hi => (hsl i (dstne i hi).2).trans (hsb i (dstne i hi).1)) hm2
      · cases hk
    · cases h
end
end
end Dn
end Go.Proofs.Ytghjblbkbelcfaa

namespace Go.Proofs.Ytghjblbkbelcfaa
namespace Dn
noncomputable section
open Go.RowKit

def Ent.w (e : Ent) : Option Nat := match e.pl.eff with
  | .alloc b _ => some b
  | .store b _ => some b
  | _ => none
def Ent.d (e : Ent) : Option Nat := match e.pl.s with
  | some x => some x.1
  | none => none
/-- The rows that change, and those of them that change not in their elements alone. -/
def effC : Eff → List Nat
  | .rset k _ _ => [k]
  | .row k _ (some o) => [k, o]
  | .row k _ none => [k]
  | .rkill l => l
  | _ => []
def effHard : Eff → Bool
  | .row .. => true
  | .rkill _ => true
  | _ => false
def Ent.c (e : Ent) : List Nat := effC e.pl.eff
def Ent.hard (e : Ent) : Bool := effHard e.pl.eff

def offO : Option Nat → List Nat → Bool
  | some d, l => !memN d l
  | none, _ => true
def neO : Option Nat → Option Nat → Bool
  | some d, some e => !Nat.beq d e
  | _, _ => true

def disj : List Nat → List Nat → Bool
  | [], _ => true
  | x :: l, m => !memN x m && disj l m
def indep (e f : Ent) : Bool := offO e.d f.looks && neO e.d f.d && offO f.d e.looks && offO e.w f.tb && offO f.w e.tb && (disj e.c f.tr || (f.tm && !e.hard)) && (disj f.c e.tr || (e.tm && !f.hard))

def chk1 (i : Nat) (e : Ent) : List Ent → Bool
  | [] => true
  | f :: r => (indep e f || memN i f.deps) && chk1 i e r
def depsLt (i : Nat) : List Nat → Bool
  | [] => true
  | d :: r => Nat.blt d i && depsLt i r
def ownW (e : Ent) : Bool := match e.w with
  | some b => memN b e.tb
  | none => true
def subN : List Nat → List Nat → Bool
  | [], _ => true
  | x :: l, m => memN x m && subN l m
def ownC (e : Ent) : Bool := match e.c with
  | [] => true
  | x :: l => subN (x :: l) e.tr && !e.tm
def chkAll : Nat → List Ent → Bool
  | _, [] => true
  | i, e :: r => chk1 i e r && depsLt i e.deps && ownW e && ownC e && chkAll (i + 1) r

theorem disj_spec : ∀ {l m : List Nat}, disj l m = true → ∀ {x}, x ∈ l → x ∉ m
  | [], _, _, _, h => by cases h
  | y :: l, m, h, x, hx => by
    simp only [disj, Bool.and_eq_true, Bool.not_eq_true'] at h
    rcases List.mem_cons.1 hx with rfl | hx
    · intro hm
      rw [memN_iff.2 hm] at h
      cases h.1
    · exact disj_spec h.2 hx
theorem subN_spec : ∀ {l m : List Nat}, subN l m = true → ∀ {x}, x ∈ l → x ∈ m
  | [], _, _, _, h => by cases h
  | y :: l, m, h, x, hx => by
    simp only [subN, Bool.and_eq_true] at h
    rcases List.mem_cons.1 hx with rfl | hx
    · exact memN_iff.1 h.1
    · exact subN_spec h.2 hx
theorem offO_spec {x : Option Nat} {l : List Nat} (h : offO x l = true) {d : Nat} (hd : x = some d) : d ∉ l := by
  subst hd
  simp only [offO, Bool.not_eq_true'] at h
  intro hm
  rw [memN_iff.2 hm] at h
  cases h
theorem neO_spec {x y : Option Nat} (h : neO x y = true) {d : Nat} (hx : x = some d) (hy : y = some d) : False := by
  subst hx; subst hy
  simp [neO] at h

theorem chk1_spec {i : Nat} {e : Ent} : ∀ {l : List Ent} {k : Nat} {f : Ent}, chk1 i e l = true → l[k]? = some f → indep e f = true ∨ i ∈ f.deps
  | [], k, f, _, hk => by simp at hk
  | x :: r, k, f, h, hk => by
    simp only [chk1, Bool.and_eq_true, Bool.or_eq_true] at h
    cases k with
    | zero =>
      simp only [List.getElem?_cons_zero, Option.some.injEq] at hk
      subst hk
      exact h.1.imp id memN_iff.1
    | succ k =>
      simp only [List.getElem?_cons_succ] at hk
      exact chk1_spec h.2 hk

theorem depsLt_spec {i : Nat} : ∀ {l : List Nat}, depsLt i l = true → ∀ d ∈ l, d < i
  | [], _, d, hd => by cases hd
  | x :: r, h, d, hd => by
    simp only [depsLt, Bool.and_eq_true, Nat.blt, Nat.ble_eq] at h
    rcases List.mem_cons.1 hd with rfl | hd
    · omega
    · exact depsLt_spec h.2 d hd

/-- What the check gives of all operations. -/
structure Chk (es : List Ent) : Prop where
  pair : ∀ (i j : Nat) (e f : Ent), i < j → es[i]? = some e → es[j]? = some f → indep e f = true ∨ i ∈ f.deps
  lt : ∀ (i : Nat) (e : Ent), es[i]? = some e → ∀ d ∈ e.deps, d < i
  own : ∀ (i : Nat) (e : Ent) (b : Nat), es[i]? = some e → e.w = some b → b ∈ e.tb
  ownc : ∀ (i : Nat) (e : Ent) (b : Nat), es[i]? = some e → b ∈ e.c → b ∈ e.tr ∧ e.tm = false

theorem ownC_spec {e : Ent} (h : ownC e = true) {b : Nat} (hb : b ∈ e.c) : b ∈ e.tr ∧ e.tm = false := by
  unfold ownC at h
  split at h
  · rename_i hc; rw [hc] at hb; cases hb
  · rename_i x l hc
    simp only [Bool.and_eq_true, Bool.not_eq_true'] at h
    rw [hc] at hb
    exact ⟨subN_spec h.1 hb, h.2⟩

theorem chkAll_spec : ∀ {l : List Ent} {n : Nat}, chkAll n l = true →
    (∀ (i j : Nat) (e f : Ent), i < j → l[i]? = some e → l[j]? = some f → indep e f = true ∨ n + i ∈ f.deps) ∧ (∀ (i : Nat) (e : Ent), l[i]? = some e → ∀ d ∈ e.deps, d < n + i) ∧ (∀ (i : Nat) (e : Ent) (b : Nat), l[i]? = some e → e.w = some b → b ∈ e.tb) ∧ (∀ (i : Nat) (e : Ent) (b : Nat), l[i]? = some e → b ∈ e.c → b ∈ e.tr ∧ e.tm = false)
  | [], n, _ => ⟨fun i j e f _ h => by simp at h, fun i e h => by simp at h, fun i e b h => by simp at h, fun i e b h => by simp at h⟩
  | x :: r, n, h => by
    simp only [chkAll, Bool.and_eq_true] at h
    obtain ⟨⟨⟨⟨h1, h2⟩, h4⟩, h6⟩, h5⟩ := h
    obtain ⟨i1, i2, i4, i5⟩ := chkAll_spec h5
    refine ⟨fun i j e f hij hi hj => ?_, fun i e hi d hd => ?_, fun i e b hi hb => ?_, fun i e b hi hb => ?_⟩
    · cases j with
      | zero => omega
      | succ j =>
        simp only [List.getElem?_cons_succ] at hj
        cases i with
        | zero =>
          simp only [List.getElem?_cons_zero, Option.some.injEq] at hi
          subst hi
          exact chk1_spec h1 hj
        | succ i =>
          simp only [List.getElem?_cons_succ] at hi
          have := i1 i j e f (by omega) hi hj
          rwa [show n + 1 + i = n + (i + 1) by omega] at this
    · cases i with
      | zero =>
        simp only [List.getElem?_cons_zero, Option.some.injEq] at hi
        subst hi
        exact depsLt_spec h2 d hd
      | succ i =>
        simp only [List.getElem?_cons_succ] at hi
        have := i2 i e hi d hd
        omega
    · cases i with
      | zero =>
        simp only [List.getElem?_cons_zero, Option.some.injEq] at hi
        subst hi
        simp only [ownW, hb] at h4
        exact memN_iff.1 h4
      | succ i =>
        simp only [List.getElem?_cons_succ] at hi
        exact i4 i e b hi hb
    · cases i with
      | zero =>
        simp only [List.getElem?_cons_zero, Option.some.injEq] at hi
        subst hi
        exact ownC_spec h6 hb
      | succ i =>
        simp only [List.getElem?_cons_succ] at hi
        exact i5 i e b hi hb

theorem chk_of {es : List Ent} (h : chkAll 0 es = true) : Chk es := by
  obtain ⟨h1, h2, h4, h5⟩ := chkAll_spec h
  exact ⟨fun i j e f hij hi hj => by have := h1 i j e f hij hi hj; simpa using this, fun i e hi d hd => by have := h2 i e hi d hd; omega, h4, h5⟩

/-- The state behind those operations whose numbers 'p' holds of. -/
def fil (g : Look) (p : Nat → Bool) : Nat → List Ent → Look
  | _, [] => g
  | i, e :: r => fil (match p i with | true => g.plan e.pl | false => g) p (i + 1) r

theorem plan_s (g : Look) (e : Ent) (t : Nat) : (g.plan e.pl).s t = match e.pl.s with
    | some (d, s) => if t = d then some s else g.s t
    | none => g.s t := by
  unfold Look.plan
  have happ : (g.app e.pl.eff).s = g.s := by cases e.pl.eff <;> first | rfl | (rename_i k r o; cases o <;> rfl)
  cases e.pl.s with
  | none => exact congrFun happ t
  | some d => simp only [Look.setS, happ]

theorem plan_h (g : Look) (e : Ent) (b : Nat) : (g.plan e.pl).h b = match e.pl.eff with
    | .alloc i l => if b = i then some l else g.h b
    | .store i l => if b = i then some l else g.h b
    | _ => g.h b := by
  unfold Look.plan
  cases e.pl.s <;> (cases e.pl.eff <;> first | rfl | (rename_i k r o; cases o <;> rfl))

/-- What an effect makes of a row. -/
def updR (f : Eff) (t : Nat) (x : Option (Option RowI)) : Option (Option RowI) := match f with
  | .row k r (some o) => if t = k then some (some r) else if t = o then some none else x
  | .row k r none => if t = k then some (some r) else x
  | .rset k e l => if t = k then setL e l x else x
  | .rkill l => if t ∈ l then some none else x
  | _ => x
theorem plan_r (g : Look) (e : Ent) (t : Nat) : (g.plan e.pl).r t = updR e.pl.eff t (g.r t) := by
  unfold Look.plan
  cases e.pl.s <;> (cases he : e.pl.eff with
    | row k r o => cases o <;> rfl
    | rset k s l =>
      simp only [Look.app, Look.setS, updR]
      by_cases h : t = k
      · subst h; rfl
      · rw [if_neg h, if_neg h]
    | _ => rfl)
theorem updR_off {f : Eff} {t : Nat} {x : Option (Option RowI)} (h : t ∉ effC f) : updR f t x = x := by
  cases f with
  | row k r o =>
    cases o <;> simp only [effC, List.mem_cons, List.not_mem_nil, or_false, not_or] at h <;> simp [updR, h]
  | rset k s l => simp only [effC, List.mem_cons, List.not_mem_nil, or_false] at h; simp [updR, h]
  | rkill l => simp only [effC] at h; simp [updR, h]
  | _ => rfl

theorem setL_blank (s : Sh) (l : List s.T) (x : Option (Option RowI)) : blank (setL s l x) = blank x := by
  unfold setL
  split
  · split <;> rfl
  · rfl
theorem updR_soft {f : Eff} {t : Nat} (h : effHard f = false) (x : Option (Option RowI)) : blank (updR f t x) = blank x := by
  cases f with
  | row k r o => cases h
  | rkill l => cases h
  | rset k s l =>
    simp only [updR]
    split
    · exact setL_blank s l x
    · rfl
  | _ => rfl
theorem updR_cong {f : Eff} {t : Nat} {x y : Option (Option RowI)} (h : blank x = blank y) : blank (updR f t x) = blank (updR f t y) := by
  cases f with
  | row k r o => cases o <;> simp only [updR] <;> split <;> first | rfl | (split <;> first | rfl | exact h) | exact h
  | rkill l => simp only [updR]; split <;> first | rfl | exact h
  | rset k s l =>
    simp only [updR]
    split
    · rw [setL_blank, setL_blank]; exact h
    · exact h
  | _ => exact h
theorem plan_r_off (g : Look) (e : Ent) (t : Nat) (h : t ∉ e.c) : (g.plan e.pl).r t = g.r t := by rw [plan_r, updR_off h]

theorem plan_s_off (g : Look) (e : Ent) (t : Nat) (h : e.d ≠ some t) : (g.plan e.pl).s t = g.s t := by
  rw [plan_s]
  unfold Ent.d at h
  cases hs : e.pl.s with
  | none => rfl
  | some x => rw [hs] at h; simp only [ne_eq, Option.some.injEq] at h; exact if_neg (Ne.symm h)
theorem plan_s_on (g g' : Look) (e : Ent) (t : Nat) (h : e.d = some t) : (g.plan e.pl).s t = (g'.plan e.pl).s t := by
  rw [plan_s, plan_s]
  unfold Ent.d at h
  cases hs : e.pl.s with
  | none => rw [hs] at h; cases h
  | some x => rw [hs] at h; simp only [Option.some.injEq] at h; simp [h]
theorem plan_h_off (g : Look) (e : Ent) (b : Nat) (h : e.w ≠ some b) : (g.plan e.pl).h b = g.h b := by
  rw [plan_h]
  unfold Ent.w at h
  cases he : e.pl.eff <;> rw [he] at h <;> first | rfl | (simp only [ne_eq, Option.some.injEq] at h; exact if_neg (Ne.symm h))
theorem plan_h_on (g g' : Look) (e : Ent) (b : Nat) (h : e.w = some b) : (g.plan e.pl).h b = (g'.plan e.pl).h b := by
  rw [plan_h, plan_h]
  unfold Ent.w at h
  cases he : e.pl.eff <;> rw [he] at h <;> first | cases h; done | (simp only [Option.some.injEq] at h; simp [h])

theorem fil_s {p q : Nat → Bool} {t : Nat} : ∀ {l : List Ent} {i : Nat} {g g' : Look}, (∀ (k : Nat) (e : Ent), l[k]? = some e → e.d = some t → p (i + k) = q (i + k)) → g.s t = g'.s t → (fil g p i l).s t = (fil g' q i l).s t
  | [], i, g, g', _, h => h
  | e :: r, i, g, g', hpq, h => by
    simp only [fil]
    refine fil_s (fun k f hk hd => ?_) ?_
    · have := hpq (k + 1) f (by simpa using hk) hd
      rwa [show i + (k + 1) = i + 1 + k by omega] at this
    · by_cases hd : e.d = some t
      · have := hpq 0 e rfl hd
        simp only [Nat.add_zero] at this
        rw [this]
        cases q i
        · exact h
        · exact plan_s_on g g' e t hd
      · have e1 : (match p i with | true => g.plan e.pl | false => g).s t = g.s t := by cases p i <;> first | rfl | exact plan_s_off g e t hd
        have e2 : (match q i with | true => g'.plan e.pl | false => g').s t = g'.s t := by cases q i <;> first | rfl | exact plan_s_off g' e t hd
        rw [e1, e2, h]

theorem fil_h {p q : Nat → Bool} {t : Nat} : ∀ {l : List Ent} {i : Nat} {g g' : Look}, (∀ (k : Nat) (e : Ent), l[k]? = some e → e.w = some t → p (i + k) = q (i + k)) → g.h t = g'.h t → (fil g p i l).h t = (fil g' q i l).h t
  | [], i, g, g', _, h => h
  | e :: r, i, g, g', hpq, h => by
    simp only [fil]
    refine fil_h (fun k f hk hd => ?_) ?_
    · have := hpq (k + 1) f (by simpa using hk) hd
      rwa [show i + (k + 1) = i + 1 + k by omega] at this
    · by_cases hd : e.w = some t
      · have := hpq 0 e rfl hd
        simp only [Nat.add_zero] at this
        rw [this]
        cases q i
        · exact h
        · exact plan_h_on g g' e t hd
      · have e1 : (match p i with | true => g.plan e.pl | false => g).h t = g.h t := by cases p i <;> first | rfl | exact plan_h_off g e t hd
        have e2 : (match q i with | true => g'.plan e.pl | false => g').h t = g'.h t := by cases q i <;> first | rfl | exact plan_h_off g' e t hd
        rw [e1, e2, h]

theorem fil_r {p q : Nat → Bool} {t : Nat} : ∀ {l : List Ent} {i : Nat} {g g' : Look}, (∀ (k : Nat) (e : Ent), l[k]? = some e → t ∈ e.c → p (i + k) = q (i + k)) → g.r t = g'.r t → (fil g p i l).r t = (fil g' q i l).r t
  | [], i, g, g', _, h => h
  | e :: r, i, g, g', hpq, h => by
    simp only [fil]
    refine fil_r (fun k f hk hd => ?_) ?_
    · have := hpq (k + 1) f (by simpa using hk) hd
      rwa [show i + (k + 1) = i + 1 + k by omega] at this
    · by_cases hd : t ∈ e.c
      · have := hpq 0 e rfl hd
        simp only [Nat.add_zero] at this
        rw [this]
        cases q i
        · exact h
        · simp only [plan_r, h]
      · have e1 : (match p i with | true => g.plan e.pl | false => g).r t = g.r t := by cases p i <;> first | rfl | exact plan_r_off g e t hd
        have e2 : (match q i with | true => g'.plan e.pl | false => g').r t = g'.r t := by cases q i <;> first | rfl | exact plan_r_off g' e t hd
        rw [e1, e2, h]

theorem fil_blank {p q : Nat → Bool} {t : Nat} : ∀ {l : List Ent} {i : Nat} {g g' : Look}, (∀ (k : Nat) (e : Ent), l[k]? = some e → t ∈ e.c → e.hard = true → p (i + k) = q (i + k)) → blank (g.r t) = blank (g'.r t) → blank ((fil g p i l).r t) = blank ((fil g' q i l).r t)
  | [], i, g, g', _, h => h
  | e :: r, i, g, g', hpq, h => by
    simp only [fil]
    refine fil_blank (fun k f hk hd hh => ?_) ?_
    · have := hpq (k + 1) f (by simpa using hk) hd hh
      rwa [show i + (k + 1) = i + 1 + k by omega] at this
    · have same : e.hard = false ∨ t ∉ e.c → ∀ g : Look, blank ((g.plan e.pl).r t) = blank (g.r t) := fun ho g => by
        rcases ho with ho | ho
        · rw [plan_r]; exact updR_soft ho _
        · rw [plan_r_off g e t ho]
      by_cases hd : t ∈ e.c ∧ e.hard = true
      · have := hpq 0 e rfl hd.1 hd.2
        simp only [Nat.add_zero] at this
        rw [this]
        cases q i
        · exact h
        · simp only [plan_r]; exact updR_cong h
      · have ho : e.hard = false ∨ t ∉ e.c := by
          cases hh : e.hard with
          | false => exact .inl rfl
          | true => exact .inr fun hc => hd ⟨hc, hh⟩
        have e1 : blank ((match p i with | true => g.plan e.pl | false => g).r t) = blank (g.r t) := by cases p i <;> first | rfl | exact same ho g
        have e2 : blank ((match q i with | true => g'.plan e.pl | false => g').r t) = blank (g'.r t) := by cases q i <;> first | rfl | exact same ho g'
        rw [e1, e2, h]

/-- The last writer decides. -/
theorem fil_s_at {p : Nat → Bool} {t : Nat} : ∀ {l : List Ent} {i j : Nat} {g : Look} {e : Ent}, l[j]? = some e → p (i + j) = true → e.d = some t → (∀ (k : Nat) (f : Ent), j < k → l[k]? = some f → f.d = some t → p (i + k) = false) → ∀ g' : Look, (fil g p i l).s t = (g'.plan e.pl).s t
  | [], i, j, g, e, h, _, _, _, _ => by simp at h
  | x :: r, i, 0, g, e, h, hp, hd, hl, g' => by
    simp only [List.getElem?_cons_zero, Option.some.injEq] at h
    subst h
    simp only [Nat.add_zero] at hp
    simp only [fil, hp]
    have := fil_s (p := p) (q := fun _ => false) (t := t) (l := r) (i := i + 1) (g := g.plan x.pl) (g' := g.plan x.pl) (fun k f hk hf => by
      have := hl (k + 1) f (by omega) (by simpa using hk) hf
      rwa [show i + (k + 1) = i + 1 + k by omega] at this) rfl
    rw [this]
    have none_ : ∀ (l : List Ent) (i : Nat) (g : Look), fil g (fun _ => false) i l = g := by
      intro l
      induction l with
      | nil => intro i g; rfl
      | cons y l ih => intro i g; exact ih (i + 1) g
    rw [none_]
    exact plan_s_on g g' x t hd
  | x :: r, i, j + 1, g, e, h, hp, hd, hl, g' => by
    simp only [List.getElem?_cons_succ] at h
    simp only [fil]
    refine fil_s_at (j := j) h (by rwa [show i + 1 + j = i + (j + 1) by omega]) hd (fun k f hk hf hfd => ?_) g'
    have := hl (k + 1) f (by omega) (by simpa using hf) hfd
    rwa [show i + (k + 1) = i + 1 + k by omega] at this

theorem fil_h_at {p : Nat → Bool} {t : Nat} : ∀ {l : List Ent} {i j : Nat} {g : Look} {e : Ent}, l[j]? = some e → p (i + j) = true → e.w = some t → (∀ (k : Nat) (f : Ent), j < k → l[k]? = some f → f.w = some t → p (i + k) = false) → ∀ g' : Look, (fil g p i l).h t = (g'.plan e.pl).h t
  | [], i, j, g, e, h, _, _, _, _ => by simp at h
  | x :: r, i, 0, g, e, h, hp, hd, hl, g' => by
    simp only [List.getElem?_cons_zero, Option.some.injEq] at h
    subst h
    simp only [Nat.add_zero] at hp
    simp only [fil, hp]
    have := fil_h (p := p) (q := fun _ => false) (t := t) (l := r) (i := i + 1) (g := g.plan x.pl) (g' := g.plan x.pl) (fun k f hk hf => by
      have := hl (k + 1) f (by omega) (by simpa using hk) hf
      rwa [show i + (k + 1) = i + 1 + k by omega] at this) rfl
    rw [this]
    have none_ : ∀ (l : List Ent) (i : Nat) (g : Look), fil g (fun _ => false) i l = g := by
      intro l
      induction l with
      | nil => intro i g; rfl
      | cons y l ih => intro i g; exact ih (i + 1) g
    rw [none_]
    exact plan_h_on g g' x t hd
  | x :: r, i, j + 1, g, e, h, hp, hd, hl, g' => by
    simp only [List.getElem?_cons_succ] at h
    simp only [fil]
    refine fil_h_at (j := j) h (by rwa [show i + 1 + j = i + (j + 1) by omega]) hd (fun k f hk hf hfd => ?_) g'
    have := hl (k + 1) f (by omega) (by simpa using hf) hfd
    rwa [show i + (k + 1) = i + 1 + k by omega] at this

theorem fil_none (l : List Ent) (i : Nat) (g : Look) (p : Nat → Bool) (t : Nat) (h : ∀ (k : Nat) (f : Ent), l[k]? = some f → t ∈ f.c → p (i + k) = false) : (fil g p i l).r t = g.r t := by
  rw [fil_r (q := fun _ => false) (g' := g) h rfl]
  have none_ : ∀ (l : List Ent) (i : Nat) (g : Look), fil g (fun _ => false) i l = g := by
    intro l
    induction l with
    | nil => intro i g; rfl
    | cons y l ih => intro i g; exact ih (i + 1) g
  rw [none_]

/-- One more operation, behind all that change the row. -/
theorem fil_r_at {p q : Nat → Bool} {t : Nat} : ∀ {l : List Ent} {i j : Nat} {g g' : Look} {e : Ent}, l[j]? = some e → p (i + j) = true → q (i + j) = false → (∀ k, k ≠ j → p (i + k) = q (i + k)) → (∀ (k : Nat) (f : Ent), j < k → l[k]? = some f → t ∈ f.c → p (i + k) = false) →
    g.r t = g'.r t → (fil g p i l).r t = updR e.pl.eff t ((fil g' q i l).r t)
  | [], i, j, g, g', e, h, _, _, _, _, _ => by simp at h
  | x :: r, i, 0, g, g', e, h, hp, hq, hpq, hl, hg => by
    simp only [List.getElem?_cons_zero, Option.some.injEq] at h
    subst h
    simp only [Nat.add_zero] at hp hq
    simp only [fil, hp, hq]
    have hl' : ∀ (k : Nat) (f : Ent), r[k]? = some f → t ∈ f.c → p (i + 1 + k) = false := fun k f hk hf => by
      have := hl (k + 1) f (by omega) (by simpa using hk) hf
      rwa [show i + (k + 1) = i + 1 + k by omega] at this
    rw [fil_none r (i + 1) _ p t hl', fil_none r (i + 1) _ q t fun k f hk hf => ?_, plan_r, hg]
    have := hpq (k + 1) (by omega)
    rw [show i + (k + 1) = i + 1 + k by omega] at this
    rw [← this]
    exact hl' k f hk hf
  | x :: r, i, j + 1, g, g', e, h, hp, hq, hpq, hl, hg => by
    simp only [List.getElem?_cons_succ] at h
    simp only [fil]
    refine fil_r_at (j := j) h (by rwa [show i + 1 + j = i + (j + 1) by omega]) (by rwa [show i + 1 + j = i + (j + 1) by omega]) (fun k hk => ?_) (fun k f hk hf hfd => ?_) ?_
    · have := hpq (k + 1) (by omega)
      rwa [show i + (k + 1) = i + 1 + k by omega] at this
    · have := hl (k + 1) f (by omega) (by simpa using hf) hfd
      rwa [show i + (k + 1) = i + 1 + k by omega] at this
    · have := hpq 0 (by omega)
      simp only [Nat.add_zero] at this
      rw [this]
      cases q i
      · exact hg
      · simp only [plan_r, hg]

theorem fil_shift {p : Nat → Bool} : ∀ {l : List Ent} {i : Nat} {g : Look}, fil g p (i + 1) l = fil g (fun k => p (k + 1)) i l
  | [], _, _ => rfl
  | e :: r, i, g => by simp only [fil]; exact fil_shift

theorem fil_true : ∀ {l : List Ent} {i : Nat} {g : Look}, fil g (fun _ => true) i l = l.foldl (fun g e => g.plan e.pl) g
  | [], _, _ => rfl
  | e :: r, i, g => by simp only [fil, List.foldl_cons]; exact fil_true

/-- What the run in the text's order says of each operation. -/
structure At0 (C : Ctx) (N : Nat) (ops : Array Oper) (g : Look) (es : List Ent) (j : Nat) (o : Oper) (e : Ent) : Prop where
  get : es[j]? = some e
  step : ∃ b, b ∈ e.tb ∧ b ∈ e.tr ∧ StepP C N ops (fil g (fun k => decide (k < j)) 0 es).s (bkT e.tb (fil g (fun k => decide (k < j)) 0 es).h) (rkT o e.tr (fil g (fun k => decide (k < j)) 0 es).r) b o e.pl
  tmeq : e.tm = metaOp o
  looks : e.looks = o.looksAt ops
  deps : e.deps = (o.after.toList.filter (Region.binds .any)).map (·.on)

theorem regR_at {C : Ctx} {N : Nat} {ops : Array Oper} : ∀ {l : List Oper} {σ σ' : St} {es : List Ent}, RegR C N ops l σ es σ' →
    σ'.look = es.foldl (fun g e => g.plan e.pl) σ.look ∧ es.length = l.length ∧ (∀ (j : Nat) (o : Oper), l[j]? = some o → ∃ e, At0 C N ops σ.look es j o e)
  | [], σ, σ', es, h => by
    obtain ⟨rfl, rfl⟩ := h
    exact ⟨rfl, rfl, fun j o h => by simp at h⟩
  | o :: r, σ, σ', es, h => by
    obtain ⟨pl, es', hpl, hef, rfl, hr⟩ := h
    obtain ⟨h1, h2, h3⟩ := regR_at hr
    have e0 := look_step σ pl
    rw [e0] at h1 h3
    refine ⟨h1, by simp [h2], fun j o' hj => ?_⟩
    cases j with
    | zero =>
      simp only [List.getElem?_cons_zero, Option.some.injEq] at hj
      subst hj
      refine ⟨_, rfl, ⟨σ.next, by simp [entOf, tbOf], by simp [entOf, trOf], ?_⟩, rfl, rfl, rfl⟩
      have e00 : ∀ (l : List Ent) (i : Nat) (g : Look), fil g (fun k => decide (k < 0)) i l = g := by
        intro l
        induction l with
        | nil => intro i g; rfl
        | cons y l ih => intro i g; exact ih (i + 1) g
      rw [e00]
      exact hpl
    | succ j =>
      simp only [List.getElem?_cons_succ] at hj
      obtain ⟨e, a1, ⟨b, hb, hbr, a2⟩, am, a3, a4⟩ := h3 j o' hj
      refine ⟨e, by simpa using a1, ⟨b, hb, hbr, ?_⟩, am, a3, a4⟩
      have e1 : ∀ (x : Ent), x.pl = pl → fil σ.look (fun k => decide (k < j + 1)) 0 (x :: es') = fil (σ.look.plan pl) (fun k => decide (k < j)) 0 es' := by
        intro x hx
        have hf : (fun k => decide (k + 1 < j + 1)) = fun k => decide (k < j) := by funext k; simp
        simp only [fil]
        rw [fil_shift, hf, hx]
        rfl
      rw [e1 _ rfl]
      exact a2

section
variable {N : Nat} {E : Env} {a : Act}

theorem drew_mod {g : Look} (hm : Mod N E a g) (n : Nat) : Mod N { E with w := { E.w with drawn := n } } a g ∧ Keep E { E with w := { E.w with drawn := n } } := by
  have hx : Ext (fun _ => False) E { E with w := { E.w with drawn := n } } := ⟨rfl, rfl, rfl, fun _ h => h, fun _ _ _ => rfl, fun _ _ => rfl, fun _ h => h, fun _ _ => rfl, fun _ h => h⟩
  refine ⟨hm.move (Free.none E) hx ?_ hm.nodef hm.size (fun i s h => .inl ⟨h, rfl⟩) (fun i l h => .inl ⟨h, id⟩) (fun i r h => .inl ⟨h, fun _ _ => id⟩), hx.keep hm.glob (Free.none E)⟩
  obtain ⟨⟨b1, b2, b3, b4, b5⟩, h2, h3, h4, h5, h6, h7, h8, h9, h10⟩ := hm.glob
  exact ⟨⟨b1, b2, b3, b4, b5⟩, h2, h3, h4, h5, h6, h7, h8, h9, h10⟩

theorem step_any {C : Ctx} (hC : C.ok) {ops : Array Oper} {g0 : Look} {es : List Ent} (hk : Chk es) {L : Nat → Bool} (hL : ∀ (k : Nat) (e : Ent), es[k]? = some e → L k = true → ∀ d ∈ e.deps, L d = true)
    {j : Nat} {o : Oper} {e : Ent} (h0 : At0 C N ops g0 es j o e) (hj : L j = false) (hd : ∀ d ∈ e.deps, L d = true) (hP : E.P = C.P) (hm : Mod N E a (fil g0 L 0 es)) {K : Act → World → Prop} {Q : Exit → Act → World → Prop} {X : Prop}
    (hK : ∀ E' a', Same E E' → Keep E E' → Mod N E' a' (fil g0 (fun k => L k || k == j) 0 es) → K a' E'.w) :
    if Region.wanted o (yielded ops a.tmps) then o.wp C.P a E.w K Q ∨ X else K (a.put o.dst undef) E.w := by
  obtain ⟨hget, ⟨b, hb, hbr, hst⟩, hmeta, hlk, hdp⟩ := h0
  -- the writers that count are those ahead in the text
  have before : ∀ (k : Nat) (f : Ent), es[k]? = some f → k ≠ j → (indep f e = true → False) → k < j → L k = true := fun k f hf hne hi hlt =>
    hd k ((hk.pair k j f e hlt hf hget).resolve_left fun h => hi h)
  have after : ∀ (k : Nat) (f : Ent), es[k]? = some f → (indep e f = true → False) → j < k → L k = false := fun k f hf hi hlt => by
    have hdep := (hk.pair j k e f hlt hget hf).resolve_left fun h => hi h
    cases hLk : L k with
    | false => rfl
    | true =>
      have := hL k f hf hLk j hdep
      rw [hj] at this
      cases this
  have slotsEq : ∀ t ∈ e.looks, (fil g0 L 0 es).s t = (fil g0 (fun k => decide (k < j)) 0 es).s t := fun t ht => by
    refine fil_s (fun k f hf hfd => ?_) rfl
    rw [Nat.zero_add]
    rcases Nat.lt_trichotomy k j with h | h | h
    · rw [before k f hf (by omega) (fun hi => by
        simp only [indep, Bool.and_eq_true] at hi
        exact offO_spec hi.1.1.1.1.1.1 hfd ht) h]
      simp [h]
    · subst h
      simp [hj]
    · rw [after k f hf (fun hi => by
        simp only [indep, Bool.and_eq_true] at hi
        exact offO_spec hi.1.1.1.1.2 hfd ht) h]
      simp; omega
  have blksEq : ∀ t ∈ e.tb, (fil g0 L 0 es).h t = (fil g0 (fun k => decide (k < j)) 0 es).h t := fun t ht => by
    refine fil_h (fun k f hf hfd => ?_) rfl
    rw [Nat.zero_add]
    rcases Nat.lt_trichotomy k j with h | h | h
    · rw [before k f hf (by omega) (fun hi => by
        simp only [indep, Bool.and_eq_true] at hi
        exact offO_spec hi.1.1.1.2 hfd ht) h]
      simp [h]
    · subst h
      simp [hj]
    · rw [after k f hf (fun hi => by
        simp only [indep, Bool.and_eq_true] at hi
        exact offO_spec hi.1.1.2 hfd ht) h]
      simp; omega
  have soft : ∀ (f g : Ent), (disj f.c g.tr || (g.tm && !f.hard)) = true → ∀ t, t ∈ f.c → t ∈ g.tr → g.tm = true ∧ f.hard = false := fun f g h t h1 h2 => by
    simp only [Bool.or_eq_true, Bool.and_eq_true, Bool.not_eq_true'] at h
    rcases h with h | h
    · exact absurd h2 (disj_spec h h1)
    · exact h
  have pick : ∀ t ∈ e.tr, ∀ (k : Nat) (f : Ent), es[k]? = some f → t ∈ f.c → k ≠ j → (e.tm = false ∨ f.hard = true) → L k = decide (k < j) := fun t ht k f hf hfd hne ho => by
    have no : ∀ {q : Prop}, e.tm = true ∧ f.hard = false → q := fun hq => by
      rcases ho with ho | ho
      · rw [ho] at hq; cases hq.1
      · rw [ho] at hq; cases hq.2
    rcases Nat.lt_trichotomy k j with h | h | h
    · rw [before k f hf (by omega) (fun hi => by
        simp only [indep, Bool.and_eq_true] at hi
        exact no (soft f e hi.1.2 t hfd ht)) h]
      simp [h]
    · exact absurd h hne
    · rw [after k f hf (fun hi => by
        simp only [indep, Bool.and_eq_true] at hi
        exact no (soft f e hi.2 t hfd ht)) h]
      simp; omega
  have pick' : ∀ t ∈ e.tr, ∀ (k : Nat) (f : Ent), es[k]? = some f → t ∈ f.c → (e.tm = false ∨ f.hard = true) → L k = decide (k < j) := fun t ht k f hf hfd ho => by
    by_cases hne : k = j
    · subst hne
      simp [hj]
    · exact pick t ht k f hf hfd hne ho
  have blankEq : ∀ t ∈ e.tr, blank ((fil g0 L 0 es).r t) = blank ((fil g0 (fun k => decide (k < j)) 0 es).r t) := fun t ht => by
    refine fil_blank (fun k f hf hfd hh => ?_) rfl
    rw [Nat.zero_add]
    exact pick' t ht k f hf hfd (.inr hh)
  have rowsEq : ∀ t ∈ e.tr, e.tm = false → (fil g0 L 0 es).r t = (fil g0 (fun k => decide (k < j)) 0 es).r t := fun t ht htm => by
    refine fil_r (fun k f hf hfd => ?_) rfl
    rw [Nat.zero_add]
    exact pick' t ht k f hf hfd (.inl htm)
  refine step_ok (K := K) (Q := Q) (X := X) hC hP hst hm (fun t ht => slotsEq t (by rw [hlk]; exact ht)) (fun i l hi => ?_) (fun hn => ?_) (fun hmo i r hi => ?_) (fun i ri hi => ?_) (fun hi => ?_) fun E' a' hs hkp hm' => hK E' a' hs hkp ?_
  · obtain ⟨h1, h2⟩ := bkT_sub hi
    rw [blksEq i h1]
    exact h2
  · rw [blksEq b hb]
    exact bkT_none hb hn
  · obtain ⟨h1, h2⟩ := rkT_sub hmo hi
    rw [rowsEq i h1 (by rw [hmeta]; exact hmo)]
    exact h2
  · obtain ⟨h1, rj, h2, h3, h4, h5⟩ := rkT_meta hi
    have hbl := blankEq i h1
    rw [h2] at hbl
    obtain ⟨rk, g1, g2, g3, g4⟩ := blank_some (ri := ⟨rj.t, rj.e, rj.n, []⟩) hbl
    exact ⟨rk, g1, g3.trans h4, g4.trans h5⟩
  · have h1 := rkT_none hbr hi
    have hbl := blankEq b hbr
    rw [h1] at hbl
    have : ∀ x : Option (Option RowI), blank x = none → x = none := fun x hx => by
      unfold blank at hx
      split at hx
      · cases hx
      · exact hx
    exact this _ hbl
  · have hg : (fil g0 L 0 es).plan e.pl = fil g0 (fun k => L k || k == j) 0 es := by
      have es_s : ((fil g0 L 0 es).plan e.pl).s = (fil g0 (fun k => L k || k == j) 0 es).s := by
        funext t
        by_cases ht : e.d = some t
        · symm
          refine fil_s_at (j := j) hget (by simp) ht (fun k f hlt hf hfd => ?_) _
          rw [Nat.zero_add, after k f hf (fun hi => by
            simp only [indep, Bool.and_eq_true] at hi
            exact neO_spec hi.1.1.1.1.1.2 ht hfd) hlt]
          simp; omega
        · rw [plan_s_off _ e t ht]
          refine fil_s (fun k f hf hfd => ?_) rfl
          rw [Nat.zero_add]
          have hkj : k ≠ j := fun h => by subst h; rw [hget] at hf; injection hf with hf; subst hf; exact ht hfd
          simp [hkj]
      have es_h : ((fil g0 L 0 es).plan e.pl).h = (fil g0 (fun k => L k || k == j) 0 es).h := by
        funext t
        by_cases ht : e.w = some t
        · symm
          refine fil_h_at (j := j) hget (by simp) ht (fun k f hlt hf hfd => ?_) _
          rw [Nat.zero_add, after k f hf (fun hi => by
            simp only [indep, Bool.and_eq_true] at hi
            exact offO_spec hi.1.1.2 hfd (hk.own j e t hget ht)) hlt]
          simp; omega
        · rw [plan_h_off _ e t ht]
          refine fil_h (fun k f hf hfd => ?_) rfl
          rw [Nat.zero_add]
          have hkj : k ≠ j := fun h => by subst h; rw [hget] at hf; injection hf with hf; subst hf; exact ht hfd
          simp [hkj]
      have es_r : ((fil g0 L 0 es).plan e.pl).r = (fil g0 (fun k => L k || k == j) 0 es).r := by
        funext t
        by_cases ht : t ∈ e.c
        · symm
          rw [plan_r]
          obtain ⟨o1, o2⟩ := hk.ownc j e t hget ht
          refine fil_r_at (j := j) hget (by simp) (by rw [Nat.zero_add]; exact hj) (fun k hkj => by simp [hkj]) (fun k f hlt hf hfd => ?_) rfl
          have := pick t o1 k f hf hfd (by omega) (.inl o2)
          rw [Nat.zero_add, this]
          simp; omega
        · rw [plan_r_off _ e t ht]
          refine fil_r (fun k f hf hfd => ?_) rfl
          rw [Nat.zero_add]
          have hkj : k ≠ j := fun h => by subst h; rw [hget] at hf; injection hf with hf; subst hf; exact ht hfd
          simp [hkj]
      have mk : ∀ x y : Look, x.s = y.s → x.h = y.h → x.r = y.r → x = y := by
        intro x y h1 h2 h3
        cases x; cases y
        simp only at h1 h2 h3
        subst h1; subst h2; subst h3
        rfl
      exact mk _ _ es_s es_h es_r
    rw [hg] at hm'
    exact hm'

theorem count_set {l : List Bool} {j : Nat} (h : l[j]? = some false) : (l.set j true).count false + 1 = l.count false := by
  induction l generalizing j with
  | nil => simp at h
  | cons b l ih =>
    cases j with
    | zero => simp only [List.getElem?_cons_zero, Option.some.injEq] at h; subst h; simp
    | succ j =>
      simp only [List.getElem?_cons_succ] at h
      have := ih h
      simp only [List.set_cons_succ, List.count_cons]
      omega

theorem any_ok {C : Ctx} (hC : C.ok) {ops : Array Oper} {g0 : Look} {es : List Ent} (hk : Chk es) (hlen : es.length = ops.size) (hat : ∀ (j : Nat) (o : Oper), ops[j]? = some o → ∃ e, At0 C N ops g0 es j o e)
    {Q : Exit → Act → World → Prop} {E0 : Env} (hQ : ∀ E' a', Same E0 E' → Keep E0 E' → Mod N E' a' (fil g0 (fun _ => true) 0 es) → Q .normal a' E'.w) (hP0 : E0.P = C.P) :
    ∀ (fuel : Nat) (listed : Array Bool) (a : Act) (E : Env), listed.size = ops.size → listed.toList.count false ≤ fuel → (∀ (k : Nat) (e : Ent), es[k]? = some e → listed.getD k false = true → ∀ d ∈ e.deps, listed.getD d false = true) → Same E0 E → Keep E0 E →
      Mod N E a (fil g0 (fun k => listed.getD k false) 0 es) → wpAny C.P .any ops Q fuel listed a E.w := by
  -- where nothing is ready all are listed
  have all : ∀ (listed : Array Bool), listed.size = ops.size → Region.ready .any ops listed = [] → ∀ j, j < ops.size → listed.getD j false = true := by
    intro listed hsz hr j
    induction j using Nat.strongRecOn with
    | _ j ih =>
      intro hj
      cases hl : listed.getD j false with
      | true => rfl
      | false =>
        exfalso
        have hoj : ops[j]? = some ops[j] := Array.getElem?_eq_getElem hj
        obtain ⟨e, a1, _, _, _, a4⟩ := hat j _ hoj
        have : j ∈ Region.ready .any ops listed := by
          refine mem_ready.2 ⟨?_, ops[j], hoj, fun ed hed hb => ?_⟩
          · have hj' : j < listed.size := by omega
            simp only [Array.getD_eq_getD_getElem?, Array.getElem?_eq_getElem hj', Option.getD_some] at hl ⊢
            exact hl
          · have hlt := hk.lt j e a1 ed.on (by rw [a4]; exact List.mem_map.2 ⟨ed, List.mem_filter.2 ⟨Array.mem_toList_iff.2 hed, hb⟩, rfl⟩)
            exact ih ed.on hlt (by omega)
        rw [hr] at this
        cases this
  have fin : ∀ (listed : Array Bool) (a : Act) (E : Env), listed.size = ops.size → Region.ready .any ops listed = [] → Same E0 E → Keep E0 E → Mod N E a (fil g0 (fun k => listed.getD k false) 0 es) → Q .normal a E.w := by
    intro listed a E hsz hr hs hkp hm
    refine hQ E a hs hkp ?_
    have hl := all listed hsz hr
    have hT : ∀ (k : Nat) (e : Ent), es[k]? = some e → listed.getD k false = true := fun k e hke => hl k (by
      have := (List.getElem?_eq_some_iff.1 hke).1
      omega)
    have : fil g0 (fun k => listed.getD k false) 0 es = fil g0 (fun _ => true) 0 es := by
      have mk : ∀ x y : Look, x.s = y.s → x.h = y.h → x.r = y.r → x = y := by
        intro x y h1 h2 h3
        cases x; cases y
        simp only at h1 h2 h3
        subst h1; subst h2; subst h3
        rfl
      refine mk _ _ (funext fun t => fil_s (fun k e hke _ => by rw [Nat.zero_add]; exact hT k e hke) rfl) (funext fun t => fil_h (fun k e hke _ => by rw [Nat.zero_add]; exact hT k e hke) rfl) ?_
      exact funext fun t => fil_r (fun k e hke _ => by rw [Nat.zero_add]; exact hT k e hke) rfl
    rw [this] at hm
    exact hm
  intro fuel
  induction fuel with
  | zero =>
    intro listed a E hsz hc hdn hs hkp hm
    have hr : Region.ready .any ops listed = [] := by
      rw [List.eq_nil_iff_forall_not_mem]
      intro j hj
      obtain ⟨h0, o, ho, _⟩ := mem_ready.1 hj
      have hlt : j < listed.size := by
        rcases Nat.lt_or_ge j listed.size with h | h
        · exact h
        · simp [Array.getD_eq_getD_getElem?, Array.getElem?_eq_none h] at h0
      have : false ∈ listed.toList := by
        rw [List.mem_iff_getElem?]
        refine ⟨j, ?_⟩
        simp only [Array.getD_eq_getD_getElem?, Array.getElem?_eq_getElem hlt, Option.getD_some] at h0
        simp [hlt, h0]
      have := List.count_pos_iff.2 this
      omega
    exact ⟨hr, fin listed a E hsz hr hs hkp hm⟩
  | succ fuel ih =>
    intro listed a E hsz hc hdn hs hkp hm
    refine ⟨fun hr => fin listed a E hsz hr hs hkp hm, fun j hj => ?_⟩
    obtain ⟨h0, o, ho, hall⟩ := mem_ready.1 hj
    have hlt : j < listed.size := by
      rcases Nat.lt_or_ge j listed.size with h | h
      · exact h
      · simp [Array.getD_eq_getD_getElem?, Array.getElem?_eq_none h] at h0
    have h0' : listed.getD j false = false := by
      simp only [Array.getD_eq_getD_getElem?, Array.getElem?_eq_getElem hlt, Option.getD_some] at h0 ⊢
      exact h0
    obtain ⟨e, he⟩ := hat j o ho
    have hd : ∀ d ∈ e.deps, listed.getD d false = true := fun d hdm => by
      rw [he.deps] at hdm
      obtain ⟨ed, h1, rfl⟩ := List.mem_map.1 hdm
      obtain ⟨h2, h3⟩ := List.mem_filter.1 h1
      exact hall ed (Array.mem_toList_iff.1 h2) h3
    have key := step_any (K := wpAny C.P .any ops Q fuel (listed.setIfInBounds j true)) (Q := Q) (X := o.asks C.P a E.w ∧ LetsOut Q) hC hk (L := fun k => listed.getD k false) hdn he h0' hd (hs.P.trans hP0) hm fun E' a' hs' hkp' hm' => by
      have hf : (fun k => listed.getD k false || k == j) = fun k => (listed.setIfInBounds j true).getD k false := by
        funext k
        by_cases hkj : k = j
        · subst hkj
          simp [Array.getD_eq_getD_getElem?, hlt]
        · simp [Array.getD_eq_getD_getElem?, hkj, Array.getElem?_setIfInBounds_ne (Ne.symm hkj)]
      rw [hf] at hm'
      refine ih (listed.setIfInBounds j true) a' E' (by simpa using hsz) ?_ ?_ (hs.trans hs') (hkp.trans hkp') hm'
      · have hl : listed.toList[j]? = some false := by
          simp only [Array.getD_eq_getD_getElem?, Array.getElem?_eq_getElem hlt, Option.getD_some] at h0
          simp [hlt, h0]
        have := count_set hl
        rw [Array.toList_setIfInBounds]
        omega
      · intro k f hkf hlk d hdf
        have hlk' : (listed.getD k false || k == j) = true := by rw [← hlk]; exact congrFun hf k
        have goal : (listed.getD d false || d == j) = true := by
          by_cases hkj : k = j
          · subst hkj
            rw [he.get] at hkf
            injection hkf with hkf
            subst hkf
            rw [hd d hdf]
            rfl
          · have : listed.getD k false = true := by
              have hne : (k == j) = false := by simpa using hkj
              rwa [hne, Bool.or_false] at hlk'
            rw [hdn k f hkf this d hdf]
            rfl
        exact (congrFun hf d).symm.trans goal
    unfold wpOp
    simp only [ho]
    exact key

theorem draw_ok {C : Ctx} (hC : C.ok) (hmix : C.P.follows .mixedOrders = true) {id : Nat} {ops : Array Oper} {Q : Exit → Act → World → Prop} {σ σ' : St} {es : List Ent} (h : RegR C N ops ops.toList σ es σ') (hc : chkAll 0 es = true)
    (hP : E.P = C.P) (hm : Mod N E a σ.look) (hQ : ∀ E' a', Same E E' → Keep E E' → Mod N E' a' σ'.look → Q .normal a' E'.w) : (Code.region id ops true).wp C.P Q a E.w := by
  obtain ⟨h1, h2, h3⟩ := regR_at h
  have hk := chk_of hc
  refine wp_region_any hmix ?_
  obtain ⟨hm', hk0⟩ := drew_mod hm (E.w.drawn + 1)
  have hno : ∀ k, (Array.replicate ops.size false).getD k false = false := fun k => by
    simp only [Array.getD_eq_getD_getElem?, Array.getElem?_replicate]
    split <;> rfl
  have hf : (fun k => (Array.replicate ops.size false).getD k false) = fun _ => false := funext hno
  have none_ : ∀ (l : List Ent) (i : Nat) (g : Look), fil g (fun _ => false) i l = g := by
    intro l
    induction l with
    | nil => intro i g; rfl
    | cons y l ih => intro i g; exact ih (i + 1) g
  refine any_ok (E0 := E) hC hk (by simpa using h2) (fun j o ho => h3 j o (by simpa using ho)) (fun E' a' hs hkp hm'' => hQ E' a' hs hkp ?_) hP ops.size _ a { E with w := { E.w with drawn := E.w.drawn + 1 } } (by simp) (by simp) (fun k e _ hl => by rw [hno] at hl; cases hl) rfl hk0 ?_
  · rw [fil_true, ← h1] at hm''
    exact hm''
  · rw [hf, none_]
    exact hm'

end
end
end Dn
end Go.Proofs.Ytghjblbkbelcfaa

namespace Go.Proofs.Ytghjblbkbelcfaa
namespace Dn
noncomputable section
open Go.RowKit

/-! ### Patterns -/

/-- A part of a value: a datum of a shape, or a row of the call's own. -/
inductive Pat where
  | d (s : Sh)
  | row (t : TypeId) (e : Sh)

abbrev Pat.T : Pat → Type
  | .d s => s.T
  | .row _ e => List e.T

abbrev TsPr : List Pat → Type → Type
  | [], X => X
  | p :: r, X => p.T × TsPr r X

def restP : (ps : List Pat) → {X : Type} → TsPr ps X → X
  | [], _, x => x
  | _ :: r, _, x => restP r x.2

def cellsP : (ps : List Pat) → {X : Type} → TsPr ps X → Nat → List At
  | [], _, _, _ => []
  | .d s :: r, _, x, k => Sh.cells s x.1 ++ cellsP r x.2 k
  | .row _ _ :: r, _, x, k => .row k :: cellsP r x.2 (k + 1)

def rowsP : (ps : List Pat) → {X : Type} → TsPr ps X → Nat → List (Nat × RowI)
  | [], _, _, _ => []
  | .d _ :: r, _, x, k => rowsP r x.2 k
  | .row t e :: r, _, x, k => (k, ⟨t, e, x.1.length, x.1⟩) :: rowsP r x.2 (k + 1)

def cntP : List Pat → Nat
  | [] => 0
  | .d _ :: r => cntP r
  | .row _ _ :: r => cntP r + 1

/-- The elements of a row of the call's own, of a type and a shape; nil has none. -/
def rowOf (rk : Rk) (t : TypeId) (e : Sh) : At → Option (List e.T)
  | .row q => match rk q with
    | some (some ri) => match Nat.beq ri.t t, Sh.eq? ri.e e with
      | true, some ⟨h⟩ => some (h ▸ ri.l)
      | _, _ => none
    | _ => none
  | .v (.slice none 0 0) => some []
  | _ => none
def srcA : At → Option Nat
  | .row q => some q
  | _ => none

def readP (rk : Rk) : (ps : List Pat) → List At → {X : Type} → X → Option (TsPr ps X)
  | [], [], _, y => some y
  | [], _ :: _, _, _ => none
  | .d s :: r, l, _, y => match s.take l with
    | some (x, l') => match readP rk r l' y with
      | some z => some (x, z)
      | none => none
    | none => none
  | .row t e :: r, a :: l, _, y => match rowOf rk t e a, readP rk r l y with
    | some x, some z => some (x, z)
    | _, _ => none
  | .row _ _ :: _, [], _, _ => none

/-- The rows that the pattern's rows are. -/
def srcP : List Pat → List At → List (Option Nat)
  | [], _ => []
  | .d s :: r, l => srcP r (l.drop s.size)
  | .row _ _ :: r, a :: l => srcA a :: srcP r l
  | .row _ _ :: r, [] => srcP r []

inductive Plc where
  | slot (i : Nat) (ag : Bool)
  | blk (b : Nat)
  | row (q : Nat)

/-- How many new rows a place has; the row itself, where its elements alone are told. -/
def cntE : Plc → List Pat → Nat
  | .row _, _ => 0
  | _, ps => cntP ps
def rowsE : Plc → (ps : List Pat) → {X : Type} → TsPr ps X → Nat → List (Nat × RowI)
  | .row q, .row t e :: _, _, x, _ => [(q, ⟨t, e, x.1.length, x.1⟩)]
  | .row _, _, _, _, _ => []
  | .slot _ _, ps, _, x, k => rowsP ps x k
  | .blk _, ps, _, x, k => rowsP ps x k
def rowsOf : List (Plc × List Pat) → List Nat
  | [] => []
  | (.row q, _) :: r => q :: rowsOf r
  | (.slot _ _, _) :: r => rowsOf r
  | (.blk _, _) :: r => rowsOf r

abbrev TsR : List (Plc × List Pat) → Type
  | [] => Unit
  | p :: r => TsPr p.2 (TsR r)

def instS : (rh : List (Plc × List Pat)) → TsR rh → Nat → List (Nat × Option SlotV)
  | [], _, _ => []
  | (.slot i ag, ps) :: r, x, k => (i, some ⟨none, .c ag (cellsP ps x k)⟩) :: instS r (restP ps x) (k + cntP ps)
  | (.blk _, ps) :: r, x, k => instS r (restP ps x) (k + cntP ps)
  | (.row _, ps) :: r, x, k => instS r (restP ps x) k
def instB : (rh : List (Plc × List Pat)) → TsR rh → Nat → List (Nat × List At)
  | [], _, _ => []
  | (.slot _ _, ps) :: r, x, k => instB r (restP ps x) (k + cntP ps)
  | (.blk b, ps) :: r, x, k => (b, cellsP ps x k) :: instB r (restP ps x) (k + cntP ps)
  | (.row _, ps) :: r, x, k => instB r (restP ps x) k
def instR : (rh : List (Plc × List Pat)) → TsR rh → Nat → List (Nat × RowI)
  | [], _, _ => []
  | (p, ps) :: r, x, k => rowsE p ps x k ++ instR r (restP ps x) (k + cntE p ps)
def cntR : List (Plc × List Pat) → Nat
  | [] => 0
  | (p, ps) :: r => cntE p ps + cntR r

def cellsAt (σ : St) : Plc → Option (List At)
  | .slot i ag => match lookS σ.s i with
    | some ⟨none, .c ag' l⟩ => match ag == ag' with
      | true => some l
      | false => none
    | _ => none
  | .blk b => look σ.h b
  | .row q => some [.row q]

def readR (σ : St) : (rh : List (Plc × List Pat)) → Option (TsR rh)
  | [] => some ()
  | (p, ps) :: r => match cellsAt σ p, readR σ r with
    | some l, some y => readP (look σ.r) ps l y
    | _, _ => none
def srcR (σ : St) : List (Plc × List Pat) → List (Option Nat)
  | [] => []
  | (.row _, _) :: r => srcR σ r
  | (.slot i ag, ps) :: r => match cellsAt σ (.slot i ag) with
    | some l => srcP ps l ++ srcR σ r
    | none => srcR σ r
  | (.blk b, ps) :: r => match cellsAt σ (.blk b) with
    | some l => srcP ps l ++ srcR σ r
    | none => srcR σ r

/-- The patterns of a place in the code: slots, and blocks by the slots that hold their addresses. -/
structure Hd where
  sl : List (Nat × Bool × List Pat)
  bk : List (Nat × List Pat) := []
  rw : List (Nat × Option Nat × TypeId × Sh) := []

def plcS : List (Nat × Bool × List Pat) → List (Plc × List Pat)
  | [] => []
  | p :: r => (.slot p.1 p.2.1, p.2.2) :: plcS r
def plcB (σ : St) : List (Nat × List Pat) → Option (List (Plc × List Pat))
  | [] => some []
  | p :: r => match lookS σ.s p.1, plcB σ r with
    | some ⟨none, .c false [.ptr b 0]⟩, some l => some ((.blk b, p.2) :: l)
    | _, _ => none
/-- Rows whose elements change in place: by the slots that hold them, or the cells of blocks. -/
def plcW (σ : St) : List (Nat × Option Nat × TypeId × Sh) → Option (List (Plc × List Pat))
  | [] => some []
  | (i, none, t, e) :: r => match lookS σ.s i, plcW σ r with
    | some ⟨none, .c false [.row q]⟩, some l => some ((.row q, [.row t e]) :: l)
    | _, _ => none
  | (i, some o, t, e) :: r => match lookS σ.s i, plcW σ r with
    | some ⟨none, .c false [.ptr b 0]⟩, some l => match look σ.h b with
      | some cs => match cs[o]? with
        | some (.row q) => some ((.row q, [.row t e]) :: l)
        | _ => none
      | none => none
    | _, _ => none
def Hd.at (hd : Hd) (σ : St) : Option (List (Plc × List Pat)) := match plcB σ hd.bk, plcW σ hd.rw with
  | some l, some m => some (plcS hd.sl ++ (l ++ m))
  | _, _ => none

def somes : List (Option Nat) → List Nat
  | [] => []
  | some q :: r => q :: somes r
  | none :: r => somes r
def slotsOf : List (Plc × List Pat) → List Nat
  | [] => []
  | (.slot i _, _) :: r => i :: slotsOf r
  | (.blk _, _) :: r => slotsOf r
  | (.row _, _) :: r => slotsOf r
def blksOf : List (Plc × List Pat) → List Nat
  | [] => []
  | (.slot _ _, _) :: r => blksOf r
  | (.blk b, _) :: r => b :: blksOf r
  | (.row _, _) :: r => blksOf r

def dropK {α : Type} (W : List Nat) : List (Nat × α) → List (Nat × α)
  | [] => []
  | p :: r => match memN p.1 W with
    | true => dropK W r
    | false => p :: dropK W r
def keysBut {α : Type} (W : List Nat) : List (Nat × α) → List Nat
  | [] => []
  | p :: r => match memN p.1 W with
    | true => keysBut W r
    | false => p.1 :: keysBut W r
def lift {α : Type} : List (Nat × α) → List (Nat × Option α)
  | [] => []
  | p :: r => (p.1, some p.2) :: lift r
def kills {α : Type} : List Nat → List (Nat × Option α)
  | [] => []
  | q :: r => (q, none) :: kills r

/-- The state that a place begins with: 'W': slots that may have been written; 'srcs': the rows that its rows were at first. -/
def head (rh : List (Plc × List Pat)) (W : List Nat) (srcs : List Nat) (σ : St) (x : TsR rh) : St :=
  { s := instS rh x σ.next ++ dropK W σ.s, h := instB rh x σ.next ++ σ.h, r := lift (instR rh x σ.next) ++ (kills srcs ++ σ.r), next := σ.next + cntR rh,
    ro := keysBut (blksOf rh) σ.h ++ σ.ro, roR := keysBut (rowsOf rh ++ srcs) σ.r ++ σ.roR }

/-! ### What is asked of a place -/

def nodupN : List Nat → Bool
  | [] => true
  | q :: r => !memN q r && nodupN r
def freshN {α : Type} (l : List (Nat × α)) (k : Nat) : Nat → Bool
  | 0 => true
  | n + 1 => (match look l k with
    | none => freshN l (k + 1) n
    | some _ => false)
def hasK {α : Type} (i : Nat) : List (Nat × α) → Bool
  | [] => false
  | p :: r => Nat.beq p.1 i || hasK i r
def allIn {α : Type} (l : List (Nat × α)) : List Nat → Bool
  | [] => true
  | i :: r => hasK i l && allIn l r
def okSlots (σ : St) : List (Nat × Option SlotV) → Bool
  | [] => true
  | (_, none) :: r => okSlots σ r
  | (_, some s) :: r => allIn σ.h (idsS s.s) && allIn σ.r (ridsS s.s) && okSlots σ r
def okBlks (σ : St) : List (Nat × List At) → Bool
  | [] => true
  | p :: r => allIn σ.h (idsL p.2) && allIn σ.r (ridsL p.2) && okBlks σ r
/-- What is kept names only what there is; the new rows' numbers are new; nothing is changed that may not be. -/
def placeOk (rh : List (Plc × List Pat)) (W : List Nat) (srcs : List Nat) (σ : St) : Bool :=
  okSlots σ (dropK W σ.s) && okBlks σ σ.h && freshN σ.r σ.next (cntR rh) && offL σ.ro (blksOf rh) && offL σ.roR srcs && nodupN (blksOf rh) && (offL σ.roR (rowsOf rh) && nodupN (rowsOf rh) && allIn σ.r (rowsOf rh) && offL (rowsOf rh) srcs)
/-- A state that has come to a place has the place's data, with rows of its own. -/
def readOk (rh : List (Plc × List Pat)) (roR : List Nat) (σ' : St) : Bool := nodupN (somes (srcR σ' rh)) && offL roR (somes (srcR σ' rh)) && offL (rowsOf rh) (somes (srcR σ' rh))

def readAt (rh : List (Plc × List Pat)) (roR : List Nat) (σ' : St) : Option (TsR rh) := match readOk rh roR σ' with
  | true => readR σ' rh
  | false => none

/-! ### Soundness -/

section
variable {N : Nat} {E : Env} {a : Act}

theorem hasK_look {α : Type} {i : Nat} : ∀ {l : List (Nat × α)}, hasK i l = true → (look l i).isSome = true
  | p :: r, h => by
    simp only [hasK, Bool.or_eq_true] at h
    rw [look_cons]
    by_cases hp : i = p.1
    · rw [if_pos hp]; rfl
    · rw [if_neg hp]
      refine hasK_look (h.resolve_left fun h' => hp ?_)
      have : p.1 = i := by simpa using h'
      exact this.symm
theorem allIn_look {α : Type} {l : List (Nat × α)} : ∀ {r : List Nat}, allIn l r = true → ∀ i ∈ r, (look l i).isSome = true
  | j :: r, h, i, hi => by
    simp only [allIn, Bool.and_eq_true] at h
    rcases List.mem_cons.1 hi with rfl | hi
    · exact hasK_look h.1
    · exact allIn_look h.2 i hi
theorem look_mem {α : Type} {i : Nat} : ∀ {l : List (Nat × α)} {x : α}, look l i = some x → (i, x) ∈ l
  | p :: r, x, h => by
    rw [look_cons] at h
    split at h
    · rename_i e
      injection h with h
      rw [e, ← h]
      simp
    · exact List.mem_cons_of_mem _ (look_mem h)
theorem look_append {α : Type} {i : Nat} : ∀ {l m : List (Nat × α)}, look (l ++ m) i = match look l i with | some x => some x | none => look m i
  | [], m => rfl
  | p :: r, m => by
    rw [List.cons_append, look_cons, look_cons]
    split
    · rfl
    · exact look_append
theorem look_dropK {α : Type} {W : List Nat} {i : Nat} : ∀ {l : List (Nat × α)} {x : α}, look (dropK W l) i = some x → look l i = some x ∧ i ∉ W
  | [], x, h => by simp [dropK, look] at h
  | p :: r, x, h => by
    simp only [dropK] at h
    split at h
    · rename_i hm
      obtain ⟨h1, h2⟩ := look_dropK h
      refine ⟨?_, h2⟩
      rw [look_cons, if_neg (fun e => h2 (by rw [e]; exact memN_iff.1 hm))]
      exact h1
    · rename_i hm
      rw [look_cons] at h ⊢
      split at h
      · rename_i e
        exact ⟨by rw [if_pos e]; exact h, fun hw => by rw [e, ← memN_iff, hm] at hw; cases hw⟩
      · rename_i e
        rw [if_neg e]
        exact look_dropK h
theorem look_off_dropK {α : Type} {W : List Nat} {i : Nat} (hi : i ∉ W) : ∀ {l : List (Nat × α)}, look (dropK W l) i = look l i
  | [] => rfl
  | p :: r => by
    simp only [dropK]
    split
    · rename_i hm
      rw [look_cons, if_neg (fun e => hi (by rw [e]; exact memN_iff.1 hm))]
      exact look_off_dropK hi
    · rw [look_cons, look_cons, look_off_dropK hi]
theorem keysBut_mem {α : Type} {W : List Nat} {i : Nat} : ∀ {l : List (Nat × α)}, i ∉ W → (look l i).isSome = true → i ∈ keysBut W l
  | [], _, h => by cases h
  | p :: r, hw, h => by
    rw [look_cons] at h
    simp only [keysBut]
    split at h
    · rename_i e
      subst e
      split
      · rename_i hm; exact absurd (memN_iff.1 hm) hw
      · simp
    · split
      · exact keysBut_mem hw h
      · exact List.mem_cons_of_mem _ (keysBut_mem hw h)
theorem look_lift {α : Type} {i : Nat} : ∀ {l : List (Nat × α)}, look (lift l) i = match look l i with | some x => some (some x) | none => none
  | [] => rfl
  | p :: r => by
    simp only [lift]
    rw [look_cons, look_cons]
    split
    · rfl
    · exact look_lift
theorem look_kills {α : Type} {i : Nat} : ∀ {l : List Nat}, look (kills l : List (Nat × Option α)) i = if i ∈ l then some none else none
  | [] => rfl
  | q :: r => by
    simp only [kills]
    rw [look_cons, look_kills]
    by_cases h : i = q
    · simp [h]
    · simp [h]
theorem freshN_spec {α : Type} {l : List (Nat × α)} : ∀ {n k : Nat}, freshN l k n = true → ∀ j, k ≤ j → j < k + n → look l j = none
  | 0, k, _, j, h1, h2 => by omega
  | n + 1, k, h, j, h1, h2 => by
    simp only [freshN] at h
    split at h
    · rename_i hk
      by_cases e : j = k
      · rw [e]; exact hk
      · exact freshN_spec h j (by omega) (by omega)
    · cases h
theorem nodupN_spec : ∀ {l : List Nat}, nodupN l = true → l.Nodup
  | [], _ => List.nodup_nil
  | q :: r, h => by
    simp only [nodupN, Bool.and_eq_true] at h
    exact List.nodup_cons.2 ⟨notMem h.1, nodupN_spec h.2⟩

/-! rows of patterns: numbers and sources -/

theorem rowsP_keys : ∀ {ps : List Pat} {X : Type} {x : TsPr ps X} {k i : Nat} {ri : RowI}, look (rowsP ps x k) i = some ri → k ≤ i ∧ i < k + cntP ps
  | [], _, _, _, _, _, h => by simp [rowsP, look] at h
  | .d _ :: r, _, x, k, i, ri, h => by
    simp only [rowsP, cntP] at h ⊢
    exact rowsP_keys h
  | .row t e :: r, _, x, k, i, ri, h => by
    simp only [rowsP, cntP] at h ⊢
    rw [look_cons] at h
    split at h
    · rename_i e; omega
    · have := rowsP_keys h; omega
theorem rowsP_none : ∀ {ps : List Pat} {X : Type} {x : TsPr ps X} {k i : Nat}, (k ≤ i ∧ i < k + cntP ps) → (look (rowsP ps x k) i).isSome = true
  | [], _, _, _, _, h => by simp only [cntP] at h; omega
  | .d _ :: r, _, x, k, i, h => by
    simp only [rowsP, cntP] at h ⊢
    exact rowsP_none h
  | .row t e :: r, _, x, k, i, h => by
    simp only [rowsP, cntP] at h ⊢
    rw [look_cons]
    split
    · rfl
    · exact rowsP_none (by omega)
theorem instR_keys : ∀ {rh : List (Plc × List Pat)} {x : TsR rh} {k i : Nat}, (look (instR rh x k) i).isSome = true → (k ≤ i ∧ i < k + cntR rh) ∨ i ∈ rowsOf rh
  | [], _, _, _, h => by simp [instR, look] at h
  | (p, ps) :: r, x, k, i, h => by
    simp only [instR] at h
    rw [look_append] at h
    cases hq : look (rowsE p ps x k) i with
    | some ri =>
      cases p with
      | row q =>
        refine .inr ?_
        match ps, x, hq with
        | .row t e :: _, x, hq =>
          simp only [rowsE] at hq
          rw [look_cons] at hq
          split at hq
          · rename_i e'; rw [e']; simp [rowsOf]
          · cases hq
        | [], x, hq => simp [rowsE, look] at hq
        | .d _ :: _, x, hq => simp [rowsE, look] at hq
      | slot j ag =>
        have := rowsP_keys (ps := ps) (x := x) hq
        simp only [cntR, cntE]
        exact .inl (by omega)
      | blk b =>
        have := rowsP_keys (ps := ps) (x := x) hq
        simp only [cntR, cntE]
        exact .inl (by omega)
    | none =>
      rw [hq] at h
      simp only at h
      rcases instR_keys (rh := r) h with h1 | h1
      · simp only [cntR]
        exact .inl (by omega)
      · refine .inr ?_
        cases p <;> simp [rowsOf, h1]
theorem instR_new : ∀ {rh : List (Plc × List Pat)} {x : TsR rh} {k i : Nat}, (k ≤ i ∧ i < k + cntR rh) → (look (instR rh x k) i).isSome = true
  | [], _, _, _, h => by simp only [cntR] at h; omega
  | (p, ps) :: r, x, k, i, h => by
    simp only [instR, cntR] at h ⊢
    rw [look_append]
    cases hq : look (rowsE p ps x k) i with
    | some ri => rfl
    | none =>
      simp only
      refine instR_new (rh := r) ?_
      cases p with
      | row q => simp only [cntE] at h ⊢; omega
      | slot j ag =>
        simp only [cntE] at h ⊢
        have h2 : ¬ (k ≤ i ∧ i < k + cntP ps) := fun hc => by have := rowsP_none (x := x) hc; simp only [rowsE] at hq; rw [hq] at this; cases this
        omega
      | blk b =>
        simp only [cntE] at h ⊢
        have h2 : ¬ (k ≤ i ∧ i < k + cntP ps) := fun hc => by have := rowsP_none (x := x) hc; simp only [rowsE] at hq; rw [hq] at this; cases this
        omega

/-- The source of the row with a number. -/
def srcAt : List (Option Nat) → Nat → Nat → Option (Option Nat)
  | [], _, _ => none
  | o :: r, k, i => if i = k then some o else srcAt r (k + 1) i

theorem srcAt_append {l m : List (Option Nat)} {k i : Nat} : srcAt (l ++ m) k i = match srcAt l k i with | some o => some o | none => srcAt m (k + l.length) i := by
  induction l generalizing k with
  | nil => rfl
  | cons o l ih =>
    simp only [List.cons_append, srcAt]
    split
    · rfl
    · rw [ih, List.length_cons, show k + 1 + l.length = k + (l.length + 1) by omega]
theorem srcAt_get {l : List (Option Nat)} {k i : Nat} {o : Option Nat} (h : srcAt l k i = some o) : k ≤ i ∧ l[i - k]? = some o := by
  induction l generalizing k with
  | nil => cases h
  | cons p l ih =>
    simp only [srcAt] at h
    split at h
    · rename_i e
      injection h with h
      subst h; subst e
      exact ⟨Nat.le_refl _, by simp⟩
    · obtain ⟨h1, h2⟩ := ih h
      refine ⟨by omega, ?_⟩
      rw [show i - k = (i - (k + 1)) + 1 by omega]
      simpa using h2
theorem somes_get {l : List (Option Nat)} : ∀ {i : Nat} {q : Nat}, l[i]? = some (some q) → q ∈ somes l := by
  induction l with
  | nil => intro i q h; simp at h
  | cons o l ih =>
    intro i q h
    cases i with
    | zero =>
      simp only [List.getElem?_cons_zero, Option.some.injEq] at h
      subst h
      simp [somes]
    | succ i =>
      simp only [List.getElem?_cons_succ] at h
      have := ih h
      cases o with
      | none => exact this
      | some p => exact List.mem_cons_of_mem _ this
theorem somes_inj {l : List (Option Nat)} (hn : (somes l).Nodup) : ∀ {i j q : Nat}, l[i]? = some (some q) → l[j]? = some (some q) → i = j := by
  induction l with
  | nil => intro i j q h; simp at h
  | cons o l ih =>
    intro i j q hi hj
    have hn' : (somes l).Nodup := by
      cases o with
      | none => exact hn
      | some p => exact (List.nodup_cons.1 hn).2
    cases i with
    | zero =>
      cases j with
      | zero => rfl
      | succ j =>
        simp only [List.getElem?_cons_zero, Option.some.injEq, List.getElem?_cons_succ] at hi hj
        subst hi
        exact absurd (somes_get hj) (List.nodup_cons.1 hn).1
    | succ i =>
      cases j with
      | zero =>
        simp only [List.getElem?_cons_zero, Option.some.injEq, List.getElem?_cons_succ] at hi hj
        subst hj
        exact absurd (somes_get hi) (List.nodup_cons.1 hn).1
      | succ j =>
        simp only [List.getElem?_cons_succ] at hi hj
        rw [ih hn' hi hj]

/-! ### The setting of a place -/

def Env.re (E : Env) (h : Nat → Prop) (r : Nat → Prop) (src : Nat → Option (Option Nat)) : Env :=
  { E with L := h, R := r, ρ := fun i => match src i with
      | some (some q) => E.ρ q
      | some none => .slice none 0 0
      | none => E.ρ i }

theorem RelA.re {h r : Nat → Prop} {src : Nat → Option (Option Nat)} {x : At} {v : Value} (hv : RelA E x v) (hh : ∀ i ∈ idsA x, h i) (hr : ∀ i ∈ ridsA x, r i ∧ src i = none) : RelA (E.re h r src) x v := by
  cases x with
  | u => trivial
  | v _ => exact hv
  | ptr b o => exact ⟨hv.1, hh b (by simp [idsA])⟩
  | clo g cap => exact ⟨hv.1, fun p hp => hh p.1 (List.mem_map.2 ⟨p, hp, rfl⟩)⟩
  | sl _ _ => exact hv
  | row q =>
    obtain ⟨h1, h2, h3⟩ := hv
    obtain ⟨h4, h5⟩ := hr q (by simp [ridsA])
    exact ⟨by simp only [Env.re, h5]; exact h1, h4, h3⟩
  | ae b _ _ _ _ _ => exact ⟨hv.1, hh b (by simp [idsA])⟩
  | sn _ _ => exact hv
  | rf _ _ _ => exact hv
  | re q i sz off =>
    obtain ⟨g, h1, h2, h3⟩ := hv
    obtain ⟨h4, h5⟩ := hr q (by simp [ridsA])
    exact ⟨g, by simp only [Env.re, h5]; exact h1, h2, h4⟩
  | fn _ _ _ => exact hv

theorem RelL.re {h r : Nat → Prop} {src : Nat → Option (Option Nat)} : ∀ {l : List At} {vs : List Value}, RelL E l vs → (∀ i ∈ idsL l, h i) → (∀ i ∈ ridsL l, r i ∧ src i = none) → RelL (E.re h r src) l vs
  | [], [], _, _, _ => trivial
  | _ :: _, _ :: _, hv, hh, hr => ⟨RelA.re hv.1 (fun i hi => hh i (List.mem_append_left _ hi)) (fun i hi => hr i (List.mem_append_left _ hi)), RelL.re hv.2 (fun i hi => hh i (List.mem_append_right _ hi)) (fun i hi => hr i (List.mem_append_right _ hi))⟩
  | [], _ :: _, hv, _, _ => hv.elim
  | _ :: _, [], hv, _, _ => hv.elim
theorem RelT.re {h r : Nat → Prop} {src : Nat → Option (Option Nat)} : ∀ {l : List (Bool × List At)} {vs : List Value}, RelT E l vs → (∀ i ∈ idsT l, h i) → (∀ i ∈ ridsT l, r i ∧ src i = none) → RelT (E.re h r src) l vs
  | [], [], _, _, _ => trivial
  | _ :: _, _ :: _, ⟨⟨cs, h1, h2, h3⟩, hv⟩, hh, hr => ⟨⟨cs, h1, RelL.re h2 (fun i hi => hh i (List.mem_append_left _ hi)) (fun i hi => hr i (List.mem_append_left _ hi)), h3⟩, RelT.re hv (fun i hi => hh i (List.mem_append_right _ hi)) (fun i hi => hr i (List.mem_append_right _ hi))⟩
  | [], _ :: _, hv, _, _ => hv.elim
  | _ :: _, [], hv, _, _ => hv.elim
theorem RelV.re {h r : Nat → Prop} {src : Nat → Option (Option Nat)} {s : SV} {v : Value} (hv : RelV E s v) (hh : ∀ i ∈ idsS s, h i) (hr : ∀ i ∈ ridsS s, r i ∧ src i = none) : RelV (E.re h r src) s v := by
  cases s with
  | c ag l => obtain ⟨cs, h1, h2, h3⟩ := hv; exact ⟨cs, h1, RelL.re h2 hh hr, h3⟩
  | tup l => obtain ⟨vs, h1, h2⟩ := hv; exact ⟨vs, h1, RelT.re h2 hh hr⟩
theorem RelS.re {h r : Nat → Prop} {src : Nat → Option (Option Nat)} {s : SlotV} {v : Value} (hv : RelS E s v) (hh : ∀ i ∈ idsS s.s, h i) (hr : ∀ i ∈ ridsS s.s, r i ∧ src i = none) : RelS (E.re h r src) s v := by
  unfold RelS at *
  split at hv
  · exact RelV.re hv hh hr
  · exact ⟨fun hc => RelV.re (hv.1 hc) hh hr, hv.2⟩

/-- Cells of data name no block and no row. -/
theorem cells_ids : ∀ {s : Sh} {x : s.T}, idsL (s.cells x) = [] ∧ ridsL (s.cells x) = []
  | .int _, _ => ⟨rfl, rfl⟩
  | .bool, _ => ⟨rfl, rfl⟩
  | .str, _ => ⟨rfl, rfl⟩
  | .sl _, _ => ⟨rfl, rfl⟩
  | .pair a b, x => by
    have ha := cells_ids (s := a) (x := x.1)
    have hb := cells_ids (s := b) (x := x.2)
    have app1 : ∀ l m : List At, idsL (l ++ m) = idsL l ++ idsL m := fun l m => by induction l with | nil => rfl | cons y l ih => simp [idsL, ih]
    have app2 : ∀ l m : List At, ridsL (l ++ m) = ridsL l ++ ridsL m := fun l m => by induction l with | nil => rfl | cons y l ih => simp [ridsL, ih]
    simp only [Sh.cells, app1, app2, ha, hb, List.append_nil, and_self]
  | .agg e, x => cells_ids (s := e) (x := x)

theorem take_drop : ∀ {s : Sh} {l rest : List At} {x : s.T}, s.take l = some (x, rest) → rest = l.drop s.size
  | .int k, l, rest, x, h => by
    simp only [Sh.take, takeInt] at h
    split at h
    · split at h
      · simp only [Option.some.injEq, Prod.mk.injEq] at h; rw [← h.2]; rfl
      · cases h
    · cases h
  | .bool, l, rest, x, h => by
    simp only [Sh.take, takeBool] at h
    split at h
    · simp only [Option.some.injEq, Prod.mk.injEq] at h; rw [← h.2]; rfl
    · cases h
  | .str, l, rest, x, h => by
    simp only [Sh.take, takeStr] at h
    split at h
    · simp only [Option.some.injEq, Prod.mk.injEq] at h; rw [← h.2]; rfl
    · cases h
  | .sl e, l, rest, x, h => by
    simp only [Sh.take, takeSl] at h
    split at h
    · split at h
      · simp only [Option.some.injEq, Prod.mk.injEq] at h; rw [← h.2]; rfl
      · cases h
    · split at h
      · simp only [Option.some.injEq, Prod.mk.injEq] at h; rw [← h.2]; rfl
      · cases h
    · simp only [Option.some.injEq, Prod.mk.injEq] at h; rw [← h.2]; rfl
    · cases h
  | .pair a b, l, rest, x, h => by
    simp only [Sh.take] at h
    split at h
    · rename_i y r hy
      split at h
      · rename_i z r' hz
        simp only [Option.some.injEq, Prod.mk.injEq] at h
        rw [← h.2, take_drop hz, take_drop hy, List.drop_drop]
        rfl
      · cases h
    · cases h
  | .agg e, l, rest, x, h => take_drop (s := e) h

/-- What reads as data of patterns is what the patterns say, in the setting of the place. -/
theorem readP_rel {σ : St} (hm : MemOk E σ.look) {h r : Nat → Prop} {src : Nat → Option (Option Nat)} : ∀ {ps : List Pat} {l : List At} {vs : List Value} {X : Type} {y : X} {z : TsPr ps X} {k : Nat}, readP (look σ.r) ps l y = some z → RelL E l vs →
    (∀ j o, srcAt (srcP ps l) k j = some o → r j ∧ src j = some o) → RelL (E.re h r src) (cellsP ps z k) vs ∧ restP ps z = y ∧ (srcP ps l).length = cntP ps
  | [], [], [], _, _, z, k, hz, _, _ => by
    simp only [readP, Option.some.injEq] at hz
    exact ⟨trivial, hz.symm, rfl⟩
  | [], [], _ :: _, _, _, _, _, _, hr, _ => hr.elim
  | [], _ :: _, _, _, _, _, _, hz, _, _ => by simp [readP] at hz
  | .d s :: ps, l, vs, X, y, z, k, hz, hr, hs => by
    simp only [readP] at hz
    split at hz
    · rename_i x l' hx
      split at hz
      · rename_i w hw
        injection hz with hz
        subst hz
        obtain ⟨c1, c2, rfl, hd, h2⟩ := take_rel hx hr
        have e := take_drop hx
        simp only [srcP, ← e] at hs ⊢
        obtain ⟨i1, i2, i3⟩ := readP_rel hm (h := h) (r := r) (src := src) hw h2 hs
        have hc : RelL (E.re h r src) (s.cells x) c1 := RelL.re hd.rel (fun i hi => by rw [cells_ids.1] at hi; cases hi) (fun i hi => by rw [cells_ids.2] at hi; cases hi)
        exact ⟨hc.append i1, i2, i3⟩
      · cases hz
    · cases hz
  | .row t e :: ps, a :: l, vs, X, y, z, k, hz, hr, hs => by
    simp only [readP] at hz
    split at hz
    · rename_i x w hx hw
      injection hz with hz
      subst hz
      match vs, hr with
      | v :: vs, hr =>
        simp only [srcP] at hs ⊢
        obtain ⟨i1, i2, i3⟩ := readP_rel hm (h := h) (r := r) (src := src) (k := k + 1) hw hr.2 fun j o hj => hs j o (by
          simp only [srcAt]
          rw [if_neg (fun e => by have := (srcAt_get hj).1; omega)]
          exact hj)
        obtain ⟨h1, h2⟩ := hs k (srcA a) (by simp [srcAt])
        refine ⟨⟨?_, i1⟩, i2, by simp [cntP, i3]⟩
        -- the value is the row's
        have hra := hr.1
        show v = (match src k with | some (some q) => E.ρ q | some none => .slice none 0 0 | none => E.ρ k) ∧ r k ∧ v.oneCell' = true
        rw [h2]
        unfold rowOf at hx
        split at hx
        · rename_i q
          obtain ⟨g1, g2, g3⟩ := hra
          exact ⟨g1, h1, g3⟩
        · have g1 : v = .slice none 0 0 := hra
          subst g1
          exact ⟨rfl, h1, rfl⟩
        · cases hx
    · cases hz
  | .row _ _ :: _, [], _, _, _, _, _, hz, _, _ => by simp [readP] at hz

/-- The place's rows are rows of the state. -/
theorem readP_rows {σ : St} {rk : Rk} (hrk : rk = look σ.r) : ∀ {ps : List Pat} {l : List At} {X : Type} {y : X} {z : TsPr ps X} {k : Nat}, readP rk ps l y = some z → ∀ i ri, look (rowsP ps z k) i = some ri →
    (∃ q n, srcAt (srcP ps l) k i = some (some q) ∧ look σ.r q = some (some ⟨ri.t, ri.e, n, ri.l⟩) ∧ ri.n = ri.l.length) ∨ (srcAt (srcP ps l) k i = some none ∧ ri.l = [] ∧ ri.n = ri.l.length)
  | [], _, _, _, _, _, _, i, ri, h => by simp [rowsP, look] at h
  | .d s :: ps, l, X, y, z, k, hz, i, ri, h => by
    simp only [readP] at hz
    split at hz
    · rename_i x l' hx
      split at hz
      · rename_i w hw
        injection hz with hz
        subst hz
        have e := take_drop hx
        simp only [srcP, ← e]
        exact readP_rows hrk hw i ri h
      · cases hz
    · cases hz
  | .row t e :: ps, a :: l, X, y, z, k, hz, i, ri, h => by
    simp only [readP] at hz
    split at hz
    · rename_i x w hx hw
      injection hz with hz
      subst hz
      simp only [rowsP] at h
      rw [look_cons] at h
      simp only [srcP, srcAt]
      split at h
      · rename_i hik
        injection h with h
        subst h
        rw [if_pos hik]
        unfold rowOf at hx
        split at hx
        · rename_i q
          split at hx
          · rename_i ri hri
            split at hx
            · rename_i he ht _
              obtain ⟨rt, re, rn, rl⟩ := ri
              simp only at he ht
              subst he
              have ht : rt = t := by simpa using ht
              subst ht
              injection hx with hx
              subst hx
              exact .inl ⟨q, rn, rfl, by rw [← hrk]; exact hri, rfl⟩
            · cases hx
          · cases hx
        · injection hx with hx
          subst hx
          exact .inr ⟨rfl, rfl, rfl⟩
        · cases hx
      · rename_i hik
        rw [if_neg hik]
        exact readP_rows hrk hw i ri h
    · cases hz
  | .row _ _ :: _, [], _, _, _, _, hz, _, _, _ => by simp [readP] at hz

end
end
end Dn
end Go.Proofs.Ytghjblbkbelcfaa

namespace Go.Proofs.Ytghjblbkbelcfaa
namespace Dn
noncomputable section
open Go.RowKit

section
variable {N : Nat} {E E0 : Env} {a a0 : Act}

theorem cellsAt_slot {σ : St} (hm : Mod N E a σ.look) {i : Nat} {ag : Bool} {l : List At} (h : cellsAt σ (.slot i ag) = some l) : ∃ v cs, a.tmps[i]? = some v ∧ v = mkV ag cs ∧ RelL E l cs ∧ (ag = false → cs.length = 1) := by
  simp only [cellsAt] at h
  split at h
  · rename_i ag' l' hs
    split at h
    · rename_i hag
      have hag : ag = ag' := by simpa using hag
      subst hag
      injection h with h
      subst h
      obtain ⟨v, hv, hr⟩ := hm.slots i _ hs
      obtain ⟨cs, h1, h2, h3⟩ := (hr : RelC E ag l' v)
      exact ⟨v, cs, hv, h1, h2, h3⟩
    · cases h
  · cases h

theorem restP_read {rk : Rk} : ∀ {ps : List Pat} {l : List At} {X : Type} {y : X} {z : TsPr ps X}, readP rk ps l y = some z → restP ps z = y ∧ (srcP ps l).length = cntP ps
  | [], [], _, _, z, hz => by
    simp only [readP, Option.some.injEq] at hz
    exact ⟨hz.symm, rfl⟩
  | [], _ :: _, _, _, _, hz => by simp [readP] at hz
  | .d s :: ps, l, X, y, z, hz => by
    simp only [readP] at hz
    split at hz
    · rename_i x l' hx
      split at hz
      · rename_i w hw
        injection hz with hz
        subst hz
        have e := take_drop hx
        simp only [srcP, ← e]
        exact restP_read (ps := ps) hw
      · cases hz
    · cases hz
  | .row t e :: ps, a :: l, X, y, z, hz => by
    simp only [readP] at hz
    split at hz
    · rename_i x w hx hw
      injection hz with hz
      subst hz
      obtain ⟨h1, h2⟩ := restP_read (ps := ps) hw
      exact ⟨h1, by simp [srcP, cntP, h2]⟩
    · cases hz
  | .row _ _ :: _, [], _, _, _, hz => by simp [readP] at hz

/-- The slots of a place. -/
theorem instS_rel {σ : St} (hm : Mod N E a σ.look) {h r : Nat → Prop} {src : Nat → Option (Option Nat)} : ∀ {rh : List (Plc × List Pat)} {x : TsR rh} {k : Nat}, readR σ rh = some x →
    (∀ j o, srcAt (srcR σ rh) k j = some o → r j ∧ src j = some o) → (srcR σ rh).length = cntR rh ∧ (∀ i t, look (instS rh x k) i = some (some t) → ∃ v, a.tmps[i]? = some v ∧ RelS (E.re h r src) t v) ∧
    (∀ i l, look (instB rh x k) i = some l → ∃ l', look σ.h i = some l' ∧ ∀ cs, RelL E l' cs → RelL (E.re h r src) l cs)
  | [], x, k, _, _ => ⟨rfl, fun i t h => by simp [instS, look] at h, fun i l h => by simp [instB, look] at h⟩
  | (p, ps) :: rh, x, k, hx, hs => by
    simp only [readR] at hx
    split at hx
    · rename_i l y hl hy
      cases p with
      | row q =>
        obtain ⟨g2, _⟩ := restP_read (ps := ps) hx
        simp only [srcR] at hs ⊢
        have ih := instS_rel hm (h := h) (r := r) (src := src) (k := k) hy hs
        rw [← g2] at ih
        obtain ⟨j1, j2, j3⟩ := ih
        exact ⟨by rw [j1]; simp [cntR, cntE], j2, j3⟩
      | slot i ag =>
        simp only [srcR, hl] at hs ⊢
        have hs1 : ∀ j o, srcAt (srcP ps l) k j = some o → r j ∧ src j = some o := fun j o hj => hs j o (by rw [srcAt_append, hj])
        obtain ⟨v, cs, h1, h2, h3, h4⟩ := cellsAt_slot hm hl
        obtain ⟨g1, g2, g3⟩ := readP_rel hm.memOk (h := h) (r := r) (src := src) (k := k) hx h3 hs1
        have hs2 : ∀ j o, srcAt (srcR σ rh) (k + cntP ps) j = some o → r j ∧ src j = some o := fun j o hj => hs j o (by
          rw [srcAt_append]
          cases hq : srcAt (srcP ps l) k j with
          | none => simp only [g3]; exact hj
          | some o' =>
            have e1 := (srcAt_get hj).1
            obtain ⟨_, e3⟩ := srcAt_get hq
            have := (List.getElem?_eq_some_iff.1 e3).1
            omega)
        have ih := instS_rel hm (h := h) (r := r) (src := src) (k := k + cntP ps) hy hs2
        rw [← g2] at ih
        obtain ⟨j1, j2, j3⟩ := ih
        refine ⟨by rw [List.length_append, g3, j1]; rfl, fun i' t ht => ?_, j3⟩
        simp only [instS] at ht
        rw [look_cons] at ht
        split at ht
        · rename_i e
          subst e
          simp only [Option.some.injEq] at ht
          subst ht
          exact ⟨v, h1, (⟨cs, h2, g1, h4⟩ : RelC _ ag _ v)⟩
        · exact j2 i' t ht
      | blk b =>
        simp only [srcR, hl] at hs ⊢
        have hs1 : ∀ j o, srcAt (srcP ps l) k j = some o → r j ∧ src j = some o := fun j o hj => hs j o (by rw [srcAt_append, hj])
        have hb : look σ.h b = some l := hl
        obtain ⟨_, cs0, t0, _, h3, _⟩ := hm.blks b l hb
        obtain ⟨_, g2, g3⟩ := readP_rel hm.memOk (h := h) (r := r) (src := src) (k := k) hx h3 hs1
        have hs2 : ∀ j o, srcAt (srcR σ rh) (k + cntP ps) j = some o → r j ∧ src j = some o := fun j o hj => hs j o (by
          rw [srcAt_append]
          cases hq : srcAt (srcP ps l) k j with
          | none => simp only [g3]; exact hj
          | some o' =>
            have e1 := (srcAt_get hj).1
            obtain ⟨_, e3⟩ := srcAt_get hq
            have := (List.getElem?_eq_some_iff.1 e3).1
            omega)
        have ih := instS_rel hm (h := h) (r := r) (src := src) (k := k + cntP ps) hy hs2
        rw [← g2] at ih
        obtain ⟨j1, j2, j3⟩ := ih
        refine ⟨by rw [List.length_append, g3, j1]; rfl, j2, fun i l' ht => ?_⟩
        simp only [instB] at ht
        rw [look_cons] at ht
        split at ht
        · rename_i e
          subst e
          injection ht with ht
          subst ht
          exact ⟨l, hb, fun cs hcs => (readP_rel hm.memOk (h := h) (r := r) (src := src) (k := k) hx hcs hs1).1⟩
        · exact j3 i l' ht
    · cases hx

theorem instR_rows {σ : St} : ∀ {rh : List (Plc × List Pat)} {x : TsR rh} {k : Nat}, readR σ rh = some x →
    ∀ i ri, look (instR rh x k) i = some ri → (∃ q n, srcAt (srcR σ rh) k i = some (some q) ∧ look σ.r q = some (some ⟨ri.t, ri.e, n, ri.l⟩) ∧ ri.n = ri.l.length) ∨ (srcAt (srcR σ rh) k i = some none ∧ ri.l = [] ∧ ri.n = ri.l.length) ∨ (i ∈ rowsOf rh ∧ ∃ n, look σ.r i = some (some ⟨ri.t, ri.e, n, ri.l⟩) ∧ ri.n = ri.l.length)
  | [], x, k, _, i, ri, h => by simp [instR, look] at h
  | (p, ps) :: rh, x, k, hx, i, ri, h => by
    simp only [readR] at hx
    split at hx
    · rename_i l y hl hy
      obtain ⟨g2, g3⟩ := restP_read (ps := ps) hx
      simp only [instR] at h
      rw [look_append] at h
      have other : ∀ q : Plc, q = p → (∀ z, q ≠ .row z) → (∀ ri', look (rowsE p ps x k) i = some ri' → look (rowsP ps x k) i = some ri') → (look (rowsE p ps x k) i = none → look (rowsP ps x k) i = none) → cntE p ps = cntP ps → srcR σ ((p, ps) :: rh) = srcP ps l ++ srcR σ rh → rowsOf ((p, ps) :: rh) = rowsOf rh →
          (∃ q n, srcAt (srcR σ ((p, ps) :: rh)) k i = some (some q) ∧ look σ.r q = some (some ⟨ri.t, ri.e, n, ri.l⟩) ∧ ri.n = ri.l.length) ∨ (srcAt (srcR σ ((p, ps) :: rh)) k i = some none ∧ ri.l = [] ∧ ri.n = ri.l.length) ∨ (i ∈ rowsOf ((p, ps) :: rh) ∧ ∃ n, look σ.r i = some (some ⟨ri.t, ri.e, n, ri.l⟩) ∧ ri.n = ri.l.length) := by
        intro _ _ _ e1 e2 e3 e4 e5
        rw [e4, e5, srcAt_append, g3]
        cases hq : look (rowsE p ps x k) i with
        | some ri' =>
          rw [hq] at h
          injection h with h
          subst h
          rcases readP_rows rfl hx i ri' (e1 ri' hq) with ⟨q, n, h1, h2⟩ | ⟨h1, h2⟩
          · exact .inl ⟨q, n, by rw [h1], h2⟩
          · exact .inr (.inl ⟨by rw [h1], h2⟩)
        | none =>
          rw [hq] at h
          simp only at h
          have hno : srcAt (srcP ps l) k i = none := by
            cases hh : srcAt (srcP ps l) k i with
            | none => rfl
            | some o =>
              obtain ⟨e1, e3⟩ := srcAt_get hh
              have := (List.getElem?_eq_some_iff.1 e3).1
              have := rowsP_none (ps := ps) (x := x) (k := k) (i := i) (by omega)
              rw [e2 hq] at this
              cases this
          rw [hno]
          rw [g2, e3] at h
          exact instR_rows hy i ri h
      cases p with
      | slot j ag => exact other _ rfl (by simp) (fun _ h => h) (fun h => h) rfl (by simp [srcR, hl]) rfl
      | blk b => exact other _ rfl (by simp) (fun _ h => h) (fun h => h) rfl (by simp only [srcR, hl]) rfl
      | row q =>
        have hl' : l = [.row q] := by simp only [cellsAt, Option.some.injEq] at hl; exact hl.symm
        subst hl'
        cases hq : look (rowsE (.row q) ps x k) i with
        | some ri' =>
          rw [hq] at h
          injection h with h
          subst h
          match ps, x, hx, hq with
          | .row t e :: _, x, hx, hq =>
            simp only [rowsE] at hq
            rw [look_cons] at hq
            split at hq
            · rename_i e'
              injection hq with hq
              subst hq; subst e'
              refine .inr (.inr ⟨by simp [rowsOf], ?_⟩)
              simp only [readP] at hx
              split at hx
              · rename_i xl w hxl hw
                injection hx with hx
                subst hx
                simp only [rowOf] at hxl
                split at hxl
                · rename_i ri hri
                  split at hxl
                  · rename_i he ht _
                    obtain ⟨rt, re, rn, rl⟩ := ri
                    simp only at he ht
                    subst he
                    have ht : rt = t := by simpa using ht
                    subst ht
                    injection hxl with hxl
                    subst hxl
                    exact ⟨rn, hri, rfl⟩
                  · cases hxl
                · cases hxl
              · cases hx
            · cases hq
          | [], x, _, hq => simp [rowsE, look] at hq
          | .d _ :: _, x, _, hq => simp [rowsE, look] at hq
        | none =>
          rw [hq] at h
          simp only [cntE, Nat.add_zero] at h
          rw [g2] at h
          simp only [srcR]
          rcases instR_rows hy i ri h with h | h | ⟨h1, h2⟩
          · exact .inl h
          · exact .inr (.inl h)
          · exact .inr (.inr ⟨by simp [rowsOf, h1], h2⟩)
    · cases hx

theorem instB_keys {i : Nat} : ∀ {rh : List (Plc × List Pat)} {x : TsR rh} {k : Nat}, (look (instB rh x k) i).isSome = true ↔ i ∈ blksOf rh
  | [], _, _ => by simp [instB, look, blksOf]
  | (.slot _ _, ps) :: r, x, k => by simp only [instB, blksOf]; exact instB_keys
  | (.row _, ps) :: r, x, k => by simp only [instB, blksOf]; exact instB_keys
  | (.blk b, ps) :: r, x, k => by
    simp only [instB, blksOf]
    rw [look_cons]
    split
    · rename_i e; simp [e]
    · rename_i e
      rw [instB_keys]
      simp [e]

theorem take_row : ∀ {s : Sh} {q : Nat} {x : s.T} {l : List At}, s.take [.row q] = some (x, l) → False
  | .int _, _, _, _, h => by simp [Sh.take, takeInt] at h
  | .bool, _, _, _, h => by simp [Sh.take, takeBool] at h
  | .str, _, _, _, h => by simp [Sh.take, takeStr] at h
  | .sl _, _, _, _, h => by simp [Sh.take, takeSl] at h
  | .pair a b, q, x, l, h => by
    simp only [Sh.take] at h
    split at h
    · rename_i y r hy
      exact take_row hy
    · cases h
  | .agg e, _, _, _, h => take_row (s := e) h

/-- A row whose elements alone are told is there. -/
theorem instR_of {σ : St} {i : Nat} : ∀ {rh : List (Plc × List Pat)} {x : TsR rh} {k : Nat}, readR σ rh = some x → i ∈ rowsOf rh → (look (instR rh x k) i).isSome = true
  | (p, ps) :: r, x, k, hx, h => by
    simp only [readR] at hx
    split at hx
    · rename_i l y hl hy
      obtain ⟨g2, _⟩ := restP_read (ps := ps) hx
      simp only [instR]
      rw [look_append]
      cases hq : look (rowsE p ps x k) i with
      | some ri => rfl
      | none =>
        simp only
        rw [g2]
        refine instR_of hy ?_
        cases p with
        | slot j ag => exact h
        | blk b => exact h
        | row q =>
          simp only [rowsOf, List.mem_cons] at h
          rcases h with h | h
          · exfalso
            subst h
            have hl' : l = [.row i] := by simp only [cellsAt, Option.some.injEq] at hl; exact hl.symm
            subst hl'
            match ps, x, hx, hq with
            | .row t e :: _, x, _, hq => simp [rowsE, look_cons] at hq
            | [], x, hx, _ => simp [readP] at hx
            | .d s :: _, x, hx, _ =>
              simp only [readP] at hx
              split at hx
              · rename_i hh
                have := take_row hh
                exact this
              · cases hx
          · exact h
    · cases hx

theorem okSlots_spec {σ : St} : ∀ {l : List (Nat × Option SlotV)}, okSlots σ l = true → ∀ i s, look l i = some (some s) → (∀ b ∈ idsS s.s, (look σ.h b).isSome = true) ∧ ∀ q ∈ ridsS s.s, (look σ.r q).isSome = true
  | (j, none) :: r, hh, i, s, hi => by
    simp only [okSlots] at hh
    rw [look_cons] at hi
    split at hi
    · cases hi
    · exact okSlots_spec hh i s hi
  | (j, some t) :: r, hh, i, s, hi => by
    simp only [okSlots, Bool.and_eq_true] at hh
    rw [look_cons] at hi
    split at hi
    · injection hi with hi
      injection hi with hi
      subst hi
      exact ⟨allIn_look hh.1.1, allIn_look hh.1.2⟩
    · exact okSlots_spec hh.2 i s hi
theorem okBlks_spec {σ : St} : ∀ {l : List (Nat × List At)}, okBlks σ l = true → ∀ i m, look l i = some m → (∀ b ∈ idsL m, (look σ.h b).isSome = true) ∧ ∀ q ∈ ridsL m, (look σ.r q).isSome = true
  | (j, t) :: r, hh, i, m, hi => by
    simp only [okBlks, Bool.and_eq_true] at hh
    rw [look_cons] at hi
    split at hi
    · injection hi with hi
      subst hi
      exact ⟨allIn_look hh.1.1, allIn_look hh.1.2⟩
    · exact okBlks_spec hh.2 i m hi

/-- From the state 'σ' on, a state 'σ'' has come to the place. -/
theorem place_mod {rh : List (Plc × List Pat)} {W : List Nat} {srcs : List Nat} {σ σ' : St} {x : TsR rh} (hok : placeOk rh W srcs σ = true) (hm0 : Mod N E0 a0 σ.look) (hk : Keep E0 E) (hm : Mod N E a σ'.look) (hx : readAt rh (keysBut (rowsOf rh ++ srcs) σ.r ++ σ.roR) σ' = some x)
    (hs : ∀ i, i ∉ W → look σ'.s i = look σ.s i) (hh : ∀ i ∈ keysBut (blksOf rh) σ.h ++ σ.ro, look σ'.h i = look σ.h i) (hr : ∀ i ∈ keysBut (rowsOf rh ++ srcs) σ.r ++ σ.roR, look σ'.r i = look σ.r i) :
    ∃ E', Same E E' ∧ E'.w = E.w ∧ Keep E0 E' ∧ Mod N E' a (head rh W srcs σ x).look := by
  simp only [placeOk, Bool.and_eq_true] at hok
  obtain ⟨⟨⟨⟨⟨⟨k1, k2⟩, k3⟩, k4⟩, k5⟩, k6⟩, ⟨⟨⟨k7, k8⟩, k9⟩, k10⟩⟩ := hok
  unfold readAt at hx
  split at hx
  case h_2 => cases hx
  rename_i hro
  simp only [readOk, Bool.and_eq_true] at hro
  obtain ⟨⟨hnd, hoff⟩, hoff2⟩ := hro
  have hoff2 := offL_mem hoff2
  have hrk9 := allIn_look k9
  have hnd := nodupN_spec hnd
  have hoff := offL_mem hoff
  have hfresh := freshN_spec k3
  let g' := (head rh W srcs σ x).look
  let src : Nat → Option (Option Nat) := srcAt (srcR σ' rh) σ.next
  let E' := E.re (fun i => (g'.h i).isSome = true) (fun i => (g'.r i).isSome = true) src
  have hlen : (srcR σ' rh).length = cntR rh := (instS_rel hm (h := fun _ => True) (r := fun _ => True) (src := src) (k := σ.next) hx fun j o hj => ⟨trivial, hj⟩).1
  -- the head's rows: new ones, and those kept
  have gr : ∀ i, g'.r i = match look (instR rh x σ.next) i with | some ri => some (some ri) | none => if i ∈ srcs then some none else look σ.r i := by
    intro i
    show look (lift (instR rh x σ.next) ++ (kills srcs ++ σ.r)) i = _
    rw [look_append, look_lift]
    cases look (instR rh x σ.next) i with
    | some ri => rfl
    | none =>
      simp only
      rw [look_append, look_kills]
      by_cases h : i ∈ srcs
      · simp [h]
      · simp [h]
  have gh : ∀ i, g'.h i = match look (instB rh x σ.next) i with | some l => some l | none => look σ.h i := by
    intro i
    show look (instB rh x σ.next ++ σ.h) i = _
    rw [look_append]
    cases look (instB rh x σ.next) i <;> rfl
  have srcNew : ∀ i, (src i).isSome = true ↔ (σ.next ≤ i ∧ i < σ.next + cntR rh) := by
    intro i
    constructor
    · intro h
      cases hq : src i with
      | none => rw [hq] at h; cases h
      | some o =>
        obtain ⟨e1, e2⟩ := srcAt_get hq
        have := (List.getElem?_eq_some_iff.1 e2).1
        omega
    · intro h
      cases hq : src i with
      | some o => rfl
      | none =>
        exfalso
        have : ∀ (l : List (Option Nat)) (k : Nat), k ≤ i → i < k + l.length → srcAt l k i = none → False := by
          intro l
          induction l with
          | nil => intro k h1 h2; simp at h2; omega
          | cons o l ih =>
            intro k h1 h2 h3
            simp only [srcAt] at h3
            split at h3
            · cases h3
            · simp only [List.length_cons] at h2; exact ih (k + 1) (by omega) (by omega) h3
        exact this _ _ h.1 (by omega) hq
  have srcNone : ∀ i, (look σ.r i).isSome = true → src i = none := by
    intro i h
    cases hq : src i with
    | none => rfl
    | some o =>
      have := (srcNew i).1 (by rw [hq]; rfl)
      rw [hfresh i this.1 this.2] at h
      cases h
  have rkey : ∀ i, (look σ.r i).isSome = true → (g'.r i).isSome = true := by
    intro i h
    rw [gr]
    split
    · rfl
    · split
      · rfl
      · exact h
  have hkey : ∀ i, (look σ.h i).isSome = true → (g'.h i).isSome = true := by
    intro i h
    rw [gh]
    split
    · rfl
    · exact h
  have newR : ∀ i, (σ.next ≤ i ∧ i < σ.next + cntR rh) → (g'.r i).isSome = true := by
    intro i h
    rw [gr]
    have := instR_new (rh := rh) (x := x) (k := σ.next) (i := i) h
    cases hq : look (instR rh x σ.next) i with
    | some ri => rfl
    | none => rw [hq] at this; cases this
  obtain ⟨_, hS, hB⟩ := instS_rel hm (h := fun i => (g'.h i).isSome = true) (r := fun i => (g'.r i).isSome = true) (src := src) (k := σ.next) hx fun j o hj => ⟨newR j ((srcNew j).1 (by show (srcAt _ _ j).isSome = true; rw [hj]; rfl)), hj⟩
  have hR := instR_rows (k := σ.next) hx
  -- keeping
  have keep : Keep E0 E' := fun y v hv => by
    have hv' := hk y v hv
    refine RelA.re hv' (fun i hi => ?_) (fun i hi => ?_)
    · have : E0.L i := by
        cases y <;> simp only [idsA] at hi
        case ptr => simp only [List.mem_singleton] at hi; subst hi; exact hv.2
        case ae => simp only [List.mem_singleton] at hi; subst hi; exact hv.2
        case clo => obtain ⟨p, hp, rfl⟩ := List.mem_map.1 hi; exact hv.2 p hp
        all_goals cases hi
      exact hkey i (hm0.glob.live i this)
    · have : E0.R i := by
        cases y <;> simp only [ridsA] at hi
        case row r => simp only [List.mem_singleton] at hi; subst hi; exact hv.2.1
        case re r _ _ _ => simp only [List.mem_singleton] at hi; subst hi; obtain ⟨_, _, _, h⟩ := hv; exact h
        all_goals cases hi
      have := hm0.glob.rlive i this
      exact ⟨rkey i this, srcNone i this⟩
  -- rows that live
  have rowsL : ∀ i ri, g'.r i = some (some ri) → (∃ q n, look σ'.r q = some (some ⟨ri.t, ri.e, n, ri.l⟩) ∧ E'.ρ i = E.ρ q ∧ ((src i = some (some q)) ∨ (src i = none ∧ q = i ∧ (i ∈ keysBut (rowsOf rh ++ srcs) σ.r ++ σ.roR ∨ i ∈ rowsOf rh))) ∧ (ri.n = ri.l.length ∨ ri.n = n)) ∨ (E'.ρ i = .slice none 0 0 ∧ ri.l = [] ∧ ri.n = ri.l.length) := by
    intro i ri hi
    rw [gr] at hi
    cases hq : look (instR rh x σ.next) i with
    | some ri' =>
      rw [hq] at hi
      simp only [Option.some.injEq] at hi
      subst hi
      rcases hR i ri' hq with ⟨q, n, h1, h2, h3⟩ | ⟨h1, h2⟩ | ⟨h1, n, h2, h3⟩
      · exact .inl ⟨q, n, h2, by show (match src i with | some (some q) => E.ρ q | some none => .slice none 0 0 | none => E.ρ i) = _; rw [show src i = some (some q) from h1], .inl h1, .inl h3⟩
      · exact .inr ⟨by show (match src i with | some (some q) => E.ρ q | some none => .slice none 0 0 | none => E.ρ i) = _; rw [show src i = some none from h1], h2⟩
      · refine .inl ⟨i, n, h2, ?_, .inr ⟨srcNone i (hrk9 i h1), rfl, .inr h1⟩, .inl h3⟩
        show (match src i with | some (some q) => E.ρ q | some none => .slice none 0 0 | none => E.ρ i) = _
        rw [srcNone i (hrk9 i h1)]
    | none =>
      rw [hq] at hi
      simp only at hi
      split at hi
      · cases hi
      · rename_i hns
        have hsome : (look σ.r i).isSome = true := by rw [hi]; rfl
        have hnq : i ∉ rowsOf rh := fun hr => by
          have : (look (instR rh x σ.next) i).isSome = true := instR_of hx hr
          rw [hq] at this
          cases this
        have hmem : i ∈ keysBut (rowsOf rh ++ srcs) σ.r ++ σ.roR := List.mem_append_left _ (keysBut_mem (fun h => (List.mem_append.1 h).elim hnq hns) hsome)
        refine .inl ⟨i, ri.n, by rw [hr i hmem]; exact hi, ?_, .inr ⟨srcNone i hsome, rfl, .inl hmem⟩, .inr rfl⟩
        show (match src i with | some (some q) => E.ρ q | some none => .slice none 0 0 | none => E.ρ i) = _
        rw [srcNone i hsome]
  have blksL : ∀ i l, g'.h i = some l → ∃ l', look σ'.h i = some l' ∧ ∀ cs, RelL E l' cs → RelL E' l cs := by
    intro i l hi
    rw [gh] at hi
    cases hq : look (instB rh x σ.next) i with
    | some l0 =>
      rw [hq] at hi
      injection hi with hi
      subst hi
      exact hB i l0 hq
    | none =>
      rw [hq] at hi
      simp only at hi
      have hnb : i ∉ blksOf rh := fun hb => by
        have := (instB_keys (rh := rh) (x := x) (k := σ.next)).2 hb
        rw [hq] at this
        cases this
      have hmem : i ∈ keysBut (blksOf rh) σ.h ++ σ.ro := List.mem_append_left _ (keysBut_mem hnb (by rw [hi]; rfl))
      obtain ⟨o1, o2⟩ := okBlks_spec k2 i l hi
      exact ⟨l, by rw [hh i hmem]; exact hi, fun cs hcs => RelL.re hcs (fun b hb => hkey b (o1 b hb)) (fun q hq => ⟨rkey q (o2 q hq), srcNone q (o2 q hq)⟩)⟩
  refine ⟨E', rfl, rfl, keep, ⟨⟨hm.glob.below, hm.glob.zlt, hm.glob.z0, hm.glob.zfrom, fun b hb => hb, fun q hq => hq, fun i l hi => ?_, fun i j l l' hi hj hij => ?_, fun i ri b hi hb => ?_, fun i j ri rj b hi hj hb hb' => ?_⟩, hm.nodef, hm.size, fun i t hi => ?_, fun i l hi => ?_, fun i ri hi => ?_⟩⟩
  · obtain ⟨l', h1, _⟩ := blksL i l hi
    exact hm.glob.own i l' h1
  · obtain ⟨l1, h1, _⟩ := blksL i l hi
    obtain ⟨l2, h2, _⟩ := blksL j l' hj
    exact hm.glob.inj i j l1 l2 h1 h2 hij
  · rcases rowsL i ri hi with ⟨q, n, h1, h2, _⟩ | ⟨h1, _⟩
    · rw [h2] at hb
      obtain ⟨h3, h4⟩ := hm.glob.rown q _ b h1 hb
      exact ⟨h3, fun j l hj => by obtain ⟨l', h5, _⟩ := blksL j l hj; exact h4 j l' h5⟩
    · rw [h1] at hb; cases hb
  · rcases rowsL i ri hi with ⟨q, n, h1, h2, h3, _⟩ | ⟨h1, _⟩
    · rcases rowsL j rj hj with ⟨p, n', g1, g2, g3, _⟩ | ⟨g1, _⟩
      · rw [h2] at hb
        rw [g2] at hb'
        have hqp := hm.glob.rinj q p _ _ b h1 g1 hb hb'
        subst hqp
        rcases h3 with h3 | ⟨h3, rfl, h4⟩
        · rcases g3 with g3 | ⟨g3, rfl, g4⟩
          · obtain ⟨e1, e2⟩ := srcAt_get h3
            obtain ⟨e3, e4⟩ := srcAt_get g3
            have := somes_inj hnd e2 e4
            omega
          · rcases g4 with g4 | g4
            · exact absurd g4 (hoff q (somes_get (srcAt_get h3).2))
            · exact absurd g4 (hoff2 q (somes_get (srcAt_get h3).2))
        · rcases g3 with g3 | ⟨_, rfl, _⟩
          · rcases h4 with h4 | h4
            · exact absurd h4 (hoff q (somes_get (srcAt_get g3).2))
            · exact absurd h4 (hoff2 q (somes_get (srcAt_get g3).2))
          · rfl
      · rw [g1] at hb'; cases hb'
    · rw [h1] at hb; cases hb
  · -- slots
    simp only [St.look, lookS, head] at hi
    split at hi
    · rename_i t' hl
      injection hi with hi
      subst hi
      rw [look_append] at hl
      cases hq : look (instS rh x σ.next) i with
      | some t0 =>
        rw [hq] at hl
        injection hl with hl
        subst hl
        exact hS i t' hq
      | none =>
        rw [hq] at hl
        simp only at hl
        obtain ⟨h1, h2⟩ := look_dropK hl
        have e : σ'.look.s i = some t' := by
          show lookS σ'.s i = some t'
          simp only [lookS, hs i h2, h1]
        obtain ⟨v, h3, h4⟩ := hm.slots i t' e
        obtain ⟨o1, o2⟩ := okSlots_spec k1 i t' hl
        exact ⟨v, h3, RelS.re h4 (fun b hb => hkey b (o1 b hb)) (fun q hq => ⟨rkey q (o2 q hq), srcNone q (o2 q hq)⟩)⟩
    · cases hi
  · obtain ⟨l', h1, h2⟩ := blksL i l hi
    obtain ⟨_, cs, t, h4, h5, h6⟩ := hm.blks i l' h1
    exact ⟨by show (g'.h i).isSome = true; rw [hi]; rfl, cs, t, h4, h2 cs h5, h6⟩
  · rcases rowsL i ri hi with ⟨q, n, h1, h2, _, h5⟩ | ⟨h1, h2, h3⟩
    · obtain ⟨_, xs, h3, h4, h6⟩ := hm.rows q _ h1
      exact ⟨by show (g'.r i).isSome = true; rw [hi]; rfl, xs, by rw [h2]; exact h3, h4, h5.elim id fun e => e.trans h6⟩
    · obtain ⟨t, e, n, l⟩ := ri
      simp only at h2 h3
      subst h2
      exact ⟨by show (g'.r i).isSome = true; rw [hi]; rfl, [], by rw [h1]; exact World.ownsRow_nil _ _ _ _, rfl, h3⟩

end
end
end Dn
end Go.Proofs.Ytghjblbkbelcfaa

namespace Go.Proofs.Ytghjblbkbelcfaa
namespace Dn
noncomputable section
open Go.RowKit

inductive Ex where
  | normal
  | ret
  | exit (id : Nat)

def Ex.to : Ex → Exit
  | .normal => .normal
  | .ret => .ret
  | .exit id => .exit id

/-- What is told of a function's code: the places of its loops, of the ends of its blocks and of its conditions. -/
structure Hint where
  loop : Nat → Option Hd := fun _ => none
  join : Nat → Option Hd := fun _ => none
  /-- The slots of the variables whose rows become data before a loop. -/
  thaw : Nat → List Nat := fun _ => []

def firstReg : Code → Nat
  | .region id _ _ => id
  | .seq a _ => firstReg a
  | .block _ c => firstReg c
  | .scope c => firstReg c
  | .loop c => firstReg c
  | _ => 0
def condKey (a b : Code) : Nat := match firstReg a with
  | 0 => 1000000 + firstReg b
  | n => 1000000 + n

def hdSlots : List (Nat × Bool × List Pat) → List Nat
  | [] => []
  | p :: r => p.1 :: hdSlots r
def hdS : Option Hd → List Nat
  | some hd => hdSlots hd.sl
  | none => []

/-- The slots that code writes, or that a place in it names. -/
def wr (hl : Hint) : Code → List Nat
  | .region _ ops _ => ops.toList.filterMap (·.dst)
  | .seq a b => wr hl a ++ wr hl b
  | .cond _ a b => hdS (hl.join (condKey a b)) ++ (wr hl a ++ wr hl b)
  | .block id c => hdS (hl.join id) ++ wr hl c
  | .loop c => hdS (hl.loop (firstReg c)) ++ wr hl c
  | _ => []

/-- By the recursor: so that the kernel unfolds it last. -/
def loopF {α R : Type} (F : (α → Option R) → α → Option R) (n : Nat) : α → Option R := Nat.rec (fun _ => none) (fun _ ih => F ih) n
theorem loopF_succ {α R : Type} {F : (α → Option R) → α → Option R} {n : Nat} {x : α} : loopF F (n + 1) x = F (loopF F n) x := rfl
def joinF {α R : Type} (j : α → Option R) (f : (α → Option R) → Option R) : Option R := f j
/-- How many rounds a loop may go: more than any number of the machine's. -/
def K0 : Nat := 1180591620717411303424
/-- How loops, and ends of ways, are read: variables, where answers are compared, so that nothing unfolds them. -/
abbrev Lp := (α R : Type) → ((α → Option R) → α → Option R) → α → Option R
abbrev Jn := (α R : Type) → (α → Option R) → ((α → Option R) → Option R) → Option R
def lpK : Lp := fun _ _ F x => loopF F K0 x
def jnK : Jn := fun _ _ j f => joinF j f
theorem lpK_eq {α R : Type} {F : (α → Option R) → α → Option R} {x : α} : lpK α R F x = loopF F K0 x := rfl
theorem jnK_eq {α R : Type} {j : α → Option R} {f : (α → Option R) → Option R} : jnK α R j f = joinF j f := rfl

def St.un (σ σ' : St) : St := { σ' with ro := σ.ro, roR := σ.roR }

def condB (σ : St) (c : Operand) : Option Bool := match getS σ.look.s c, condS σ.look.s c with
  | some (.c false [.v (.bool q)]), none => some q
  | _, _ => none

def blockK {R : Type} (id : Nat) (K : Ex → St → Option R) : Ex → St → Option R
  | .normal, σ => K .normal σ
  | .ret, σ => K .ret σ
  | .exit i, σ => match Nat.beq i id with
    | true => K .normal σ
    | false => K (.exit i) σ

/-- Several ways meet at a place. -/
def place (jn : Jn) {R : Type} (hd : Hd) (W : List Nat) (σ : St) (K : Ex → St → Option R) (body : St → (Ex → St → Option R) → Option R) : Option R := match hd.at σ with
  | some rh => match placeOk rh (hdSlots hd.sl ++ W) (somes (srcR σ rh)) σ with
    | true => jn _ _ (fun x => K .normal (σ.un (head rh (hdSlots hd.sl ++ W) (somes (srcR σ rh)) σ x))) fun j =>
        body { σ with ro := keysBut (blksOf rh) σ.h ++ σ.ro, roR := keysBut (rowsOf rh ++ somes (srcR σ rh)) σ.r ++ σ.roR } fun e σ' => match e with
          | .normal => match readAt rh (keysBut (rowsOf rh ++ somes (srcR σ rh)) σ.r ++ σ.roR) σ' with
            | some x => j x
            | none => none
          | .ret => K .ret (σ.un σ')
          | .exit i => K (.exit i) (σ.un σ')
    | false => none
  | none => none

def St.thaws : List Nat → St → Option St
  | [], σ => some σ
  | s :: r, σ => match lookS σ.s s with
    | some ⟨none, .c false [.ptr b 0]⟩ => match Dn.look σ.h b with
      | some l => match offL σ.roR (rowsL l), memN b σ.ro with
        | true, false => St.thaws r { σ with h := (b, thawL σ.look.r l) :: σ.h, r := (rowsL l).map (fun i => (i, none)) ++ σ.r }
        | _, _ => none
      | none => none
    | _ => none

def den (lp : Lp) (jn : Jn) (rec : Inl) (C : Ctx) (N : Nat) (hl : Hint) {R : Type} : Code → St → (Ex → St → Option R) → Option R
  | .skip, σ, K => K .normal σ
  | .region _ ops draw, σ, K => match draw with
    | false => regS rec C N ops ops.toList σ (K .normal)
    | true => regD C N ops ops.toList σ fun es σ' => match chkAll 0 es with
      | true => K .normal σ'
      | false => none
  | .seq a b, σ, K => den lp jn rec C N hl a σ fun e σ' => match e with
    | .normal => den lp jn rec C N hl b σ' K
    | .ret => K .ret σ'
    | .exit i => K (.exit i) σ'
  | .cond c a b, σ, K => match condB σ c with
    | some q => match hl.join (condKey a b) with
      | none => bif q then den lp jn rec C N hl a σ K else den lp jn rec C N hl b σ K
      | some hd => place jn hd (wr hl a ++ wr hl b) σ K fun σ' K' => bif q then den lp jn rec C N hl a σ' K' else den lp jn rec C N hl b σ' K'
    | none => none
  | .block id c, σ, K => match hl.join id with
    | none => den lp jn rec C N hl c σ (blockK id K)
    | some hd => place jn hd (wr hl c) σ K fun σ' K' => den lp jn rec C N hl c σ' (blockK id K')
  | .exit id, σ, K => K (.exit id) σ
  | .ret, σ, K => K .ret σ
  | .loop c, σ, K => match σ.thaws (hl.thaw (firstReg c)) with
    | none => none
    | some σ => match hl.loop (firstReg c) with
    | some hd => match hd.at σ with
      | some rh => match placeOk rh (hdSlots hd.sl ++ wr hl c) (somes (srcR σ rh)) σ, readAt rh (keysBut (rowsOf rh ++ somes (srcR σ rh)) σ.r ++ σ.roR) σ with
        | true, some x => lp _ _ (fun again x => den lp jn rec C N hl c (head rh (hdSlots hd.sl ++ wr hl c) (somes (srcR σ rh)) σ x) fun e σ' => match e with
            | .normal => match readAt rh (keysBut (rowsOf rh ++ somes (srcR σ rh)) σ.r ++ σ.roR) σ' with
              | some x' => again x'
              | none => none
            | .ret => K .ret (σ.un σ')
            | .exit i => K (.exit i) (σ.un σ')) x
        | _, _ => none
      | none => none
    | none => none
  | _, _, _ => none

section
variable {N : Nat} {E : Env} {a : Act}

theorem thaw1_ok {σ : St} {b : Nat} {l : List At} (hm : Mod N E a σ.look) (hb : look σ.h b = some l) : Mod N (E.zone σ.look (rowsL l)) a ({ σ with h := (b, thawL σ.look.r l) :: σ.h, r := (rowsL l).map (fun i => (i, none)) ++ σ.r } : St).look ∧ Keep E (E.zone σ.look (rowsL l)) := by
  obtain ⟨m1, m2⟩ := zone_mod hm (rowsL l)
  have hrr : ∀ i, look ((rowsL l).map (fun i => ((i, none) : Nat × Option RowI)) ++ σ.r) i = (σ.look.app (.rkill (rowsL l))).r i := fun i => look_kill (rowsL l) σ.r i
  have hlk : ({ σ with h := (b, thawL σ.look.r l) :: σ.h, r := (rowsL l).map (fun i => (i, none)) ++ σ.r } : St).look = (σ.look.app (.rkill (rowsL l))).setH b (thawL σ.look.r l) := by
    simp only [St.look, Look.app, Look.setH]
    congr 1
    · funext i; exact look_cons _ _ _ _
    · funext i; exact look_kill (rowsL l) σ.r i
  rw [hlk]
  refine ⟨?_, m2⟩
  have hz : ∀ i l', ((σ.look.app (.rkill (rowsL l))).setH b (thawL σ.look.r l)).h i = some l' → ∃ l2, σ.look.h i = some l2 := fun i l' hi => by
    simp only [Look.setH] at hi
    split at hi
    · rename_i e; subst e; exact ⟨l, hb⟩
    · exact ⟨l', hi⟩
  have hg : Glob (E.zone σ.look (rowsL l)) ((σ.look.app (.rkill (rowsL l))).setH b (thawL σ.look.r l)) := by
    have G := m1.glob
    refine ⟨G.below, G.zlt, G.z0, G.zfrom, fun i hi => ?_, G.rlive, fun i l' hi => ?_, fun i j l1 l2 hi hj hij => ?_, fun i r k hi hk => ?_, G.rinj⟩
    · simp only [Look.setH]
      split
      · rfl
      · exact G.live i hi
    · obtain ⟨l2, h2⟩ := hz i l' hi
      exact G.own i l2 h2
    · obtain ⟨l1', h1⟩ := hz i l1 hi
      obtain ⟨l2', h2⟩ := hz j l2 hj
      exact G.inj i j l1' l2' h1 h2 hij
    · obtain ⟨h1, h2⟩ := G.rown i r k hi hk
      refine ⟨h1, fun j l' hj => ?_⟩
      obtain ⟨l2, h3⟩ := hz j l' hj
      exact h2 j l2 h3
  refine ⟨hg, m1.nodef, m1.size, m1.slots, fun i l' hi => ?_, m1.rows⟩
  simp only [Look.setH] at hi
  split at hi
  · rename_i e
    subst e
    injection hi with hi
    subst hi
    obtain ⟨h1, cs, t, h2, h3, h4⟩ := hm.blks i l hb
    exact ⟨h1, cs, t, h2, thawL_rel hm (fun _ _ h => h) h3 fun r hr => hr, h4⟩
  · exact m1.blks i l' hi

theorem thaws_ok : ∀ {u : List Nat} {σ σ' : St} {E : Env}, Mod N E a σ.look → σ.thaws u = some σ' → ∃ E', Same E E' ∧ Keep E E' ∧ Fr σ σ' ∧ σ'.s = σ.s ∧ Mod N E' a σ'.look ∧ E'.w = E.w
  | [], σ, σ', E, hm, h => by
    simp only [St.thaws, Option.some.injEq] at h
    subst h
    exact ⟨E, rfl, Keep.refl E, Fr.refl σ, rfl, hm, rfl⟩
  | s :: r, σ, σ', E, hm, h => by
    simp only [St.thaws] at h
    split at h
    · rename_i b _
      split at h
      · rename_i l hl
        split at h
        · rename_i h1 h2
          obtain ⟨m1, m2⟩ := thaw1_ok hm hl
          obtain ⟨E', g1, g2, g3, g4, g5, g6⟩ := thaws_ok m1 h
          refine (?_ : ∀ hf : Fr σ ({ σ with h := (b, thawL σ.look.r l) :: σ.h, r := (rowsL l).map (fun i => (i, none)) ++ σ.r } : St), _) ⟨rfl, rfl, fun i hi => ?_, fun i hi => ?_⟩
          · intro hf
            exact ⟨E', Same.trans (E' := E.zone σ.look (rowsL l)) rfl g1, m2.trans g2, hf.trans g3, g4, g5, g6⟩
          · show look ((b, thawL σ.look.r l) :: σ.h) i = _
            rw [look_cons, if_neg]
            intro e
            subst e
            rw [memN_iff.2 hi] at h2
            cases h2
          · show look ((rowsL l).map (fun i => ((i, none) : Nat × Option RowI)) ++ σ.r) i = _
            rw [look_kill, if_neg (fun e => offL_mem h1 i e hi)]
        · cases h
      · cases h
    · cases h

theorem condB_run {σ : St} {c : Operand} {q : Bool} (h : condB σ c = some q) (hm : Mod N E a σ.look) : a.eval c = .bool q := by
  unfold condB at h
  split at h
  · rename_i q' hg hc
    injection h with h
    subst h
    exact toV_rel rfl (getS_rel hm (fun _ _ => rfl) hg fun d hd => by rw [hc] at hd; cases hd)
  · cases h

/-- A loop with a ghost number that every round lowers. -/
theorem wp_loop_ghost {P : Program} {c : Code} {Q : Exit → Act → World → Prop} (I : Nat → Act → World → Prop) (round : ∀ n a w, I n a w → c.wp P (Exit.then (fun a' w' => ∃ m, m < n ∧ I m a' w') Q) a w)
    {n : Nat} {a : Act} {w : World} (h₀ : I n a w) : (Code.loop c).wp P Q a w := by
  intro b k cs
  have key : ∀ n a w, I n a w → ∃ e a' w', Q e a' w' ∧ Arrives P (lone (b.at a (.code c :: .inLoop c :: k)) cs w) b k cs e a' w' := by
    intro n
    induction n using Nat.strongRecOn with
    | _ n ih =>
      intro a w hI
      obtain ⟨e, a₁, w₁, hq, harr⟩ := round n a w hI b (.inLoop c :: k) cs
      cases e with
      | normal =>
        obtain ⟨m, hlt, hI₁⟩ := hq
        obtain ⟨e₂, a₂, w₂, hq₂, harr₂⟩ := ih m hlt a₁ w₁ hI₁
        exact ⟨e₂, a₂, w₂, hq₂, .of_steps (Steps.trans harr (.one step_inLoop)) harr₂⟩
      | exit id => exact ⟨_, a₁, w₁, hq, .pass (x := .inLoop c) rfl (fun _ _ => .inl (by simp)) harr⟩
      | goto l => exact ⟨_, a₁, w₁, hq, .pass (x := .inLoop c) rfl (fun _ _ => .inl (by simp)) harr⟩
      | ret => exact ⟨_, a₁, w₁, hq, .pass (x := .inLoop c) rfl (fun _ _ => .inl (by simp)) harr⟩
      | panic ch => exact ⟨_, a₁, w₁, hq, .pass (x := .inLoop c) rfl (fun _ _ => .inl (by simp)) harr⟩
      | outgrown => exact ⟨_, a₁, w₁, hq, .pass (x := .inLoop c) rfl (fun _ _ => .inl (by simp)) harr⟩
  obtain ⟨e, a', w', hq, harr⟩ := key n a w h₀
  exact ⟨e, a', w', hq, .of_steps (.one step_loop) harr⟩

theorem plcS_slots : ∀ {l : List (Nat × Bool × List Pat)} {i : Nat} {ag : Bool} {ps : List Pat}, (Plc.slot i ag, ps) ∈ plcS l → i ∈ hdSlots l
  | p :: r, i, ag, ps, h => by
    simp only [plcS, List.mem_cons] at h
    rcases h with h | h
    · simp only [Prod.mk.injEq, Plc.slot.injEq] at h
      rw [h.1.1]
      simp [hdSlots]
    · exact List.mem_cons_of_mem _ (plcS_slots h)
theorem plcB_slots {σ : St} : ∀ {l : List (Nat × List Pat)} {rh : List (Plc × List Pat)} {i : Nat} {ag : Bool} {ps : List Pat}, plcB σ l = some rh → (Plc.slot i ag, ps) ∉ rh
  | [], rh, i, ag, ps, h => by simp only [plcB, Option.some.injEq] at h; subst h; simp
  | p :: r, rh, i, ag, ps, h => by
    simp only [plcB] at h
    split at h
    · rename_i b l _ hl
      injection h with h
      subst h
      intro hm
      rcases List.mem_cons.1 hm with hm | hm
      · cases hm
      · exact plcB_slots hl hm
    · cases h
theorem plcW_slots {σ : St} : ∀ {l : List (Nat × Option Nat × TypeId × Sh)} {rh : List (Plc × List Pat)} {i : Nat} {ag : Bool} {ps : List Pat}, plcW σ l = some rh → (Plc.slot i ag, ps) ∉ rh
  | [], rh, i, ag, ps, h => by simp only [plcW, Option.some.injEq] at h; subst h; simp
  | (_, none, _, _) :: r, rh, i, ag, ps, h => by
    simp only [plcW] at h
    split at h
    · rename_i q l _ hl
      injection h with h
      subst h
      intro hm
      rcases List.mem_cons.1 hm with hm | hm
      · cases hm
      · exact plcW_slots hl hm
    · cases h
  | (_, some _, _, _) :: r, rh, i, ag, ps, h => by
    simp only [plcW] at h
    split at h
    · rename_i b l _ hl
      split at h
      · split at h
        · injection h with h
          subst h
          intro hm
          rcases List.mem_cons.1 hm with hm | hm
          · cases hm
          · exact plcW_slots hl hm
        · cases h
      · cases h
    · cases h
theorem instS_keys : ∀ {rh : List (Plc × List Pat)} {x : TsR rh} {k i : Nat}, (look (instS rh x k) i).isSome = true → ∃ ag ps, (Plc.slot i ag, ps) ∈ rh
  | [], _, _, _, h => by simp [instS, look] at h
  | (.slot j ag, ps) :: r, x, k, i, h => by
    simp only [instS] at h
    rw [look_cons] at h
    split at h
    · rename_i e
      subst e
      exact ⟨ag, ps, by simp⟩
    · obtain ⟨ag', ps', h'⟩ := instS_keys h
      exact ⟨ag', ps', by simp [h']⟩
  | (.blk _, ps) :: r, x, k, i, h => by
    simp only [instS] at h
    obtain ⟨ag', ps', h'⟩ := instS_keys h
    exact ⟨ag', ps', by simp [h']⟩
  | (.row _, ps) :: r, x, k, i, h => by
    simp only [instS] at h
    obtain ⟨ag', ps', h'⟩ := instS_keys h
    exact ⟨ag', ps', by simp [h']⟩

theorem head_slots {hd : Hd} {rh : List (Plc × List Pat)} {W srcs : List Nat} {σ : St} {x : TsR rh} (hat : hd.at σ = some rh) {i : Nat} (hi : i ∉ hdSlots hd.sl ++ W) : look (head rh (hdSlots hd.sl ++ W) srcs σ x).s i = look σ.s i := by
  unfold Hd.at at hat
  split at hat
  · rename_i l l2 hl hl2
    injection hat with hat
    subst hat
    simp only [head]
    rw [look_append]
    cases hq : look (instS (plcS hd.sl ++ (l ++ l2)) x σ.next) i with
    | some t =>
      exfalso
      obtain ⟨ag, ps, hm⟩ := instS_keys (by rw [hq]; rfl)
      rcases List.mem_append.1 hm with hm | hm
      · exact hi (List.mem_append_left _ (plcS_slots hm))
      · rcases List.mem_append.1 hm with hm | hm
        · exact plcB_slots hl hm
        · exact plcW_slots hl2 hm
    | none =>
      simp only
      exact look_off_dropK hi
  · cases hat

theorem head_h {rh : List (Plc × List Pat)} {W srcs : List Nat} {σ : St} {x : TsR rh} {i : Nat} (hi : i ∉ blksOf rh) : look (head rh W srcs σ x).h i = look σ.h i := by
  simp only [head]
  rw [look_append]
  cases hq : look (instB rh x σ.next) i with
  | some l => exact absurd (instB_keys.1 (by rw [hq]; rfl)) hi
  | none => rfl
theorem head_r {rh : List (Plc × List Pat)} {W srcs : List Nat} {σ : St} {x : TsR rh} {i : Nat} (hi : i ∉ srcs) (hw : i ∉ rowsOf rh) (hf : ¬ (σ.next ≤ i ∧ i < σ.next + cntR rh)) : look (head rh W srcs σ x).r i = look σ.r i := by
  simp only [head]
  rw [look_append, look_lift]
  cases hq : look (instR rh x σ.next) i with
  | some l => exact (instR_keys (by rw [hq]; rfl)).elim (fun h => absurd h hf) fun h => absurd h hw
  | none =>
    simp only
    rw [look_append, look_kills, if_neg hi]

theorem place_fr {rh : List (Plc × List Pat)} {W : List Nat} {srcs : List Nat} {σ : St} {x : TsR rh} (hok : placeOk rh W srcs σ = true) (hro : ∀ i ∈ σ.roR, (look σ.r i).isSome = true) : Fr σ (σ.un (head rh W srcs σ x)) := by
  simp only [placeOk, Bool.and_eq_true] at hok
  obtain ⟨⟨⟨⟨⟨⟨k1, k2⟩, k3⟩, k4⟩, k5⟩, k6⟩, ⟨⟨⟨k7, k8⟩, k9⟩, k10⟩⟩ := hok
  refine ⟨rfl, rfl, fun i hi => head_h (W := W) (srcs := srcs) fun hb => offL_mem k4 i hb hi, fun i hi => head_r (W := W) (fun hs => offL_mem k5 i hs hi) (fun hs => offL_mem k7 i hs hi) fun hf => ?_⟩
  have := hro i hi
  rw [freshN_spec k3 i hf.1 hf.2] at this
  cases this

theorem un_fr {σ σ' σ0 : St} (h0 : ∀ i ∈ σ.ro, i ∈ σ0.ro ∧ look σ0.h i = look σ.h i) (h1 : ∀ i ∈ σ.roR, i ∈ σ0.roR ∧ look σ0.r i = look σ.r i) (hf : Fr σ0 σ') : Fr σ (σ.un σ') :=
  ⟨rfl, rfl, fun i hi => (hf.h i (h0 i hi).1).trans (h0 i hi).2, fun i hi => (hf.r i (h1 i hi).1).trans (h1 i hi).2⟩

theorem keysBut_sub {α : Type} {W : List Nat} {i : Nat} : ∀ {l : List (Nat × α)}, i ∈ keysBut W l → (look l i).isSome = true
  | p :: r, h => by
    simp only [keysBut] at h
    rw [look_cons]
    split at h
    · split
      · rfl
      · exact keysBut_sub h
    · split
      · rfl
      · rename_i hne
        rcases List.mem_cons.1 h with h | h
        · exact absurd h hne
        · exact keysBut_sub h

theorem RoR.head {rh : List (Plc × List Pat)} {W srcs : List Nat} {σ : St} {x : TsR rh} (h : RoR σ) (hok : placeOk rh W srcs σ = true) : RoR (head rh W srcs σ x) := fun i hi => by
  simp only [placeOk, Bool.and_eq_true] at hok
  obtain ⟨⟨⟨⟨⟨⟨k1, k2⟩, k3⟩, k4⟩, k5⟩, k6⟩, ⟨⟨⟨k7, k8⟩, k9⟩, k10⟩⟩ := hok
  have hsome : (look σ.r i).isSome = true := by
    rcases List.mem_append.1 hi with hi | hi
    · exact keysBut_sub hi
    · exact h i hi
  simp only [Dn.head]
  rw [look_append, look_lift]
  cases look (instR rh x σ.next) i with
  | some l => rfl
  | none =>
    simp only
    rw [look_append, look_kills]
    by_cases hs : i ∈ srcs
    · simp [hs]
    · simp only [if_neg hs]; exact hsome

theorem head_ro {rh : List (Plc × List Pat)} {W srcs : List Nat} {σ : St} {x : TsR rh} (hok : placeOk rh W srcs σ = true) (hro : RoR σ) :
    (∀ i ∈ σ.ro, i ∈ (head rh W srcs σ x).ro ∧ look (head rh W srcs σ x).h i = look σ.h i) ∧ (∀ i ∈ σ.roR, i ∈ (head rh W srcs σ x).roR ∧ look (head rh W srcs σ x).r i = look σ.r i) := by
  have := place_fr (x := x) hok hro
  exact ⟨fun i hi => ⟨List.mem_append_right _ hi, this.h i hi⟩, fun i hi => ⟨List.mem_append_right _ hi, this.r i hi⟩⟩

theorem head_keep {rh : List (Plc × List Pat)} {W srcs : List Nat} {σ : St} {x : TsR rh} (hok : placeOk rh W srcs σ = true) (hro : RoR σ) :
    (∀ i ∈ (head rh W srcs σ x).ro, look (head rh W srcs σ x).h i = look σ.h i) ∧ (∀ i ∈ (head rh W srcs σ x).roR, look (head rh W srcs σ x).r i = look σ.r i) := by
  have hok' := hok
  simp only [placeOk, Bool.and_eq_true] at hok
  obtain ⟨⟨⟨⟨⟨⟨k1, k2⟩, k3⟩, k4⟩, k5⟩, k6⟩, ⟨⟨⟨k7, k8⟩, k9⟩, k10⟩⟩ := hok
  have hfr := place_fr (x := x) hok' hro
  have kb : ∀ {α : Type} {W : List Nat} {i : Nat} {l : List (Nat × α)}, i ∈ keysBut W l → i ∉ W := by
    intro α W i l
    induction l with
    | nil => intro h; cases h
    | cons p r ih =>
      intro h
      simp only [keysBut] at h
      split at h
      · exact ih h
      · rename_i hm
        rcases List.mem_cons.1 h with h | h
        · intro hw; rw [h] at hw; rw [memN_iff.2 hw] at hm; cases hm
        · exact ih h
  refine ⟨fun i hi => ?_, fun i hi => ?_⟩
  · rcases List.mem_append.1 hi with hi | hi
    · exact head_h (kb hi)
    · exact hfr.h i hi
  · rcases List.mem_append.1 hi with hi | hi
    · refine head_r (fun h => kb hi (List.mem_append_right _ h)) (fun h => kb hi (List.mem_append_left _ h)) fun hf => ?_
      have := keysBut_sub hi
      rw [freshN_spec k3 i hf.1 hf.2] at this
      cases this
    · exact hfr.r i hi

theorem Mod.same {g g' : Look} (hm : Mod N E a g) (hs : g'.s = g.s) (hh : g'.h = g.h) (hr : g'.r = g.r) : Mod N E a g' := hm.forget (fun i s h => by rw [hs] at h; exact h) hh hr

theorem den_ok {rec : Inl} {C : Ctx} (hC : C.ok) (hI : InlOk C rec) (hmix : C.P.follows .mixedOrders = true) {hl : Hint} {R : Type} {z : R} : ∀ {c : Code} {σ : St} {K : Ex → St → Option R} {Q : Exit → Act → World → Prop} {E : Env} {a : Act}, den lpK jnK rec C N hl c σ K = some z → RoR σ → E.P = C.P → Mod N E a σ.look →
    (∀ e σ' E' a', K e σ' = some z → Same E E' → Keep E E' → Fr σ σ' → (∀ i, i ∉ wr hl c → look σ'.s i = look σ.s i) → Mod N E' a' σ'.look → Q e.to a' E'.w) → c.wp C.P Q a E.w
  | .skip, σ, K, Q, E, a, h, _, _, hm, hQ => wp_skip (hQ .normal σ E a h rfl (Keep.refl E) (Fr.refl σ) (fun _ _ => rfl) hm)
  | .region id ops draw, σ, K, Q, E, a, h, hro, hP, hm, hQ => by
    simp only [den] at h
    split at h
    · exact wp_region_list (seq_ok hC hI h hro hP hm fun σ' E' a' hk hs hkp hf hsl hm' => hQ .normal σ' E' a' hk hs hkp hf (fun i hi => hsl i hi) hm')
    · obtain ⟨es, σ', hr, hk⟩ := regD_rel h
      split at hk
      · rename_i hck
        obtain ⟨hf, hsl⟩ := hr.frame
        exact draw_ok hC hmix hr hck hP hm fun E' a' hs hkp hm' => hQ .normal σ' E' a' hk hs hkp hf (fun i hi => hsl i hi) hm'
      · cases hk
  | .seq x y, σ, K, Q, E, a, h, hro, hP, hm, hQ => by
    simp only [den] at h
    refine wp_seq (den_ok hC hI hmix h hro hP hm fun e σ' E' a' hk hs hkp hf hsl hm' => ?_)
    have hsl' : ∀ i, i ∉ wr hl (.seq x y) → look σ'.s i = look σ.s i := fun i hi => hsl i fun hx => hi (List.mem_append_left _ hx)
    cases e with
    | normal => exact den_ok hC hI hmix hk (hro.fr hf) (hs.P.trans hP) hm' fun e2 σ2 E2 a2 hk2 hs2 hkp2 hf2 hsl2 hm2 => hQ e2 σ2 E2 a2 hk2 (hs.trans hs2) (hkp.trans hkp2) (hf.trans hf2) (fun i hi => (hsl2 i fun hx => hi (List.mem_append_right _ hx)).trans (hsl' i hi)) hm2
    | ret => exact hQ .ret σ' E' a' hk hs hkp hf hsl' hm'
    | exit i => exact hQ (.exit i) σ' E' a' hk hs hkp hf hsl' hm'
  | .cond c x y, σ, K, Q, E, a, h, hro, hP, hm, hQ => by
    simp only [den] at h
    split at h
    · rename_i q hq
      split at h
      · rename_i hj
        have sub : ∀ i, i ∉ wr hl (.cond c x y) → i ∉ wr hl x ∧ i ∉ wr hl y := fun i hi => ⟨fun hx => hi (List.mem_append_right _ (List.mem_append_left _ hx)), fun hy => hi (List.mem_append_right _ (List.mem_append_right _ hy))⟩
        refine wp_cond_split (condB_run hq hm) (fun ht => ?_) (fun hf => ?_)
        · rw [ht] at h
          exact den_ok hC hI hmix h hro hP hm fun e σ' E' a' hk hs hkp hf hsl hm' => hQ e σ' E' a' hk hs hkp hf (fun i hi => hsl i (sub i hi).1) hm'
        · rw [hf] at h
          exact den_ok hC hI hmix h hro hP hm fun e σ' E' a' hk hs hkp hf hsl hm' => hQ e σ' E' a' hk hs hkp hf (fun i hi => hsl i (sub i hi).2) hm'
      · rename_i hd hj
        unfold place at h
        split at h
        · rename_i rh hat
          split at h
          · rename_i hok
            simp only [jnK, joinF] at h
            -- both ways end at the place
            have fin : ∀ (cc : Code) {σ' : St} {E' : Env} {a' : Act} (e : Ex), (match e with
                | .normal => match readAt rh (keysBut (rowsOf rh ++ somes (srcR σ rh)) σ.r ++ σ.roR) σ' with
                  | some x' => K .normal (σ.un (head rh (hdSlots hd.sl ++ (wr hl x ++ wr hl y)) (somes (srcR σ rh)) σ x'))
                  | none => none
                | .ret => K .ret (σ.un σ')
                | .exit i => K (.exit i) (σ.un σ')) = some z → Same E E' → Keep E E' → Fr { σ with ro := keysBut (blksOf rh) σ.h ++ σ.ro, roR := keysBut (rowsOf rh ++ somes (srcR σ rh)) σ.r ++ σ.roR } σ' →
                (∀ i, i ∉ wr hl x ++ wr hl y → look σ'.s i = look σ.s i) → Mod N E' a' σ'.look → Q e.to a' E'.w := by
              intro cc σ' E' a' e hk hs hkp hf hsl hm'
              have hfu : Fr σ (σ.un σ') := un_fr (σ0 := { σ with ro := keysBut (blksOf rh) σ.h ++ σ.ro, roR := keysBut (rowsOf rh ++ somes (srcR σ rh)) σ.r ++ σ.roR }) (fun i hi => ⟨List.mem_append_right _ hi, rfl⟩) (fun i hi => ⟨List.mem_append_right _ hi, rfl⟩) hf
              have hsl' : ∀ i, i ∉ wr hl (.cond c x y) → look σ'.s i = look σ.s i := fun i hi => hsl i fun hx => hi (List.mem_append_right _ hx)
              cases e with
              | normal =>
                simp only at hk
                split at hk
                · rename_i x' hx'
                  obtain ⟨E2, h1, h2, h3, h4⟩ := place_mod (W := hdSlots hd.sl ++ (wr hl x ++ wr hl y)) hok hm hkp hm' hx' (fun i hi => hsl i fun hx => hi (List.mem_append_right _ hx)) hf.h hf.r
                  have := hQ .normal _ E2 a' hk (hs.trans h1) h3 (place_fr hok hro) (fun i hi => head_slots (srcs := somes (srcR σ rh)) (x := x') hat fun hx => hi (by
                    rcases List.mem_append.1 hx with hx | hx
                    · exact List.mem_append_left _ (by rw [hj]; exact hx)
                    · exact List.mem_append_right _ hx)) (h4.same rfl rfl rfl)
                  rw [h2] at this
                  exact this
                · cases hk
              | ret => exact hQ .ret _ E' a' hk hs hkp hfu hsl' (hm'.same rfl rfl rfl)
              | exit i => exact hQ (.exit i) _ E' a' hk hs hkp hfu hsl' (hm'.same rfl rfl rfl)
            have hro' : RoR { σ with ro := keysBut (blksOf rh) σ.h ++ σ.ro, roR := keysBut (rowsOf rh ++ somes (srcR σ rh)) σ.r ++ σ.roR } := fun i hi => by
              rcases List.mem_append.1 hi with hi | hi
              · exact keysBut_sub hi
              · exact hro i hi
            refine wp_cond_split (condB_run hq hm) (fun ht => ?_) (fun hf => ?_)
            · rw [ht] at h
              exact den_ok hC hI hmix h hro' hP (hm.same rfl rfl rfl) fun e σ' E' a' hk hs hkp hf hsl hm' => fin x e hk hs hkp hf (fun i hi => hsl i fun hx => hi (List.mem_append_left _ hx)) hm'
            · rw [hf] at h
              exact den_ok hC hI hmix h hro' hP (hm.same rfl rfl rfl) fun e σ' E' a' hk hs hkp hf hsl hm' => fin y e hk hs hkp hf (fun i hi => hsl i fun hx => hi (List.mem_append_right _ hx)) hm'
          · cases h
        · cases h
    · cases h
  | .block id c, σ, K, Q, E, a, h, hro, hP, hm, hQ => by
    simp only [den] at h
    -- a block's end
    have blk : ∀ {K' : Ex → St → Option R} {e : Ex} {σ' : St} {a' : Act} {w' : World}, blockK id K' e σ' = some z → (∀ e', K' e' σ' = some z → Q e'.to a' w') → Exit.inBlock id Q e.to a' w' := by
      intro K' e σ' a' w' hk hq
      cases e with
      | normal => exact hq .normal hk
      | ret => exact hq .ret hk
      | exit i =>
        simp only [blockK] at hk
        show Exit.inBlock id Q (.exit i) a' w'
        simp only [Exit.inBlock]
        split at hk
        · rename_i hi
          have hi : i = id := by simpa using hi
          rw [if_pos hi]
          exact hq .normal hk
        · rename_i hi
          rw [if_neg (fun e => by subst e; simp at hi)]
          exact hq (.exit i) hk
    split at h
    · rename_i hj
      exact wp_block (den_ok hC hI hmix h hro hP hm fun e σ' E' a' hk hs hkp hf hsl hm' => blk hk fun e' hk' => hQ e' σ' E' a' hk' hs hkp hf (fun i hi => hsl i fun hx => hi (List.mem_append_right _ hx)) hm')
    · rename_i hd hj
      unfold place at h
      split at h
      · rename_i rh hat
        split at h
        · rename_i hok
          simp only [jnK, joinF] at h
          have hro' : RoR { σ with ro := keysBut (blksOf rh) σ.h ++ σ.ro, roR := keysBut (rowsOf rh ++ somes (srcR σ rh)) σ.r ++ σ.roR } := fun i hi => by
            rcases List.mem_append.1 hi with hi | hi
            · exact keysBut_sub hi
            · exact hro i hi
          refine wp_block (den_ok hC hI hmix h hro' hP (hm.same rfl rfl rfl) fun e σ' E' a' hk hs hkp hf hsl hm' => blk hk fun e' hk' => ?_)
          have hfu : Fr σ (σ.un σ') := un_fr (σ0 := { σ with ro := keysBut (blksOf rh) σ.h ++ σ.ro, roR := keysBut (rowsOf rh ++ somes (srcR σ rh)) σ.r ++ σ.roR }) (fun i hi => ⟨List.mem_append_right _ hi, rfl⟩) (fun i hi => ⟨List.mem_append_right _ hi, rfl⟩) hf
          have hsl' : ∀ i, i ∉ wr hl (.block id c) → look σ'.s i = look σ.s i := fun i hi => hsl i fun hx => hi (List.mem_append_right _ hx)
          cases e' with
          | normal =>
            simp only at hk'
            split at hk'
            · rename_i x' hx'
              obtain ⟨E2, h1, h2, h3, h4⟩ := place_mod (W := hdSlots hd.sl ++ wr hl c) hok hm hkp hm' hx' (fun i hi => hsl i fun hx => hi (List.mem_append_right _ hx)) hf.h hf.r
              have := hQ .normal _ E2 a' hk' (hs.trans h1) h3 (place_fr hok hro) (fun i hi => head_slots (srcs := somes (srcR σ rh)) (x := x') hat fun hx => hi (by
                rcases List.mem_append.1 hx with hx | hx
                · exact List.mem_append_left _ (by rw [hj]; exact hx)
                · exact List.mem_append_right _ hx)) (h4.same rfl rfl rfl)
              rw [h2] at this
              exact this
            · cases hk'
          | ret => exact hQ .ret _ E' a' hk' hs hkp hfu hsl' (hm'.same rfl rfl rfl)
          | exit i => exact hQ (.exit i) _ E' a' hk' hs hkp hfu hsl' (hm'.same rfl rfl rfl)
        · cases h
      · cases h
  | .exit id, σ, K, Q, E, a, h, _, _, hm, hQ => wp_exit (hQ (.exit id) σ E a h rfl (Keep.refl E) (Fr.refl σ) (fun _ _ => rfl) hm)
  | .ret, σ, K, Q, E, a, h, _, _, hm, hQ => wp_ret (hQ .ret σ E a h rfl (Keep.refl E) (Fr.refl σ) (fun _ _ => rfl) hm)
  | .loop c, σq, K, Q, Eq, a, h, hroq, hPq, hmq, hQq => by
    simp only [den] at h
    split at h
    · cases h
    rename_i σ hth
    obtain ⟨E, hsq, hkq, hfq, hslq, hm, hwq⟩ := thaws_ok hmq hth
    have hro : RoR σ := hroq.fr hfq
    have hP : E.P = C.P := hsq.P.trans hPq
    rw [← hwq]
    have hQ : ∀ e σ' E' a', K e σ' = some z → Same E E' → Keep E E' → Fr σ σ' → (∀ i, i ∉ wr hl (.loop c) → look σ'.s i = look σ.s i) → Mod N E' a' σ'.look → Q e.to a' E'.w := fun e σ' E' a' hk hs hkp hf hsl hm' =>
      hQq e σ' E' a' hk (hsq.trans hs) (hkq.trans hkp) (hfq.trans hf) (fun i hi => (hsl i hi).trans (by rw [hslq])) hm'
    clear hQq hmq hPq hroq
    split at h
    · rename_i hd hlp
      split at h
      · rename_i rh hat
        split at h
        · rename_i x0 hok hx0
          obtain ⟨E1, g1, g2, g3, g4⟩ := place_mod (E0 := E) (a0 := a) hok hm (Keep.refl E) hm hx0 (fun _ _ => rfl) (fun _ _ => rfl) (fun _ _ => rfl)
          let F : (TsR rh → Option R) → TsR rh → Option R := fun again x => den lpK jnK rec C N hl c (head rh (hdSlots hd.sl ++ wr hl c) (somes (srcR σ rh)) σ x) fun e σ' => match e with
            | .normal => match readAt rh (keysBut (rowsOf rh ++ somes (srcR σ rh)) σ.r ++ σ.roR) σ' with
              | some x' => again x'
              | none => none
            | .ret => K .ret (σ.un σ')
            | .exit i => K (.exit i) (σ.un σ')
          let I : Nat → Act → World → Prop := fun n a' w' => ∃ x E', loopF F n x = some z ∧ E'.w = w' ∧ Same E E' ∧ Keep E E' ∧ Mod N E' a' (head rh (hdSlots hd.sl ++ wr hl c) (somes (srcR σ rh)) σ x).look
          refine wp_loop_ghost I ?_ (n := K0) ⟨x0, E1, h, g2, g1, g3, g4⟩
          rintro n a' w' ⟨x, E', hloop, rfl, hs, hkp, hm'⟩
          cases n with
          | zero => cases hloop
          | succ n =>
            have hround : F (loopF F n) x = some z := hloop
            refine den_ok hC hI hmix hround (hro.head hok) (hs.P.trans hP) hm' fun e σ2 E2 a2 hk hs2 hkp2 hf2 hsl2 hm2 => ?_
            obtain ⟨r1, r2⟩ := head_ro (x := x) hok hro
            obtain ⟨q1, q2⟩ := head_keep (x := x) hok hro
            have hfu : Fr σ (σ.un σ2) := un_fr r1 r2 hf2
            have hsl' : ∀ i, i ∉ wr hl (.loop c) → look σ2.s i = look σ.s i := fun i hi => (hsl2 i fun hx => hi (List.mem_append_right _ hx)).trans (head_slots hat fun hx => hi (by
              rcases List.mem_append.1 hx with hx | hx
              · exact List.mem_append_left _ (by rw [hlp]; exact hx)
              · exact List.mem_append_right _ hx))
            cases e with
            | normal =>
              simp only at hk
              split at hk
              · rename_i x' hx'
                obtain ⟨E3, e1, e2, e3, e4⟩ := place_mod (E0 := E) (a0 := a) hok hm (hkp.trans hkp2) hm2 hx' (fun i hi => (hsl2 i fun hx => hi (List.mem_append_right _ hx)).trans (head_slots hat hi)) (fun i hi => (hf2.h i hi).trans (q1 i hi)) (fun i hi => (hf2.r i hi).trans (q2 i hi))
                exact ⟨n, Nat.lt_succ_self n, x', E3, hk, e2, (hs.trans hs2).trans e1, e3, e4⟩
              · cases hk
            | ret => exact hQ .ret _ E2 a2 hk (hs.trans hs2) (hkp.trans hkp2) hfu hsl' (hm2.same rfl rfl rfl)
            | exit i => exact hQ (.exit i) _ E2 a2 hk (hs.trans hs2) (hkp.trans hkp2) hfu hsl' (hm2.same rfl rfl rfl)
        · cases h
      · cases h
    · cases h
  | .rangeFunc .., _, _, _, _, _, h, _, _, _, _ => by simp [den] at h
  | .scope _, _, _, _, _, _, h, _, _, _, _ => by simp [den] at h
  | .label _, _, _, _, _, _, h, _, _, _, _ => by simp [den] at h
  | .goto _, _, _, _, _, _, h, _, _, _, _ => by simp [den] at h
  | .refuse _, _, _, _, _, _, h, _, _, _, _ => by simp [den] at h

end
end
end Dn
end Go.Proofs.Ytghjblbkbelcfaa

namespace Go.Proofs.Ytghjblbkbelcfaa
namespace Dn
noncomputable section
open Go.RowKit

def initS : (as : List Sh) → TsS as → Nat → List (Nat × Option SlotV)
  | [], _, _ => []
  | s :: r, x, i => (i, some ⟨none, .c s.isAgg (Sh.cells s x.1)⟩) :: initS r x.2 (i + 1)
def initF : (fs : List (List Sh × Sh)) → TsF fs → Nat → List (Nat × Option SlotV)
  | [], _, _ => []
  | s :: r, x, i => (i, some ⟨none, .c false [.fn s.1 s.2 x.1]⟩) :: initF r x.2 (i + 1)
def initC : (cs : List Sh) → TsS cs → Nat → List (Nat × Option SlotV)
  | [], _, _ => []
  | s :: r, x, i => (i, some ⟨none, .c false [.rf s x.1 0]⟩) :: initC r x.2 (i + 1)

def Ctr.init (c : Ctr) (x : TsS c.as) (F : TsF c.fs) (y : TsS c.cs) : St :=
  { s := initS c.as x 0 ++ initF c.fs F c.as.length ++ initC c.cs y (c.as.length + c.fs.length), h := [], r := [], next := 0 }

def resS (P : Program) (g : Look) : List ResultVar → Option (List SV)
  | [] => some []
  | .tmp t :: r => match g.s t, resS P g r with
    | some ⟨none, s⟩, some l => some (s :: l)
    | _, _ => none
  | .cell t ty :: r => match g.s t, resS P g r with
    | some ⟨none, .c false [.ptr b off]⟩, some l => match g.h b with
      | some m => match partC P ty m off with
        | some s => some (s :: l)
        | none => none
      | none => none
    | _, _ => none

def readVs : (l : List Sh) → List SV → Option (TsS l)
  | [], [] => some ()
  | s :: r, v :: vs => match s.whole v, readVs r vs with
    | some x, some y => some (x, y)
    | _, _ => none
  | _, _ => none

def notOne : List Sh → Bool
  | [_] => false
  | _ => true

def readRet : (r : RSh) → List SV → Option r.T
  | .one s, [v] => s.whole v
  | .tup l, vs => match notOne l with
    | true => readVs l vs
    | false => none
  | _, _ => none

/-- What a function's end gives. -/
def post (P : Program) (r : RSh) (rv : Array ResultVar) : Ex → St → Option r.T
  | .exit _, _ => none
  | _, σ => match resS P σ.look rv.toList with
    | some vs => readRet r (thawVs σ.look.r vs)
    | none => none

def argSlots : List SV → Nat → List (Nat × Option SlotV)
  | [], _ => []
  | v :: r, i => (i, some ⟨none, v⟩) :: argSlots r (i + 1)

/-- Functions walked in place, to a depth. -/
def inlF (lp : Lp) (jn : Jn) (C : Ctx) (hl : FuncId → Hint) : Nat → Inl
  | 0 => fun _ _ _ _ _ => none
  | d + 1 => fun _ id args σ K => match C.P.funcs[id]? with
    | some fn => match fn.body, Nat.ble args.length fn.ntmps with
      | some code, true => den lp jn (inlF lp jn C hl d) C fn.ntmps (hl id) code { σ with s := argSlots args 0 } fun e σ' => match e with
        | .exit _ => none
        | _ => match resS C.P σ'.look fn.results.toList with
          | some svs => K svs σ'
          | none => none
      | _, _ => none
    | none => none

section
variable {N : Nat} {E : Env} {a : Act}

theorem resS_run {g : Look} (hm : Mod N E a g) : ∀ {rv : List ResultVar} {l : List SV}, resS E.P g rv = some l →
    ∃ vs, (rv.mapM (m := Sem) fun | .tmp t => pure (a.tmps.getD t undef) | .cell x t => do loadVar t (← asAddr (a.tmps.getD x undef))).run E.P E.w = .ok vs E.w ∧ RelVs E l vs
  | [], l, h => by
    simp only [resS] at h
    injection h with h
    subst h
    exact ⟨[], rfl, trivial⟩
  | .tmp t :: r, l, h => by
    simp only [resS] at h
    split at h
    · rename_i s l' hs hl
      injection h with h
      subst h
      obtain ⟨vs, h1, h2⟩ := resS_run hm hl
      obtain ⟨v, hv, hr⟩ := hm.slots t _ hs
      refine ⟨v :: vs, ?_, hr, h2⟩
      have e : a.tmps.getD t undef = v := by simp [hv]
      simp only [List.mapM_cons, Sem.run_bind, e, Sem.run_pure, Result.andThen_ok, h1]
    · cases h
  | .cell t ty :: r, l, h => by
    simp only [resS] at h
    split at h
    · rename_i b off l' hs hl
      split at h
      · rename_i m hb
        split at h
        · rename_i s hp
          injection h with h
          subst h
          obtain ⟨vs, h1, h2⟩ := resS_run hm hl
          obtain ⟨v, hv, hr⟩ := hm.slots t _ hs
          obtain ⟨cs, hv2, hc, _⟩ := (hr : RelC E false [.ptr b off] v)
          match cs, hc with
          | [y], hc =>
            obtain ⟨⟨hy, _⟩, _⟩ := hc
            obtain ⟨ds, hd, hcl⟩ := blk_cells (hm.blks b m hb)
            obtain ⟨u, hrun, hrel⟩ := partC_run hp hd E.w hcl
            refine ⟨u :: vs, ?_, hrel, h2⟩
            have e : a.tmps.getD t undef = .pointer (some ⟨E.β b, off, none⟩) := by
              rw [hy] at hv2
              simp [hv, hv2, mkV, ptrV]
            rw [add_lit, Nat.zero_add] at hrun
            have ea : (asAddr (a.tmps.getD t undef)).run E.P E.w = .ok ⟨E.β b, off, none⟩ E.w := by rw [e]; rfl
            simp only [List.mapM_cons, Sem.run_bind, ea, Result.andThen_ok, hrun, h1, Sem.run_pure]
        · cases h
      · cases h
    · cases h

theorem relVs_length : ∀ {l : List SV} {vs : List Value}, RelVs E l vs → l.length = vs.length
  | [], [], _ => rfl
  | _ :: _, _ :: _, h => by simp [relVs_length h.2]
  | [], _ :: _, h => h.elim
  | _ :: _, [], h => h.elim

theorem results_run {g : Look} (hm : Mod N E a g) {fn : Func} {svs : List SV} (h : resS E.P g fn.results.toList = some svs) : ∃ vs, RelVs E svs vs ∧ (results fn a.tmps).run E.P E.w = .ok (if h : vs.length = 1 then vs[0] else .tuple vs.toArray) E.w := by
  obtain ⟨vs, h1, h2⟩ := resS_run hm h
  refine ⟨vs, h2, ?_⟩
  unfold results
  rw [← Array.toArray_toList (xs := fn.results), List.mapM_toArray]
  rw [Sem.run_bind, Sem.run_map]
  erw [h1]
  rfl

theorem compsOf_rel : ∀ {l : List SV} {m : List (Bool × List At)} {vs : List Value}, compsOf l = some m → RelVs E l vs → RelT E m vs
  | [], m, [], h, _ => by simp only [compsOf, Option.some.injEq] at h; subst h; trivial
  | .c ag l :: r, m, v :: vs, h, hr => by
    simp only [compsOf] at h
    split at h
    · rename_i m' hm
      injection h with h
      subst h
      exact ⟨hr.1, compsOf_rel hm hr.2⟩
    · cases h
  | .tup _ :: _, _, _, h, _ => by simp [compsOf] at h
  | [], _, _ :: _, _, hr => hr.elim
  | .c _ _ :: _, _, [], _, hr => hr.elim

theorem retSV_rel {l : List SV} {sv : SV} {vs : List Value} (h : retSV l = some sv) (hr : RelVs E l vs) : RelV E sv (if h : vs.length = 1 then vs[0] else .tuple vs.toArray) := by
  have e := relVs_length hr
  unfold retSV at h
  split at h
  · injection h with h
    subst h
    match vs, hr with
    | [u], hr => exact hr.1
  · rename_i hne
    split at h
    · rename_i m hm
      injection h with h
      subst h
      have hv : ¬ vs.length = 1 := fun h1 => by
        match l, e, hne with
        | [x], _, hne => exact hne x rfl
        | [], e, _ => simp only [List.length_nil] at e; omega
        | _ :: _ :: _, e, _ => simp only [List.length_cons] at e; omega
      rw [dif_neg hv]
      exact ⟨vs, rfl, compsOf_rel hm hr⟩
    · cases h

theorem argSlots_rel : ∀ {args : List SV} {vs : List Value} {i : Nat}, RelVs E args vs → ∀ j t, look (argSlots args i) j = some (some t) → ∃ v, i ≤ j ∧ vs[j - i]? = some v ∧ RelS E t v
  | [], _, i, _, j, t, h => by simp [argSlots, look] at h
  | s :: r, v :: vs, i, hr, j, t, h => by
    simp only [argSlots] at h
    rw [look_cons] at h
    split at h
    · rename_i e
      simp only [Option.some.injEq] at h
      subst h
      subst e
      exact ⟨v, Nat.le_refl _, by simp, hr.1⟩
    · obtain ⟨u, h3, h4, h5⟩ := argSlots_rel hr.2 j t h
      refine ⟨u, by omega, ?_, h5⟩
      rw [show j - i = (j - (i + 1)) + 1 by omega]
      exact h4
  | _ :: _, [], _, hr, _, _, _ => hr.elim

theorem inlF_ok {C : Ctx} (hC : C.ok) (hmix : C.P.follows .mixedOrders = true) {hl : FuncId → Hint} : ∀ d, InlOk C (inlF lpK jnK C hl d)
  | 0 => fun _ _ _ _ _ _ h => by cases h
  | d + 1 => fun R id args σ K z h hro E hm hP vs hvs post hpost => by
    simp only [inlF] at h
    split at h
    · rename_i fn hf
      split at h
      · rename_i code hb hle
        have hle : args.length ≤ fn.ntmps := by simpa using hle
        have hlen := relVs_length hvs
        refine calls_of_wp hf hb ?_
        have hmod : Mod fn.ntmps E { tmps := vs ++ Array.replicate (fn.ntmps - vs.size) undef, defers := [] } ({ σ with s := argSlots args 0 } : St).look := by
          have hm' : MemOk E ({ σ with s := argSlots args 0 } : St).look := hm.of rfl rfl
          refine ⟨hm'.glob, rfl, ?_, fun i t hi => ?_, hm'.blks, hm'.rows⟩
          · have : vs.size = args.length := by rw [hlen]; simp
            simp only [Array.size_append, Array.size_replicate]
            omega
          · simp only [St.look, lookS] at hi
            split at hi
            · rename_i t' hl'
              injection hi with hi
              subst hi
              obtain ⟨v, _, h2, h3⟩ := argSlots_rel hvs i t' hl'
              rw [Nat.sub_zero] at h2
              refine ⟨v, ?_, h3⟩
              have hlt := (List.getElem?_eq_some_iff.1 h2).1
              rw [Array.getElem?_append_left (by simpa using hlt)]
              simpa using h2
            · cases hi
        refine den_ok hC (inlF_ok hC hmix d) hmix h hro hP hmod fun e σ' E' a' hk hs hkp hf' hsl hm' => ?_
        have fin : ∀ svs, resS C.P σ'.look fn.results.toList = some svs → K svs σ' = some z → a'.defers = [] ∧ ∃ v, (results fn a'.tmps).run C.P E'.w = .ok v E'.w ∧ post (.returned v) E'.w := fun svs hsv hkk => by
          rw [← hP, ← hs.P] at hsv
          obtain ⟨us, hu1, hu2⟩ := results_run hm' hsv
          rw [hs.P, hP] at hu2
          exact ⟨hm'.nodef, _, hu2, hpost svs σ' E' _ hkk hs hkp ⟨hf'.ro, hf'.roR, hf'.h, hf'.r⟩ (hm'.memOk.of rfl rfl) fun sv hsv' => retSV_rel hsv' hu1⟩
        cases e with
        | normal =>
          simp only at hk
          split at hk
          · rename_i svs hsv; exact fin svs hsv hk
          · cases hk
        | ret =>
          simp only at hk
          split at hk
          · rename_i svs hsv; exact fin svs hsv hk
          · cases hk
        | exit i => cases hk
      · cases h
    · cases h

theorem readVs_rel : ∀ {l : List Sh} {svs : List SV} {z : TsS l} {vs : List Value}, readVs l svs = some z → RelVs E svs vs → DatVs E.w E.Z l z vs
  | [], [], _, [], _, _ => rfl
  | s :: r, v :: svs, z, u :: us, h, hr => by
    simp only [readVs] at h
    split at h
    · rename_i x y hx hy
      injection h with h
      subst h
      simp only [DatVs]
      exact ⟨u, us, rfl, whole_rel hx hr.1, readVs_rel hy hr.2⟩
    · cases h
  | [], [], _, _ :: _, _, hr => hr.elim
  | _ :: _, _ :: _, _, [], _, hr => hr.elim
  | [], _ :: _, _, _, h, _ => by simp [readVs] at h
  | _ :: _, [], _, _, h, _ => by simp [readVs] at h

theorem readVs_length : ∀ {l : List Sh} {svs : List SV} {z : TsS l}, readVs l svs = some z → svs.length = l.length
  | [], [], _, _ => rfl
  | s :: r, v :: svs, z, h => by
    simp only [readVs] at h
    split at h
    · rename_i x y hx hy
      simp [readVs_length hy]
    · cases h
  | [], _ :: _, _, h => by simp [readVs] at h
  | _ :: _, [], _, h => by simp [readVs] at h

theorem readRet_rel {r : RSh} {svs : List SV} {z : r.T} {vs : List Value} (h : readRet r svs = some z) (hr : RelVs E svs vs) : RetV E.w E.Z r z (if h : vs.length = 1 then vs[0] else .tuple vs.toArray) := by
  cases r with
  | one s =>
    match svs, vs, hr with
    | [v], [u], hr => exact whole_rel h hr.1
    | [], _, _ => simp [readRet] at h
    | _ :: _ :: _, _, _ => simp [readRet] at h
  | tup l =>
    simp only [readRet] at h
    split at h
    · rename_i h1
      have e1 := readVs_length h
      have e2 := relVs_length hr
      have hne : ¬ vs.length = 1 := by
        intro e
        match l, e1, h1 with
        | [], e1, _ => simp only [List.length_nil] at e1; omega
        | [_], _, h1 => simp [notOne] at h1
        | _ :: _ :: _, e1, _ => simp only [List.length_cons] at e1; omega
      rw [dif_neg hne]
      exact ⟨vs, rfl, readVs_rel h hr⟩
    · cases h

theorem initS_slots : ∀ {as : List Sh} {x : TsS as} {vals : List Value} {i : Nat}, DatVs E.w E.Z as x vals → ∀ j t, look (initS as x i) j = some (some t) → ∃ v, i ≤ j ∧ vals[j - i]? = some v ∧ RelS E t v
  | [], _, _, i, _, j, t, h => by simp [initS, look] at h
  | s :: r, x, vals, i, hd, j, t, h => by
    simp only [DatVs] at hd
    obtain ⟨v, vs', rfl, h1, h2⟩ := hd
    simp only [initS] at h
    rw [look_cons] at h
    split at h
    · rename_i e
      simp only [Option.some.injEq] at h
      subst h
      subst e
      exact ⟨v, Nat.le_refl _, by simp, datV_rel h1⟩
    · rename_i e
      obtain ⟨u, h3, h4, h5⟩ := initS_slots h2 j t h
      refine ⟨u, by omega, ?_, h5⟩
      rw [show j - i = (j - (i + 1)) + 1 by omega]
      exact h4

theorem DatVs.length {w : World} {Z : Nat → Prop} : ∀ {as : List Sh} {x : TsS as} {vals : List Value}, DatVs w Z as x vals → vals.length = as.length
  | [], _, _, h => by simp only [DatVs] at h; subst h; rfl
  | _ :: _, _, _, h => by simp only [DatVs] at h; obtain ⟨v, vs', rfl, _, h2⟩ := h; simp [DatVs.length h2]
theorem FnVs.length {P : Program} {w : World} {Z : Nat → Prop} : ∀ {as : List (List Sh × Sh)} {x : TsF as} {vals : List Value}, FnVs P w Z as x vals → vals.length = as.length
  | [], _, _, h => by simp only [FnVs] at h; subst h; rfl
  | _ :: _, _, _, h => by simp only [FnVs] at h; obtain ⟨v, vs', rfl, _, h2⟩ := h; simp [FnVs.length h2]
theorem RefVs.length {w : World} {Z : Nat → Prop} : ∀ {as : List Sh} {x : TsS as} {vals : List Value}, RefVs w Z as x vals → vals.length = as.length
  | [], _, _, h => by simp only [RefVs] at h; subst h; rfl
  | _ :: _, _, _, h => by simp only [RefVs] at h; obtain ⟨v, vs', rfl, _, h2⟩ := h; simp [RefVs.length h2]

theorem initF_slots (hE : E.w0 = E.w) (hZ : E.Z0 = E.Z) : ∀ {as : List (List Sh × Sh)} {x : TsF as} {vals : List Value} {i : Nat}, FnVs E.P E.w E.Z as x vals → ∀ j t, look (initF as x i) j = some (some t) → ∃ v, i ≤ j ∧ vals[j - i]? = some v ∧ RelS E t v
  | [], _, _, i, _, j, t, h => by simp [initF, look] at h
  | s :: r, x, vals, i, hd, j, t, h => by
    simp only [FnVs] at hd
    obtain ⟨v, vs', rfl, h1, h2⟩ := hd
    simp only [initF] at h
    rw [look_cons] at h
    split at h
    · rename_i e
      simp only [Option.some.injEq] at h
      subst h
      subst e
      refine ⟨v, Nat.le_refl _, by simp, ⟨[v], rfl, ⟨?_, trivial⟩, fun _ => rfl⟩⟩
      show FnV E.P E.w0 E.Z0 s.1 s.2 x.1 v
      rw [hE, hZ]
      exact h1
    · rename_i e
      obtain ⟨u, h3, h4, h5⟩ := initF_slots hE hZ h2 j t h
      refine ⟨u, by omega, ?_, h5⟩
      rw [show j - i = (j - (i + 1)) + 1 by omega]
      exact h4

theorem initC_slots (hE : E.w0 = E.w) : ∀ {as : List Sh} {x : TsS as} {vals : List Value} {i : Nat}, RefVs E.w E.Z as x vals → ∀ j t, look (initC as x i) j = some (some t) → ∃ v, i ≤ j ∧ vals[j - i]? = some v ∧ RelS E t v
  | [], _, _, i, _, j, t, h => by simp [initC, look] at h
  | s :: r, x, vals, i, hd, j, t, h => by
    simp only [RefVs] at hd
    obtain ⟨v, vs', rfl, h1, h2⟩ := hd
    simp only [initC] at h
    rw [look_cons] at h
    split at h
    · rename_i e
      simp only [Option.some.injEq] at h
      subst h
      subst e
      obtain ⟨b, cs, rfl, hb, hd', hc⟩ := h1
      refine ⟨.pointer (some ⟨b, 0, none⟩), Nat.le_refl _, by simp, ⟨[.pointer (some ⟨b, 0, none⟩)], rfl, ⟨⟨⟨b, 0, none⟩, cs, by simp [Addr.add], .inr (by rw [hE]; exact hb), hd', fun j u hj => by rw [add_lit, Nat.zero_add]; exact hc j u hj⟩, trivial⟩, fun _ => rfl⟩⟩
    · rename_i e
      obtain ⟨u, h3, h4, h5⟩ := initC_slots hE h2 j t h
      refine ⟨u, by omega, ?_, h5⟩
      rw [show j - i = (j - (i + 1)) + 1 by omega]
      exact h4

theorem look_append_or {α : Type} {i : Nat} : ∀ {l m : List (Nat × α)} {x : α}, look (l ++ m) i = some x → look l i = some x ∨ look m i = some x
  | [], m, x, h => .inr h
  | p :: r, m, x, h => by
    rw [List.cons_append, look_cons] at h
    rw [look_cons]
    split at h
    · exact .inl (by rw [if_pos (by assumption)]; exact h)
    · rw [if_neg (by assumption)]
      exact look_append_or h

theorem retV_mono {w : World} {Z Z' : Nat → Prop} (hZ : ∀ b, Z b → Z' b) {r : RSh} {x : r.T} {v : Value} (h : RetV w Z r x v) : RetV w Z' r x v := by
  have one : ∀ {s : Sh} {x : s.T} {v : Value}, DatV w Z s x v → DatV w Z' s x v := fun ⟨cs, h1, h2, h3⟩ => ⟨cs, Dat.mono hZ (fun _ _ => rfl) h1, h2, h3⟩
  cases r with
  | one s => exact one h
  | tup l =>
    obtain ⟨vs, h1, h2⟩ := h
    refine ⟨vs, h1, ?_⟩
    clear h1
    induction l generalizing vs with
    | nil => exact h2
    | cons s r ih =>
      simp only [DatVs] at h2 ⊢
      obtain ⟨v, vs', h3, h4, h5⟩ := h2
      exact ⟨v, vs', h3, one h4, ih (x := x.2) vs' h5⟩

/-- What a function's body answers. -/
def runC (lp : Lp) (jn : Jn) (C : Ctx) (hl : FuncId → Hint) (d : Nat) (id : FuncId) (fn : Func) (c : Ctr) (x : TsS c.as) (F : TsF c.fs) (y : TsS c.cs) : Option c.r.T :=
  den lp jn (inlF lp jn C hl d) C fn.ntmps (hl id) (fn.body.getD .skip) (c.init x F y) (post C.P c.r fn.results)

theorem Ctr.of_den {C : Ctx} (hC : C.ok) (hmix : C.P.follows .mixedOrders = true) {hl : FuncId → Hint} {d : Nat} {f : FuncId} {fn : Func} {code : Code} {c : Ctr} (hf : C.P.funcs[f]? = some fn) (hb : fn.body = some code) (hn : c.as.length + c.fs.length + c.cs.length ≤ fn.ntmps)
    (h : ∀ x F y, c.m x F y = runC lpK jnK C hl d f fn c x F y) : c.ok C.P f := by
  intro x F y z hz w Z vals fvals cvals hZ h1 h2 h3
  refine calls_of_wp hf hb ?_
  let E : Env := { P := C.P, w0 := w, Z0 := Z, w := w, Z := Z, β := fun _ => 0, L := fun _ => False, ρ := fun _ => undef, R := fun _ => False }
  have l1 := h1.length
  have l2 := h2.length
  have l3 := h3.length
  have hm : Mod fn.ntmps E { tmps := (vals ++ fvals ++ cvals).toArray ++ Array.replicate (fn.ntmps - (vals ++ fvals ++ cvals).toArray.size) undef, defers := [] } (c.init x F y).look := by
    refine ⟨⟨Below.refl _ _, hZ, fun _ h => h, fun _ h => .inl h, fun b hb => hb.elim, fun r hr => hr.elim, fun i l hi => by simp [Ctr.init, St.look, look] at hi, fun i j l l' hi => by simp [Ctr.init, St.look, look] at hi,
      fun i r b hi => by simp [Ctr.init, St.look, look] at hi, fun i j r r' b hi => by simp [Ctr.init, St.look, look] at hi⟩, rfl, ?_, fun i t hi => ?_, fun i l hi => by simp [Ctr.init, St.look, look] at hi, fun i r hi => by simp [Ctr.init, St.look, look] at hi⟩
    · simp only [Array.size_append, List.size_toArray, List.length_append, Array.size_replicate]
      omega
    · have get : ∀ v, (vals ++ fvals ++ cvals)[i]? = some v → ((vals ++ fvals ++ cvals).toArray ++ Array.replicate (fn.ntmps - (vals ++ fvals ++ cvals).toArray.size) undef)[i]? = some v := fun v hv => by
        have hlt := (List.getElem?_eq_some_iff.1 hv).1
        rw [Array.getElem?_append_left (by simpa using hlt)]
        simpa using hv
      simp only [St.look, lookS] at hi
      split at hi
      · rename_i t' hl
        injection hi with hi
        subst hi
        simp only [Ctr.init] at hl
        rcases look_append_or hl with hl | hl
        · rcases look_append_or hl with hl | hl
          · obtain ⟨v, h4, h5, h6⟩ := initS_slots (E := E) h1 i t' hl
            refine ⟨v, get v ?_, h6⟩
            rw [Nat.sub_zero] at h5
            have hlt := (List.getElem?_eq_some_iff.1 h5).1
            rw [List.append_assoc, List.getElem?_append_left hlt]
            exact h5
          · obtain ⟨v, h4, h5, h6⟩ := initF_slots (E := E) rfl rfl h2 i t' hl
            refine ⟨v, get v ?_, h6⟩
            have hlt := (List.getElem?_eq_some_iff.1 h5).1
            rw [List.append_assoc, List.getElem?_append_right (by omega), List.getElem?_append_left (by omega), l1]
            exact h5
        · obtain ⟨v, h4, h5, h6⟩ := initC_slots (E := E) rfl h3 i t' hl
          refine ⟨v, get v ?_, h6⟩
          rw [List.getElem?_append_right (by simp; omega)]
          simp only [List.length_append, l1, l2]
          exact h5
      · cases hi
  have hrun := hz
  rw [h x F y] at hrun
  unfold runC at hrun
  rw [hb] at hrun
  refine den_ok hC (inlF_ok hC hmix d) hmix hrun (fun i hi => by simp [Ctr.init] at hi) (E := E) rfl hm fun e σ' E' a' hk hs _ _ _ hm' => ?_
  have hP : E'.P = C.P := hs.P
  have h0 : E'.w0 = w := hs.w0
  have hz0 : E'.Z0 = Z := hs.Z0
  have done : ∀ vs, resS C.P σ'.look fn.results.toList = some vs → readRet c.r (thawVs σ'.look.r vs) = some z → a'.defers = [] ∧ ∃ v, (results fn a'.tmps).run C.P E'.w = .ok v E'.w ∧ ∃ u, Ending.returned v = .returned u ∧ RetV E'.w (fresh Z w E'.w) c.r z u ∧ Below w.heap.size w E'.w := by
    intro vs hvs hok
    rw [← hP] at hvs
    obtain ⟨us, hu1, hu2⟩ := results_run hm' hvs
    rw [hP] at hu2
    have hu3 := thawVs_rel hm' (fun _ _ h => h) hu1 (u := rowsVs vs) fun r hr => hr
    refine ⟨hm'.nodef, _, hu2, _, rfl, retV_mono (fun b hb => ?_) (readRet_rel (E := E'.zone σ'.look (rowsVs vs)) hok hu3), ?_⟩
    · rcases hb with hb | ⟨r, _, ri, h5, h6⟩
      · rcases hm'.glob.zfrom b hb with h | h
        · exact .inl (by rw [← hz0]; exact h)
        · exact .inr ⟨by rw [h0] at h; exact h, hm'.glob.zlt b hb⟩
      · obtain ⟨h7, h8⟩ := hm'.row_lt h5 h6
        rw [h0] at h7
        exact .inr ⟨h7, h8⟩
    · have := hm'.glob.below
      rw [h0] at this
      exact this
  cases e with
  | normal =>
    simp only [post] at hk
    split at hk
    · rename_i vs hvs
      exact done vs hvs hk
    · cases hk
  | ret =>
    simp only [post] at hk
    split at hk
    · rename_i vs hvs
      exact done vs hvs hk
    · cases hk
  | exit i => cases hk

/-! ### Functions that make rows -/

def readRow (rk : Rk) (t : TypeId) (e : Sh) : List SV → Option (List e.T)
  | [.c false [x]] => rowOf rk t e x
  | _ => none

def postR (P : Program) (t : TypeId) (e : Sh) (rv : Array ResultVar) : Ex → St → Option (List e.T)
  | .exit _, _ => none
  | _, σ => match resS P σ.look rv.toList with
    | some vs => readRow (look σ.r) t e vs
    | none => none

/-- The first parameter is nil, or is not. -/
def initN : (as : List Sh) → TsS as → Bool → List (Nat × Option SlotV)
  | .sl e :: r, x, true => (0, some ⟨none, .c false [.sn e x.1]⟩) :: initS r x.2 1
  | _ :: r, x, false => (0, some ⟨none, .c false [.v (.slice none 0 0)]⟩) :: initS r x.2 1
  | _, _, _ => []

def runR (lp : Lp) (jn : Jn) (C : Ctx) (hl : FuncId → Hint) (d : Nat) (id : FuncId) (fn : Func) (t : TypeId) (e : Sh) (s : List (Nat × Option SlotV)) : Option (List e.T) :=
  den lp jn (inlF lp jn C hl d) C fn.ntmps (hl id) (fn.body.getD .skip) { s := s, h := [], r := [], next := 0 } (postR C.P t e fn.results)

theorem runR_ok {C : Ctx} (hC : C.ok) (hmix : C.P.follows .mixedOrders = true) {hl : FuncId → Hint} {d : Nat} {f : FuncId} {fn : Func} {code : Code} {t : TypeId} {e : Sh} {s : List (Nat × Option SlotV)} {l : List e.T} (hf : C.P.funcs[f]? = some fn) (hb : fn.body = some code)
    (h : runR lpK jnK C hl d f fn t e s = some l) {w : World} {Z : Nat → Prop} {vals : List Value} (hn : vals.length ≤ fn.ntmps) (hZ : ∀ b, Z b → b < w.heap.size)
    (hs : ∀ E : Env, E.w = w → E.Z = Z → E.w0 = w → E.Z0 = Z → ∀ i s', look s i = some (some s') → ∃ v, vals[i]? = some v ∧ RelS E s' v) :
    Calls C.P f vals.toArray w fun en w' => ∃ (v : Value) (Z' : Nat → Prop), en = .returned v ∧ (∀ b, Z b → Z' b) ∧ (∀ b, Z' b → fresh Z w w' b) ∧ (∀ b, v.ownBlock = some b → ¬ Z' b) ∧
      (∃ xs, w'.ownsRow w.heap.size t e.size v l.length xs ∧ RowRel w' Z' e l xs) ∧ Below w.heap.size w w' := by
  refine calls_of_wp hf hb ?_
  let E : Env := { P := C.P, w0 := w, Z0 := Z, w := w, Z := Z, β := fun _ => 0, L := fun _ => False, ρ := fun _ => undef, R := fun _ => False }
  have hm : Mod fn.ntmps E { tmps := vals.toArray ++ Array.replicate (fn.ntmps - vals.toArray.size) undef, defers := [] } ({ s := s, h := [], r := [], next := 0 } : St).look := by
    refine ⟨⟨Below.refl _ _, hZ, fun _ h => h, fun _ h => .inl h, fun b hb => hb.elim, fun r hr => hr.elim, fun i l hi => by simp [St.look, look] at hi, fun i j l l' hi => by simp [St.look, look] at hi,
      fun i r b hi => by simp [St.look, look] at hi, fun i j r r' b hi => by simp [St.look, look] at hi⟩, rfl, ?_, fun i t' hi => ?_, fun i l hi => by simp [St.look, look] at hi, fun i r hi => by simp [St.look, look] at hi⟩
    · simp only [Array.size_append, List.size_toArray, Array.size_replicate]
      omega
    · simp only [St.look, lookS] at hi
      split at hi
      · rename_i s' hl'
        injection hi with hi
        subst hi
        obtain ⟨v, h2, h3⟩ := hs E rfl rfl rfl rfl i s' hl'
        refine ⟨v, ?_, h3⟩
        have hlt := (List.getElem?_eq_some_iff.1 h2).1
        rw [Array.getElem?_append_left (by simpa using hlt)]
        simpa using h2
      · cases hi
  unfold runR at h
  rw [hb] at h
  refine den_ok hC (inlF_ok hC hmix d) hmix h (fun i hi => by simp at hi) (E := E) rfl hm fun ex σ' E' a' hk hs' _ _ _ hm' => ?_
  have hP : E'.P = C.P := hs'.P
  have h0 : E'.w0 = w := hs'.w0
  have hz0 : E'.Z0 = Z := hs'.Z0
  have done : ∀ vs, resS C.P σ'.look fn.results.toList = some vs → readRow (look σ'.r) t e vs = some l → a'.defers = [] ∧ ∃ v, (results fn a'.tmps).run C.P E'.w = .ok v E'.w ∧ ∃ (u : Value) (Z' : Nat → Prop), Ending.returned v = .returned u ∧ (∀ b, Z b → Z' b) ∧ (∀ b, Z' b → fresh Z w E'.w b) ∧ (∀ b, u.ownBlock = some b → ¬ Z' b) ∧
      (∃ xs, E'.w.ownsRow w.heap.size t e.size u l.length xs ∧ RowRel E'.w Z' e l xs) ∧ Below w.heap.size w E'.w := by
    intro vs hvs hok
    rw [← hP] at hvs
    obtain ⟨us, hu1, hu2⟩ := results_run hm' hvs
    rw [hP] at hu2
    refine ⟨hm'.nodef, _, hu2, _, E'.Z, rfl, fun b hb => by have := hm'.glob.z0 b; rw [hz0] at this; exact this hb, fun b hb => ?_, ?_⟩
    · rcases hm'.glob.zfrom b hb with h | h
      · exact .inl (by rw [← hz0]; exact h)
      · exact .inr ⟨by rw [h0] at h; exact h, hm'.glob.zlt b hb⟩
    · have hbel := hm'.glob.below
      rw [h0] at hbel
      unfold readRow at hok
      split at hok
      · rename_i x
        match us, hu1 with
        | [u], hu1 =>
          obtain ⟨cs, hu, hr, _⟩ := hu1.1
          match cs, hr with
          | [y], hr =>
            have huy : u = y := hu
            subst huy
            have hone : (if h : [u].length = 1 then [u][0] else Value.tuple [u].toArray) = u := by simp
            rw [hone]
            cases x with
            | row q =>
              simp only [rowOf] at hok
              split at hok
              · rename_i ri hri
                split at hok
                · rename_i he ht _
                  obtain ⟨rt, re, rn, rl⟩ := ri
                  simp only at he ht
                  subst he
                  have ht : rt = t := by simpa using ht
                  subst ht
                  injection hok with hok
                  subst hok
                  obtain ⟨⟨hv, _⟩, _⟩ := hr
                  obtain ⟨_, xs, o1, o2, _⟩ := hm'.rows q _ hri
                  rw [h0] at o1
                  exact ⟨fun b hb => (hm'.glob.rown q _ b hri (by rw [← hv]; exact hb)).1, ⟨xs, by rw [hv]; exact o1, o2⟩, hbel⟩
                · cases hok
              · cases hok
            | v z =>
              unfold rowOf at hok
              split at hok
              · rename_i heq; cases heq
              · rename_i heq
                injection heq with heq
                subst heq
                injection hok with hok
                subst hok
                have hv : u = .slice none 0 0 := hr.1
                subst hv
                exact ⟨fun b hb => (by cases hb), ⟨[], World.ownsRow_nil _ _ _ _, rfl⟩, hbel⟩
              · cases hok
            | _ => simp [rowOf] at hok
      · cases hok
  cases ex with
  | normal =>
    simp only [postR] at hk
    split at hk
    · rename_i vs hvs; exact done vs hvs hk
    · cases hk
  | ret =>
    simp only [postR] at hk
    split at hk
    · rename_i vs hvs; exact done vs hvs hk
    · cases hk
  | exit i => cases hk

theorem RCtr.of_den {C : Ctx} (hC : C.ok) (hmix : C.P.follows .mixedOrders = true) {hl : FuncId → Hint} {d : Nat} {f : FuncId} {fn : Func} {code : Code} {c : RCtr} (hf : C.P.funcs[f]? = some fn) (hb : fn.body = some code) (hn : c.as.length ≤ fn.ntmps)
    (h : ∀ x, c.m x = runR lpK jnK C hl d f fn c.t c.e (initS c.as x 0)) : c.ok C.P f := by
  intro x l hl' w Z vals hZ h1
  rw [h x] at hl'
  refine runR_ok hC hmix hf hb hl' (by rw [h1.length]; exact hn) hZ fun E hw hz _ _ i s' hi => ?_
  subst hw; subst hz
  obtain ⟨v, _, h3, h4⟩ := initS_slots h1 i s' hi
  exact ⟨v, by simpa using h3, h4⟩

/-- The first parameter a slice that is nil or is not: the function looks which. -/
theorem RCtr.of_den_nil {C : Ctx} (hC : C.ok) (hmix : C.P.follows .mixedOrders = true) {hl : FuncId → Hint} {d : Nat} {f : FuncId} {fn : Func} {code : Code} {c : RCtr} {e : Sh} {r : List Sh} (has : c.as = .sl e :: r) (hf : C.P.funcs[f]? = some fn) (hb : fn.body = some code) (hn : c.as.length ≤ fn.ntmps)
    (h1 : ∀ x, c.m x = runR lpK jnK C hl d f fn c.t c.e (initN c.as x true)) (h2 : ∀ (x : TsS (.sl e :: r)), x.1 = [] → c.m (has ▸ x) = runR lpK jnK C hl d f fn c.t c.e (initN (.sl e :: r) x false)) : c.ok C.P f := by
  obtain ⟨as, t, ee, m⟩ := c
  simp only at has
  subst has
  intro x l hl' w Z vals hZ hd
  have hlen := hd.length
  have hd0 := hd
  simp only [DatVs] at hd
  obtain ⟨v, vs', rfl, ⟨cs, g1, g2, g3⟩, g4⟩ := hd
  simp only [Dat] at g1
  obtain ⟨A, cp, rfl, hc, hA, g1⟩ := g1
  have hv : v = .slice A x.1.length cp := g2
  have rest : ∀ E : Env, E.w = w → E.Z = Z → ∀ i s', look (initS r x.2 1) i = some (some s') → ∃ u, (v :: vs')[i]? = some u ∧ RelS E s' u := fun E hw hz i s' hi => by
    subst hw; subst hz
    obtain ⟨u, k1, k2, k3⟩ := initS_slots g4 i s' hi
    refine ⟨u, ?_, k3⟩
    rw [show i = (i - 1) + 1 by omega]
    simpa using k2
  cases A with
  | none =>
    have hcp := hA rfl
    subst hcp
    have hx : x.1 = [] := List.eq_nil_of_length_eq_zero (by omega)
    have hl2 := (h2 x hx).symm.trans hl'
    refine runR_ok hC hmix hf hb hl2 (by rw [hlen]; exact hn) hZ fun E hw hz _ _ i s' hi => ?_
    simp only [initN] at hi
    rw [look_cons] at hi
    split at hi
    · rename_i e0
      simp only [Option.some.injEq] at hi
      subst hi; subst e0
      exact ⟨v, rfl, ⟨[v], rfl, ⟨by rw [hv, hx]; rfl, trivial⟩, fun _ => rfl⟩⟩
    · exact rest E hw hz i s' hi
  | some ad =>
    have hl2 := (h1 x).symm.trans hl'
    refine runR_ok hC hmix hf hb hl2 (by rw [hlen]; exact hn) hZ fun E hw hz _ _ i s' hi => ?_
    simp only [initN] at hi
    rw [look_cons] at hi
    split at hi
    · rename_i e0
      simp only [Option.some.injEq] at hi
      subst hi; subst e0
      refine ⟨v, rfl, ⟨[v], rfl, ⟨⟨⟨ad, _, _, hv⟩, ?_⟩, trivial⟩, fun _ => rfl⟩⟩
      rw [hw, hz]
      simp only [Dat]
      exact ⟨some ad, cp, by rw [hv], hc, hA, g1⟩
    · exact rest E hw hz i s' hi

/-! ### Contexts as lists -/

def ctxOf (P : Program) (sh : TypeId → Option Sh) (inl : List Nat) (l : List (Nat × Ctr)) (rl : List (Nat × RCtr) := []) : Ctx := ⟨P, sh, look l, fun i => memN i inl, look rl⟩

def inlOk (P : Program) : List Nat → Bool
  | [] => true
  | i :: r => callable P i && inlOk P r

theorem inlOk_mem {P : Program} {i : Nat} : ∀ {l : List Nat}, inlOk P l = true → memN i l = true → callable P i = true
  | [], _, h => by cases h
  | j :: r, h, hi => by
    simp only [inlOk, Bool.and_eq_true] at h
    simp only [memN] at hi
    split at hi
    · rename_i e
      have e : i = j := by simpa using e
      rw [e]; exact h.1
    · exact inlOk_mem h.2 hi

theorem ctxOf_nil {P : Program} {sh : TypeId → Option Sh} {inl : List Nat} (h : inlOk P inl = true) : (ctxOf P sh inl []).ok := ⟨fun _ _ h => (by cases h), fun _ hi => inlOk_mem h hi, fun _ _ h => (by cases h)⟩

theorem ctxOf_row {P : Program} {sh : TypeId → Option Sh} {inl : List Nat} {rl : List (Nat × RCtr)} {f : FuncId} {c : RCtr} (h : (ctxOf P sh inl [] rl).ok) (hc : callable P f = true) (ho : c.ok P f) : (ctxOf P sh inl [] ((f, c) :: rl)).ok := ⟨h.ctr, h.inl, fun id d hd => by
  simp only [ctxOf] at hd
  rw [look_cons] at hd
  split at hd
  · rename_i e
    injection hd with hd
    subst hd
    subst e
    exact ⟨hc, ho⟩
  · exact h.rctr id d hd⟩

theorem ctxOf_cons {P : Program} {sh : TypeId → Option Sh} {inl : List Nat} {l : List (Nat × Ctr)} {rl : List (Nat × RCtr)} {f : FuncId} {c : Ctr} (h : (ctxOf P sh inl l rl).ok) (hc : callable P f = true) (ho : c.ok P f) : (ctxOf P sh inl ((f, c) :: l) rl).ok := ⟨fun id d hd => by
  simp only [ctxOf] at hd
  rw [look_cons] at hd
  split at hd
  · rename_i e
    injection hd with hd
    subst hd
    subst e
    exact ⟨hc, ho⟩
  · exact h.ctr id d hd, h.inl, h.rctr⟩

end
end
end Dn
end Go.Proofs.Ytghjblbkbelcfaa

namespace Go.Proofs.Ytghjblbkbelcfaa
namespace Dn
noncomputable section
open Go.RowKit Go.WideShapes Go.ChangeShapes

/-- A datum whose numbers are of their kind, and whose lists and strings are no longer than the machine's. -/
def Sh.wf : (s : Sh) → s.T → Prop
  | .int k, n => (Lit.int k n).wf = true
  | .bool, _ => True
  | .str, b => b.size ≤ maxLen
  | .sl e, l => l.length ≤ maxLen ∧ ∀ x ∈ l, e.wf x
  | .pair a b, x => a.wf x.1 ∧ b.wf x.2
  | .agg e, x => e.wf x

theorem Sh.size_pos : ∀ s : Sh, 0 < s.size
  | .int _ => Nat.one_pos
  | .bool => Nat.one_pos
  | .str => Nat.one_pos
  | .sl _ => Nat.one_pos
  | .pair a b => by have := Sh.size_pos a; simp only [Sh.size]; omega
  | .agg e => Sh.size_pos e

def leafT (P : Program) (n : Nat) : TypeId ⊕ (Nat × List Field) → Option TypeId
  | .inl t => some t
  | .inr (off, [f]) => match Nat.beq f.offset off && Nat.beq (P.cellsOf f.type) n with
    | true => some f.type
    | false => none
  | _ => none

def isIntT (P : Program) (k : IntKind) (t : TypeId) : Bool := match P.underlying t with
  | some (.int k') => decide (k' = k)
  | _ => false
def isBoolT (P : Program) (t : TypeId) : Bool := match P.underlying t with
  | some .bool => true
  | _ => false
def isStrT (P : Program) (t : TypeId) : Bool := match P.underlying t with
  | some .string => true
  | _ => false
def arrFields (P : Program) (u : TypeId) : Nat → Nat → List Field
  | 0, _ => []
  | n + 1, i => { name := "", type := u, offset := i * P.cellsOf u, embedded := false, tag := "", pkgPath := "", byteOffset := 0 } :: arrFields P u n (i + 1)

/-- A type, or the fields of a struct from a place on, have a shape. -/
def chk (P : Program) : Sh → TypeId ⊕ (Nat × List Field) → Bool
  | .int k, x => match leafT P 1 x with
    | some t => isIntT P k t
    | none => false
  | .bool, x => match leafT P 1 x with
    | some t => isBoolT P t
    | none => false
  | .str, x => match leafT P 1 x with
    | some t => isStrT P t
    | none => false
  | .sl e, x => match leafT P 1 x with
    | some t => match P.underlying t with
      | some (.slice u) => Nat.beq (P.cellsOf u) e.size && chk P e (.inl u)
      | _ => false
    | none => false
  | .pair a b, .inr (off, f :: g :: r) => Nat.beq f.offset off && Nat.beq (P.cellsOf f.type) a.size && chk P a (.inl f.type) && chk P b (.inr (off + a.size, g :: r))
  | .pair _ _, _ => false
  | .agg e, x => match leafT P e.size x with
    | some t => match P.underlying t with
      | some (.struct fs) => Nat.beq (P.cellsOf t) e.size && chk P e (.inr (0, fs.toList))
      | some (.array n u) => Nat.beq (P.cellsOf t) e.size && chk P e (.inr (0, arrFields P u n 0))
      | _ => false
    | none => false

section
variable {H : Type} {enc : TypeId × Value → H} {P : Program} {w : World} {sp : Nat → Bool} {held : Bool}

def inHeap (w : World) : Nat → Prop := fun b => b < w.heap.size

theorem leafT_inr {n off : Nat} {fl : List Field} {t : TypeId} (h : leafT P n (.inr (off, fl)) = some t) : ∃ f, fl = [f] ∧ f.offset = off ∧ P.cellsOf f.type = n ∧ f.type = t := by
  unfold leafT at h
  split at h
  · rename_i heq; cases heq
  · rename_i o f heq
    injection heq with heq
    simp only [Prod.mk.injEq] at heq
    obtain ⟨rfl, rfl⟩ := heq
    split at h
    · rename_i hb
      simp only [Bool.and_eq_true, Nat.beq_eq] at hb
      injection h with h
      exact ⟨f, rfl, hb.1, hb.2, h⟩
    · cases h
  · cases h

theorem chk_leaf : ∀ {s : Sh} {off : Nat} {fl : List Field}, (∀ a b, s ≠ .pair a b) → chk P s (.inr (off, fl)) = true → ∃ f, fl = [f] ∧ f.offset = off ∧ P.cellsOf f.type = s.size ∧ chk P s (.inl f.type) = true := by
  intro s off fl hs h
  cases s with
  | pair a b => exact absurd rfl (hs a b)
  | int k =>
    simp only [chk] at h
    split at h
    · rename_i t ht
      obtain ⟨f, rfl, h1, h2, rfl⟩ := leafT_inr ht
      exact ⟨f, rfl, h1, h2, by simpa only [chk, leafT] using h⟩
    · cases h
  | bool =>
    simp only [chk] at h
    split at h
    · rename_i t ht
      obtain ⟨f, rfl, h1, h2, rfl⟩ := leafT_inr ht
      exact ⟨f, rfl, h1, h2, by simpa only [chk, leafT] using h⟩
    · cases h
  | str =>
    simp only [chk] at h
    split at h
    · rename_i t ht
      obtain ⟨f, rfl, h1, h2, rfl⟩ := leafT_inr ht
      exact ⟨f, rfl, h1, h2, by simpa only [chk, leafT] using h⟩
    · cases h
  | sl e =>
    simp only [chk] at h
    split at h
    · rename_i t ht
      obtain ⟨f, rfl, h1, h2, rfl⟩ := leafT_inr ht
      exact ⟨f, rfl, h1, h2, by simpa only [chk, leafT] using h⟩
    · cases h
  | agg e =>
    simp only [chk] at h
    split at h
    · rename_i t ht
      obtain ⟨f, rfl, h1, h2, rfl⟩ := leafT_inr ht
      exact ⟨f, rfl, h1, h2, by simpa only [chk, leafT] using h⟩
    · cases h

def TrodTo (enc : TypeId × Value → H) (P : Program) (w : World) (sp : Nat → Bool) (held : Bool) (s : Sh) : Prop :=
  ∀ t fuel cs r, chk P s (.inl t) = true → DataW.trod enc P w 0 sp held fuel t cs = some r → ∃ y : s.T, Dat w (inHeap w) s y cs ∧ s.wf y
def FieldsTo (enc : TypeId × Value → H) (P : Program) (w : World) (sp : Nat → Bool) (held : Bool) (s : Sh) : Prop :=
  ∀ off fl (cs : List Value), chk P s (.inr (off, fl)) = true → (∀ f ∈ fl, ∃ n r, DataW.trod enc P w 0 sp held n f.type ((cs.drop f.offset).take (P.cellsOf f.type)) = some r) → cs.length = off + s.size →
    ∃ y : s.T, Dat w (inHeap w) s y (cs.drop off) ∧ s.wf y

theorem fields_leaf {s : Sh} (hs : ∀ a b, s ≠ .pair a b) (h : TrodTo enc P w sp held s) : FieldsTo enc P w sp held s := by
  intro off fl cs hc hf hl
  obtain ⟨f, rfl, rfl, h2, h3⟩ := chk_leaf hs hc
  obtain ⟨n, r, hr⟩ := hf f (by simp)
  rw [h2, List.take_of_length_le (by simp; omega)] at hr
  exact h _ _ _ _ h3 hr

theorem arrFields_mem {u : TypeId} : ∀ {n i : Nat} {f : Field}, f ∈ arrFields P u n i → ∃ j, j < n ∧ f.type = u ∧ f.offset = (i + j) * P.cellsOf u
  | n + 1, i, f, h => by
    rcases List.mem_cons.1 h with rfl | h
    · exact ⟨0, by omega, rfl, by simp⟩
    · obtain ⟨j, h1, h2, h3⟩ := arrFields_mem h
      exact ⟨j + 1, by omega, h2, by rw [h3]; congr 1; omega⟩
  | 0, _, _, h => by cases h

theorem trod_both : ∀ s : Sh, TrodTo enc P w sp held s ∧ FieldsTo enc P w sp held s
  | .int k => by
    have h : TrodTo enc P w sp held (.int k) := by
      intro t fuel cs r hc hr
      simp only [chk, leafT, isIntT] at hc
      split at hc
      · rename_i k' ht
        have hk : k' = k := by simpa using hc
        subst hk
        obtain ⟨n, rfl, _, hw⟩ := DataW.trod_int ht hr
        exact ⟨n, rfl, hw⟩
      · cases hc
    exact ⟨h, fields_leaf (by simp) h⟩
  | .bool => by
    have h : TrodTo enc P w sp held .bool := by
      intro t fuel cs r hc hr
      simp only [chk, leafT, isBoolT] at hc
      split at hc
      · rename_i ht
        obtain ⟨n, rfl, _⟩ := DataW.trod_bool ht hr
        exact ⟨n, rfl, trivial⟩
      · cases hc
    exact ⟨h, fields_leaf (by simp) h⟩
  | .str => by
    have h : TrodTo enc P w sp held .str := by
      intro t fuel cs r hc hr
      simp only [chk, leafT, isStrT] at hc
      split at hc
      · rename_i ht
        obtain ⟨n, rfl, _, hw⟩ := DataW.trod_string ht hr
        exact ⟨n, rfl, hw⟩
      · cases hc
    exact ⟨h, fields_leaf (by simp) h⟩
  | .sl e => by
    have h : TrodTo enc P w sp held (.sl e) := by
      intro t fuel cs r hc hr
      simp only [chk, leafT] at hc
      split at hc
      · rename_i u ht
        simp only [Bool.and_eq_true, Nat.beq_eq] at hc
        obtain ⟨hz, hce⟩ := hc
        rcases Deep.open_slice ht hr with ⟨rfl, _⟩ | ⟨ad, len, cap, m, n, D, Pl, rfl, _, hl, hm, hmm, _, hx⟩
        · exact ⟨([] : List e.T), ⟨none, 0, rfl, Nat.le_refl _, fun _ => rfl, fun h0 => absurd h0 (by simp)⟩, by simp [maxLen], by simp⟩
        · have hle : len ≤ m := by rw [hmm]; split <;> omega
          have one : ∀ i, i < len → ∃ y : e.T, (∃ ecs, Dat w (inHeap w) e y ecs ∧ w.cells? 0 (ad.add (i * e.size)) e.size = some ecs) ∧ e.wf y := by
            intro i hi
            obtain ⟨cs', h1, h2⟩ := hx i (by omega)
            rw [hz] at h1
            obtain ⟨y, h3, h4⟩ := (trod_both e).1 _ _ _ _ hce h2
            exact ⟨y, ⟨cs', h3, h1⟩, h4⟩
          have : Inhabited e.T := ⟨e.dflt⟩
          obtain ⟨f, hf⟩ := Deep.choose_lt one
          refine ⟨((List.range len).map f : List e.T), ⟨some ad, cap, by simp, by simpa using hl, fun h => (by cases h), fun h0 => ⟨ad, rfl, ?_, fun k x hk => ?_⟩⟩, by simp; omega, fun x hxm => ?_⟩
          · have h0 : 0 < len := by simpa using h0
            obtain ⟨⟨ecs, h1, h2⟩, _⟩ := hf 0 h0
            have hlen := h1.len
            have hpos : 0 < e.size := Sh.size_pos e
            obtain ⟨_, _, h3⟩ := World.cells?_some h2
            have h3 := h3 0 hpos
            have : (ecs[0]?).isSome = true := by simp; omega
            rw [← h3] at this
            unfold inHeap
            refine Decidable.byContradiction fun hge => ?_
            have hnone : w.heap[((ad.add (0 * e.size)).add 0).block]? = none := by
              rw [Array.getElem?_eq_none_iff]
              have : ((ad.add (0 * e.size)).add 0).block = ad.block := by simp [Addr.add]
              rw [this]
              omega
            unfold World.cell? at this
            rw [hnone] at this
            simp at this
          · obtain ⟨hk1, rfl⟩ : k < len ∧ f k = x := by
              rw [List.getElem?_map] at hk
              cases hr : (List.range len)[k]? with
              | none => rw [hr] at hk; cases hk
              | some j =>
                rw [hr] at hk
                have := List.getElem?_eq_some_iff.1 hr
                obtain ⟨h1, h2⟩ := this
                simp at h1 h2
                subst h2
                exact ⟨h1, by simpa using hk⟩
            obtain ⟨⟨ecs, h1, h2⟩, _⟩ := hf k hk1
            obtain ⟨_, hl', h3⟩ := World.cells?_some h2
            refine ⟨ecs, h1, fun j v hj => ?_⟩
            have hjl := (List.getElem?_eq_some_iff.1 hj).1
            rw [← Deep.add_add, h3 j (by omega)]
            exact hj
          · obtain ⟨i, hi, rfl⟩ := List.mem_map.1 hxm
            exact (hf i (by simpa using hi)).2
      · cases hc
    exact ⟨h, fields_leaf (by simp) h⟩
  | .pair a b => by
    refine ⟨fun t fuel cs r hc => by simp [chk] at hc, fun off fl cs hc hf hl => ?_⟩
    match fl, hc with
    | f :: g :: r, hc =>
      simp only [chk, Bool.and_eq_true, Nat.beq_eq] at hc
      obtain ⟨⟨⟨h1, h2⟩, h3⟩, h4⟩ := hc
      simp only [Sh.size] at hl
      obtain ⟨n, y, hy⟩ := hf f (by simp)
      obtain ⟨ya, g1, g2⟩ := (trod_both a).1 _ _ _ _ h3 hy
      obtain ⟨yb, g3, g4⟩ := (trod_both b).2 _ _ cs h4 (fun f' hf' => hf f' (List.mem_cons_of_mem _ hf')) (by omega)
      refine ⟨((ya, yb) : a.T × b.T), ⟨_, _, ?_, g1, g3⟩, g2, g4⟩
      rw [h1, h2, ← List.drop_drop, List.take_append_drop]
  | .agg e => by
    have h : TrodTo enc P w sp held (.agg e) := by
      intro t fuel cs r hc hr
      simp only [chk, leafT] at hc
      split at hc
      · rename_i fs ht
        simp only [Bool.and_eq_true, Nat.beq_eq] at hc
        obtain ⟨hz, hc⟩ := hc
        obtain ⟨xs, n, _, _, hl, hxl, hx⟩ := DataW.trod_struct ht hr
        obtain ⟨y, h1, h2⟩ := (trod_both e).2 0 _ cs hc (fun f hf => by
          obtain ⟨i, hi, rfl⟩ := List.getElem_of_mem hf
          have hi' : i < fs.size := by simpa using hi
          have := hx i fs[i] (Array.getElem?_eq_getElem hi')
          rw [List.getElem?_eq_getElem (by omega)] at this
          exact ⟨n, _, by simpa using this⟩) (by rw [Nat.zero_add, ← hz]; exact hl)
        exact ⟨y, h1, h2⟩
      · rename_i n u ht
        simp only [Bool.and_eq_true, Nat.beq_eq] at hc
        obtain ⟨hz, hc⟩ := hc
        obtain ⟨xs, m, _, _, hl, hxl, hx⟩ := DataW.trod_array ht hr
        obtain ⟨y, h1, h2⟩ := (trod_both e).2 0 _ cs hc (fun f hf => by
          obtain ⟨j, hj, h1, h2⟩ := arrFields_mem hf
          have := hx j hj
          rw [List.getElem?_eq_getElem (by omega)] at this
          exact ⟨m, _, by rw [h1, h2, Nat.zero_add]; exact this⟩) (by rw [Nat.zero_add, ← hz]; exact hl)
        exact ⟨y, h1, h2⟩
      · cases hc
    exact ⟨h, fields_leaf (by simp) h⟩

/-- An argument that reads is a datum of its type's shape. -/
theorem trod_datV {s : Sh} {t : TypeId} {v : Value} {d : DataW H} {ps : List MemPlace} {r : Reach} {b0 : Nat} (hc : chk P s (.inl t) = true) (hv : Value.okWide P w r b0 t v) (h : DataW.Trod enc P w 0 sp held t v d ps) : ∃ y : s.T, DatV w (inHeap w) s y v ∧ s.wf y := by
  obtain ⟨fuel, hf⟩ := h
  obtain ⟨y, h1, h2⟩ := (trod_both s).1 _ _ _ _ hc hf
  refine ⟨y, ⟨v.cells.toList, h1, ?_, fun _ => ?_⟩, h2⟩
  · cases s with
    | agg e =>
      simp only [chk, leafT] at hc
      split at hc
      · rename_i fs ht
        obtain ⟨cs, rfl, _⟩ := okWide_struct ht hv
        simp [Value.cells, mkV, Sh.isAgg]
      · rename_i n u ht
        simp only [Value.okWide, ht] at hv
        obtain ⟨cs, rfl, _⟩ := hv
        simp [Value.cells, mkV, Sh.isAgg]
      · cases hc
    | pair a b => simp [chk] at hc
    | int k =>
      simp only [chk, leafT, isIntT] at hc
      split at hc
      · rename_i k' ht
        cases v <;> first | (simp [Value.okWide, ht, Cell.okWide, Cell.ok] at hv; done) | (simp [Value.cells, mkV, Sh.isAgg]; done)
      · cases hc
    | bool =>
      simp only [chk, leafT, isBoolT] at hc
      split at hc
      · rename_i ht
        cases v <;> first | (simp [Value.okWide, ht, Cell.okWide, Cell.ok] at hv; done) | (simp [Value.cells, mkV, Sh.isAgg]; done)
      · cases hc
    | str =>
      simp only [chk, leafT, isStrT] at hc
      split at hc
      · rename_i ht
        cases v <;> first | (simp [Value.okWide, ht, Cell.okWide, Cell.ok] at hv; done) | (simp [Value.cells, mkV, Sh.isAgg]; done)
      · cases hc
    | sl e =>
      simp only [chk, leafT] at hc
      split at hc
      · rename_i u ht
        cases v <;> first | (simp [Value.okWide, ht, Cell.okWide, Cell.ok] at hv; done) | (simp [Value.cells, mkV, Sh.isAgg]; done)
      · cases hc
  · rename_i ha
    have := h1.len
    cases s <;> simp [Sh.isAgg] at ha <;> simp [Sh.size] at this <;> first | simpa using this | (simp [chk] at hc)

/-! ### The law's own door -/

def chkTs (P : Program) : List Sh → List TypeId → Bool
  | [], [] => true
  | s :: r, t :: ts => chk P s (.inl t) && P.readableRec t && decide (t < P.types.size) && chkTs P r ts
  | _, _ => false

def wfs : (l : List Sh) → TsS l → Prop
  | [], _ => True
  | s :: r, x => s.wf x.1 ∧ wfs r x.2

theorem trodAll_datVs {r : Reach} {b0 : Nat} : ∀ {as : List Sh} {ts : List TypeId} {vs : List Value} {ds : List (DataW H)} {ps : List MemPlace}, chkTs P as ts = true →
    (∀ (j : Nat) t v, ts[j]? = some t → vs[j]? = some v → Value.okWide P w r b0 t v) → DataW.TrodAll enc P w 0 sp held ts vs ds ps → ∃ x : TsS as, DatVs w (inHeap w) as x vs ∧ wfs as x
  | [], [], [], _, _, _, _, _ => ⟨(), rfl, trivial⟩
  | s :: r', t :: ts, v :: vs, d :: ds, ps, hc, hv, h => by
    simp only [chkTs, Bool.and_eq_true] at hc
    obtain ⟨p, q, h1, h2, _⟩ := h
    obtain ⟨y, g1, g2⟩ := trod_datV hc.1.1.1 (hv 0 t v rfl rfl) h1
    obtain ⟨x, g3, g4⟩ := trodAll_datVs hc.2 (fun j t' v' ht hv' => hv (j + 1) t' v' ht hv') h2
    exact ⟨((y, x) : s.T × TsS r'), by simp only [DatVs]; exact ⟨v, vs, rfl, g1, g3⟩, g2, g4⟩
  | [], [], _ :: _, _, _, _, _, h => by simp [DataW.TrodAll] at h
  | _ :: _, _ :: _, [], _, _, _, _, h => by simp [DataW.TrodAll] at h
  | _ :: _, _ :: _, _ :: _, [], _, _, _, h => by simp [DataW.TrodAll] at h
  | [], _ :: _, _, _, _, hc, _, _ => by simp [chkTs] at hc
  | _ :: _, [], _, _, _, hc, _, _ => by simp [chkTs] at hc

theorem trodAll_below (hl : laidOutB P = true) {W' : World} (hb : Below w.heap.size w W') {sp' : Nat → Bool} : ∀ {as : List Sh} {ts : List TypeId} {vs : List Value} {ds : List (DataW H)} {ps : List MemPlace}, chkTs P as ts = true →
    DataW.TrodAll enc P w 0 (fun _ => true) true ts vs ds ps → (∀ p ∈ ps, p.block < w.heap.size) → (∀ p ∈ ps, sp' p.block = true) → DataW.TrodAll enc P W' 0 sp' true ts vs ds ps
  | [], [], [], [], _, _, h, _, _ => h
  | s :: r', t :: ts, v :: vs, d :: ds, ps, hc, h, hlt, hs => by
    simp only [chkTs, Bool.and_eq_true, decide_eq_true_eq] at hc
    obtain ⟨p, q, h1, h2, rfl⟩ := h
    exact ⟨p, q, WideElems.Trod_stays hl hc.1.1.2 hc.1.2 h1 (fun x hx => hb.same (hlt x (List.mem_append_left _ hx))) (fun x hx => hs x (List.mem_append_left _ hx)),
      trodAll_below hl hb hc.2 h2 (fun x hx => hlt x (List.mem_append_right _ hx)) (fun x hx => hs x (List.mem_append_right _ hx)), rfl⟩
  | [], [], [], _ :: _, _, _, h, _, _ => by simp [DataW.TrodAll] at h
  | [], [], _ :: _, _, _, _, h, _, _ => by simp [DataW.TrodAll] at h
  | _ :: _, _ :: _, [], _, _, _, h, _, _ => by simp [DataW.TrodAll] at h
  | _ :: _, _ :: _, _ :: _, [], _, _, h, _, _ => by simp [DataW.TrodAll] at h
  | [], _ :: _, _, _, _, hc, _, _, _ => by simp [chkTs] at hc
  | _ :: _, [], _, _, _, hc, _, _, _ => by simp [chkTs] at hc

theorem trodAll_length : ∀ {ts : List TypeId} {vs : List Value} {ds : List (DataW H)} {ps : List MemPlace}, DataW.TrodAll enc P w 0 sp held ts vs ds ps → ds.length = ts.length
  | [], [], [], _, _ => rfl
  | _ :: _, _ :: _, _ :: _, _, h => by
    obtain ⟨_, _, _, h2, _⟩ := h
    simp [trodAll_length h2]
  | [], [], _ :: _, _, h => by simp [DataW.TrodAll] at h
  | [], _ :: _, _, _, h => by simp [DataW.TrodAll] at h
  | _ :: _, [], _, _, h => by simp [DataW.TrodAll] at h
  | _ :: _, _ :: _, [], _, h => by simp [DataW.TrodAll] at h

/-- A law that answers true and leaves the memory below as it was: what its row asks behind the call. -/
theorem law_true {fn : Func} {f : FuncId} {s : ChangeSpec} {as : List Sh} {m : TsS as → TsF [] → TsS [] → Option Bool} {t4 : TypeId} (hl : laidOutB P = true)
    (hok : Ctr.ok P f ⟨as, [], [], .one .bool, m⟩) (hm : ∀ x, wfs as x → m x () () = some true) (hp : chkTs P as fn.params.toList = true) (hres : fn.resultTypes = #[t4]) (hb : P.underlying t4 = some .bool)
    (hvars : s.vars = []) (hfn : ∀ ds : List (DataW H), ds.length = fn.params.toList.length → s.fn H ds = { results := [.lit (.bool true)], args := ds })
    {W : World} {base : Nat} {args : Array Value} {ds gs : List (DataW H)} {before : List MemPlace} (hv : ∀ (j : Nat) t v, fn.params[j]? = some t → args[j]? = some v → Value.okWide P W .any base t v)
    (hW : DataW.Whole enc P fn.params.toList s.vars false W args.toList ds gs before) : Calls P f args W fun e W' => ∃ v, e = .returned v ∧ s.post enc P fn false true false false W args v W' := by
  have hlt := fun p hp => hW.lt (p := p) hp
  obtain ⟨p, q, hA, hV, rfl, hfz, hnd⟩ := id hW
  obtain ⟨x, hx, hwf⟩ := trodAll_datVs hp (fun j t v ht hv' => hv j t v (by simpa using ht) (by simpa using hv')) hA
  have hlen := trodAll_length hA
  rw [hvars] at hV
  obtain ⟨rfl, rfl⟩ := trodVars_none hV
  have := hok x () () true (hm x hwf) W (inHeap W) args.toList [] [] (fun _ h => h) hx rfl rfl
  simp only [List.append_nil, Array.toArray_toList] at this
  refine this.mono fun e W' he => ?_
  obtain ⟨v, rfl, hr, hbelow⟩ := he
  obtain ⟨cs, hc, rfl, _⟩ : DatV W' (fresh (inHeap W) W W') .bool true v := hr
  simp only [Dat] at hc
  subst hc
  simp only [List.append_nil] at hlt hW hfz hnd
  refine ⟨_, rfl, ?_⟩
  have hf := hfn ds hlen
  have hold : ∀ y ∈ p, (fun b => decide (b < W.heap.size)) y.block = true := fun y hy => by simpa using hlt y hy
  have res : ∀ (b : Nat) (sp : Nat → Bool) (hd : Bool), DataW.TrodAll enc P W' b sp hd fn.resultTypes.toList ((Value.bool true).resultList fn.resultTypes.size) [.lit (.bool true)] [] := fun b sp hd => by
    rw [hres]
    exact trodAll_mk1 (shut_bool hb true)
  have arg : ∀ sp : Nat → Bool, (∀ y ∈ p, sp y.block = true) → DataW.TrodAll enc P W' 0 sp true fn.params.toList args.toList ds p := fun sp hs => trodAll_below hl hbelow hp hA hlt hs
  have vars : ∀ sp : Nat → Bool, DataW.TrodVars (H := H) enc P W' sp s.vars [] [] := fun sp => by rw [hvars]; rfl
  refine ⟨ds, [], p, [], p, [], hW, ?_, ?_, ?_, World.keptBut_mono (fun y hy => ⟨hy, by simpa using hy⟩) (hbelow.frame (· ∈ p)), fun h => by cases h⟩
  · rw [List.append_nil, hf]; exact res _ _ _
  · rw [List.append_nil, hf]; exact arg _ hold
  · rw [List.append_nil, hf]; exact vars _

end
end
end Dn
end Go.Proofs.Ytghjblbkbelcfaa
