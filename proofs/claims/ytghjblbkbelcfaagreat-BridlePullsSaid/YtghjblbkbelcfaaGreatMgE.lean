/- A symbolic executor: strings by their bytes, arrays and structs that are values, carries, new rows of a length, copies into rows, rows that become data. A symbolic executor: equality of structs, shifts, function values, calls by contract, and the step of one operation. A symbolic executor: one operation, with its guard; regions in the order of the text. A symbolic executor: states; regions in the order of the text, and in whatever order their edges allow. A symbolic executor: a region whose order is open. The symbolic run in the text's order serves every order that the edges allow, where operations that touch one another's slots or blocks wait for one another. A symbolic executor: states made general (at a loop's head, where two ways meet, behind a function that is walked in place): data of patterns in place of what slots, blocks and rows hold. A symbolic executor: a state that has come to a place is the place's own state. -/
import Derived.Laws.Strings
import Derived.Laws.Tables
import Derived.Laws.Externs
import Derived.Laws.OwnMore
import Derived.ChangeKeysEq
import Derived.Test.YtghjblbkbelcfaaGreatMgD

namespace Go.Proofs.YtghjblbkbelcfaaGreat
namespace Dn
open Go.RowKit

section
variable {P : Program} {N : Nat} {g : Look} {E : Env} {a : Act} {o : Oper}

/-! ### Bytes of strings -/

def byteAt (s : ByteArray) (i : Nat) : Int := ((s.data.toList.getD i 0).toNat : Int)

theorem byteAt_eq {s : ByteArray} {i : Nat} (h : i < s.size) : ((s[i]'h).toNat : Int) = byteAt s i := by
  have h' : i < s.data.size := h
  have h2 : s.data.toList.getD i 0 = s[i] := by
    rw [List.getD, Array.getElem?_toList, Array.getElem?_eq_getElem h']
    rfl
  rw [byteAt, h2]

theorem indexStr_ok {t : TypeId} {x y : Operand} {s : ByteArray} {k : IntKind} {i : Int} (ho : o.op = .index t x y) (hx : RelV E (.c false [.v (.string s)]) (a.eval x)) (hy : RelV E (.c false [.v (.int k i)]) (a.eval y))
    (ht : P.underlying t = some .string) (hm : Mod N E a g) (hp : 0 ≤ i ∧ i < s.size) : CoreOk P N g E a o ⟨.c false [.v (.int .u8 (byteAt s i.toNat))], .none, [inB i s.size]⟩ := by
  have e1 := toV_rel (x := .string s) rfl hx
  have e2 := toV_rel (x := .int k i) rfl hy
  refine CoreOk.value (E' := E) (v := .int .u8 (byteAt s i.toNat)) ?_ rfl (Keep.refl E) hm ⟨[_], rfl, ⟨rfl, trivial⟩, fun _ => rfl⟩
  simp only [execOp, ho, e1, e2, Sem.run_bind, run_index_string E.w t s k i ht, dif_pos hp, Result.andThen_ok, Sem.run_pure, byteAt_eq (show i.toNat < s.size by omega)]

/-! ### Parts of values -/

theorem run_part_of {t : TypeId} {ag : Bool} {cs ecs : List Value} {off : Nat} (ha : aggT P t = some ag) (hz : sizeT P t = some ecs.length) (h1 : ag = false → ecs.length = 1) (hc : ∀ j v, ecs[j]? = some v → cs[off + j]? = some v) (w : World) :
    (part t cs.toArray off).run P w = .ok (mkV ag ecs) w := by
  cases ag with
  | true =>
    simp only [part, Sem.run_bind, run_isAgg ha, Result.andThen_ok, if_true, run_sizeOf hz, Sem.run_pure, mkV]
    congr 2
    apply Array.ext'
    apply List.ext_getElem?
    intro j
    simp only [List.extract_toArray, List.extract_eq_take_drop, List.getElem?_take, List.getElem?_drop]
    by_cases hj : j < ecs.length
    · rw [if_pos (by omega), List.getElem?_eq_getElem hj]
      exact hc j _ (List.getElem?_eq_getElem hj)
    · rw [if_neg (by omega), List.getElem?_eq_none (by omega)]
  | false =>
    have h := h1 rfl
    match ecs, h with
    | [c], _ =>
      have h0 := hc 0 c rfl
      simp only [Nat.add_zero] at h0
      simp [part, run_isAgg ha, h0, mkV]

theorem indexAgg_ok {t et : TypeId} {x y : Operand} {l : List At} {n : Nat} {e : Sh} {xs : List e.T} {k : IntKind} {i : Int} (ho : o.op = .index t x y) (hx : RelV E (.c true l) (a.eval x)) (hy : RelV E (.c false [.v (.int k i)]) (a.eval y))
    (ht : arrT P t = some (n, et)) (hag : aggT P et = some e.isAgg) (hz : sizeT P et = some e.size) (h1 : (e.isAgg || Nat.beq e.size 1) = true) (hxs : els e n l = some xs) (hm : Mod N E a g) (hp : 0 ≤ i ∧ i < n) :
    CoreOk P N g E a o ⟨.c e.isAgg (e.cells (xs.getD i.toNat e.dflt)), .none, [inB i n]⟩ := by
  obtain ⟨cs, hv, hr, _⟩ := hx
  have hyv := toV_rel (x := .int k i) rfl hy
  have hu := arrT_eq ht
  have hlen := els_len hxs
  have hget : xs[i.toNat]? = some (xs.getD i.toNat e.dflt) := by simp [List.getD, List.getElem?_eq_getElem (show i.toNat < xs.length by omega)]
  obtain ⟨ecs, g1, g2⟩ := els_rel hxs hr _ _ hget
  have hel := g1.len
  have hone : e.isAgg = false → ecs.length = 1 := fun h => by
    rw [h, Bool.false_or] at h1
    rw [hel]; simpa using h1
  have hrun := run_part_of (P := P) (cs := cs) (off := i.toNat * e.size) hag (by rw [hel]; exact hz) hone g2 E.w
  refine CoreOk.value (E' := E) (v := mkV e.isAgg ecs) ?_ rfl (Keep.refl E) hm ⟨ecs, rfl, g1.rel, hone⟩
  simp only [execOp, ho, hv, hyv, mkV, if_true, Instr.index, asIntOf, pure_bind, Sem.run_bind, run_underlying hu, Result.andThen_ok, hp.1, hp.2, and_self, run_sizeOf hz, hrun, Sem.run_pure]

/-- The type and the place of a field. -/
def fieldTy (P : Program) (t : TypeId) (f : Nat) : Option (TypeId × Nat) := match P.underlying t with
  | some (.struct fs) => match fs[f]? with
    | some x => some (x.type, x.offset)
    | none => none
  | _ => none

theorem fieldV_ok {t : TypeId} {x : Operand} {f ft off : Nat} {l : List At} {s : SV} (ho : o.op = .field t x f) (hx : RelV E (.c true l) (a.eval x)) (hf : fieldTy P t f = some (ft, off)) (hs : partC P ft l off = some s) (hm : Mod N E a g) :
    CoreOk P N g E a o ⟨s, .none, []⟩ := by
  obtain ⟨cs, hv, hr, _⟩ := hx
  unfold fieldTy at hf
  split at hf
  · rename_i fs hu
    split at hf
    · rename_i y hy
      simp only [Option.some.injEq, Prod.mk.injEq] at hf
      obtain ⟨rfl, rfl⟩ := hf
      unfold partC at hs
      split at hs
      · rename_i ag n ha hz
        split at hs
        · rename_i hb
          injection hs with hs; subst hs
          simp only [Bool.and_eq_true, Nat.ble_eq, Bool.or_eq_true, Nat.beq_eq] at hb
          have hl : ((cs.drop y.offset).take n).length = n := by
            have := hr.length
            simp [List.length_take, List.length_drop]
            omega
          have h1 : ag = false → ((cs.drop y.offset).take n).length = 1 := fun h0 => by
            rw [hl]
            rcases hb.2 with h | h
            · rw [h0] at h; cases h
            · exact h
          have hrun := run_part_of (P := P) (cs := cs) (off := y.offset) (ecs := (cs.drop y.offset).take n) ha (by rw [hl]; exact hz) h1 (fun j v hj => by
            rw [List.getElem?_take] at hj
            split at hj
            · rwa [List.getElem?_drop] at hj
            · cases hj) E.w
          refine CoreOk.value (E' := E) (v := mkV ag ((cs.drop y.offset).take n)) ?_ rfl (Keep.refl E) hm ⟨_, rfl, (hr.drop _).take n, h1⟩
          simp only [execOp, ho, hv, mkV, if_true, Instr.field, Sem.run_bind, run_underlying hu, Result.andThen_ok, hy, asAgg, Sem.run_pure, hrun]
        · cases hs
      · cases hs
    · cases hf
  · cases hf

/-! ### Structs and arrays that are built -/

def fillS (place : Nat → Option (Nat × Nat)) : List At → List (Nat × SV) → Option (List At)
  | cells, [] => some cells
  | cells, (i, .c ag l) :: r => match place i with
    | some (off, n) => match Nat.beq l.length n, Nat.ble (off + n) cells.length, l.all at1, ag || Nat.beq n 1 with
      | true, true, true, true => fillS place (cells.take off ++ l ++ cells.drop (off + l.length)) r
      | _, _, _, _ => none
    | none => none
  | _, (_, .tup _) :: _ => none

def RelPs (E : Env) : List (Nat × SV) → List (Nat × Value) → Prop
  | [], [] => True
  | p :: l, q :: r => p.1 = q.1 ∧ RelV E p.2 q.2 ∧ RelPs E l r
  | _, _ => False

theorem fillS_run {place : Nat → Option (Nat × Nat)} : ∀ {ps : List (Nat × SV)} {cells out : List At} {qs : List (Nat × Value)} {cs : List Value}, fillS place cells ps = some out → RelL E cells cs → RelPs E ps qs →
    ∃ us, Instr.fill place cs.toArray qs = some us.toArray ∧ RelL E out us
  | [], cells, out, [], cs, h, hr, _ => by
    simp only [fillS, Option.some.injEq] at h
    subst h
    exact ⟨cs, rfl, hr⟩
  | (i, .c ag l) :: r, cells, out, (j, v) :: qs, cs, h, hr, hp => by
    simp only [fillS] at h
    obtain ⟨hij, hv, hps⟩ := hp
    simp only at hij hv
    subst hij
    split at h
    · rename_i off n hpl
      split at h
      · rename_i h1 h2 h3 h4
        have h1 : l.length = n := by simpa using h1
        have h2 : off + n ≤ cells.length := Nat.le_of_ble_eq_true h2
        obtain ⟨vs, rfl, hvr, hv1⟩ := hv
        have hone := ats1_one h3 hvr
        have hlen := hvr.length
        have hcl := hr.length
        have hcells := cells_mkV hv1 hone
        have hr2 : RelL E (cells.take off ++ l ++ cells.drop (off + l.length)) (cs.take off ++ vs ++ cs.drop (off + vs.length)) := by
          rw [hlen]
          exact ((hr.take off).append hvr).append (hr.drop _)
        obtain ⟨us, hu1, hu2⟩ := fillS_run h hr2 hps
        refine ⟨us, ?_, hu2⟩
        have hf := foldl_seg off vs 0 cs.toArray (by simp; omega)
        have hf' : (vs.toArray.zipIdx.foldl (fun cs x => cs.setIfInBounds (off + x.2) x.1) cs.toArray) = (cs.take off ++ vs ++ cs.drop (off + vs.length)).toArray := by
          rw [← Array.foldl_toList, Array.toList_zipIdx]
          simpa using hf
        simp only [Instr.fill, hpl, hcells]
        rw [if_neg (by simp; omega)]
        have e : (fun (cs : Array Value) (x : Value × Nat) => match x with | (c, j) => cs.setIfInBounds (off + j) c) = fun cs x => cs.setIfInBounds (off + x.2) x.1 := rfl
        rw [e, hf']
        exact hu1
      · cases h
    · cases h
  | (_, .tup _) :: _, _, _, _, _, h, _, _ => by simp [fillS] at h
  | [], _, _, _ :: _, _, _, _, hp => hp.elim
  | (_, .c _ _) :: _, _, _, [], _, _, _, hp => hp.elim

def placesOf (P : Program) (t : TypeId) : Option (Nat → Option (Nat × Nat)) := match P.underlying t with
  | some (.array _ e) => match P.info? e with
    | some ie => some fun i => some (i * ie.size, ie.size)
    | none => none
  | some (.struct fields) => match fields.toList.mapM (fun f => (P.info? f.type).map fun i => (f.offset, i.size)) with
    | some places => some (places.toArray[·]?)
    | none => none
  | _ => none

def getPs (get : Operand → Option SV) : List (Nat × Operand) → Option (List (Nat × SV))
  | [] => some []
  | p :: r => match get p.2, getPs get r with
    | some s, some l => some ((p.1, s) :: l)
    | _, _ => none

theorem getPs_rel {get : Operand → Option SV} : ∀ {ps : List (Nat × Operand)} {l : List (Nat × SV)}, getPs get ps = some l → (∀ p ∈ ps, ∀ s, get p.2 = some s → RelV E s (a.eval p.2)) → RelPs E l (ps.map fun p => (p.1, a.eval p.2))
  | [], l, h, _ => by simp only [getPs, Option.some.injEq] at h; subst h; trivial
  | p :: r, l, h, hg => by
    simp only [getPs] at h
    split at h
    · rename_i s l' hs hl
      injection h with h
      subst h
      exact ⟨rfl, hg p (by simp) s hs, getPs_rel hl fun q hq => hg q (by simp [hq])⟩
    · cases h

def buildStC (P : Program) (get : Operand → Option SV) (t : TypeId) (ps : Array (Nat × Operand)) : Option Core := match placesOf P t, zeroT P t, getPs get ps.toList with
  | some place, some cs, some l => match fillS place (cs.map .v) l with
    | some out => some ⟨.c true out, .none, []⟩
    | none => none
  | _, _, _ => none

theorem zeroT_info {t : TypeId} {cs : List Value} (h : zeroT P t = some cs) : ∃ i z, P.info? t = some i ∧ i.zero = some z ∧ z.cells.toList = cs ∧ cs.all Value.oneCell' = true := by
  unfold zeroT at h
  split at h
  · rename_i i hi
    split at h
    · rename_i z hz
      split at h
      · rename_i hall
        injection h with h
        subst h
        exact ⟨i, z, hi, hz, rfl, hall⟩
      · cases h
    · cases h
  · cases h

theorem buildStC_ok {get : Operand → Option SV} {t : TypeId} {ps : Array (Nat × Operand)} {r : Core} (ho : o.op = .build t ps) (h : buildStC P get t ps = some r) (hg : Gets E a get o) (hm : Mod N E a g) : CoreOk P N g E a o r := by
  unfold buildStC at h
  split at h
  · rename_i place cs l hpl hz hl
    split at h
    · rename_i out hout
      injection h with h
      subst h
      obtain ⟨i, z, hi, hzz, hcs, _⟩ := zeroT_info hz
      have hrel := getPs_rel hl fun p hp s hs => hg p.2 s (by rw [ho]; simp only [Op.operands]; simpa using ⟨p.1, Array.mem_toList_iff.1 hp⟩) hs
      obtain ⟨us, hu1, hu2⟩ := fillS_run hout (relL_v cs) hrel
      refine CoreOk.value (E' := E) (v := .agg us.toArray) ?_ rfl (Keep.refl E) hm ⟨us, rfl, hu2, fun h => (by cases h)⟩
      have hb : P.built t (ps.map fun x => (x.1, a.eval x.2)).toList = some us.toArray := by
        have hc : z.cells = cs.toArray := by rw [← hcs]
        unfold Program.built
        unfold placesOf at hpl
        split at hpl
        · rename_i n e hu
          split at hpl
          · rename_i ie hie
            injection hpl with hpl
            subst hpl
            simp only [hi, hu, hzz, hie]
            rw [hc, Array.toList_map]
            exact hu1
          · cases hpl
        · rename_i fields hu
          split at hpl
          · rename_i places hpp
            injection hpl with hpl
            subst hpl
            simp only [hi, hu, hzz, hpp]
            rw [hc, Array.toList_map]
            exact hu1
          · cases hpl
        · cases hpl
      have hrun := run_build E.w t (ps.map fun x => (x.1, a.eval x.2)) us.toArray hb
      simp only [execOp, ho, Sem.run_bind]
      erw [hrun]
      rfl
    · cases h
  · cases h

/-! ### Sums and differences with a carry -/

def sub64Entry : Array Value → Sem Value := fun args => do
  let (x, y, b) ← Extern.MathBitsCarry.three "Sub64" args
  pure (Extern.MathBitsCarry.pair ((x + Extern.MathBitsCarry.m64 - y - b) % Extern.MathBitsCarry.m64) (if x < y + b then 1 else 0))

/-- Whether a function is one of the two: 'true': the sum. -/
def carryOf (P : Program) (f : FuncId) : Option Bool := match P.funcs[f]? with
  | some fn => match fn.body.isNone, fn.name == "runtime.NumGoroutine", fn.origin == "" with
    | true, false, true => match fn.name == "math/bits.Add64", fn.name == "math/bits.Sub64" with
      | true, _ => some true
      | false, true => some false
      | _, _ => none
    | _, _, _ => none
  | none => none

def addO (x y c : Int) : Int := Int.ofNat ((x.toNat + y.toNat + c.toNat) % 18446744073709551616)
def addC (x y c : Int) : Int := Int.ofNat ((x.toNat + y.toNat + c.toNat) / 18446744073709551616)
def subO (x y b : Int) : Int := Int.ofNat ((x.toNat + 18446744073709551616 - y.toNat - b.toNat) % 18446744073709551616)
def subC (x y b : Int) : Int := Int.ofNat (bif Nat.blt x.toNat (y.toNat + b.toNat) then 1 else 0)

def carryC (P : Program) (get : Operand → Option SV) (f : FuncId) (xs : Array Operand) : Option Core := match carryOf P f, xs.toList with
  | some ad, [x, y, c] => match getV get x, getV get y, getV get c with
    | some (.int _ i), some (.int _ j), some (.int _ k) => some ⟨.tup [(false, [.v (.int .u64 (bif ad then addO i j k else subO i j k))]), (false, [.v (.int .u64 (bif ad then addC i j k else subC i j k))])], .none, [decide (0 ≤ k), decide (k ≤ 1)]⟩
    | _, _, _ => none
  | _, _ => none

theorem carryC_ok {get : Operand → Option SV} {f : Operand} {id : FuncId} {xs : Array Operand} {ts : Array TypeId} {r : Core} (ho : o.op = .call { callee := .value f, args := xs, argTypes := ts }) (hf : a.eval f = .func (.func id) #[] #[])
    (h : carryC P get id xs = some r) (hp : allB r.p = true) (hg : Gets E a get o) (hm : Mod N E a g) : CoreOk P N g E a o r := by
  unfold carryC at h
  split at h
  · rename_i ad x y c had hxs
    have hxs : xs = #[x, y, c] := by rw [← Array.toArray_toList (xs := xs), hxs]
    subst hxs
    split at h
    · rename_i k1 i k2 j k3 k hx hy hc
      injection h with h
      subst h
      have e1 := getV_eval hg (by simp [ho, Op.operands, Call.operands]) hx
      have e2 := getV_eval hg (by simp [ho, Op.operands, Call.operands]) hy
      have e3 := getV_eval hg (by simp [ho, Op.operands, Call.operands]) hc
      have hk : k = 0 ∨ k = 1 := by
        obtain ⟨h1, h2⟩ := allB_cons hp
        have h1 : 0 ≤ k := of_decide_eq_true h1
        have h2 : k ≤ 1 := of_decide_eq_true h2
        omega
      unfold carryOf at had
      split at had
      · rename_i fn hfn
        split at had
        · rename_i hb hng hnx
          have hor : fn.origin = "" := by simpa using hnx
          refine CoreOk.value (E' := E) (v := .tuple #[.int .u64 (bif ad then addO i j k else subO i j k), .int .u64 (bif ad then addC i j k else subC i j k)]) ?_ rfl (Keep.refl E) hm ⟨[_, _], rfl, ⟨⟨[_], rfl, ⟨rfl, trivial⟩, fun _ => rfl⟩, ⟨[_], rfl, ⟨rfl, trivial⟩, fun _ => rfl⟩, trivial⟩⟩
          have key : (callFunc id #[a.eval x, a.eval y, a.eval c]).run P E.w = .ok (.value (.tuple #[.int .u64 (bif ad then addO i j k else subO i j k), .int .u64 (bif ad then addC i j k else subC i j k)])) E.w := by
            rw [e1, e2, e3]
            split at had
            · rename_i hn
              injection had with had
              subst had
              have hn : fn.name = "math/bits.Add64" := by simpa using hn
              have hn1 : Extern.findNext fn = none := by unfold Extern.findNext; rw [hn, hor]; rfl
              have hn2 : Extern.find fn = some add64Entry := by unfold Extern.find; rw [hn]; rfl
              rw [run_callFunc_extern hfn hng hb hn1 hn2]
              rcases hk with rfl | rfl <;> rfl
            · rename_i hn hn'
              injection had with had
              subst had
              have hn : fn.name = "math/bits.Sub64" := by simpa using hn'
              have hn1 : Extern.findNext fn = none := by unfold Extern.findNext; rw [hn, hor]; rfl
              have hn2 : Extern.find fn = some sub64Entry := by unfold Extern.find; rw [hn]; rfl
              rw [run_callFunc_extern hfn hng hb hn1 hn2]
              have hcond : ∀ m n : Nat, (if m < n then 1 else 0 : Nat) = (bif Nat.blt m n then 1 else 0) := fun m n => by
                by_cases h : m < n
                · rw [if_pos h, Nat.blt_eq.mpr h]; rfl
                · rw [if_neg h, show Nat.blt m n = false by rw [Bool.eq_false_iff]; intro hh; exact h (Nat.blt_eq.mp hh)]; rfl
              simp only [subO, subC, cond_false, ← hcond]
              rcases hk with rfl | rfl <;> rfl
            · cases had
          simp only [execOp, ho, resolve, hf, Deferred.ofValue, pure_bind, invoke, Array.empty_append]
          simpa using key
        · cases had
      · cases had
    · cases h
  · cases h

/-! ### A new row of a length -/

theorem madeCells_rel {w : World} {Z : Nat → Prop} {e : Sh} {z : e.T} {zs : List Value} (hz : Dat w Z e z zs) : ∀ n : Nat, RowRel w Z e (List.replicate n z) (madeCells zs.toArray (n * e.size)).toList := by
  have hl := hz.len
  have hpos := Sh.size_pos' e
  have key : ∀ n : Nat, (madeCells zs.toArray (n * e.size)).toList = (List.replicate n zs).flatten := by
    intro n
    apply List.ext_getElem?
    intro k
    have hlen : ((List.replicate n zs).flatten).length = n * e.size := by simp [hl]
    by_cases hk : k < n * e.size
    · have hq : k / e.size < n := by rw [Nat.div_lt_iff_lt_mul hpos]; exact hk
      have hm : k % e.size < e.size := Nat.mod_lt _ hpos
      have e1 : (List.replicate n zs).flatten[k]? = some (zs[k % e.size]'(by omega)) := by
        have := flatten_at (n := e.size) (css := List.replicate n zs) (k := k / e.size) (c := zs) (j := k % e.size) (v := zs[k % e.size]'(by omega)) (fun x hx => by rw [List.eq_of_mem_replicate hx]; exact hl) (by rw [List.getElem?_replicate, if_pos hq]) (List.getElem?_eq_getElem _)
        rwa [show k / e.size * e.size + k % e.size = k by rw [Nat.mul_comm]; exact Nat.div_add_mod k e.size] at this
      rw [e1]
      simp only [madeCells, Array.toList_map, Array.toList_range, List.getElem?_map, List.getElem?_range hk, Option.map_some, List.size_toArray, hl]
      congr 1
      exact getElem!_pos zs.toArray (k % e.size) (by simp; omega)
    · rw [List.getElem?_eq_none (by simp [madeCells]; omega), List.getElem?_eq_none (by omega)]
  intro n
  rw [key n]
  clear key
  induction n with
  | zero => exact rfl
  | succ n ih => exact ⟨zs, _, by simp [List.replicate_succ], hz, ih⟩

def zerosOf (e : Sh) (cs : List Value) : Option e.T := match e.take (cs.map .v) with
  | some (z, []) => some z
  | _ => none

theorem zerosOf_dat {e : Sh} {cs : List Value} {z : e.T} (h : zerosOf e cs = some z) : Dat E.w E.Z e z cs := by
  unfold zerosOf at h
  split at h
  · rename_i y hy
    injection h with h
    subst h
    obtain ⟨c1, c2, rfl, hd, h2⟩ := take_rel hy (relL_v (E := E) cs)
    match c2, h2 with
    | [], _ => rw [List.append_nil]; exact hd
  · cases h

def sameOpd : Operand → Operand → Bool
  | .tmp i, .tmp j => Nat.beq i j
  | .const (.int _ m), .const (.int _ n) => decide (m = n)
  | _, _ => false
theorem sameOpd_eval {x y : Operand} {k : IntKind} {i : Int} (h : sameOpd x y = true) (hx : a.eval x = .int k i) : ∃ k', a.eval y = .int k' i := by
  unfold sameOpd at h
  split at h
  · rename_i p q
    have h : p = q := by simpa using h
    subst h
    exact ⟨k, hx⟩
  · rename_i k1 m k2 n
    have h : m = n := of_decide_eq_true h
    subst h
    simp only [Act.eval] at hx ⊢
    injection hx with h1 h2
    exact ⟨k2, by rw [h2]⟩
  · cases h

def makeC (C_sh : TypeId → Option Sh) (P : Program) (get : Operand → Option SV) (rk : Rk) (b : Nat) (t : TypeId) (l c : Operand) : Option Core := match elemT P t, getV get l, sameOpd l c, rk b with
  | some et, some (.int _ n), true, none => match C_sh et, P.info? et, zeroT P et with
    | some e, some i, some cs => match zerosOf e cs, Nat.beq i.size e.size && Nat.ble 1 i.bytes with
      | some z, true => some ⟨.c false [.row b], .row b ⟨et, e, n.toNat, List.replicate n.toNat z⟩ none, [decide (0 ≤ n), fitB n.toNat i.bytes]⟩
      | _, _ => none
    | _, _, _ => none
  | _, _, _, _ => none

theorem makeC_ok {sh : TypeId → Option Sh} {get : Operand → Option SV} {rk : Rk} {b : Nat} {t : TypeId} {l c : Operand} {r : Core} (ho : o.op = .makeSlice t l c) (h : makeC sh P get rk b t l c = some r) (hp : allB r.p = true) (hg : Gets E a get o) (hm : Mod N E a g) (hb : rk b = none → g.r b = none) : CoreOk P N g E a o r := by
  unfold makeC at h
  split at h
  · rename_i et k n hu hl hsame hbn
    split at h
    · rename_i e i cs he hi hz
      split at h
      · rename_i z hzo hsz
        injection h with h
        subst h
        simp only [Bool.and_eq_true, Nat.beq_eq, Nat.ble_eq] at hsz
        obtain ⟨hp0, hp1⟩ := allB_cons hp
        have h0 : 0 ≤ n := of_decide_eq_true hp0
        have hfit : n.toNat * i.bytes ≤ 140737488355328 := fitB_iff.1 hp1
        have e1 := getV_eval hg (by simp [ho, Op.operands]) hl
        obtain ⟨k', e2⟩ := sameOpd_eval hsame e1
        obtain ⟨i', zv, hi', hzv, hcs, hone⟩ := zeroT_info hz
        rw [hi] at hi'
        injection hi' with hi'
        subst hi'
        have hn : n = ((n.toNat : Nat) : Int) := by omega
        have h63 : n.toNat ≤ maxLen := by
          have : n.toNat ≤ n.toNat * i.bytes := Nat.le_mul_of_pos_right _ hsz.2
          simp only [maxLen]
          omega
        obtain ⟨w', r1, r2, r3⟩ := run_make_full (P := P) E.w E.w.heap.size t et i zv e.size (elemT_eq hu) hi hzv hsz.1 k k' n.toNat (by rw [Nat.mul_comm]; omega) h63 (Nat.le_refl _)
        have hbel : Below E.w.heap.size E.w w' := ⟨r3.os, r3.tape, r3.output, r3.size, fun q hq => r3.block q hq fun e => by cases e⟩
        have hdat := zerosOf_dat (E := E) hzo
        have hc : zv.cells = cs.toArray := by rw [← hcs]
        have hrow : RowRel w' E.Z e (List.replicate n.toNat z) (madeCells zv.cells (n.toNat * e.size)).toList := by
          rw [hc]
          exact RowRel.mono (fun _ h => h) (fun q hq => hbel.block q (hm.glob.zlt q hq)) (madeCells_rel hdat n.toNat)
        have hmod := newRow_mod (v' := .slice (some ⟨E.w.heap.size, 0, none⟩) n.toNat n.toNat) (ri := ⟨et, e, n.toNat, List.replicate n.toNat z⟩) (Z2 := E.Z) hm (hb hbn) hbel (fun _ h => h) (fun _ h => .inl h) (fun q hq hz => by
          simp only [Value.ownBlock, Option.some.injEq] at hq
          have := hm.glob.zlt q hz
          omega) ⟨_, by simpa using r2, hrow, by simp⟩
        refine CoreOk.value (E' := E.made b (.slice (some ⟨E.w.heap.size, 0, none⟩) n.toNat n.toNat) w' E.Z) (v := .slice (some ⟨E.w.heap.size, 0, none⟩) n.toNat n.toNat) ?_ rfl hmod.2 hmod.1 ⟨[_], rfl, ⟨⟨?_, .inr rfl, rfl⟩, trivial⟩, fun _ => rfl⟩
        · have e1' : a.eval l = .int k ((n.toNat : Nat) : Int) := by rw [e1]; congr 1
          have e2' : a.eval c = .int k' ((n.toNat : Nat) : Int) := by rw [e2]; congr 1
          simp only [execOp, ho, e1', e2', Sem.run_bind, r1, Result.andThen_ok, Sem.run_pure]
          rfl
        · show _ = if b = b then _ else _
          rw [if_pos rfl]
      · cases h
    · cases h
  · cases h

/-! ### Rows that become data before an operation -/

theorem CoreOk.thaw {u : List Nat} {sv : SV} {p : List Bool} (hm : Mod N E a g) (h : Mod N (E.zone g u) a (g.app (.rkill u)) → CoreOk P N (g.app (.rkill u)) (E.zone g u) a o ⟨sv, .none, p⟩) : CoreOk P N g E a o ⟨sv, .rkill u, p⟩ := by
  obtain ⟨m1, m2⟩ := zone_mod hm u
  intro K Q hK
  refine h m1 K Q fun E' v' h0 hk hm' hv => ?_
  exact hK E' v' (Same.trans (E' := E.zone g u) rfl h0) (m2.trans hk) hm' hv

end
end Dn
end Go.Proofs.YtghjblbkbelcfaaGreat

namespace Go.Proofs.YtghjblbkbelcfaaGreat
namespace Dn
open Go.RowKit

structure Ctx where
  P : Program
  sh : TypeId → Option Sh
  ctr : FuncId → Option Ctr
  inl : FuncId → Bool := fun _ => false
  rctr : FuncId → Option RCtr := fun _ => none

structure Ctx.ok (C : Ctx) : Prop where
  ctr : ∀ id c, C.ctr id = some c → callable C.P id = true ∧ c.ok C.P id
  inl : ∀ id, C.inl id = true → callable C.P id = true
  rctr : ∀ id c, C.rctr id = some c → callable C.P id = true ∧ c.ok C.P id

section
variable {P : Program} {N : Nat} {g : Look} {E : Env} {a : Act} {o : Oper}

/-! ### Equality of structs -/

def eqFs (P : Program) (rec : TypeId → Value → Value → Option Bool) (xs ys : Array Value) : List Field → Option Bool
  | [] => some true
  | f :: r => match f.name == "_" with
    | true => eqFs P rec xs ys r
    | false => match pureS P (part f.type xs f.offset), pureS P (part f.type ys f.offset) with
      | some x, some y => match rec f.type x y, eqFs P rec xs ys r with
        | some p, some q => some (p && q)
        | _, _ => none
      | _, _ => none

def eqIts (P : Program) (rec : TypeId → Value → Value → Option Bool) (e : TypeId) (c : Nat) (xs ys : Array Value) : List Nat → Option Bool
  | [] => some true
  | i :: r => match pureS P (part e xs (i * c)), pureS P (part e ys (i * c)) with
    | some x, some y => match rec e x y, eqIts P rec e c xs ys r with
      | some p, some q => some (p && q)
      | _, _ => none
    | _, _ => none

def upTo : Nat → Nat → List Nat
  | _, 0 => []
  | i, n + 1 => i :: upTo (i + 1) n
theorem upTo_eq : ∀ {n i : Nat}, upTo i n = List.range' i n
  | 0, _ => rfl
  | n + 1, i => by rw [upTo, List.range'_succ, upTo_eq]

def eqS (P : Program) : Nat → TypeId → Value → Value → Option Bool
  | 0, _, _, _ => none
  | d + 1, t, x, y => match P.underlying t with
    | some (.int _) => match x, y with
      | .int k m, .int k' n => match decide (k = k') with
        | true => some (m == n)
        | false => none
      | _, _ => none
    | some .bool => match x, y with
      | .bool m, .bool n => some (m == n)
      | _, _ => none
    | some .string => match x, y with
      | .string m, .string n => some (m == n)
      | _, _ => none
    | some (.struct fs) => match x, y with
      | .agg xs, .agg ys => match P.stoodInHeld t with
        | true => none
        | false => eqFs P (eqS P d) xs ys fs.toList
      | _, _ => none
    | some (.array n e) => match x, y, P.info? e with
      | .agg xs, .agg ys, some i => eqIts P (eqS P d) e i.size xs ys (upTo 0 n)
      | _, _, _ => none
    | _ => none

theorem eqFs_run {d : Nat} {rec : TypeId → Value → Value → Option Bool} (hrec : ∀ t x y b, rec t x y = some b → ∀ w, (Op.equalIn d t x y).run P w = .ok b w) (xs ys : Array Value) :
    ∀ (fs : List Field) (b : Bool), eqFs P rec xs ys fs = some b → ∀ w, (Op.eqFields d xs ys fs).run P w = .ok b w
  | [], b, h, w => by simp only [eqFs] at h; injection h with h; subst h; rfl
  | f :: r, b, h, w => by
    simp only [eqFs] at h
    split at h
    · rename_i hn
      have hn : f.name = "_" := by simpa using hn
      simp only [Op.eqFields, hn, ne_eq, not_true_eq_false, if_false]
      exact eqFs_run hrec xs ys r b h w
    · rename_i hn
      have hn : ¬ f.name = "_" := by simpa using hn
      split at h
      · rename_i x y hx hy
        split at h
        · rename_i p q hp hq
          injection h with h
          subst h
          simp only [Op.eqFields, ne_eq, hn, not_false_eq_true, if_true, Sem.run_bind, pureS_run hx, pureS_run hy, Result.andThen_ok, hrec _ _ _ _ hp]
          cases p
          · simp
          · simp only [Bool.not_true, Bool.false_eq_true, if_false, Bool.true_and]
            exact eqFs_run hrec xs ys r q hq w
        · cases h
      · cases h

theorem eqIts_run {d : Nat} {rec : TypeId → Value → Value → Option Bool} (hrec : ∀ t x y b, rec t x y = some b → ∀ w, (Op.equalIn d t x y).run P w = .ok b w) (e : TypeId) (c : Nat) (xs ys : Array Value) :
    ∀ (l : List Nat) (b : Bool), eqIts P rec e c xs ys l = some b → ∀ w, (Op.eqItems d e c xs ys l).run P w = .ok b w
  | [], b, h, w => by simp only [eqIts] at h; injection h with h; subst h; rfl
  | i :: r, b, h, w => by
    simp only [eqIts] at h
    split at h
    · rename_i x y hx hy
      split at h
      · rename_i p q hp hq
        injection h with h
        subst h
        simp only [Op.eqItems, Sem.run_bind, pureS_run hx, pureS_run hy, Result.andThen_ok, hrec _ _ _ _ hp]
        cases p
        · simp
        · simp only [Bool.not_true, Bool.false_eq_true, if_false, Bool.true_and]
          exact eqIts_run hrec e c xs ys r q hq w
      · cases h
    · cases h

theorem eqS_run : ∀ {d : Nat} {t : TypeId} {x y : Value} {b : Bool}, eqS P d t x y = some b → ∀ w, (Op.equalIn d t x y).run P w = .ok b w
  | 0, _, _, _, _, h, _ => by cases h
  | d + 1, t, x, y, b, h, w => by
    simp only [eqS] at h
    split at h
    · rename_i hu
      split at h
      · split at h
        · rename_i hk
          have hk := of_decide_eq_true hk
          subst hk
          injection h with h; subst h
          exact run_equalIn_int w d t _ _ _ _ hu
        · cases h
      · cases h
    · rename_i hu
      split at h
      · injection h with h; subst h
        exact run_equalIn_bool' w d t _ _ hu
      · cases h
    · rename_i hu
      split at h
      · injection h with h; subst h
        rw [beq_toListBytes]
        exact run_equalIn_string w d t _ _ hu
      · cases h
    · rename_i fs hu
      split at h
      · rename_i xs ys
        split at h
        · cases h
        · rename_i hs
          have hf : P.fieldsOf t = fs := by simp [Program.fieldsOf, hu]
          rw [run_equalIn_struct w d t xs ys (by rw [hf]; exact hu) hs, hf]
          exact eqFs_run (fun _ _ _ _ h w => eqS_run h w) xs ys fs.toList b h w
      · cases h
    · rename_i n e hu
      split at h
      · rename_i xs ys i hi
        rw [run_equalIn_array w d xs ys hu hi, show P.cellsOf e = i.size by simp [Program.cellsOf, hi], List.range_eq_range', ← upTo_eq]
        exact eqIts_run (fun _ _ _ _ h w => eqS_run h w) e i.size xs ys _ b h w
      · cases h
    · cases h

def eqC (P : Program) (get : Operand → Option SV) (o : Oper) : Option Core := match o.op with
  | .binOp .eql t x y _ => match getV get x, getV get y with
    | some (.agg xs), some (.agg ys) => match P.eqGuardType P.depth t, eqS P 10000 t (.agg xs) (.agg ys) with
      | false, some b => some ⟨.c false [.v (.bool b)], .none, []⟩
      | _, _ => none
    | _, _ => pureC P get o
  | .binOp .neq t x y _ => match getV get x, getV get y with
    | some (.agg xs), some (.agg ys) => match P.eqGuardType P.depth t, eqS P 10000 t (.agg xs) (.agg ys) with
      | false, some b => some ⟨.c false [.v (.bool !b)], .none, []⟩
      | _, _ => none
    | _, _ => pureC P get o
  | _ => none

theorem eqC_ok {get : Operand → Option SV} {r : Core} (h : eqC P get o = some r) (hg : Gets E a get o) (hm : Mod N E a g) : CoreOk P N g E a o r := by
  unfold eqC at h
  split at h
  · rename_i t x y t' ho
    split at h
    · rename_i xs ys hx hy
      split at h
      · rename_i b hgd hb
        injection h with h
        subst h
        have e1 := getV_eval hg (by simp [ho, Op.operands]) hx
        have e2 := getV_eval hg (by simp [ho, Op.operands]) hy
        refine CoreOk.value (E' := E) (v := .bool b) ?_ rfl (Keep.refl E) hm ⟨[_], rfl, ⟨rfl, trivial⟩, fun _ => rfl⟩
        simp only [execOp, ho, e1, e2, Sem.run_bind, run_eqGuard_agg E.w _ t _ _ xs ys hgd, Result.andThen_ok, run_eql_struct, eqS_run hb E.w, Sem.run_pure]
      · cases h
    · exact pureC_ok h hg hm
  · rename_i t x y t' ho
    split at h
    · rename_i xs ys hx hy
      split at h
      · rename_i b hgd hb
        injection h with h
        subst h
        have e1 := getV_eval hg (by simp [ho, Op.operands]) hx
        have e2 := getV_eval hg (by simp [ho, Op.operands]) hy
        refine CoreOk.value (E' := E) (v := .bool !b) ?_ rfl (Keep.refl E) hm ⟨[_], rfl, ⟨rfl, trivial⟩, fun _ => rfl⟩
        simp only [execOp, ho, e1, e2, Sem.run_bind, run_eqGuard_agg E.w _ t _ _ xs ys hgd, Result.andThen_ok, run_neq_struct, eqS_run hb E.w, Sem.run_pure]
      · cases h
    · exact pureC_ok h hg hm
  · cases h

/-! ### Shifts -/

def shiftC (get : Operand → Option SV) (o : Oper) : Option Core := match o.op with
  | .binOp .shl _ x y _ => match getV get x, getV get y with
    | some (.int k m), some (.int _ n) => some ⟨.c false [.v (.int k (k.wrap (m * 2 ^ (min n.toNat k.bits))))], .none, [decide (0 ≤ n)]⟩
    | _, _ => none
  | .binOp .shr _ x y _ => match getV get x, getV get y with
    | some (.int k m), some (.int _ n) => some ⟨.c false [.v (.int k (m.fdiv (2 ^ (min n.toNat k.bits))))], .none, [decide (0 ≤ n)]⟩
    | _, _ => none
  | _ => none

theorem shiftC_ok {get : Operand → Option SV} {r : Core} (h : shiftC get o = some r) (hg : Gets E a get o) (hm : Mod N E a g) (hp : allB r.p = true) : CoreOk P N g E a o r := by
  unfold shiftC at h
  split at h
  · rename_i t x y t' ho
    split at h
    · rename_i k m k' n hx hy
      injection h with h
      subst h
      have e1 := getV_eval hg (by simp [ho, Op.operands]) hx
      have e2 := getV_eval hg (by simp [ho, Op.operands]) hy
      have hn : ¬ n < 0 := by have : 0 ≤ n := of_decide_eq_true hp; omega
      refine CoreOk.value (E' := E) ?_ rfl (Keep.refl E) hm ⟨[_], rfl, ⟨rfl, trivial⟩, fun _ => rfl⟩
      simp [execOp, ho, e1, e2, eqGuard, binOp, Op.shift, hn, mkV]
    · cases h
  · rename_i t x y t' ho
    split at h
    · rename_i k m k' n hx hy
      injection h with h
      subst h
      have e1 := getV_eval hg (by simp [ho, Op.operands]) hx
      have e2 := getV_eval hg (by simp [ho, Op.operands]) hy
      have hn : ¬ n < 0 := by have : 0 ≤ n := of_decide_eq_true hp; omega
      refine CoreOk.value (E' := E) ?_ rfl (Keep.refl E) hm ⟨[_], rfl, ⟨rfl, trivial⟩, fun _ => rfl⟩
      simp [execOp, ho, e1, e2, eqGuard, binOp, Op.shift, hn, mkV]
    · cases h
  · cases h

/-! ### Function values -/

def capsC (get : Operand → Option SV) : List Operand → Option (List (Nat × Nat))
  | [] => some []
  | x :: r => match get x, capsC get r with
    | some (.c false [.ptr b off]), some l => some ((b, off) :: l)
    | _, _ => none

theorem capsC_rel {get : Operand → Option SV} : ∀ {xs : List Operand} {l : List (Nat × Nat)}, capsC get xs = some l → (∀ x ∈ xs, ∀ s, get x = some s → RelV E s (a.eval x)) →
    xs.map a.eval = l.map (ptrV E.β) ∧ ∀ p ∈ l, E.L p.1
  | [], l, h, _ => by simp only [capsC] at h; injection h with h; subst h; exact ⟨rfl, fun p hp => by cases hp⟩
  | x :: r, l, h, hg => by
    simp only [capsC] at h
    split at h
    · rename_i b off l' hx hr
      injection h with h
      subst h
      obtain ⟨h1, h2⟩ := capsC_rel hr fun y hy => hg y (by simp [hy])
      obtain ⟨cs, hv, hc, _⟩ := hg x (by simp) _ hx
      match cs, hc with
      | [z], hc =>
        obtain ⟨hz, hl⟩ := hc.1
        refine ⟨by simp [h1, hv, mkV, hz], fun p hp => ?_⟩
        rcases List.mem_cons.1 hp with rfl | hp
        · exact hl
        · exact h2 p hp
    · cases h

def funcC (get : Operand → Option SV) (o : Oper) : Option Core := match o.op with
  | .makeFunc (.func f) first caps => match first.toList, caps.toList with
    | [], [] => some ⟨.c false [.v (.func (.func f) #[] #[])], .none, []⟩
    | [], c :: cs => match capsC get (c :: cs) with
      | some l => some ⟨.c false [.clo f l], .none, []⟩
      | none => none
    | _, _ => none
  | _ => none

theorem funcC_ok {get : Operand → Option SV} {r : Core} (h : funcC get o = some r) (hg : Gets E a get o) (hm : Mod N E a g) : CoreOk P N g E a o r := by
  unfold funcC at h
  split at h
  · rename_i f first caps ho
    split at h
    · rename_i h1 h2
      injection h with h
      subst h
      have h1 : first = #[] := by simpa using h1
      have h2 : caps = #[] := by simpa using h2
      refine CoreOk.value (E' := E) ?_ rfl (Keep.refl E) hm ⟨[_], rfl, ⟨rfl, trivial⟩, fun _ => rfl⟩
      simp [execOp, ho, h1, h2, Instr.makeFunc, mkV]
    · rename_i c cs h1 h2
      split at h
      · rename_i l hl
        injection h with h
        subst h
        have h1 : first = #[] := by simpa using h1
        have h2' : caps = (c :: cs).toArray := by rw [← h2]
        obtain ⟨e1, e2⟩ := capsC_rel hl fun x hx s hs => hg x s (by rw [ho]; simp only [Op.operands]; rw [Array.mem_append]; right; rw [h2']; simpa using hx) hs
        refine CoreOk.value (E' := E) (v := .func (.func f) #[] (l.map (ptrV E.β)).toArray) ?_ rfl (Keep.refl E) hm ⟨[_], rfl, ⟨⟨rfl, e2⟩, trivial⟩, fun _ => rfl⟩
        have e3 : caps.map a.eval = (l.map (ptrV E.β)).toArray := by rw [h2', ← e1]; simp
        simp [execOp, ho, h1, Instr.makeFunc, e3]
      · cases h
    · cases h
  · cases h

/-! ### Calls by contract -/

def shs? : (a b : List Sh) → Option (PLift (a = b))
  | [], [] => some ⟨rfl⟩
  | x :: r, y :: r' => match Sh.eq? x y, shs? r r' with
    | some ⟨h⟩, some ⟨h'⟩ => some ⟨by rw [h, h']⟩
    | _, _ => none
  | _, _ => none

def takes : (as : List Sh) → List SV → Option (TsS as × List SV)
  | [], l => some ((), l)
  | s :: r, v :: l => match s.whole v, takes r l with
    | some x, some (y, l') => some ((x, y), l')
    | _, _ => none
  | _ :: _, [] => none

def wholeL (s : Sh) (l : List At) : Option s.T := match s.take l with
  | some (x, []) => some x
  | _ => none

def takeRefs (rk : Rk) (bk : Nat → Option (List At)) : (cs : List Sh) → List (Nat × Nat) → Option (TsS cs)
  | [], [] => some ()
  | s :: r, p :: l => match Nat.beq p.2 0, bk p.1, takeRefs rk bk r l with
    | true, some b, some y => match wholeL s (thawL rk b) with
      | some x => some (x, y)
      | none => none
    | _, _, _ => none
  | _, _ => none

def Ctr.asFn (c : Ctr) (a : List Sh) (r : Sh) (y : TsS c.cs) : Option (FnT a r) := match c, y with
  | ⟨as, [], _, .one r', m⟩, y => match shs? as a, Sh.eq? r' r with
    | some ⟨h⟩, some ⟨h'⟩ => some (h ▸ h' ▸ ((fun x => m x () y) : FnT as r'))
    | _, _ => none
  | _, _ => none

def fnOf : SV → Option (FuncId × List (Nat × Nat))
  | .c false [.v (.func (.func id) ⟨[]⟩ ⟨[]⟩)] => some (id, [])
  | .c false [.clo id cap] => some (id, cap)
  | _ => none

/-- A function that came in as a parameter, handed on. -/
def takeP (a : List Sh) (r : Sh) : SV → Option (FnT a r)
  | .c false [.fn a' r' F] => match shs? a' a, Sh.eq? r' r with
    | some ⟨h⟩, some ⟨h'⟩ => some (h ▸ h' ▸ F)
    | _, _ => none
  | _ => none

/-- The rows that captured variables hold. -/
def rowsRefs (bk : Nat → Option (List At)) : List (Nat × Nat) → List Nat
  | [] => []
  | p :: l => match bk p.1 with
    | some b => rowsL b ++ rowsRefs bk l
    | none => rowsRefs bk l
def rowsFn (bk : Nat → Option (List At)) (v : SV) : List Nat := match fnOf v with
  | some (_, cap) => rowsRefs bk cap
  | none => []
def rowsFns (bk : Nat → Option (List At)) : List SV → List Nat
  | [] => []
  | v :: l => rowsFn bk v ++ rowsFns bk l

def takeG (C : Ctx) (rk : Rk) (bk : Nat → Option (List At)) (a : List Sh) (r : Sh) (v : SV) : Option (FnT a r) := match fnOf v with
  | some (id, cap) => match C.ctr id with
    | some c => match takeRefs rk bk c.cs cap with
      | some y => c.asFn a r y
      | none => none
    | none => none
  | none => none

def takeF (C : Ctx) (rk : Rk) (bk : Nat → Option (List At)) (a : List Sh) (r : Sh) (v : SV) : Option (FnT a r) := match takeP a r v with
  | some F => some F
  | none => takeG C rk bk a r v

def takeFs (C : Ctx) (rk : Rk) (bk : Nat → Option (List At)) : (fs : List (List Sh × Sh)) → List SV → Option (TsF fs)
  | [], [] => some ()
  | f :: r, v :: l => match takeF C rk bk f.1 f.2 v, takeFs C rk bk r l with
    | some x, some y => some (x, y)
    | _, _ => none
  | _, _ => none

def gets (get : Operand → Option SV) : List Operand → Option (List SV)
  | [] => some []
  | x :: r => match get x, gets get r with
    | some s, some l => some (s :: l)
    | _, _ => none

/-- Rows that go into a call as data become data for good, if the result may lead to them. -/
def callEff (u : List Nat) (flat : Bool) : Eff := match u, flat with
  | [], _ => .none
  | _, true => .none
  | u, false => .rkill u

def effNone : Eff → Bool
  | .none => true
  | _ => false

def callU (bk : Nat → Option (List At)) (l : List SV) (cap : List (Nat × Nat)) : List Nat := rowsVs l ++ (rowsRefs bk cap ++ rowsFns bk l)

def capS : List (Nat × Nat) → List SV
  | [] => []
  | p :: l => .c false [.ptr p.1 p.2] :: capS l

/-- A call of a function that makes a row. -/
def callR (rk : Rk) (b : Nat) (l : List SV) (c : RCtr) : Option Cor := match takes c.as (thawVs rk l), rk b with
  | some (x, []), none => match c.e.flat || (rowsVs l).isEmpty with
    | true => some (.call (List c.e.T) [] (c.m x) (fun _ => .c false [.row b]) (fun l => .row b ⟨c.t, c.e, l.length, l⟩ none) false)
    | false => none
  | _, _ => none

def callK (C : Ctx) (bk : Nat → Option (List At)) (rk : Rk) (b : Nat) (id : FuncId) (cap : List (Nat × Nat)) (l : List SV) : Option Cor := match C.ctr id with
  | some c => match takes c.as (thawVs rk l), takeRefs rk bk c.cs cap with
    | some (x, l'), some y => match takeFs C rk bk c.fs l' with
      | some F => some (.call c.r.T c.r.dflt (c.m x F y) (retS c.r) (fun _ => callEff (callU bk l cap) c.r.flat) (effNone (callEff (callU bk l cap) c.r.flat)))
      | none => none
    | _, _ => none
  | none => match C.rctr id with
    | some c => match cap with
      | [] => callR rk b l c
      | _ => none
    | none => match C.inl id with
      | true => some (.inl id (l ++ capS cap))
      | false => none

def callC (C : Ctx) (get : Operand → Option SV) (bk : Nat → Option (List At)) (rk : Rk) (b : Nat) (f : Operand) (xs : Array Operand) : Option Cor := match get f with
  | some fv => match fnOf fv, gets get xs.toList with
    | some (id, cap), some l => callK C bk rk b id cap l
    | _, _ => none
  | none => none

theorem thawVs_rel (hm : Mod N E a g) {rk : Rk} (hrk : ∀ i r, rk i = some r → g.r i = some r) {u : List Nat} : ∀ {l : List SV} {vs : List Value}, RelVs E l vs → (∀ r ∈ rowsVs l, r ∈ u) → RelVs (E.zone g u) (thawVs rk l) vs
  | [], [], _, _ => trivial
  | _ :: _, _ :: _, h, hu => ⟨thawS_rel hm hrk h.1 fun r hr => hu r (List.mem_append_left _ hr), thawVs_rel hm hrk h.2 fun r hr => hu r (List.mem_append_right _ hr)⟩
  | [], _ :: _, h, _ => h.elim
  | _ :: _, [], h, _ => h.elim

theorem retV_zone {w : World} {Z Z' : Nat → Prop} (hZ : ∀ b, Z b → Z' b) {r : RSh} {x : r.T} {v : Value} (h : RetV w Z r x v) : RetV w Z' r x v := by
  have one : ∀ {s : Sh} {x : s.T} {v : Value}, DatV w Z s x v → DatV w Z' s x v := fun ⟨cs, h1, h2, h3⟩ => ⟨cs, Dat.mono hZ (fun _ _ => rfl) h1, h2, h3⟩
  cases r with
  | one s => exact one h
  | tup l =>
    obtain ⟨vs, h1, h2⟩ := h
    refine ⟨vs, h1, ?_⟩
    clear h1
    induction l generalizing vs with
    | nil => exact h2
    | cons s r ih =>
      simp only [DatVs] at h2 ⊢
      obtain ⟨v, vs', h3, h4, h5⟩ := h2
      exact ⟨v, vs', h3, one h4, ih (x := x.2) vs' h5⟩

theorem gets_rel {get : Operand → Option SV} : ∀ {xs : List Operand} {l : List SV}, gets get xs = some l → (∀ x ∈ xs, ∀ s, get x = some s → RelV E s (a.eval x)) → RelVs E l (xs.map a.eval)
  | [], l, h, _ => by simp only [gets] at h; injection h with h; subst h; trivial
  | x :: r, l, h, hg => by
    simp only [gets] at h
    split at h
    · rename_i s l' hs hl
      injection h with h
      subst h
      exact ⟨hg x (by simp) s hs, gets_rel hl fun y hy => hg y (by simp [hy])⟩
    · cases h

theorem takes_rel : ∀ {as : List Sh} {l l' : List SV} {x : TsS as} {vs : List Value}, takes as l = some (x, l') → RelVs E l vs → ∃ vs1 vs2, vs = vs1 ++ vs2 ∧ DatVs E.w E.Z as x vs1 ∧ RelVs E l' vs2
  | [], l, l', x, vs, h, hr => by
    simp only [takes, Option.some.injEq, Prod.mk.injEq] at h
    obtain ⟨_, rfl⟩ := h
    exact ⟨[], vs, rfl, rfl, hr⟩
  | s :: r, v :: l, l', x, vs, h, hr => by
    simp only [takes] at h
    split at h
    · rename_i y z l'' hy hz
      simp only [Option.some.injEq, Prod.mk.injEq] at h
      obtain ⟨rfl, rfl⟩ := h
      match vs, hr with
      | u :: vs, hr =>
        obtain ⟨vs1, vs2, rfl, h1, h2⟩ := takes_rel hz hr.2
        exact ⟨u :: vs1, vs2, rfl, by simp only [DatVs]; exact ⟨u, vs1, rfl, whole_rel hy hr.1, h1⟩, h2⟩
    · cases h
  | _ :: _, [], _, _, _, h, _ => by cases h

theorem refV_of (hm : Mod N E a g) {bk : Nat → Option (List At)} (hbk : ∀ i l, bk i = some l → g.h i = some l) {rk : Rk} (hrk : ∀ i r, rk i = some r → g.r i = some r) {u : List Nat} {s : Sh} {i : Nat} {l : List At} {x : s.T} (hb : bk i = some l) (hx : wholeL s (thawL rk l) = some x)
    (hu : ∀ r ∈ rowsL l, r ∈ u) {w' : World} {Z' : Nat → Prop} (hw : Below E.w.heap.size E.w w') (hZ : ∀ b, E.zp g u b → Z' b) : RefV w' Z' s x (ptrV E.β (i, 0)) := by
  obtain ⟨_, cs, t, hh, hr0, _⟩ := hm.blks i l (hbk i l hb)
  have hr := thawL_rel hm hrk (u := u) hr0 hu
  unfold wholeL at hx
  split at hx
  · rename_i y hy
    injection hx with hx
    subst hx
    obtain ⟨c1, c2, rfl, hd, h2⟩ := take_rel hy hr
    match c2, h2 with
    | [], _ =>
      have hlt := hm.blk_lt (hbk i l hb)
      rw [List.append_nil] at hh
      refine ⟨E.β i, c1, rfl, Nat.lt_of_lt_of_le hlt hw.size, Dat.mono hZ (fun b hb' => hw.block b (zp_lt hm u b hb')) hd, fun j u hj => ?_⟩
      simp [World.cell?, hw.block _ hlt, hh, hj]
  · cases hx

theorem rowsRefs_cons {bk : Nat → Option (List At)} {p : Nat × Nat} {l : List (Nat × Nat)} {b : List At} (h : bk p.1 = some b) : rowsRefs bk (p :: l) = rowsL b ++ rowsRefs bk l := by simp [rowsRefs, h]

theorem takeRefs_rel (hm : Mod N E a g) {bk : Nat → Option (List At)} (hbk : ∀ i l, bk i = some l → g.h i = some l) {rk : Rk} (hrk : ∀ i r, rk i = some r → g.r i = some r) {u : List Nat} {w' : World} {Z' : Nat → Prop} (hw : Below E.w.heap.size E.w w') (hZ : ∀ b, E.zp g u b → Z' b) :
    ∀ {cs : List Sh} {cap : List (Nat × Nat)} {y : TsS cs}, takeRefs rk bk cs cap = some y → (∀ r ∈ rowsRefs bk cap, r ∈ u) → RefVs w' Z' cs y (cap.map (ptrV E.β))
  | [], [], _, _, _ => rfl
  | s :: r, p :: l, y, h, hu => by
    simp only [takeRefs] at h
    split at h
    · rename_i b z h0 hb hz
      split at h
      · rename_i x hx
        injection h with h
        subst h
        rw [rowsRefs_cons hb] at hu
        obtain ⟨i, off⟩ := p
        have h0 : off = 0 := by simpa using h0
        subst h0
        simp only [List.map_cons, RefVs]
        exact ⟨_, _, rfl, refV_of hm hbk hrk hb hx (fun r hr => hu r (List.mem_append_left _ hr)) hw hZ, takeRefs_rel hm hbk hrk hw hZ hz fun r hr => hu r (List.mem_append_right _ hr)⟩
      · cases h
    · cases h
  | [], _ :: _, _, h, _ => by cases h
  | _ :: _, [], _, h, _ => by cases h

theorem fnOf_rel {v : SV} {id : FuncId} {cap : List (Nat × Nat)} {y : Value} (h : fnOf v = some (id, cap)) (hv : RelV E v y) : y = .func (.func id) #[] (cap.map (ptrV E.β)).toArray := by
  unfold fnOf at h
  split at h
  · simp only [Option.some.injEq, Prod.mk.injEq] at h
    obtain ⟨rfl, rfl⟩ := h
    exact toV_rel rfl hv
  · simp only [Option.some.injEq, Prod.mk.injEq] at h
    obtain ⟨rfl, rfl⟩ := h
    obtain ⟨cs, rfl, hr, _⟩ := hv
    match cs, hr with
    | [z], hr => rw [hr.1.1]; rfl
  · cases h

theorem takeP_rel (hm : Mod N E a g) {u : List Nat} {as : List Sh} {r : Sh} {v : SV} {F : FnT as r} {y : Value} (h : takeP as r v = some F) (hv : RelV (E.zone g u) v y) : FnV E.P E.w (E.zp g u) as r F y := by
  unfold takeP at h
  split at h
  · rename_i a' r' F'
    split at h
    · rename_i h1 h2 _ _
      subst h1; subst h2
      injection h with h
      subst h
      obtain ⟨cs, rfl, hr, _⟩ := hv
      match cs, hr with
      | [z], hr =>
        obtain ⟨id, cap, hz, hcall, hfn⟩ := hr.1
        exact ⟨id, cap, hz, hcall, fun w' Z' x y vals hw hZ => hfn w' Z' x y vals (hm.glob.below.trans (hw.mono hm.glob.below.size)) fun b hb => hZ b (.inl (hm.glob.z0 b hb))⟩
    · cases h
  · cases h

theorem takeG_rel {C : Ctx} (hC : C.ok) (hm : Mod N E a g) {bk : Nat → Option (List At)} (hbk : ∀ i l, bk i = some l → g.h i = some l) {rk : Rk} (hrk : ∀ i r, rk i = some r → g.r i = some r) {u : List Nat} {as : List Sh} {r : Sh} {v : SV} {F : FnT as r} {y : Value}
    (h : takeG C rk bk as r v = some F) (hu : ∀ q ∈ rowsFn bk v, q ∈ u) (hv : RelV (E.zone g u) v y) : FnV C.P E.w (E.zp g u) as r F y := by
  unfold takeG at h
  split at h
  · rename_i id cap hf
    split at h
    · rename_i c hc
      split at h
      · rename_i z hz
        obtain ⟨hcall, hok⟩ := hC.ctr id c hc
        refine ⟨id, _, fnOf_rel (E := E.zone g u) hf hv, hcall, fun w' Z' x y vals hw hZ hZb hd hv' => ?_⟩
        have hrefs := takeRefs_rel hm hbk hrk (u := u) hw hZ hz (by simpa [rowsFn, hf] using hu)
        obtain ⟨as', fs', cs', r', m⟩ := c
        unfold Ctr.asFn at h
        split at h
        · rename_i as2 cs2 r2 m2 _ y2 heq1 heq2
          injection heq1 with e1 e2 e3 e4 e6
          subst e1; subst e2; subst e3; subst e4
          cases e6; cases heq2
          split at h
          · rename_i h1 h2 _ _
            subst h1; subst h2
            injection h with h
            subst h
            have := hok x () y2 y hd w' Z' vals [] _ hZb hv' rfl hrefs
            simpa [RetV, Env.zone] using this
          · cases h
        · cases h
      · cases h
    · cases h
  · cases h

theorem takeF_rel {C : Ctx} (hC : C.ok) (hP : E.P = C.P) (hm : Mod N E a g) {bk : Nat → Option (List At)} (hbk : ∀ i l, bk i = some l → g.h i = some l) {rk : Rk} (hrk : ∀ i r, rk i = some r → g.r i = some r) {u : List Nat} {as : List Sh} {r : Sh} {v : SV} {F : FnT as r} {y : Value}
    (h : takeF C rk bk as r v = some F) (hu : ∀ q ∈ rowsFn bk v, q ∈ u) (hv : RelV (E.zone g u) v y) : FnV C.P E.w (E.zp g u) as r F y := by
  unfold takeF at h
  split at h
  · rename_i F' hF
    injection h with h
    subst h
    rw [← hP]
    exact takeP_rel hm hF hv
  · exact takeG_rel hC hm hbk hrk h hu hv

theorem takeFs_rel {C : Ctx} (hC : C.ok) (hP : E.P = C.P) (hm : Mod N E a g) {bk : Nat → Option (List At)} (hbk : ∀ i l, bk i = some l → g.h i = some l) {rk : Rk} (hrk : ∀ i r, rk i = some r → g.r i = some r) {u : List Nat} :
    ∀ {fs : List (List Sh × Sh)} {l : List SV} {F : TsF fs} {vs : List Value}, takeFs C rk bk fs l = some F → (∀ q ∈ rowsFns bk l, q ∈ u) → RelVs (E.zone g u) l vs → FnVs C.P E.w (E.zp g u) fs F vs
  | [], [], _, vs, _, _, hr => by
    match vs, hr with
    | [], _ => rfl
  | f :: r, v :: l, F, vs, h, hu, hr => by
    simp only [takeFs] at h
    split at h
    · rename_i x y hx hy
      injection h with h
      subst h
      match vs, hr with
      | w :: vs, hr =>
        simp only [FnVs]
        exact ⟨w, vs, rfl, takeF_rel hC hP hm hbk hrk hx (fun q hq => hu q (List.mem_append_left _ hq)) hr.1, takeFs_rel hC hP hm hbk hrk hy (fun q hq => hu q (List.mem_append_right _ hq)) hr.2⟩
    · cases h
  | [], _ :: _, _, _, h, _, _ => by cases h
  | _ :: _, [], _, _, h, _, _ => by cases h

/-- What is left over of the arguments behind the data: the functions. -/
theorem takes_drop : ∀ {as : List Sh} {l l' : List SV} {x : TsS as}, takes as l = some (x, l') → ∃ k, l' = l.drop k
  | [], l, l', x, h => by
    simp only [takes, Option.some.injEq, Prod.mk.injEq] at h
    exact ⟨0, h.2.symm⟩
  | s :: r, v :: l, l', x, h => by
    simp only [takes] at h
    split at h
    · rename_i y z l'' hy hz
      simp only [Option.some.injEq, Prod.mk.injEq] at h
      obtain ⟨_, rfl⟩ := h
      obtain ⟨k, hk⟩ := takes_drop hz
      exact ⟨k + 1, hk⟩
    · cases h
  | _ :: _, [], _, _, h => by cases h

theorem thawVs_drop {rk : Rk} : ∀ {l : List SV} {k : Nat}, (thawVs rk l).drop k = thawVs rk (l.drop k)
  | [], k => by simp [thawVs]
  | _ :: _, 0 => rfl
  | _ :: l, k + 1 => thawVs_drop (l := l) (k := k)
theorem rowsFns_drop {bk : Nat → Option (List At)} : ∀ {l : List SV} {k q : Nat}, q ∈ rowsFns bk (l.drop k) → q ∈ rowsFns bk l
  | [], k, q, h => by simpa using h
  | _ :: _, 0, _, h => h
  | _ :: l, k + 1, q, h => List.mem_append_right _ (rowsFns_drop (l := l) (k := k) h)
theorem thawA_fn {rk : Rk} {x : At} (g : FuncId) (cap : List (Nat × Nat)) (h : thawA rk x = .clo g cap) : x = .clo g cap := by
  cases x <;> simp only [thawA] at h <;> first | exact h | (split at h <;> cases h)
theorem thawA_v {rk : Rk} {x : At} {v : Value} (h : thawA rk x = .v v) : x = .v v := by
  cases x <;> simp only [thawA] at h <;> first | exact h | (split at h <;> cases h)
theorem fnOf_thaw {rk : Rk} {v : SV} : fnOf (thawS rk v) = fnOf v := by
  cases v with
  | tup l => rfl
  | c ag l =>
    cases ag with
    | true => simp [thawS, fnOf]
    | false =>
      match l with
      | [] => rfl
      | [x] =>
        simp only [thawS, thawL]
        cases x <;> first | rfl | (simp only [thawA]; split <;> rfl)
      | _ :: _ :: _ => simp [thawS, thawL, fnOf]
theorem rowsFns_thaw {rk : Rk} {bk : Nat → Option (List At)} : ∀ {l : List SV}, rowsFns bk (thawVs rk l) = rowsFns bk l
  | [] => rfl
  | v :: l => by simp [thawVs, rowsFns, rowsFn, fnOf_thaw, rowsFns_thaw (l := l)]

theorem capS_rel : ∀ {cap : List (Nat × Nat)}, (∀ p ∈ cap, E.L p.1) → RelVs E (capS cap) (cap.map (ptrV E.β))
  | [], _ => trivial
  | p :: l, h => ⟨⟨[_], rfl, ⟨⟨rfl, h p (by simp)⟩, trivial⟩, fun _ => rfl⟩, capS_rel fun q hq => h q (by simp [hq])⟩
theorem relVs_append : ∀ {l m : List SV} {vs us : List Value}, RelVs E l vs → RelVs E m us → RelVs E (l ++ m) (vs ++ us)
  | [], _, [], _, _, h => h
  | _ :: _, _, _ :: _, _, h, h' => ⟨h.1, relVs_append h.2 h'⟩
  | [], _, _ :: _, _, h, _ => h.elim
  | _ :: _, _, [], _, h, _ => h.elim
theorem fnOf_cap {v : SV} {id : FuncId} {cap : List (Nat × Nat)} {y : Value} (h : fnOf v = some (id, cap)) (hv : RelV E v y) : ∀ p ∈ cap, E.L p.1 := by
  unfold fnOf at h
  split at h
  · simp only [Option.some.injEq, Prod.mk.injEq] at h
    obtain ⟨rfl, rfl⟩ := h
    intro p hp; cases hp
  · simp only [Option.some.injEq, Prod.mk.injEq] at h
    obtain ⟨rfl, rfl⟩ := h
    obtain ⟨cs, rfl, hr, _⟩ := hv
    match cs, hr with
    | [z], hr => exact hr.1.2
  · cases h

theorem callC_ok {C : Ctx} (hC : C.ok) (hP : E.P = C.P) {get : Operand → Option SV} {bk : Nat → Option (List At)} {rk : Rk} {b : Nat} {f : Operand} {xs : Array Operand} {ts : Array TypeId} {r : Cor} (ho : o.op = .call { callee := .value f, args := xs, argTypes := ts })
    (h : callC C get bk rk b f xs = some r) (hg : Gets E a get o) (hm : Mod N E a g) (hbk : ∀ i l, bk i = some l → g.h i = some l) (hrk : ∀ i r, rk i = some r → g.r i = some r) (hrb : rk b = none → g.r b = none) : CorOk C.P N g E a o r := by
  unfold callC at h
  split at h
  · rename_i fv hfv
    split at h
    · rename_i id cap l hf hl
      have hfe := fnOf_rel hf (hg f fv (by rw [ho]; simp [Op.operands, Call.operands]) hfv)
      have hcl := fnOf_cap hf (hg f fv (by rw [ho]; simp [Op.operands, Call.operands]) hfv)
      have hl0 := gets_rel hl fun x hx s hs => hg x s (by rw [ho]; simp only [Op.operands, Call.operands]; rw [Array.mem_append]; right; exact Array.mem_toList_iff.1 hx) hs
      unfold callK at h
      split at h
      · rename_i c hc
        split at h
        · rename_i x l' y hx hy
          split at h
          · rename_i F hF
            injection h with h
            subst h
            refine ⟨fun hpu _ => (by cases hh : callEff (callU bk l cap) c.r.flat <;> rw [hh] at hpu <;> first | rfl | cases hpu), ?_⟩
            intro z hz
            obtain ⟨hcall, hok⟩ := hC.ctr id c hc
            have hl' := thawVs_rel hm hrk hl0 (u := callU bk l cap) fun r hr => List.mem_append_left _ hr
            obtain ⟨hmz, hkz⟩ := zone_mod hm (callU bk l cap)
            obtain ⟨vs1, vs2, e, h1, h2⟩ := takes_rel hx hl'
            have hfu : ∀ q ∈ rowsFns bk l', q ∈ callU bk l cap := fun q hq => by
              obtain ⟨k, hk⟩ := takes_drop hx
              rw [hk] at hq
              have := rowsFns_drop hq
              rw [rowsFns_thaw] at this
              exact List.mem_append_right _ (List.mem_append_right _ this)
            have h3 : FnVs C.P E.w (E.zp g (callU bk l cap)) c.fs F vs2 := takeFs_rel hC hP hm hbk hrk hF hfu h2
            have h4 := takeRefs_rel hm hbk hrk (u := callU bk l cap) (Below.refl _ _) (Z' := E.zp g (callU bk l cap)) (fun _ h => h) hy fun q hq => List.mem_append_right _ (List.mem_append_left _ hq)
            have := hok x F y z hz E.w (E.zp g (callU bk l cap)) vs1 vs2 _ (zp_lt hm _) h1 h3 h4
            rw [← e] at this
            have e2 : xs.map a.eval ++ (cap.map (ptrV E.β)).toArray = (xs.toList.map a.eval ++ cap.map (ptrV E.β)).toArray := by
              rw [← List.append_toArray]
              simp [← Array.toList_map]
            rw [← e2] at this
            intro K Q hK
            unfold Oper.wp
            have hrun : (execOp a.eval o).run C.P E.w = .ok (.enter id (xs.map a.eval ++ (cap.map (ptrV E.β)).toArray)) E.w := by
              simp only [execOp, ho, resolve, hfe, Deferred.ofValue, pure_bind, invoke, Array.empty_append]
              exact run_callFunc hcall _ _
            rw [hrun]
            refine this.mono fun e w' he => ?_
            obtain ⟨v, rfl, g1, g2⟩ := he
            have keep : ∀ (hz : ∀ b, E.zp g (callU bk l cap) b → E.Z b), callEff (callU bk l cap) c.r.flat = .none → K (a.put o.dst v) w' := fun hz he => by
              refine hK (E.dat w') v rfl (dat_keep hm g2) (by show Mod N _ a (g.app (callEff _ _)); rw [he]; exact dat_mod hm g2) (retV_rel (E := E.dat w') (retV_zone (fun b hb => ?_) g1))
              exact hb.imp (hz b) fun h => h
            cases hu : callU bk l cap with
            | nil =>
              refine keep (fun b hb => ?_) (by rw [hu]; rfl)
              rw [hu] at hb
              rcases hb with hb | ⟨r, hr, _⟩
              · exact hb
              · cases hr
            | cons q u =>
              cases hfl : c.r.flat with
              | true =>
                have he : callEff (callU bk l cap) c.r.flat = .none := by rw [hu, hfl]; rfl
                exact hK (E.dat w') v rfl (dat_keep hm g2) (by show Mod N _ a (g.app (callEff _ _)); rw [he]; exact dat_mod hm g2) (retV_rel (E := E.dat w') (RetV.flat hfl g1))
              | false =>
                have he : callEff (callU bk l cap) c.r.flat = .rkill (callU bk l cap) := by rw [hu, hfl]; rfl
                exact hK ((E.zone g (callU bk l cap)).dat w') v rfl (hkz.trans (dat_keep hmz g2)) (by show Mod N _ a (g.app (callEff _ _)); rw [he]; exact dat_mod hmz g2) (retV_rel (E := (E.zone g (callU bk l cap)).dat w') g1)
          · cases h
        · cases h
      · split at h
        · rename_i c hc
          obtain ⟨hcall, hok⟩ := hC.rctr id c hc
          split at h
          case h_2 => cases h
          unfold callR at h
          split at h
          · rename_i x hx hbn
            split at h
            · rename_i hfl
              injection h with h
              subst h
              refine ⟨fun hpu => (by cases hpu), fun z hz => ?_⟩
              have hl' := thawVs_rel hm hrk hl0 (u := rowsVs l) fun r hr => hr
              obtain ⟨vs1, vs2, e, h1, h2⟩ := takes_rel hx hl'
              match vs2, h2 with
              | [], _ =>
              have := hok x z hz E.w (E.zp g (rowsVs l)) vs1 (zp_lt hm _) h1
              rw [List.append_nil] at e
              rw [← e] at this
              intro K Q hK
              unfold Oper.wp
              have hrun : (execOp a.eval o).run C.P E.w = .ok (.enter id (xs.map a.eval)) E.w := by
                simp only [execOp, ho, resolve, hfe, Deferred.ofValue, pure_bind, invoke, Array.empty_append]
                simpa using run_callFunc hcall (xs.map a.eval) E.w
              rw [hrun]
              rw [show xs.map a.eval = (xs.toList.map a.eval).toArray by simp [← Array.toList_map]]
              refine this.mono fun e' w' he => ?_
              obtain ⟨v, Z', rfl, z1, z2, z3, ⟨ys, o1, o2⟩, hb⟩ := he
              have zone : ∃ Z2 : Nat → Prop, (∀ q, E.Z q → Z2 q) ∧ (∀ q, Z2 q → E.Z q ∨ (E.w.heap.size ≤ q ∧ q < w'.heap.size)) ∧ (∀ q, v.ownBlock = some q → ¬ Z2 q) ∧ RowRel w' Z2 c.e z ys := by
                simp only [Bool.or_eq_true] at hfl
                rcases hfl with hfl | hfl
                · refine ⟨E.Z, fun _ h => h, fun _ h => .inl h, fun q hq hz => ?_, RowRel.flat hfl o2⟩
                  exact z3 q hq (z1 q (.inl hz))
                · have hu : rowsVs l = [] := by simpa using hfl
                  refine ⟨Z', fun q hq => z1 q (.inl hq), fun q hq => ?_, z3, o2⟩
                  rcases z2 q hq with h | h
                  · rcases h with h | ⟨r, hr, _⟩
                    · exact .inl h
                    · rw [hu] at hr; cases hr
                  · exact .inr h
              obtain ⟨Z2, y1, y2, y3, y4⟩ := zone
              obtain ⟨m1, m2⟩ := newRow_mod hm (hrb hbn) hb y1 y2 y3 (ri := ⟨c.t, c.e, z.length, z⟩) ⟨ys, o1, y4, rfl⟩
              refine hK (E.made b v w' Z2) v rfl m2 m1 ⟨[v], rfl, ⟨⟨?_, .inr rfl, ownsRow_oneCell o1⟩, trivial⟩, fun _ => rfl⟩
              show v = if b = b then v else _
              rw [if_pos rfl]
            · cases h
          · cases h
        split at h
        · rename_i hin
          injection h with h
          subst h
          refine ⟨xs.map a.eval ++ (cap.map (ptrV E.β)).toArray, ?_, ?_⟩
          · simp only [execOp, ho, resolve, hfe, Deferred.ofValue, pure_bind, invoke, Array.empty_append]
            exact run_callFunc (hC.inl id hin) _ _
          · have := relVs_append hl0 (capS_rel hcl)
            simpa using this
        · cases h
    · cases h
  · cases h

end
end Dn
end Go.Proofs.YtghjblbkbelcfaaGreat

namespace Go.Proofs.YtghjblbkbelcfaaGreat
namespace Dn
open Go.RowKit

section
variable {N : Nat} {g : Look} {E : Env} {a : Act} {o : Oper}

/-! ### A call of a function that came in as a parameter -/

def callF (get : Operand → Option SV) (f : Operand) (xs : Array Operand) : Option Cor := match get f with
  | some (.c false [.fn a r F]) => match gets get xs.toList with
    | some l => match takes a l with
      | some (x, []) => some (.call r.T r.dflt (F x) (retS (.one r)) (fun _ => .none) true)
      | _ => none
    | none => none
  | _ => none

theorem callF_ok {get : Operand → Option SV} {f : Operand} {xs : Array Operand} {ts : Array TypeId} {r : Cor} (ho : o.op = .call { callee := .value f, args := xs, argTypes := ts })
    (h : callF get f xs = some r) (hg : Gets E a get o) (hm : Mod N E a g) : CorOk E.P N g E a o r := by
  unfold callF at h
  split at h
  · rename_i as rs F hf
    split at h
    · rename_i l hl
      split at h
      · rename_i x hx
        injection h with h
        subst h
        refine ⟨fun _ _ => rfl, ?_⟩
        intro y hy
        obtain ⟨cs, hv, hr, _⟩ := hg f _ (by rw [ho]; simp [Op.operands, Call.operands]) hf
        match cs, hr with
        | [z], hr =>
          obtain ⟨id, cap, hz, hcall, hfn⟩ := hr.1
          have hl' := gets_rel hl fun x hx s hs => hg x s (by rw [ho]; simp only [Op.operands, Call.operands]; rw [Array.mem_append]; right; exact Array.mem_toList_iff.1 hx) hs
          obtain ⟨vs1, vs2, e, h1, h2⟩ := takes_rel hx hl'
          match vs2, h2 with
          | [], _ =>
            rw [List.append_nil] at e
            refine call_ok (cap := cap) ho (by rw [hv, hz]; rfl) hcall hm ?_
            have := hfn E.w E.Z x y vs1 hm.glob.below hm.glob.z0 hm.glob.zlt hy h1
            have e2 : xs.map a.eval = vs1.toArray := by rw [← e]; simp [← Array.toList_map]
            rw [e2]
            exact this
      · cases h
    · cases h
  · cases h

/-- A call of a function that the model stands in for. -/
def callE (P : Program) (get : Operand → Option SV) (f : Operand) (xs : Array Operand) : Option Core := match get f with
  | some fv => match fnOf fv with
    | some (id, []) => carryC P get id xs
    | _ => none
  | none => none

def callX (C : Ctx) (get : Operand → Option SV) (bk : Nat → Option (List At)) (rk : Rk) (b : Nat) (f : Operand) (xs : Array Operand) : Option Cor := match callF get f xs with
  | some r => some r
  | none => match callE C.P get f xs with
    | some r => some (.one r)
    | none => callC C get bk rk b f xs

/-! ### One operation without its guard -/

def sameC (get : Operand → Option SV) (x : Operand) : Option Core := match get x with
  | some s => some ⟨s, .none, []⟩
  | none => none

def extractC (get : Operand → Option SV) (x : Operand) (ix : Nat) : Option Core := match get x with
  | some (.tup l) => match l[ix]? with
    | some c => some ⟨.c c.1 c.2, .none, []⟩
    | none => none
  | _ => none

def loadC (P : Program) (get : Operand → Option SV) (bk : Nat → Option (List At)) (rk : Rk) (t : TypeId) (x : Operand) : Option Core := match get x with
  | some (.c false [.ptr i off]) => match bk i with
    | some l => match partC P t l off with
      | some s => some ⟨s, .none, []⟩
      | none => none
    | none => none
  | some (.c false [.rf sh d off]) => match partC P t (Sh.cells sh d) off with
    | some s => some ⟨s, .none, []⟩
    | none => none
  | some (.c false [.ae b off e n i d]) => match bk b with
    | some l => match els e n (l.drop off) with
      | some xs => match partC P t (e.cells (xs.getD i e.dflt)) d with
        | some s => some ⟨s, .none, [Nat.blt i n]⟩
        | none => none
      | none => none
    | none => none
  | some (.c false [.re r i sz off]) => match rk r with
    | some (some ri) => match Nat.beq sz ri.e.size, partC P t (ri.e.cells (ri.l.getD i ri.e.dflt)) off with
      | true, some s => some ⟨s, .none, [Nat.blt i ri.n]⟩
      | _, _ => none
    | _ => none
  | _ => none

def storeC (P : Program) (get : Operand → Option SV) (bk : Nat → Option (List At)) (rk : Rk) (t : TypeId) (x y : Operand) : Option Core := match get x, get y with
  | some (.c false [.ptr i off]), some (.c _ l') => match bk i, sizeT P t with
    | some l, some n => match l'.all at1, Nat.beq l'.length n, Nat.ble (off + n) l.length with
      | true, true, true => some ⟨.c false [.u], .store i (l.take off ++ l' ++ l.drop (off + l'.length)), []⟩
      | _, _, _ => none
    | _, _ => none
  | some (.c false [.ae b off e n i d]), some (.c _ l') => match bk b, sizeT P t with
    | some l, some m => match els e n ((l.drop off).take (n * e.size)), l'.all at1, Nat.beq l'.length m, Nat.ble (d + m) e.size, Nat.ble (off + n * e.size) l.length with
      | some xs, true, true, true, true => match e.take ((e.cells (xs.getD i e.dflt)).take d ++ l' ++ (e.cells (xs.getD i e.dflt)).drop (d + l'.length)) with
        | some (z, []) => some ⟨.c false [.u], .store b (l.take off ++ cellsE e (setAt xs 0 i z) ++ l.drop (off + n * e.size)), [Nat.blt i n]⟩
        | _ => none
      | _, _, _, _, _ => none
    | _, _ => none
  | some (.c false [.re r i sz off]), some (.c _ l') => match rk r, sizeT P t with
    | some (some ri), some n => match l'.all at1, Nat.beq l'.length n, Nat.ble (off + n) ri.e.size, Nat.beq sz ri.e.size, ri.e.take ((ri.e.cells (ri.l.getD i ri.e.dflt)).take off ++ l' ++ (ri.e.cells (ri.l.getD i ri.e.dflt)).drop (off + l'.length)) with
      | true, true, true, true, some (z, []) => some ⟨.c false [.u], .rset r ri.e (ri.l.set i z), [Nat.blt i ri.n]⟩
      | _, _, _, _, _ => none
    | _, _ => none
  | _, _ => none

def allocC (P : Program) (bk : Nat → Option (List At)) (b : Nat) (t : TypeId) : Option Core := match zeroT P t, bk b with
  | some cs, none => some ⟨.c false [.ptr b 0], .alloc b (cs.map .v), []⟩
  | _, _ => none

def boxC (get : Operand → Option SV) (bk : Nat → Option (List At)) (b : Nat) (x : Operand) : Option Core := match get x, bk b with
  | some (.c _ l), none => match l.all at1 with
    | true => some ⟨.c false [.ptr b 0], .alloc b l, []⟩
    | false => none
  | _, _ => none

def fieldC (P : Program) (get : Operand → Option SV) (t : TypeId) (x : Operand) (f : Nat) : Option Core := match get x, fieldT P t f with
  | some (.c false [.ptr i off]), some d => some ⟨.c false [.ptr i (off + d)], .none, []⟩
  | some (.c false [.rf sh y off]), some d => some ⟨.c false [.rf sh y (off + d)], .none, []⟩
  | some (.c false [.re r i sz off]), some d => some ⟨.c false [.re r i sz (off + d)], .none, []⟩
  | some (.c false [.ae b off e n i d0]), some d => some ⟨.c false [.ae b off e n i (d0 + d)], .none, []⟩
  | _, _ => none

def indexC (P : Program) (get : Operand → Option SV) (rk : Rk) (t : TypeId) (x y : Operand) : Option Core := match get x, get y, elemT P t with
  | some (.c false [.sl e l]), some (.c false [.v (.int _ i)]), some et => match sizeT P et with
    | some n => match Nat.beq n e.size with
      | true => some ⟨.c false [.rf e (l.getD i.toNat e.dflt) 0], .none, [inB i l.length]⟩
      | false => none
    | none => none
  | some (.c false [.row r]), some (.c false [.v (.int _ i)]), some et => match sizeT P et, rk r with
    | some n, some (some ri) => match Nat.beq n ri.e.size with
      | true => some ⟨.c false [.re r i.toNat ri.e.size 0], .none, [inB i ri.n]⟩
      | false => none
    | _, _ => none
  | _, _, _ => none

/-- An element of an array, by its address. -/
def indexArrC (C : Ctx) (get : Operand → Option SV) (t : TypeId) (x y : Operand) : Option Core := match arrT C.P t, get x, get y with
  | some (n, et), some (.c false [.ptr b off]), some (.c false [.v (.int _ i)]) => match C.sh et, sizeT C.P et with
    | some e, some m => match Nat.beq m e.size with
      | true => some ⟨.c false [.ae b off e n i.toNat 0], .none, [inB i n]⟩
      | false => none
    | _, _ => none
  | some (n, et), some (.c false [.rf s d off]), some (.c false [.v (.int _ i)]) => match C.sh et, sizeT C.P et with
    | some e, some m => match Nat.beq m e.size, els e n ((s.cells d).drop off) with
      | true, some xs => some ⟨.c false [.rf e (xs.getD i.toNat e.dflt) 0], .none, [inB i n]⟩
      | _, _ => none
    | _, _ => none
  | some (n, et), some (.c false [.re r q sz off]), some (.c false [.v (.int _ i)]) => match sizeT C.P et with
    | some m => some ⟨.c false [.re r q sz (off + i.toNat * m)], .none, [inB i n]⟩
    | none => none
  | _, _, _ => none

/-- A part of a slice, or of a string. -/
def sliceC (P : Program) (get : Operand → Option SV) (t : TypeId) (x : Operand) (lo hi : Option Operand) : Option Core := match get x with
  | some (.c false [.sl e l]) => match elemT P t, bndC get 0 lo, bndC get l.length hi with
    | some et, some i, some j => match sizeT P et with
      | some m => match Nat.beq m e.size with
        | true => some ⟨.c false [.sl e ((l.take j.toNat).drop i.toNat)], .none, [slB i j l.length]⟩
        | false => none
      | none => none
    | _, _, _ => none
  | some (.c false [.v (.string s)]) => match P.underlying t, bndC get 0 lo, bndC get s.size hi with
    | some .string, some i, some j => some ⟨.c false [.v (.string (s.extract i.toNat j.toNat))], .none, [slB i j s.size]⟩
    | _, _, _ => none
  | _ => none

/-- A slice that is not nil, for all that asks no more than its elements. -/
def unsn : SV → SV
  | .c false [.sn e l] => .c false [.sl e l]
  | s => s
def getU (get : Operand → Option SV) (x : Operand) : Option SV := match get x with
  | some s => some (unsn s)
  | none => none

theorem unsn_rel {s : SV} {v : Value} (h : RelV E s v) : RelV E (unsn s) v := by
  unfold unsn
  split
  · obtain ⟨cs, h1, h2, h3⟩ := h
    match cs, h2 with
    | [z], h2 => exact ⟨[z], h1, ⟨h2.1.2, trivial⟩, h3⟩
  · exact h
theorem getU_gets {get : Operand → Option SV} (hg : Gets E a get o) : Gets E a (getU get) o := fun x s hx h => by
  unfold getU at h
  split at h
  · rename_i s' hs
    injection h with h
    subst h
    exact unsn_rel (hg x s' hx hs)
  · cases h

/-- A slice that is not nil, and nil. -/
def eqNilC (P : Program) (get : Operand → Option SV) (o : Oper) : Option Core := match o.op with
  | .binOp .eql t x (.const (.slice none 0 0)) _ => match get x, elemT P t with
    | some (.c false [.sn _ _]), some _ => some ⟨.c false [.v (.bool false)], .none, []⟩
    | _, _ => none
  | .binOp .neq t x (.const (.slice none 0 0)) _ => match get x, elemT P t with
    | some (.c false [.sn _ _]), some _ => some ⟨.c false [.v (.bool true)], .none, []⟩
    | _, _ => none
  | _ => none

def buildC (C : Ctx) (get : Operand → Option SV) (t : TypeId) (n : Nat) (ps : Array (Nat × Operand)) : Option Core := match elemT C.P t with
  | some et => match C.sh et, sizeT C.P et, zeroT C.P et with
    | some e, some m, some _ => match Nat.beq m e.size, Nat.beq ps.size n, Nat.ble (n * e.size) 16777216, wholes e get 0 ps.toList with
      | true, true, true, some l => some ⟨.c false [.sl e l], .none, []⟩
      | _, _, _, _ => none
    | _, _, _ => none
  | none => none

/-- An empty slice that is written out: a row of the call's own. -/
def build0C (C : Ctx) (get : Operand → Option SV) (rk : Rk) (b : Nat) (t : TypeId) (n : Nat) (ps : Array (Nat × Operand)) : Option Core := match n, ps.toList, rk b, elemT C.P t with
  | 0, [], none, some et => match C.sh et, sizeT C.P et with
    | some e, some m => match Nat.beq m e.size with
      | true => some ⟨.c false [.row b], .row b ⟨et, e, 0, []⟩ none, []⟩
      | false => none
    | _, _ => none
  | _, _, _, _ => buildC C get t n ps

/-- A slice that is written out of parts that hold rows of the call's own: these become data. -/
def getW (rk : Rk) (get : Operand → Option SV) (x : Operand) : Option SV := match get x with
  | some s => some (thawS rk s)
  | none => none
def rowsPs (get : Operand → Option SV) : List (Nat × Operand) → List Nat
  | [] => []
  | p :: r => match get p.2 with
    | some s => rowsS s ++ rowsPs get r
    | none => rowsPs get r
def buildTC (C : Ctx) (get : Operand → Option SV) (rk : Rk) (t : TypeId) (n : Nat) (ps : Array (Nat × Operand)) : Option Core := match rowsPs get ps.toList with
  | [] => none
  | q :: u => match buildC C (getW rk get) t n ps with
    | some ⟨sv, .none, p⟩ => some ⟨sv, .rkill (q :: u), p⟩
    | _ => none

/-- An element of an array that is a value, or a byte of a string. -/
def indexVC (C : Ctx) (get : Operand → Option SV) (t : TypeId) (x y : Operand) : Option Core := match get x, get y with
  | some (.c false [.v (.string s)]), some (.c false [.v (.int _ i)]) => match C.P.underlying t with
    | some .string => some ⟨.c false [.v (.int .u8 (byteAt s i.toNat))], .none, [inB i s.size]⟩
    | _ => none
  | some (.c true l), some (.c false [.v (.int _ i)]) => match arrT C.P t with
    | some (n, et) => match C.sh et with
      | some e => match aggT C.P et, sizeT C.P et, els e n l with
        | some ag, some m, some xs => match ag == e.isAgg, Nat.beq m e.size, e.isAgg || Nat.beq e.size 1 with
          | true, true, true => some ⟨.c e.isAgg (e.cells (xs.getD i.toNat e.dflt)), .none, [inB i n]⟩
          | _, _, _ => none
        | _, _, _ => none
      | none => none
    | none => none
  | _, _ => none

def fieldVC (P : Program) (get : Operand → Option SV) (t : TypeId) (x : Operand) (f : Nat) : Option Core := match get x, fieldTy P t f with
  | some (.c true l), some (ft, off) => match partC P ft l off with
    | some s => some ⟨s, .none, []⟩
    | none => none
  | _, _ => none

def orPure (P : Program) (get : Operand → Option SV) (o : Oper) : Option Core → Option Core
  | some r => some r
  | none => pureC P get o

def lenC (P : Program) (get : Operand → Option SV) (rk : Rk) (xs : Array Operand) (ts : Array TypeId) (o : Oper) : Option Core := match xs.toList, ts[0]? with
  | [x], some t => match get x, elemT P t with
    | some (.c false [.sl _ l]), some _ => some ⟨.c false [.v (.int .i64 l.length)], .none, []⟩
    | some (.c false [.row r]), some _ => match rk r with
      | some (some ri) => some ⟨.c false [.v (.int .i64 ri.n)], .none, []⟩
      | _ => none
    | _, _ => pureC P get o
  | _, _ => none

/-- Operations that ask of rows nothing but how many elements they have. -/
def metaOp (o : Oper) : Bool := match o.op with
  | .indexAddr .. => true
  | .move _ => true
  | .assign _ => true
  | .extract .. => true
  | .call ⟨.builtin .len, _, _⟩ => true
  | _ => false

def one? : Option Core → Option Cor
  | some r => some (.one r)
  | none => none

def evalCore (C : Ctx) (get : Operand → Option SV) (bk : Nat → Option (List At)) (rk : Rk) (b : Nat) (o : Oper) : Option Core := match o.op with
  | .move x => sameC get x
  | .assign x => sameC get x
  | .extract x ix => extractC get x ix
  | .load t x => loadC C.P get bk rk t x
  | .store t x y => storeC C.P get bk rk t x y
  | .alloc t => allocC C.P bk b t
  | .box _ x => boxC get bk b x
  | .fieldAddr t x f => fieldC C.P get t x f
  | .indexAddr t x y => match indexArrC C get t x y with
    | some r => some r
    | none => indexC C.P get rk t x y
  | .slice t x lo hi none => sliceC C.P get t x lo hi
  | .buildSlice t n ps => match buildTC C get rk t n ps with
    | some r => some r
    | none => build0C C get rk b t n ps
  | .index t x y => orPure C.P get o (indexVC C get t x y)
  | .field t x f => orPure C.P get o (fieldVC C.P get t x f)
  | .build t ps => orPure C.P get o (buildStC C.P get t ps)
  | .makeSlice t l c => makeC C.sh C.P get rk b t l c
  | .binOp .quo _ _ _ _ => divC get o
  | .binOp .rem _ _ _ _ => divC get o
  | .binOp .shl _ _ _ _ => shiftC get o
  | .binOp .shr _ _ _ _ => shiftC get o
  | .binOp .eql _ _ _ _ => eqC C.P get o
  | .binOp .neq _ _ _ _ => eqC C.P get o
  | .makeFunc _ _ _ => funcC get o
  | .call ⟨.builtin .len, xs, ts⟩ => lenC C.P get rk xs ts o
  | .call ⟨.builtin .append, xs, ts⟩ => appendC C.P C.sh get rk b xs ts
  | _ => pureC C.P get o

def evalCor (C : Ctx) (get : Operand → Option SV) (bk : Nat → Option (List At)) (rk : Rk) (b : Nat) (o : Oper) : Option Cor := match o.op with
  | .call ⟨.value f, xs, _⟩ => callX C (getU get) bk rk b f xs
  | .move x => one? (sameC get x)
  | .assign x => one? (sameC get x)
  | _ => match eqNilC C.P get o with
    | some r => some (.one r)
    | none => one? (evalCore C (getU get) bk rk b o)

theorem indexArrC_ok {C : Ctx} {get : Operand → Option SV} {t : TypeId} {x y : Operand} {r : Core} (ho : o.op = .indexAddr t x y) (h : indexArrC C get t x y = some r) (hp : allB r.p = true) (hg : Gets E a get o) (hm : Mod N E a g) : CoreOk C.P N g E a o r := by
  unfold indexArrC at h
  split at h
  · rename_i n et b off k i ht hx hy
    split at h
    · rename_i e m he hz
      split at h
      · rename_i hne
        injection h with h; subst h
        have hne : m = e.size := by simpa using hne
        subst hne
        exact indexPtr_ok ho (hg x _ (by rw [ho]; simp [Op.operands]) hx) (hg y _ (by rw [ho]; simp [Op.operands]) hy) ht hz hm (inB_iff.1 hp)
      · cases h
    · cases h
  · rename_i n et s d off k i ht hx hy
    split at h
    · rename_i e m he hz
      split at h
      · rename_i xs hne hxs
        injection h with h; subst h
        have hne : m = e.size := by simpa using hne
        subst hne
        exact indexRf_ok ho (hg x _ (by rw [ho]; simp [Op.operands]) hx) (hg y _ (by rw [ho]; simp [Op.operands]) hy) ht hz hxs hm (inB_iff.1 hp)
      · cases h
    · cases h
  · rename_i n et r q sz off k i ht hx hy
    split at h
    · rename_i m hz
      injection h with h; subst h
      exact indexReA_ok ho (hg x _ (by rw [ho]; simp [Op.operands]) hx) (hg y _ (by rw [ho]; simp [Op.operands]) hy) ht hz hm (inB_iff.1 hp)
    · cases h
  · cases h

theorem sliceC_ok {P : Program} {get : Operand → Option SV} {t : TypeId} {x : Operand} {lo hi : Option Operand} {r : Core} (ho : o.op = .slice t x lo hi none) (h : sliceC P get t x lo hi = some r) (hp : allB r.p = true) (hg : Gets E a get o) (hm : Mod N E a g) : CoreOk P N g E a o r := by
  unfold sliceC at h
  split at h
  · rename_i e l hx
    split at h
    · rename_i et i j ht hi' hj
      split at h
      · rename_i m hz
        split at h
        · rename_i hne
          injection h with h; subst h
          have hne : m = e.size := by simpa using hne
          subst hne
          exact sliceSl_ok ho hg (hg x _ (by rw [ho]; simp [Op.operands]) hx) ht hz hi' hj hm (slB_iff.1 hp)
        · cases h
      · cases h
    · cases h
  · rename_i s hx
    split at h
    · rename_i i j ht hi' hj
      injection h with h; subst h
      exact sliceStr_ok ho hg (hg x _ (by rw [ho]; simp [Op.operands]) hx) ht hi' hj hm (slB_iff.1 hp)
    · cases h
  · cases h

theorem orPure_ok {P : Program} {get : Operand → Option SV} {r : Core} {q : Option Core} (h : orPure P get o q = some r) (hp : allB r.p = true) (hg : Gets E a get o) (hm : Mod N E a g) (hq : ∀ r', q = some r' → allB r'.p = true → CoreOk P N g E a o r') : CoreOk P N g E a o r := by
  unfold orPure at h
  split at h
  · injection h with h
    subst h
    exact hq _ rfl hp
  · exact pureC_ok h hg hm

theorem indexVC_ok {C : Ctx} {get : Operand → Option SV} {t : TypeId} {x y : Operand} {r : Core} (ho : o.op = .index t x y) (h : indexVC C get t x y = some r) (hp : allB r.p = true) (hg : Gets E a get o) (hm : Mod N E a g) : CoreOk C.P N g E a o r := by
  unfold indexVC at h
  split at h
  · rename_i s k i hx hy
    split at h
    · rename_i ht
      injection h with h; subst h
      exact indexStr_ok ho (hg x _ (by rw [ho]; simp [Op.operands]) hx) (hg y _ (by rw [ho]; simp [Op.operands]) hy) ht hm (inB_iff.1 hp)
    · cases h
  · rename_i l k i hx hy
    split at h
    · rename_i n et ht
      split at h
      · rename_i e he
        split at h
        · rename_i ag m xs ha hz hxs
          split at h
          · rename_i h1 h2 h3
            injection h with h; subst h
            have h1 : ag = e.isAgg := by simpa using h1
            have h2 : m = e.size := by simpa using h2
            subst h1; subst h2
            exact indexAgg_ok ho (hg x _ (by rw [ho]; simp [Op.operands]) hx) (hg y _ (by rw [ho]; simp [Op.operands]) hy) ht ha hz h3 hxs hm (inB_iff.1 hp)
          · cases h
        · cases h
      · cases h
    · cases h
  · cases h

theorem fieldVC_ok {P : Program} {get : Operand → Option SV} {t : TypeId} {x : Operand} {f : Nat} {r : Core} (ho : o.op = .field t x f) (h : fieldVC P get t x f = some r) (hg : Gets E a get o) (hm : Mod N E a g) : CoreOk P N g E a o r := by
  unfold fieldVC at h
  split at h
  · rename_i l ft off hx hf
    split at h
    · rename_i s hs
      injection h with h; subst h
      exact fieldV_ok ho (hg x _ (by rw [ho]; simp [Op.operands]) hx) hf hs hm
    · cases h
  · cases h

theorem buildC_ok {C : Ctx} {get : Operand → Option SV} {t n : Nat} {ps : Array (Nat × Operand)} {r : Core} (ho : o.op = .buildSlice t n ps) (h : buildC C get t n ps = some r) (hg : Gets E a get o) (hm : Mod N E a g) : CoreOk C.P N g E a o r := by
  unfold buildC at h
  split at h
  · rename_i et ht
    split at h
    · rename_i e m z he hm' hz
      split at h
      · rename_i l h1 h2 h3 hw
        injection h with h; subst h
        have h1 : m = e.size := by simpa using h1
        subst h1
        exact build_ok ho hg ht hm' hw (by simpa using h2) hz (by have := Nat.le_of_ble_eq_true h3; omega) hm
      · cases h
    · cases h
  · cases h

theorem rowsPs_mem {get : Operand → Option SV} : ∀ {ps : List (Nat × Operand)} {p : Nat × Operand} {s : SV}, p ∈ ps → get p.2 = some s → ∀ r ∈ rowsS s, r ∈ rowsPs get ps
  | q :: l, p, s, hp, hs, r, hr => by
    simp only [rowsPs]
    rcases List.mem_cons.1 hp with rfl | hp
    · rw [hs]; exact List.mem_append_left _ hr
    · split
      · exact List.mem_append_right _ (rowsPs_mem hp hs r hr)
      · exact rowsPs_mem hp hs r hr

theorem buildTC_ok {C : Ctx} {get : Operand → Option SV} {rk : Rk} {t n : Nat} {ps : Array (Nat × Operand)} {r : Core} (ho : o.op = .buildSlice t n ps) (h : buildTC C get rk t n ps = some r) (hg : Gets E a get o) (hm : Mod N E a g) (hrk : ∀ i r, rk i = some r → g.r i = some r) : CoreOk C.P N g E a o r := by
  unfold buildTC at h
  split at h
  · cases h
  · rename_i q u hu
    split at h
    · rename_i sv p hb
      injection h with h; subst h
      refine CoreOk.thaw hm fun hmz => buildC_ok ho hb (fun x s hx hs => ?_) hmz
      unfold getW at hs
      split at hs
      · rename_i s' hs'
        injection hs with hs
        subst hs
        refine thawS_rel hm hrk (hg x s' hx hs') fun r hr => ?_
        have hx' : ∃ i, (i, x) ∈ ps := by
          rw [ho] at hx
          simpa [Op.operands] using hx
        obtain ⟨i, hx'⟩ := hx'
        rw [← hu]
        exact rowsPs_mem (p := (i, x)) (by simpa using hx') hs' r hr
      · cases hs
    · cases h

theorem evalConst (a : Act) (v : Value) : a.eval (.const v) = v := rfl

theorem eqNilC_ok {P : Program} {get : Operand → Option SV} {r : Core} (h : eqNilC P get o = some r) (hg : Gets E a get o) (hm : Mod N E a g) : CoreOk P N g E a o r := by
  have key : ∀ {x : Operand} {e : Sh} {l : List e.T}, x ∈ o.op.operands → get x = some (.c false [.sn e l]) → ∃ ad m c, a.eval x = .slice (some ad) m c := fun hx hs => by
    obtain ⟨cs, hv, hr, _⟩ := hg _ _ hx hs
    match cs, hr with
    | [z], hr =>
      obtain ⟨⟨ad, m, c, hz⟩, _⟩ := hr.1
      exact ⟨ad, m, c, by rw [hv, hz]; rfl⟩
  unfold eqNilC at h
  split at h
  · rename_i t x t' ho
    split at h
    · rename_i e l et hx ht
      injection h with h
      subst h
      obtain ⟨ad, m, c, hv⟩ := key (by simp [ho, Op.operands]) hx
      refine CoreOk.value (E' := E) (v := .bool false) ?_ rfl (Keep.refl E) hm ⟨[_], rfl, ⟨rfl, trivial⟩, fun _ => rfl⟩
      simp only [execOp, ho, hv, evalConst]
      simp [eqGuard, binOp, run_equal_slice_nil _ t et (some ad) m c (elemT_eq ht)]
    · cases h
  · rename_i t x t' ho
    split at h
    · rename_i e l et hx ht
      injection h with h
      subst h
      obtain ⟨ad, m, c, hv⟩ := key (by simp [ho, Op.operands]) hx
      refine CoreOk.value (E' := E) (v := .bool true) ?_ rfl (Keep.refl E) hm ⟨[_], rfl, ⟨rfl, trivial⟩, fun _ => rfl⟩
      simp only [execOp, ho, hv, evalConst]
      simp [eqGuard, run_neq_slice_nil _ t et (some ad) m c (elemT_eq ht)]
    · cases h
  · cases h

theorem evalCore_ok {C : Ctx} (_ : E.P = C.P) {get : Operand → Option SV} {bk : Nat → Option (List At)} {rk : Rk} {b : Nat} {r : Core} (h : evalCore C get bk rk b o = some r) (hp : allB r.p = true) (hg : Gets E a get o) (hm : Mod N E a g)
    (hbk : ∀ i l, bk i = some l → g.h i = some l) (hb : bk b = none → g.h b = none) (hrk : metaOp o = false → ∀ i r, rk i = some r → g.r i = some r) (hrm : ∀ i ri, rk i = some (some ri) → ∃ rj, g.r i = some (some rj) ∧ rj.e = ri.e ∧ rj.n = ri.n) (hrb : rk b = none → g.r b = none) : CoreOk C.P N g E a o r := by
  unfold evalCore at h
  split at h
  case h_1 x ho =>
    unfold sameC at h
    split at h
    · rename_i s hs
      injection h with h; subst h
      exact moveC_ok (.inl ho) (hg x s (by rw [ho]; simp [Op.operands]) hs) hm
    · cases h
  case h_2 x ho =>
    unfold sameC at h
    split at h
    · rename_i s hs
      injection h with h; subst h
      exact moveC_ok (.inr ho) (hg x s (by rw [ho]; simp [Op.operands]) hs) hm
    · cases h
  case h_3 x ix ho =>
    unfold extractC at h
    split at h
    · rename_i l hl
      split at h
      · rename_i c hc
        injection h with h; subst h
        exact extractC_ok ho (hg x _ (by rw [ho]; simp [Op.operands]) hl) hc hm
      · cases h
    · cases h
  case h_4 t x ho =>
    unfold loadC at h
    split at h
    · rename_i i off hx
      split at h
      · rename_i l hl
        split at h
        · rename_i s hs
          injection h with h; subst h
          exact loadPtr_ok ho (hg x _ (by rw [ho]; simp [Op.operands]) hx) (hbk i l hl) hs hm
        · cases h
      · cases h
    · rename_i sh d off hx
      split at h
      · rename_i s hs
        injection h with h; subst h
        exact loadRf_ok ho (hg x _ (by rw [ho]; simp [Op.operands]) hx) hs hm
      · cases h
    · rename_i b' off e n i d hx
      split at h
      · rename_i l hl
        split at h
        · rename_i xs hxs
          split at h
          · rename_i s hs
            injection h with h; subst h
            exact loadAe_ok ho (hg x _ (by rw [ho]; simp [Op.operands]) hx) (hbk _ l hl) hxs hs hm (Nat.blt_eq.mp hp)
          · cases h
        · cases h
      · cases h
    · rename_i q i sz off hx
      split at h
      · rename_i ri hri
        split at h
        · rename_i s hsz hs
          injection h with h; subst h
          have hsz : sz = ri.e.size := by simpa using hsz
          subst hsz
          exact loadRe_ok ho (hg x _ (by rw [ho]; simp [Op.operands]) hx) (hrk (by simp [metaOp, ho]) q _ hri) hs hm (Nat.blt_eq.mp hp)
        · cases h
      · cases h
    · cases h
  case h_5 t x y ho =>
    unfold storeC at h
    split at h
    · rename_i i off ag l' hx hy
      split at h
      · rename_i l n hl hn
        split at h
        · rename_i h1 h2 h3
          injection h with h; subst h
          exact store_ok ho (hg x _ (by rw [ho]; simp [Op.operands]) hx) (hg y _ (by rw [ho]; simp [Op.operands]) hy) (hbk i l hl) hn h1 h2 h3 hm
        · cases h
      · cases h
    · rename_i b' off e n i d ag l' hx hy
      split at h
      · rename_i l m hl hmz
        split at h
        · rename_i xs h1 h2 h3 h4 hxs
          split at h
          · rename_i z hz
            injection h with h; subst h
            exact storeAe_ok ho (hg x _ (by rw [ho]; simp [Op.operands]) hx) (hg y _ (by rw [ho]; simp [Op.operands]) hy) (hbk _ l hl) hmz h2 h3 h4 h1 hxs hz hm (Nat.blt_eq.mp hp)
          · cases h
        · cases h
      · cases h
    · rename_i q i sz off ag l' hx hy
      split at h
      · rename_i ri n hri hn
        split at h
        · rename_i z h1 h2 h3 h4 hz
          injection h with h; subst h
          have h4 : sz = ri.e.size := by simpa using h4
          subst h4
          exact storeRe_ok ho (hg x _ (by rw [ho]; simp [Op.operands]) hx) (hg y _ (by rw [ho]; simp [Op.operands]) hy) (hrk (by simp [metaOp, ho]) q _ hri) hn h1 h2 h3 hz hm (Nat.blt_eq.mp hp)
        · cases h
      · cases h
    · cases h
  case h_6 t ho =>
    unfold allocC at h
    split at h
    · rename_i cs hz hbn
      injection h with h; subst h
      exact alloc_ok ho hz (hb hbn) hm
    · cases h
  case h_7 t x ho =>
    unfold boxC at h
    split at h
    · rename_i ag l hx hbn
      split at h
      · rename_i hl
        injection h with h; subst h
        exact box_ok ho (hg x _ (by rw [ho]; simp [Op.operands]) hx) hl (hb hbn) hm
      · cases h
    · cases h
  case h_8 t x f ho =>
    unfold fieldC at h
    split at h
    · rename_i i off d hx hd
      injection h with h; subst h
      exact fieldPtr_ok ho (hg x _ (by rw [ho]; simp [Op.operands]) hx) hd hm
    · rename_i sh y off d hx hd
      injection h with h; subst h
      exact fieldRf_ok ho (hg x _ (by rw [ho]; simp [Op.operands]) hx) hd hm
    · rename_i q i sz off d hx hd
      injection h with h; subst h
      exact fieldRe_ok ho (hg x _ (by rw [ho]; simp [Op.operands]) hx) hd hm
    · rename_i b' off e n i d0 d hx hd
      injection h with h; subst h
      exact fieldAe_ok ho (hg x _ (by rw [ho]; simp [Op.operands]) hx) hd hm
    · cases h
  case h_9 t x y ho =>
    split at h
    · rename_i r' hr'
      injection h with h; subst h
      exact indexArrC_ok ho hr' hp hg hm
    unfold indexC at h
    split at h
    · rename_i e l k i et hx hy ht
      split at h
      · rename_i n hn
        split at h
        · rename_i hne
          injection h with h; subst h
          have hne : n = e.size := by simpa using hne
          subst hne
          exact indexSl_ok ho (hg x _ (by rw [ho]; simp [Op.operands]) hx) (hg y _ (by rw [ho]; simp [Op.operands]) hy) ht hn hm (inB_iff.1 hp)
        · cases h
      · cases h
    · rename_i q k i et hx hy ht
      split at h
      · rename_i n ri hn hri
        split at h
        · rename_i hne
          injection h with h; subst h
          have hne : n = ri.e.size := by simpa using hne
          subst hne
          exact indexRow_ok ho (hg x _ (by rw [ho]; simp [Op.operands]) hx) (hg y _ (by rw [ho]; simp [Op.operands]) hy) ht hn (hrm q _ hri) hm (inB_iff.1 hp)
        · cases h
      · cases h
    · cases h
  case h_10 t x lo hi ho => exact sliceC_ok ho h hp hg hm
  case h_11 t n ps ho =>
    split at h
    · rename_i r' hr'
      injection h with h; subst h
      exact buildTC_ok ho hr' hg hm (hrk (by simp [metaOp, ho]))
    rename_i hno
    clear hno
    unfold build0C at h
    split at h
    · rename_i et hps hbn ht
      split at h
      · rename_i e m he hz
        split at h
        · rename_i hne
          injection h with h; subst h
          have hne : m = e.size := by simpa using hne
          subst hne
          exact build0_ok ho (by rw [← Array.toArray_toList (xs := ps), hps]) ht hz (hrb hbn) hm
        · cases h
      · cases h
    exact buildC_ok ho h hg hm
  case h_12 t x y ho => exact orPure_ok h hp hg hm fun r' hr' hp' => indexVC_ok ho hr' hp' hg hm
  case h_13 t x f ho => exact orPure_ok h hp hg hm fun r' hr' hp' => fieldVC_ok ho hr' hg hm
  case h_14 t ps ho => exact orPure_ok h hp hg hm fun r' hr' hp' => buildStC_ok ho hr' hg hm
  case h_15 t l c ho => exact makeC_ok ho h hp hg hm hrb
  case h_16 => exact divC_ok h hg hm hp
  case h_17 => exact divC_ok h hg hm hp
  case h_18 => exact shiftC_ok h hg hm hp
  case h_19 => exact shiftC_ok h hg hm hp
  case h_20 => exact eqC_ok h hg hm
  case h_21 => exact eqC_ok h hg hm
  case h_22 => exact funcC_ok h hg hm
  case h_23 xs ts ho =>
    unfold lenC at h
    split at h
    · rename_i x t hxs hts
      have hxs : xs = #[x] := by rw [← Array.toArray_toList (xs := xs), hxs]
      subst hxs
      split at h
      · rename_i e l et hx ht
        injection h with h; subst h
        exact lenSl_ok ho hts ht (hg x _ (by rw [ho]; simp [Op.operands, Call.operands]) hx) hm
      · rename_i q et hx ht
        split at h
        · rename_i ri hri
          injection h with h; subst h
          exact lenRow_ok ho hts ht (hg x _ (by rw [ho]; simp [Op.operands, Call.operands]) hx) (hrm q _ hri) hm
        · cases h
      · exact pureC_ok h hg hm
    · cases h
  case h_24 xs ts ho => exact appendC_ok ho h hg hm (hrk (by simp [metaOp, ho])) hrb hp
  case h_25 => exact pureC_ok h hg hm

theorem evalCor_ok {C : Ctx} (hC : C.ok) (hP : E.P = C.P) {get : Operand → Option SV} {bk : Nat → Option (List At)} {rk : Rk} {b : Nat} {r : Cor} (h : evalCor C get bk rk b o = some r) (hg : Gets E a get o) (hm : Mod N E a g)
    (hbk : ∀ i l, bk i = some l → g.h i = some l) (hb : bk b = none → g.h b = none) (hrk : metaOp o = false → ∀ i r, rk i = some r → g.r i = some r) (hrm : ∀ i ri, rk i = some (some ri) → ∃ rj, g.r i = some (some rj) ∧ rj.e = ri.e ∧ rj.n = ri.n) (hrb : rk b = none → g.r b = none) : CorOk C.P N g E a o r := by
  unfold evalCor at h
  split at h
  · rename_i f xs ts ho
    unfold callX at h
    split at h
    · rename_i r' hr
      injection h with h; subst h
      rw [← hP]
      exact callF_ok ho hr (getU_gets hg) hm
    · split at h
      · rename_i r' hr'
        injection h with h; subst h
        unfold callE at hr'
        split at hr'
        · rename_i fv hfv
          split at hr'
          · rename_i id hid
            intro hp
            have hfe := fnOf_rel hid (getU_gets hg f fv (by rw [ho]; simp [Op.operands, Call.operands]) hfv)
            exact carryC_ok ho (by simpa using hfe) hr' hp (getU_gets hg) hm
          · cases hr'
        · cases hr'
      · exact callC_ok hC hP ho h (getU_gets hg) hm hbk (hrk (by simp [metaOp, ho])) hrb
  · rename_i x ho
    unfold sameC at h
    split at h
    · rename_i s hs
      injection h with h; subst h
      exact fun _ => moveC_ok (.inl ho) (hg x s (by rw [ho]; simp [Op.operands]) hs) hm
    · cases h
  · rename_i x ho
    unfold sameC at h
    split at h
    · rename_i s hs
      injection h with h; subst h
      exact fun _ => moveC_ok (.inr ho) (hg x s (by rw [ho]; simp [Op.operands]) hs) hm
    · cases h
  · split at h
    · rename_i r' hr'
      injection h with h; subst h
      exact fun _ => eqNilC_ok hr' hg hm
    unfold one? at h
    split at h
    · rename_i r' hr
      injection h with h; subst h
      exact fun hp => evalCore_ok hP hr hp (getU_gets hg) hm hbk hb hrk hrm hrb
    · cases h

/-! ### One operation with its guard -/

structure Plan where
  s : Option (Nat × SlotV)
  eff : Eff

def Look.plan (g : Look) (pl : Plan) : Look := match pl.s with
  | some (d, s) => (g.app pl.eff).setS d (some s)
  | none => g.app pl.eff

/-- The condition under which an operation runs. -/
inductive Cond where
  | always
  | under (c : Bool)
  | bad

def guardC (ops : Array Oper) (sl : Nat → Option SlotV) : Option (Nat × Bool) → Cond
  | none => .always
  | some (j, want) => match (ops[j]?).bind (·.dst) with
    | some d => match sl d with
      | some ⟨none, .c false [.v (.bool h)]⟩ => .under (bif want then h else !h)
      | some ⟨some c, .c false [.v (.bool h)]⟩ => .under (c && (bif want then h else !h))
      | _ => .bad
    | none => .bad

def Cond.implies (k : Cond) (c : Bool) : Bool := match k with
  | .always => c
  | .under q => !q || c
  | .bad => false

def getS (sl : Nat → Option SlotV) (x : Operand) : Option SV := match x with
  | .tmp t => match sl t with
    | some s => some s.s
    | none => none
  | .const v => some (ofV v)
  | .func f => some (.c false [.v (.func (.func f) #[] #[])])
  | .global _ => none

def condS (sl : Nat → Option SlotV) (x : Operand) : Option Bool := match x with
  | .tmp t => match sl t with
    | some s => s.c
    | none => none
  | _ => none

def needs (k : Cond) (sl : Nat → Option SlotV) : List Operand → List Bool
  | [] => []
  | x :: r => match condS sl x with
    | none => needs k sl r
    | some c => k.implies c :: needs k sl r

theorem getS_rel (hm : Mod N E a g) {sl : Nat → Option SlotV} {x : Operand} (hsl : ∀ t, x = .tmp t → g.s t = sl t) {s : SV} (h : getS sl x = some s) (hc : ∀ c, condS sl x = some c → c = true) : RelV E s (a.eval x) := by
  cases x with
  | tmp t =>
    simp only [getS] at h
    split at h
    · rename_i sv hsv
      injection h with h; subst h
      obtain ⟨v, hv, hr⟩ := hm.slots t sv (by rw [hsl t rfl]; exact hsv)
      have he : a.eval (.tmp t) = v := by simp [Act.eval, hv]
      rw [he]
      unfold RelS at hr
      split at hr
      · exact hr
      · rename_i c hcc
        exact hr.1 (hc c (by simp only [condS, hsv]; exact hcc))
    · cases h
  | const v => simp only [getS] at h; injection h with h; subst h; exact ofV_rel v
  | func f => simp only [getS] at h; injection h with h; subst h; exact ⟨[_], rfl, ⟨rfl, trivial⟩, fun _ => rfl⟩
  | global _ => cases h

theorem needs_all {k : Cond} {sl : Nat → Option SlotV} : ∀ {xs : List Operand}, allB (needs k sl xs) = true → ∀ x ∈ xs, ∀ c, condS sl x = some c → k.implies c = true
  | y :: r, h, x, hx, c, hc => by
    simp only [needs] at h
    rcases List.mem_cons.1 hx with rfl | hx
    · rw [hc] at h; exact (allB_cons h).1
    · split at h
      · exact needs_all h x hx c hc
      · exact needs_all (allB_cons h).2 x hx c hc

def pickSV (q : Bool) : SV → SV → Option SV
  | .c false [.v (.bool x)], .c false [.v (.bool y)] => some (.c false [.v (.bool (bif q then x else y))])
  | _, _ => none

/-- 'pick' asks of each of its two values only where it is taken. -/
def pickC (k : Cond) (sl : Nat → Option SlotV) (c x y : Operand) : Option Core := match getS sl c, getS sl x, getS sl y with
  | some (.c false [.v (.bool q)]), some s, some t => match pickSV q s t with
    | some r => some ⟨r, .none, needs k sl [c] ++ (match condS sl x with | none => [] | some cx => [!q || k.implies cx]) ++ (match condS sl y with | none => [] | some cy => [q || k.implies cy])⟩
    | none => none
  | _, _, _ => none

theorem pickC_ok {P : Program} (hm : Mod N E a g) {sl : Nat → Option SlotV} {c x y : Operand} (ho : o.op = .pick c x y) (hsl : ∀ t, (Operand.tmp t) ∈ o.op.operands → g.s t = sl t) {k : Cond} {r : Core} (h : pickC k sl c x y = some r)
    (hp : allB r.p = true) (hk : ∀ c, k.implies c = true → c = true) : CoreOk P N g E a o r := by
  unfold pickC at h
  split at h
  · rename_i q s t hc hx hy
    split at h
    · rename_i w hw
      injection h with h
      subst h
      obtain ⟨h12, h3⟩ := allB_append hp
      obtain ⟨h1, h2⟩ := allB_append h12
      have ec : a.eval c = .bool q := toV_rel rfl (getS_rel hm (fun t e => hsl t (by rw [ho, ← e]; simp [Op.operands])) hc fun d hd => hk d (needs_all h1 c (by simp) d hd))
      unfold pickSV at hw
      split at hw
      · rename_i p1 p2
        injection hw with hw
        subst hw
        refine CoreOk.value (E' := E) (v := .bool (bif q then p1 else p2)) ?_ rfl (Keep.refl E) hm ⟨[_], rfl, ⟨rfl, trivial⟩, fun _ => rfl⟩
        cases q
        · have e2 : a.eval y = .bool p2 := toV_rel rfl (getS_rel hm (fun t e => hsl t (by rw [ho, ← e]; simp [Op.operands])) hy fun d hd => hk d (by rw [hd] at h3; simpa [allB] using h3))
          simp [execOp, ho, ec, e2, asBool]
        · have e1 : a.eval x = .bool p1 := toV_rel rfl (getS_rel hm (fun t e => hsl t (by rw [ho, ← e]; simp [Op.operands])) hx fun d hd => hk d (by rw [hd] at h2; simpa [allB] using h2))
          simp [execOp, ho, ec, e1, asBool]
      · cases hw
    · cases h
  · cases h

/-- An operation with what it asks of its operands. -/
def coreC (C : Ctx) (k : Cond) (sl : Nat → Option SlotV) (bk : Nat → Option (List At)) (rk : Rk) (b : Nat) (o : Oper) : Option (List Bool × Cor) := match o.op with
  | .pick c x y => match pickC k sl c x y with
    | some r => some ([], .one r)
    | none => none
  | _ => match evalCor C (getS sl) bk rk b o with
    | some r => some (needs k sl o.op.operands.toList, r)
    | none => none

def dstOk (N : Nat) : Option Nat → Bool
  | none => true
  | some d => Nat.blt d N

/-- One operation, as a step: its conditions, and what it changes. -/
inductive Stp where
  | one (p : List Bool) (pl : Plan)
  | call (p : List Bool) (T : Type) (m : Option T) (pl : T → Plan)
  | inl (p : List Bool) (id : FuncId) (args : List SV)

def stepOp (C : Ctx) (N : Nat) (ops : Array Oper) (sl : Nat → Option SlotV) (bk : Nat → Option (List At)) (rk : Rk) (b : Nat) (o : Oper) : Option Stp := match dstOk N o.dst with
  | false => none
  | true => match guardC ops sl o.guard with
    | .bad => none
    | .always => match coreC C .always sl bk rk b o with
      | some (p, .one r) => some (.one (p ++ r.p) ⟨o.dst.map fun d => (d, ⟨none, r.sv⟩), r.eff⟩)
      | some (p, .call T _ m sv eff _) => some (.call p T m fun t => ⟨o.dst.map fun d => (d, ⟨none, sv t⟩), eff t⟩)
      | some (p, .inl id args) => some (.inl p id args)
      | none => none
    | .under c => match coreC C (.under c) sl bk rk b o with
      | some (p, .one r) => match effNone r.eff with
        | true => some (.one (p ++ r.p.map fun q => !c || q) ⟨o.dst.map fun d => (d, ⟨some c, r.sv⟩), .none⟩)
        | false => none
      | some (p, .call T d m sv _ pu) => match pu with
        | true => some (.call p T (bif c then m else some d) fun t => ⟨o.dst.map fun d => (d, ⟨some c, sv t⟩), .none⟩)
        | false => none
      | _ => none

/-- A step that has been taken. -/
def StepP (C : Ctx) (N : Nat) (ops : Array Oper) (sl : Nat → Option SlotV) (bk : Nat → Option (List At)) (rk : Rk) (b : Nat) (o : Oper) (pl : Plan) : Prop :=
  ∃ st, stepOp C N ops sl bk rk b o = some st ∧ match st with
    | .one p pl' => allB p = true ∧ pl = pl'
    | .call p _ m f => allB p = true ∧ ∃ t, m = some t ∧ pl = f t
    | .inl .. => False

theorem coreC_ok {C : Ctx} (hC : C.ok) (hP : E.P = C.P) {k : Cond} {sl : Nat → Option SlotV} {bk : Nat → Option (List At)} {rk : Rk} {b : Nat} {r : Cor} {p : List Bool} (h : coreC C k sl bk rk b o = some (p, r)) (hp : allB p = true) (hm : Mod N E a g)
    (hsl : ∀ t, (Operand.tmp t) ∈ o.op.operands → g.s t = sl t) (hbk : ∀ i l, bk i = some l → g.h i = some l) (hb : bk b = none → g.h b = none) (hrk : metaOp o = false → ∀ i r, rk i = some r → g.r i = some r) (hrm : ∀ i ri, rk i = some (some ri) → ∃ rj, g.r i = some (some rj) ∧ rj.e = ri.e ∧ rj.n = ri.n) (hrb : rk b = none → g.r b = none) (hk : ∀ c, k.implies c = true → c = true) : CorOk C.P N g E a o r := by
  unfold coreC at h
  split at h
  · rename_i c x y ho
    split at h
    · rename_i r' hr
      simp only [Option.some.injEq, Prod.mk.injEq] at h
      obtain ⟨rfl, rfl⟩ := h
      exact fun hp => pickC_ok hm ho hsl hr hp hk
    · cases h
  · split at h
    · rename_i r' hr
      simp only [Option.some.injEq, Prod.mk.injEq] at h
      obtain ⟨rfl, rfl⟩ := h
      exact evalCor_ok hC hP hr (fun x s hx hs => getS_rel hm (fun t e => hsl t (by rw [← e]; exact hx)) hs fun c hc => hk c (needs_all hp x (by simpa using hx) c hc)) hm hbk hb hrk hrm hrb
    · cases h

theorem looks_op {ops : Array Oper} {t : Nat} (h : (Operand.tmp t) ∈ o.op.operands) : t ∈ o.looksAt ops :=
  List.mem_append_left _ (List.mem_filterMap.2 ⟨.tmp t, by simpa using h, rfl⟩)

theorem guard_look {ops : Array Oper} {j : Nat} {want : Bool} {d : Nat} (h : o.guard = some (j, want)) (hd : (ops[j]?).bind (·.dst) = some d) : d ∈ o.looksAt ops := by
  refine List.mem_append_right _ ?_
  simp [h, hd]

theorem guard_run (hm : Mod N E a g) {ops : Array Oper} {sl : Nat → Option SlotV} (hsl : ∀ t ∈ o.looksAt ops, g.s t = sl t) :
    match guardC ops sl o.guard with
    | .always => Region.wanted o (yielded ops a.tmps) = true
    | .under c => Region.wanted o (yielded ops a.tmps) = c
    | .bad => True := by
  cases hg : o.guard with
  | none => simp [guardC, Region.wanted, hg]
  | some jw =>
    obtain ⟨j, want⟩ := jw
    simp only [guardC]
    cases hd : (ops[j]?).bind (·.dst) with
    | none => trivial
    | some d =>
      have hl := hsl d (guard_look hg hd)
      simp only
      split <;> rename_i hs
      · split at hs <;> cases hs
      · split at hs
        · rename_i h hsd
          injection hs with hs
          subst hs
          obtain ⟨v, hv, hr⟩ := hm.slots d _ (hl.trans hsd)
          have hr' : RelV E (.c false [.v (.bool h)]) v := hr
          have hv' : v = .bool h := toV_rel rfl hr'
          subst hv'
          simp only [Region.wanted, hg, yielded, hd, Option.bind_some, hv]
          cases want <;> cases h <;> rfl
        · rename_i c h hsd
          injection hs with hs
          subst hs
          obtain ⟨v, hv, hr⟩ := hm.slots d _ (hl.trans hsd)
          simp only [Region.wanted, hg, yielded, hd, Option.bind_some, hv]
          cases c with
          | true =>
            have hv' : v = .bool h := toV_rel rfl (hr.1 rfl)
            subst hv'
            cases want <;> cases h <;> rfl
          | false =>
            have hv' := hr.2 rfl
            subst hv'
            simp [undef]
        · cases hs
      · trivial

theorem put_none (a : Act) (v : Value) : a.put none v = a := rfl

theorem put_plan {E' : Env} {v : Value} {c : Option Bool} {sv : SV} {eff : Eff} (hdst : dstOk N o.dst = true) (hm : Mod N E' a (g.app eff)) (hv : ∀ d, o.dst = some d → RelS E' ⟨c, sv⟩ v) :
    Mod N E' (a.put o.dst v) (g.plan ⟨o.dst.map fun d => (d, ⟨c, sv⟩), eff⟩) := by
  cases hd : o.dst with
  | none => exact hm
  | some d =>
    rw [hd] at hdst
    exact hm.put (by simp [dstOk, Nat.blt] at hdst; omega) (hv d hd)

theorem step_ok {C : Ctx} (hC : C.ok) (hP : E.P = C.P) {ops : Array Oper} {sl : Nat → Option SlotV} {bk : Nat → Option (List At)} {rk : Rk} {b : Nat} {pl : Plan} (h : StepP C N ops sl bk rk b o pl) (hm : Mod N E a g)
    (hsl : ∀ t ∈ o.looksAt ops, g.s t = sl t) (hbk : ∀ i l, bk i = some l → g.h i = some l) (hb : bk b = none → g.h b = none) (hrk : metaOp o = false → ∀ i r, rk i = some r → g.r i = some r) (hrm : ∀ i ri, rk i = some (some ri) → ∃ rj, g.r i = some (some rj) ∧ rj.e = ri.e ∧ rj.n = ri.n) (hrb : rk b = none → g.r b = none) {K : Act → World → Prop} {Q : Exit → Act → World → Prop} {X : Prop}
    (hK : ∀ E' a', Same E E' → Keep E E' → Mod N E' a' (g.plan pl) → K a' E'.w) :
    if Region.wanted o (yielded ops a.tmps) then o.wp C.P a E.w K Q ∨ X else K (a.put o.dst undef) E.w := by
  obtain ⟨st, h, hst⟩ := h
  unfold stepOp at h
  split at h
  · cases h
  · rename_i hdst
    have hgr := guard_run hm hsl
    have hsl' : ∀ t, (Operand.tmp t) ∈ o.op.operands → g.s t = sl t := fun t ht => hsl t (looks_op ht)
    split at h
    · cases h
    · rename_i hgc
      rw [hgc] at hgr
      simp only at hgr
      rw [if_pos hgr]
      split at h
      · rename_i p r hr
        injection h with h
        subst h
        obtain ⟨hp, rfl⟩ := hst
        obtain ⟨hp1, hp2⟩ := allB_append hp
        exact .inl (coreC_ok hC hP hr hp1 hm hsl' hbk hb hrk hrm hrb (fun c hc => hc) hp2 K Q fun E' v h0 hkp hm' hv => hK E' _ h0 hkp (put_plan hdst hm' fun _ _ => hv))
      · rename_i p T d m sv eff _ hr
        injection h with h
        subst h
        obtain ⟨hp, t, ht, rfl⟩ := hst
        exact .inl ((coreC_ok hC hP hr hp hm hsl' hbk hb hrk hrm hrb (fun c hc => hc)).2 t ht K Q fun E' v h0 hkp hm' hv => hK E' _ h0 hkp (put_plan hdst hm' fun _ _ => hv))
      · injection h with h
        subst h
        exact hst.elim
      · cases h
    · rename_i c hgc
      rw [hgc] at hgr
      simp only at hgr
      have skip : ∀ sv, c = false → Mod N E (a.put o.dst undef) (g.plan ⟨o.dst.map fun d => (d, ⟨some c, sv⟩), .none⟩) := fun sv hc => put_plan (eff := .none) hdst hm fun _ _ => (show RelS E ⟨some c, sv⟩ undef from ⟨fun ht => absurd ht (by rw [hc]; decide), fun _ => rfl⟩)
      split at h
      · rename_i p r hr
        split at h
        · rename_i heff
          injection h with h
          subst h
          obtain ⟨hp, rfl⟩ := hst
          have he : r.eff = .none := by
            cases hh : r.eff <;> rw [hh] at heff <;> first | rfl | cases heff
          by_cases hc : c = true
          · rw [if_pos (by rw [hgr]; exact hc)]
            obtain ⟨hp1, hp2'⟩ := allB_append hp
            have hp2 := allB_map hp2' hc
            refine .inl (coreC_ok hC hP hr hp1 hm hsl' hbk hb hrk hrm hrb (fun d hd => by simpa [Cond.implies, hc] using hd) hp2 K Q fun E' v h0 hkp hm' hv => ?_)
            rw [he] at hm'
            exact hK E' _ h0 hkp (put_plan hdst hm' fun _ _ => (show RelS E' ⟨some c, r.sv⟩ v from ⟨fun _ => hv, fun hf => absurd hf (by rw [hc]; decide)⟩))
          · have hc : c = false := by simpa using hc
            rw [if_neg (by rw [hgr, hc]; simp)]
            exact hK E _ rfl (Keep.refl E) (skip r.sv hc)
        · cases h
      · rename_i p T d m sv eff pu hr
        split at h
        · injection h with h
          subst h
          obtain ⟨hp, t, ht, rfl⟩ := hst
          by_cases hc : c = true
          · rw [if_pos (by rw [hgr]; exact hc)]
            rw [hc] at ht
            have hcc := coreC_ok hC hP hr hp hm hsl' hbk hb hrk hrm hrb (fun d hd => by simpa [Cond.implies, hc] using hd)
            refine .inl (hcc.2 t ht K Q fun E' v h0 hkp hm' hv => ?_)
            simp only [hcc.1 rfl t] at hm'
            exact hK E' _ h0 hkp (put_plan hdst hm' fun _ _ => (show RelS E' ⟨some c, sv t⟩ v from ⟨fun _ => hv, fun hf => absurd hf (by rw [hc]; decide)⟩))
          · have hc : c = false := by simpa using hc
            rw [if_neg (by rw [hgr, hc]; simp)]
            exact hK E _ rfl (Keep.refl E) (skip (sv t) hc)
        · cases h
      · cases h

end
end Dn
end Go.Proofs.YtghjblbkbelcfaaGreat

namespace Go.Proofs.YtghjblbkbelcfaaGreat
namespace Dn
open Go.RowKit
noncomputable section

structure St where
  s : List (Nat × Option SlotV)
  h : List (Nat × List At)
  r : List (Nat × Option RowI)
  next : Nat
  ro : List Nat := []
  roR : List Nat := []

def look {α : Type} : List (Nat × α) → Nat → Option α
  | [], _ => none
  | (j, x) :: r, i => match Nat.beq j i with
    | true => some x
    | false => look r i

def lookS (l : List (Nat × Option SlotV)) (i : Nat) : Option SlotV := match look l i with
  | some (some s) => some s
  | _ => none

def St.look (σ : St) : Look := { s := lookS σ.s, h := Dn.look σ.h, r := Dn.look σ.r }

theorem look_cons {α : Type} (j : Nat) (x : α) (r : List (Nat × α)) (i : Nat) : look ((j, x) :: r) i = if i = j then some x else look r i := by
  simp only [look]
  split
  · rename_i h
    have h : j = i := by simpa using h
    rw [if_pos h.symm]
  · rename_i h
    have h : j ≠ i := by intro e; subst e; simp at h
    rw [if_neg (Ne.symm h)]

theorem look_kill (l : List Nat) (m : List (Nat × Option RowI)) (i : Nat) : look (l.map (fun i => ((i, none) : Nat × Option RowI)) ++ m) i = if i ∈ l then some none else look m i := by
  induction l with
  | nil => simp
  | cons j l ih =>
    rw [List.map_cons, List.cons_append, look_cons]
    by_cases h : i = j
    · simp [h]
    · rw [if_neg h, ih]
      simp [h]

def St.putS (σ : St) (d : Nat) (s : SlotV) : St := { σ with s := (d, some s) :: σ.s }
def St.app (σ : St) : Eff → St
  | .none => σ
  | .alloc b l => { σ with h := (b, l) :: σ.h }
  | .store b l => { σ with h := (b, l) :: σ.h }
  | .row k r (some o) => { σ with r := (k, some r) :: (o, none) :: σ.r }
  | .row k r none => { σ with r := (k, some r) :: σ.r }
  | .rset k e l => match setL e l (Dn.look σ.r k) with
    | some x => { σ with r := (k, x) :: σ.r }
    | none => σ
  | .rkill l => { σ with r := l.map (fun i => (i, none)) ++ σ.r }
def St.plan (σ : St) (pl : Plan) : St := match pl.s with
  | some (d, s) => (σ.app pl.eff).putS d s
  | none => σ.app pl.eff

theorem putS_look (σ : St) (d : Nat) (s : SlotV) : (σ.putS d s).look = σ.look.setS d (some s) := by
  simp only [St.putS, St.look, Look.setS]
  congr 1
  funext i
  simp only [lookS, look_cons]
  by_cases h : i = d
  · simp [h]
  · simp [h]

theorem app_look (σ : St) (e : Eff) : (σ.app e).look = σ.look.app e := by
  cases e with
  | none => rfl
  | alloc b l => simp only [St.app, St.look, Look.app, Look.setH]; congr 1; funext i; exact look_cons _ _ _ _
  | store b l => simp only [St.app, St.look, Look.app, Look.setH]; congr 1; funext i; exact look_cons _ _ _ _
  | row k r o =>
    cases o with
    | none => simp only [St.app, St.look, Look.app, Look.setR]; congr 1; funext i; exact look_cons _ _ _ _
    | some o => simp only [St.app, St.look, Look.app, Look.setR]; congr 1; funext i; simp only [look_cons]
  | rset k e l =>
    simp only [St.app]
    split
    · rename_i x hx
      simp only [St.look, Look.app]
      congr 1
      funext i
      rw [look_cons, hx]
    · rename_i hx
      simp only [St.look, Look.app]
      congr 1
      funext i
      by_cases h : i = k
      · rw [if_pos h, hx, h]
        have : ∀ y : Option (Option RowI), setL e l y = none → y = none := fun y hy => by
          unfold setL at hy
          split at hy
          · split at hy <;> cases hy
          · exact hy
        exact this _ hx
      · rw [if_neg h]
  | rkill l => simp only [St.app, St.look, Look.app]; congr 1; funext i; exact look_kill l σ.r i

theorem plan_look (σ : St) (pl : Plan) : (σ.plan pl).look = σ.look.plan pl := by
  unfold St.plan Look.plan
  cases pl.s with
  | none => exact app_look σ pl.eff
  | some d => simp only [putS_look, app_look]

/-! ### What a region's operations do, one behind the other -/

structure Ent where
  looks : List Nat
  tb : List Nat
  tr : List Nat
  tm : Bool
  deps : List Nat
  pl : Plan

def idsA : At → List Nat
  | .ptr b _ => [b]
  | .clo _ cap => cap.map (·.1)
  | .ae b _ _ _ _ _ => [b]
  | _ => []
def idsL : List At → List Nat
  | [] => []
  | x :: r => idsA x ++ idsL r
def idsT : List (Bool × List At) → List Nat
  | [] => []
  | x :: r => idsL x.2 ++ idsT r
def idsS : SV → List Nat
  | .c _ l => idsL l
  | .tup l => idsT l
def idsO (sl : Nat → Option SlotV) : List Operand → List Nat
  | [] => []
  | x :: r => match getS sl x with
    | some s => idsS s ++ idsO sl r
    | none => idsO sl r

def memN (i : Nat) : List Nat → Bool
  | [] => false
  | j :: r => match Nat.beq i j with
    | true => true
    | false => memN i r
theorem memN_iff {i : Nat} : ∀ {l : List Nat}, memN i l = true ↔ i ∈ l
  | [] => by simp [memN]
  | j :: r => by
    simp only [memN]
    split
    · rename_i h
      have h : i = j := by simpa using h
      simp [h]
    · rename_i h
      have h : i ≠ j := by intro e; subst e; simp at h
      simp [memN_iff (l := r), h]

def bkT (tb : List Nat) (h : Nat → Option (List At)) (i : Nat) : Option (List At) := match memN i tb with
  | true => h i
  | false => none

def offL (l : List Nat) : List Nat → Bool
  | [] => true
  | j :: r => !memN j l && offL l r

/-- What may not change is not changed. -/
def effOk (ro roR : List Nat) (r : Rk) : Eff → Bool
  | .none => true
  | .alloc b _ => !memN b ro
  | .store b _ => !memN b ro
  | .row k _ (some o) => !memN k roR && !memN o roR
  | .row k _ none => !memN k roR
  | .rset k e _ => !memN k roR && (match r k with
    | some (some ri) => (Sh.eq? e ri.e).isSome
    | _ => false)
  | .rkill l => offL roR l

def guardB {R : Type} : List Bool → Option R → Option R
  | [], x => x
  | b :: l, x => bif allB (b :: l) then x else none

/-- By the recursor: so that the kernel unfolds it last. -/
noncomputable def obind {T R : Type} (m : Option T) (k : T → Option R) : Option R := Option.rec none k m

theorem guardB_some {R : Type} {p : List Bool} {x : Option R} {z : R} (h : guardB p x = some z) : allB p = true ∧ x = some z := by
  cases p with
  | nil => exact ⟨rfl, h⟩
  | cons b l =>
    simp only [guardB] at h
    cases hb : allB (b :: l) with
    | true => rw [hb] at h; exact ⟨rfl, h⟩
    | false => rw [hb] at h; cases h
theorem obind_some {T R : Type} {m : Option T} {k : T → Option R} {z : R} (h : obind m k = some z) : ∃ t, m = some t ∧ k t = some z := by
  cases m with
  | none => cases h
  | some t => exact ⟨t, rfl, h⟩

def tbOf (σ : St) (o : Oper) : List Nat := σ.next :: idsO σ.look.s o.op.operands.toList
def ridsA : At → List Nat
  | .row r => [r]
  | .re r _ _ _ => [r]
  | _ => []
def ridsL : List At → List Nat
  | [] => []
  | x :: r => ridsA x ++ ridsL r
def ridsT : List (Bool × List At) → List Nat
  | [] => []
  | x :: r => ridsL x.2 ++ ridsT r
def ridsS : SV → List Nat
  | .c _ l => ridsL l
  | .tup l => ridsT l
def ridsO (sl : Nat → Option SlotV) : List Operand → List Nat
  | [] => []
  | x :: r => match getS sl x with
    | some s => ridsS s ++ ridsO sl r
    | none => ridsO sl r
def ridsB (h : Nat → Option (List At)) : List Nat → List Nat
  | [] => []
  | b :: r => match h b with
    | some l => ridsL l ++ ridsB h r
    | none => ridsB h r
/-- The rows that an operation may touch. -/
def trOf (σ : St) (o : Oper) : List Nat := σ.next :: (ridsO σ.look.s o.op.operands.toList ++ ridsB σ.look.h (tbOf σ o))
def blank : Option (Option RowI) → Option (Option RowI)
  | some (some ri) => some (some ⟨ri.t, ri.e, ri.n, []⟩)
  | x => x
def rkT (o : Oper) (tr : List Nat) (r : Rk) (i : Nat) : Option (Option RowI) := match memN i tr with
  | true => (match metaOp o with
    | true => blank (r i)
    | false => r i)
  | false => none

theorem rkT_sub {o : Oper} {tr : List Nat} {r : Rk} (h : metaOp o = false) {i : Nat} {x : Option RowI} (hx : rkT o tr r i = some x) : i ∈ tr ∧ r i = some x := by
  unfold rkT at hx
  split at hx
  · rename_i hm
    rw [h] at hx
    exact ⟨memN_iff.1 hm, hx⟩
  · cases hx
theorem blank_some {x : Option (Option RowI)} {ri : RowI} (h : blank x = some (some ri)) : ∃ rj, x = some (some rj) ∧ rj.t = ri.t ∧ rj.e = ri.e ∧ rj.n = ri.n := by
  unfold blank at h
  split at h
  · rename_i rj
    simp only [Option.some.injEq] at h
    subst h
    exact ⟨rj, rfl, rfl, rfl, rfl⟩
  · exact ⟨ri, h, rfl, rfl, rfl⟩
theorem rkT_meta {o : Oper} {tr : List Nat} {r : Rk} {i : Nat} {ri : RowI} (hx : rkT o tr r i = some (some ri)) : i ∈ tr ∧ ∃ rj, r i = some (some rj) ∧ rj.t = ri.t ∧ rj.e = ri.e ∧ rj.n = ri.n := by
  unfold rkT at hx
  split at hx
  · rename_i hm
    refine ⟨memN_iff.1 hm, ?_⟩
    split at hx
    · exact blank_some hx
    · exact ⟨ri, hx, rfl, rfl, rfl⟩
  · cases hx
theorem rkT_none {o : Oper} {tr : List Nat} {r : Rk} {i : Nat} (hi : i ∈ tr) (hx : rkT o tr r i = none) : r i = none := by
  unfold rkT at hx
  rw [memN_iff.2 hi] at hx
  simp only at hx
  split at hx
  · unfold blank at hx
    split at hx
    · cases hx
    · exact hx
  · exact hx
def entOf (ops : Array Oper) (σ : St) (o : Oper) (pl : Plan) : Ent := ⟨o.looksAt ops, tbOf σ o, trOf σ o, metaOp o, (o.after.toList.filter (Region.binds .any)).map (·.on), pl⟩
def St.step (σ : St) (pl : Plan) : St := { σ.plan pl with next := σ.next + 1 }
def stepAt (C : Ctx) (N : Nat) (ops : Array Oper) (σ : St) (o : Oper) : Option Stp := stepOp C N ops σ.look.s (bkT (tbOf σ o) σ.look.h) (rkT o (trOf σ o) σ.look.r) σ.next o

/-- A region whose order is drawn. -/
def regD (C : Ctx) (N : Nat) (ops : Array Oper) {R : Type} : List Oper → St → (List Ent → St → Option R) → Option R
  | [], σ, K => K [] σ
  | o :: r, σ, K => match stepAt C N ops σ o with
    | some (.one p pl) => match effOk σ.ro σ.roR σ.look.r pl.eff with
      | true => guardB p (regD C N ops r (σ.step pl) fun es σ' => K (entOf ops σ o pl :: es) σ')
      | false => none
    | some (.call p _ m f) => guardB p (obind m fun t => match effOk σ.ro σ.roR σ.look.r (f t).eff with
      | true => regD C N ops r (σ.step (f t)) fun es σ' => K (entOf ops σ o (f t) :: es) σ'
      | false => none)
    | _ => none

/-- A function that is walked in place: with its arguments, in a state of memory. -/
abbrev Inl := (R : Type) → FuncId → List SV → St → (List SV → St → Option R) → Option R

def compsOf : List SV → Option (List (Bool × List At))
  | [] => some []
  | .c ag l :: r => match compsOf r with
    | some m => some ((ag, l) :: m)
    | none => none
  | .tup _ :: _ => none
def retSV : List SV → Option SV
  | [v] => some v
  | l => match compsOf l with
    | some m => some (.tup m)
    | none => none

def St.back (σ σ' : St) (d : Option Nat) (sv : SV) : St := match d with
  | some d => ({ σ' with s := σ.s } : St).putS d ⟨none, sv⟩
  | none => { σ' with s := σ.s }

/-- A region in the order of the text. -/
def regS (rec : Inl) (C : Ctx) (N : Nat) (ops : Array Oper) {R : Type} : List Oper → St → (St → Option R) → Option R
  | [], σ, K => K σ
  | o :: r, σ, K => match stepAt C N ops σ o with
    | some (.one p pl) => match effOk σ.ro σ.roR σ.look.r pl.eff with
      | true => guardB p (regS rec C N ops r (σ.step pl) K)
      | false => none
    | some (.call p _ m f) => guardB p (obind m fun t => match effOk σ.ro σ.roR σ.look.r (f t).eff with
      | true => regS rec C N ops r (σ.step (f t)) K
      | false => none)
    | some (.inl p id args) => guardB p (rec R id args { σ with s := [], next := σ.next + 1 } fun svs σ' => match retSV svs with
      | some sv => regS rec C N ops r (σ.back σ' o.dst sv) K
      | none => none)
    | none => none

/-! ### What the steps are -/

def RegR (C : Ctx) (N : Nat) (ops : Array Oper) : List Oper → St → List Ent → St → Prop
  | [], σ, es, σ' => es = [] ∧ σ' = σ
  | o :: r, σ, es, σ' => ∃ pl es', StepP C N ops σ.look.s (bkT (tbOf σ o) σ.look.h) (rkT o (trOf σ o) σ.look.r) σ.next o pl ∧ effOk σ.ro σ.roR σ.look.r pl.eff = true ∧ es = entOf ops σ o pl :: es' ∧ RegR C N ops r (σ.step pl) es' σ'

theorem regD_rel {C : Ctx} {N : Nat} {ops : Array Oper} {R : Type} {z : R} : ∀ {l : List Oper} {σ : St} {K : List Ent → St → Option R}, regD C N ops l σ K = some z → ∃ es σ', RegR C N ops l σ es σ' ∧ K es σ' = some z
  | [], σ, K, h => ⟨[], σ, ⟨rfl, rfl⟩, h⟩
  | o :: r, σ, K, h => by
    simp only [regD] at h
    split at h
    · rename_i p pl hst
      split at h
      · rename_i he
        obtain ⟨hp, h⟩ := guardB_some h
        obtain ⟨es, σ', h1, h2⟩ := regD_rel h
        exact ⟨_, σ', ⟨pl, es, ⟨_, hst, hp, rfl⟩, he, rfl, h1⟩, h2⟩
      · cases h
    · rename_i p T m f hst
      obtain ⟨hp, h⟩ := guardB_some h
      obtain ⟨t, ht, h⟩ := obind_some h
      split at h
      · rename_i he
        obtain ⟨es, σ', h1, h2⟩ := regD_rel h
        exact ⟨_, σ', ⟨f t, es, ⟨_, hst, hp, t, ht, rfl⟩, he, rfl, h1⟩, h2⟩
      · cases h
    · cases h

theorem look_step (σ : St) (pl : Plan) : (σ.step pl).look = σ.look.plan pl := plan_look σ pl

/-- Memory is as the symbolic state says. -/
structure MemOk (E : Env) (g : Look) : Prop where
  glob : Glob E g
  blks : ∀ i l, g.h i = some l → BlkOk E i l
  rows : ∀ i r, g.r i = some (some r) → RowOk E i r

theorem Glob.of {E : Env} {g g' : Look} (h : Glob E g) (hh : g'.h = g.h) (hr : g'.r = g.r) : Glob E g' := by
  obtain ⟨gs, gh, gr⟩ := g; obtain ⟨gs', gh', gr'⟩ := g'
  simp only at hh hr; subst hh; subst hr
  exact ⟨h.below, h.zlt, h.z0, h.zfrom, h.live, h.rlive, h.own, h.inj, h.rown, h.rinj⟩
theorem MemOk.of {E : Env} {g g' : Look} (h : MemOk E g) (hh : g'.h = g.h) (hr : g'.r = g.r) : MemOk E g' :=
  ⟨h.glob.of hh hr, fun i l hi => h.blks i l (by rw [← hh]; exact hi), fun i r hi => h.rows i r (by rw [← hr]; exact hi)⟩
theorem Mod.memOk {N : Nat} {E : Env} {a : Act} {g : Look} (h : Mod N E a g) : MemOk E g := ⟨h.glob, h.blks, h.rows⟩

/-- What may not change has not changed. -/
structure Fr (σ σ' : St) : Prop where
  ro : σ'.ro = σ.ro
  roR : σ'.roR = σ.roR
  h : ∀ i ∈ σ.ro, look σ'.h i = look σ.h i
  r : ∀ i ∈ σ.roR, look σ'.r i = look σ.r i

theorem Fr.refl (σ : St) : Fr σ σ := ⟨rfl, rfl, fun _ _ => rfl, fun _ _ => rfl⟩
theorem Fr.trans {σ σ' σ'' : St} (h : Fr σ σ') (h' : Fr σ' σ'') : Fr σ σ'' :=
  ⟨h'.ro.trans h.ro, h'.roR.trans h.roR, fun i hi => (h'.h i (by rw [h.ro]; exact hi)).trans (h.h i hi), fun i hi => (h'.r i (by rw [h.roR]; exact hi)).trans (h.r i hi)⟩

theorem offL_mem {l : List Nat} : ∀ {m : List Nat}, offL l m = true → ∀ i ∈ m, i ∉ l
  | j :: r, h, i, hi => by
    simp only [offL, Bool.and_eq_true, Bool.not_eq_true'] at h
    rcases List.mem_cons.1 hi with rfl | hi
    · intro hm; rw [memN_iff.2 hm] at h; cases h.1
    · exact offL_mem h.2 i hi
theorem notMem {i : Nat} {l : List Nat} (h : (!memN i l) = true) : i ∉ l := fun hm => by
  rw [memN_iff.2 hm] at h; cases h

theorem app_fr {σ : St} {e : Eff} (h : effOk σ.ro σ.roR σ.look.r e = true) : Fr σ (σ.app e) := by
  cases e with
  | none => exact Fr.refl σ
  | alloc b l => exact ⟨rfl, rfl, fun i hi => by simp only [St.app]; rw [look_cons, if_neg (fun e => notMem h (by rw [← e]; exact hi))], fun _ _ => rfl⟩
  | store b l => exact ⟨rfl, rfl, fun i hi => by simp only [St.app]; rw [look_cons, if_neg (fun e => notMem h (by rw [← e]; exact hi))], fun _ _ => rfl⟩
  | row k r o =>
    cases o with
    | none => exact ⟨rfl, rfl, fun _ _ => rfl, fun i hi => by simp only [St.app]; rw [look_cons, if_neg (fun e => notMem h (by rw [← e]; exact hi))]⟩
    | some o =>
      simp only [effOk, Bool.and_eq_true] at h
      exact ⟨rfl, rfl, fun _ _ => rfl, fun i hi => by simp only [St.app]; rw [look_cons, if_neg (fun e => notMem h.1 (by rw [← e]; exact hi)), look_cons, if_neg (fun e => notMem h.2 (by rw [← e]; exact hi))]⟩
  | rset k e l =>
    simp only [St.app]
    split
    · exact ⟨rfl, rfl, fun _ _ => rfl, fun i hi => by simp only; rw [look_cons, if_neg (fun e => notMem (by simp only [effOk, Bool.and_eq_true] at h; exact h.1) (by rw [← e]; exact hi))]⟩
    · exact Fr.refl σ
  | rkill l => exact ⟨rfl, rfl, fun _ _ => rfl, fun i hi => by simp only [St.app]; rw [look_kill, if_neg (fun e => offL_mem h i e hi)]⟩

theorem plan_fr {σ : St} {pl : Plan} (h : effOk σ.ro σ.roR σ.look.r pl.eff = true) : Fr σ (σ.plan pl) := by
  have := app_fr h
  unfold St.plan
  split
  · exact ⟨this.ro, this.roR, this.h, this.r⟩
  · exact this
theorem step_fr {σ : St} {pl : Plan} (h : effOk σ.ro σ.roR σ.look.r pl.eff = true) : Fr σ (σ.step pl) := ⟨(plan_fr h).ro, (plan_fr h).roR, (plan_fr h).h, (plan_fr h).r⟩

theorem app_s (σ : St) (e : Eff) : (σ.app e).s = σ.s := by
  cases e with
  | row k r o => cases o <;> rfl
  | rset k e l => simp only [St.app]; split <;> rfl
  | _ => rfl

theorem stepP_dst {C : Ctx} {N : Nat} {ops : Array Oper} {sl : Nat → Option SlotV} {bk : Nat → Option (List At)} {rk : Rk} {b : Nat} {o : Oper} {pl : Plan} (h : StepP C N ops sl bk rk b o pl) : ∀ d s, pl.s = some (d, s) → o.dst = some d := by
  have aux : ∀ (f : Nat → Nat × SlotV), (∀ d, (f d).1 = d) → ∀ d s, o.dst.map f = some (d, s) → o.dst = some d := by
    intro f hf d s h
    cases hd : o.dst with
    | none => rw [hd] at h; cases h
    | some d' =>
      rw [hd] at h
      simp only [Option.map_some, Option.some.injEq] at h
      have := hf d'
      rw [h] at this
      rw [← this]
  obtain ⟨st, h, hst⟩ := h
  unfold stepOp at h
  split at h
  · cases h
  · split at h
    · cases h
    · split at h
      · injection h with h; subst h; obtain ⟨_, rfl⟩ := hst; exact aux _ fun _ => rfl
      · injection h with h; subst h; obtain ⟨_, t, _, rfl⟩ := hst; exact aux _ fun _ => rfl
      · injection h with h; subst h; exact hst.elim
      · cases h
    · split at h
      · split at h
        · injection h with h; subst h; obtain ⟨_, rfl⟩ := hst; exact aux _ fun _ => rfl
        · cases h
      · split at h
        · injection h with h; subst h; obtain ⟨_, t, _, rfl⟩ := hst; exact aux _ fun _ => rfl
        · cases h
      · cases h

theorem step_slots {C : Ctx} {N : Nat} {ops : Array Oper} {sl : Nat → Option SlotV} {bk : Nat → Option (List At)} {rk : Rk} {b : Nat} {o : Oper} {σ : St} {pl : Plan} (h : StepP C N ops sl bk rk b o pl) {i : Nat} (hi : o.dst ≠ some i) : look (σ.step pl).s i = look σ.s i := by
  show look (σ.plan pl).s i = look σ.s i
  unfold St.plan
  split
  · rename_i d s hs
    have hd := stepP_dst h d s hs
    show look ((d, some s) :: (σ.app pl.eff).s) i = _
    rw [look_cons, if_neg (fun e => hi (by rw [e, hd])), app_s]
  · rw [app_s]

theorem RegR.frame {C : Ctx} {N : Nat} {ops : Array Oper} : ∀ {l : List Oper} {σ σ' : St} {es : List Ent}, RegR C N ops l σ es σ' → Fr σ σ' ∧ ∀ i, i ∉ l.filterMap (·.dst) → look σ'.s i = look σ.s i
  | [], σ, σ', es, h => by
    obtain ⟨_, rfl⟩ := h
    exact ⟨Fr.refl _, fun _ _ => rfl⟩
  | o :: r, σ, σ', es, h => by
    obtain ⟨pl, es', h1, h2, _, h4⟩ := h
    obtain ⟨h5, h6⟩ := h4.frame
    refine ⟨(step_fr h2).trans h5, fun i hi => ?_⟩
    have hd : o.dst ≠ some i := fun e => hi (by rw [List.filterMap_cons, e]; simp)
    rw [h6 i fun hm => hi (by
      rw [List.filterMap_cons]
      split
      · exact hm
      · exact List.mem_cons_of_mem _ hm), step_slots h1 hd]

/-! ### Functions that are walked in place -/

/-- Rows that may not change are there. -/
def RoR (σ : St) : Prop := ∀ i ∈ σ.roR, (look σ.r i).isSome = true
theorem RoR.fr {σ σ' : St} (h : RoR σ) (hf : Fr σ σ') : RoR σ' := fun i hi => by
  rw [hf.roR] at hi
  rw [hf.r i hi]
  exact h i hi

def InlOk (C : Ctx) (rec : Inl) : Prop := ∀ (R : Type) id args σ K (z : R), rec R id args σ K = some z → RoR σ → ∀ E, MemOk E σ.look → E.P = C.P → ∀ vs : Array Value, RelVs E args vs.toList → ∀ post : Ending → World → Prop,
  (∀ svs σ' E' v, K svs σ' = some z → Same E E' → Keep E E' → Fr σ σ' → MemOk E' σ'.look → (∀ sv, retSV svs = some sv → RelV E' sv v) → post (.returned v) E'.w) → Calls C.P id vs E.w post

section
variable {N : Nat} {E : Env} {a : Act}

theorem bkT_sub {tb : List Nat} {h : Nat → Option (List At)} {i : Nat} {l : List At} (hh : bkT tb h i = some l) : i ∈ tb ∧ h i = some l := by
  unfold bkT at hh
  split at hh
  · rename_i hm
    exact ⟨memN_iff.1 hm, hh⟩
  · cases hh
theorem bkT_none {tb : List Nat} {h : Nat → Option (List At)} {i : Nat} (hi : i ∈ tb) (hh : bkT tb h i = none) : h i = none := by
  unfold bkT at hh
  rw [memN_iff.2 hi] at hh
  exact hh

theorem stepOp_inl {C : Ctx} {ops : Array Oper} {sl : Nat → Option SlotV} {bk : Nat → Option (List At)} {rk : Rk} {b : Nat} {o : Oper} {p : List Bool} {id : FuncId} {args : List SV} (h : stepOp C N ops sl bk rk b o = some (.inl p id args)) :
    dstOk N o.dst = true ∧ guardC ops sl o.guard = .always ∧ coreC C .always sl bk rk b o = some (p, .inl id args) := by
  unfold stepOp at h
  split at h
  · cases h
  · rename_i hd
    split at h
    · cases h
    · rename_i hg
      split at h <;> first | (cases h; done) | (injection h with h; cases h; done) | skip
      rename_i p' id' args' hc
      injection h with h
      injection h with h1 h2 h3
      subst h1; subst h2; subst h3
      exact ⟨hd, hg, hc⟩
    · split at h
      · split at h <;> first | (injection h with h; cases h) | cases h
      · split at h <;> first | (injection h with h; cases h) | cases h
      · cases h

theorem Mod.slots_keep {a' : Act} {g g' : Look} {E' : Env} (hm : Mod N E a g) (hk : Keep E E') (hm' : MemOk E' g') (hs : g'.s = g.s) (ha : a' = a) : Mod N E' a' g' := by
  subst ha
  exact ⟨hm'.glob, hm.nodef, hm.size, fun i s hi => by
    rw [hs] at hi
    obtain ⟨v, h1, h2⟩ := hm.slots i s hi
    exact ⟨v, h1, hk.S h2⟩, hm'.blks, hm'.rows⟩

/-- A region whose order is the text's. -/
theorem seq_ok {rec : Inl} {C : Ctx} (hC : C.ok) (hI : InlOk C rec) {ops : Array Oper} {Q : Exit → Act → World → Prop} {R : Type} {z : R} : ∀ {l : List Oper} {σ : St} {K : St → Option R} {E : Env} {a : Act}, regS rec C N ops l σ K = some z → RoR σ → E.P = C.P →
    Mod N E a σ.look → (∀ σ' E' a', K σ' = some z → Same E E' → Keep E E' → Fr σ σ' → (∀ i, i ∉ l.filterMap (·.dst) → look σ'.s i = look σ.s i) → Mod N E' a' σ'.look → Q .normal a' E'.w) → wpList C.P ops Q l a E.w
  | [], σ, K, E, a, h, _, hP, hm, hQ => hQ σ E a h rfl (Keep.refl E) (Fr.refl σ) (fun _ _ => rfl) hm
  | o :: r, σ, K, E, a, h, hro, hP, hm, hQ => by
    simp only [regS] at h
    have dstne : ∀ i, i ∉ (o :: r).filterMap (·.dst) → o.dst ≠ some i ∧ i ∉ r.filterMap (·.dst) := fun i hi => by
      rw [List.filterMap_cons] at hi
      split at hi
      · rename_i hd; exact ⟨by rw [hd]; simp, hi⟩
      · rename_i d hd
        rw [hd]
        simp only [List.mem_cons, not_or] at hi
        exact ⟨fun e => hi.1 (by injection e with e; exact e.symm), hi.2⟩
    have go : ∀ pl, StepP C N ops σ.look.s (bkT (tbOf σ o) σ.look.h) (rkT o (trOf σ o) σ.look.r) σ.next o pl → effOk σ.ro σ.roR σ.look.r pl.eff = true → regS rec C N ops r (σ.step pl) K = some z → wpList C.P ops Q (o :: r) a E.w := by
      intro pl hpl he hr
      have hs := step_ok (K := wpList C.P ops Q r) (Q := Q) (X := o.asks C.P a E.w ∧ LetsOut Q) hC hP hpl hm (fun _ _ => rfl) (fun i l hi => (bkT_sub hi).2) (fun hb => bkT_none (by simp [tbOf]) hb) (fun hmo _ _ h => (rkT_sub hmo h).2) (fun _ _ h => by obtain ⟨_, rj, h1, _, h2, h3⟩ := rkT_meta h; exact ⟨rj, h1, h2, h3⟩) (fun h => rkT_none (by simp [trOf]) h)
        (fun E' a' h0 hk0 hm' => seq_ok hC hI hr (hro.fr (step_fr he)) (h0.P.trans hP) (by rw [look_step]; exact hm') fun σ' E'' a'' hz h1 hk1 hf hsl hm'' =>
          hQ σ' E'' a'' hz (h0.trans h1) (hk0.trans hk1) ((step_fr he).trans hf) (fun i hi => (hsl i (dstne i hi).2).trans (step_slots hpl (dstne i hi).1)) hm'')
      unfold wpList
      exact hs
    split at h
    · rename_i p pl hst
      split at h
      · rename_i he
        obtain ⟨hp, h⟩ := guardB_some h
        exact go pl ⟨_, hst, hp, rfl⟩ he h
      · cases h
    · rename_i p T m f hst
      obtain ⟨hp, h⟩ := guardB_some h
      obtain ⟨t, ht, h⟩ := obind_some h
      split at h
      · rename_i he
        exact go (f t) ⟨_, hst, hp, t, ht, rfl⟩ he h
      · cases h
    · rename_i p id args hst
      obtain ⟨hp, h⟩ := guardB_some h
      obtain ⟨hd, hg, hc⟩ := stepOp_inl hst
      have hgr := guard_run hm (ops := ops) (o := o) (sl := σ.look.s) (fun _ _ => rfl)
      rw [hg] at hgr
      simp only at hgr
      obtain ⟨vs, hrun, hvs⟩ := coreC_ok hC hP hc hp hm (fun _ _ => rfl) (fun i l hi => (bkT_sub hi).2) (fun hb => bkT_none (by simp [tbOf]) hb) (fun hmo _ _ h => (rkT_sub hmo h).2) (fun _ _ h => by obtain ⟨_, rj, h1, _, h2, h3⟩ := rkT_meta h; exact ⟨rj, h1, h2, h3⟩) (fun h => rkT_none (by simp [trOf]) h) (fun c hc => hc)
      unfold wpList
      rw [if_pos hgr]
      refine .inl ?_
      unfold Oper.wp
      rw [hrun]
      refine hI R id args _ _ z h (fun i hi => hro i hi) E (hm.memOk.of rfl rfl) hP vs hvs _ fun svs σ' E' v hk h0 hk0 hf hmem hret => ?_
      split at hk
      · rename_i sv hsv
        have hrel := hret sv hsv
        have hmb : Mod N E' a (({ σ' with s := σ.s } : St)).look := hm.slots_keep hk0 (hmem.of rfl rfl) rfl rfl
        have hmod : Mod N E' (a.put o.dst v) (σ.back σ' o.dst sv).look := by
          unfold St.back
          cases hdd : o.dst with
          | none => exact hmb
          | some d =>
            rw [hdd] at hd
            simp only [putS_look]
            exact hmb.put (by simp [dstOk, Nat.blt] at hd; omega) hrel
        have hfb : Fr σ (σ.back σ' o.dst sv) := by
          unfold St.back
          cases o.dst <;> exact ⟨hf.ro, hf.roR, hf.h, hf.r⟩
        have hsb : ∀ i, o.dst ≠ some i → look (σ.back σ' o.dst sv).s i = look σ.s i := fun i hi => by
          unfold St.back
          cases hdd : o.dst with
          | none => rfl
          | some d =>
            show look ((d, some _) :: σ.s) i = _
            rw [look_cons, if_neg (fun e => hi (by rw [hdd, e]))]
        exact seq_ok hC hI hk (hro.fr hfb) (h0.P.trans hP) hmod fun σ2 E2 a2 hz h1 hk1 hf1 hsl hm2 =>
          hQ σ2 E2 a2 hz (h0.trans h1) (hk0.trans hk1) (hfb.trans hf1) (fun i hi => (hsl i (dstne i hi).2).trans (hsb i (dstne i hi).1)) hm2
      · cases hk
    · cases h
end
end
end Dn
end Go.Proofs.YtghjblbkbelcfaaGreat

namespace Go.Proofs.YtghjblbkbelcfaaGreat
namespace Dn
noncomputable section
open Go.RowKit

def Ent.w (e : Ent) : Option Nat := match e.pl.eff with
  | .alloc b _ => some b
  | .store b _ => some b
  | _ => none
def Ent.d (e : Ent) : Option Nat := match e.pl.s with
  | some x => some x.1
  | none => none
/-- The rows that change, and those of them that change not in their elements alone. -/
def effC : Eff → List Nat
  | .rset k _ _ => [k]
  | .row k _ (some o) => [k, o]
  | .row k _ none => [k]
  | .rkill l => l
  | _ => []
def effHard : Eff → Bool
  | .row .. => true
  | .rkill _ => true
  | _ => false
def Ent.c (e : Ent) : List Nat := effC e.pl.eff
def Ent.hard (e : Ent) : Bool := effHard e.pl.eff

def offO : Option Nat → List Nat → Bool
  | some d, l => !memN d l
  | none, _ => true
def neO : Option Nat → Option Nat → Bool
  | some d, some e => !Nat.beq d e
  | _, _ => true

def disj : List Nat → List Nat → Bool
  | [], _ => true
  | x :: l, m => !memN x m && disj l m
def indep (e f : Ent) : Bool := offO e.d f.looks && neO e.d f.d && offO f.d e.looks && offO e.w f.tb && offO f.w e.tb && (disj e.c f.tr || (f.tm && !e.hard)) && (disj f.c e.tr || (e.tm && !f.hard))

def chk1 (i : Nat) (e : Ent) : List Ent → Bool
  | [] => true
  | f :: r => (indep e f || memN i f.deps) && chk1 i e r
def depsLt (i : Nat) : List Nat → Bool
  | [] => true
  | d :: r => Nat.blt d i && depsLt i r
def ownW (e : Ent) : Bool := match e.w with
  | some b => memN b e.tb
  | none => true
def subN : List Nat → List Nat → Bool
  | [], _ => true
  | x :: l, m => memN x m && subN l m
def ownC (e : Ent) : Bool := match e.c with
  | [] => true
  | x :: l => subN (x :: l) e.tr && !e.tm
def chkAll : Nat → List Ent → Bool
  | _, [] => true
  | i, e :: r => chk1 i e r && depsLt i e.deps && ownW e && ownC e && chkAll (i + 1) r

theorem disj_spec : ∀ {l m : List Nat}, disj l m = true → ∀ {x}, x ∈ l → x ∉ m
  | [], _, _, _, h => by cases h
  | y :: l, m, h, x, hx => by
    simp only [disj, Bool.and_eq_true, Bool.not_eq_true'] at h
    rcases List.mem_cons.1 hx with rfl | hx
    · intro hm
      rw [memN_iff.2 hm] at h
      cases h.1
    · exact disj_spec h.2 hx
theorem subN_spec : ∀ {l m : List Nat}, subN l m = true → ∀ {x}, x ∈ l → x ∈ m
  | [], _, _, _, h => by cases h
  | y :: l, m, h, x, hx => by
    simp only [subN, Bool.and_eq_true] at h
    rcases List.mem_cons.1 hx with rfl | hx
    · exact memN_iff.1 h.1
    · exact subN_spec h.2 hx
theorem offO_spec {x : Option Nat} {l : List Nat} (h : offO x l = true) {d : Nat} (hd : x = some d) : d ∉ l := by
  subst hd
  simp only [offO, Bool.not_eq_true'] at h
  intro hm
  rw [memN_iff.2 hm] at h
  cases h
theorem neO_spec {x y : Option Nat} (h : neO x y = true) {d : Nat} (hx : x = some d) (hy : y = some d) : False := by
  subst hx; subst hy
  simp [neO] at h

theorem chk1_spec {i : Nat} {e : Ent} : ∀ {l : List Ent} {k : Nat} {f : Ent}, chk1 i e l = true → l[k]? = some f → indep e f = true ∨ i ∈ f.deps
  | [], k, f, _, hk => by simp at hk
  | x :: r, k, f, h, hk => by
    simp only [chk1, Bool.and_eq_true, Bool.or_eq_true] at h
    cases k with
    | zero =>
      simp only [List.getElem?_cons_zero, Option.some.injEq] at hk
      subst hk
      exact h.1.imp id memN_iff.1
    | succ k =>
      simp only [List.getElem?_cons_succ] at hk
      exact chk1_spec h.2 hk

theorem depsLt_spec {i : Nat} : ∀ {l : List Nat}, depsLt i l = true → ∀ d ∈ l, d < i
  | [], _, d, hd => by cases hd
  | x :: r, h, d, hd => by
    simp only [depsLt, Bool.and_eq_true, Nat.blt, Nat.ble_eq] at h
    rcases List.mem_cons.1 hd with rfl | hd
    · omega
    · exact depsLt_spec h.2 d hd

/-- What the check gives of all operations. -/
structure Chk (es : List Ent) : Prop where
  pair : ∀ (i j : Nat) (e f : Ent), i < j → es[i]? = some e → es[j]? = some f → indep e f = true ∨ i ∈ f.deps
  lt : ∀ (i : Nat) (e : Ent), es[i]? = some e → ∀ d ∈ e.deps, d < i
  own : ∀ (i : Nat) (e : Ent) (b : Nat), es[i]? = some e → e.w = some b → b ∈ e.tb
  ownc : ∀ (i : Nat) (e : Ent) (b : Nat), es[i]? = some e → b ∈ e.c → b ∈ e.tr ∧ e.tm = false

theorem ownC_spec {e : Ent} (h : ownC e = true) {b : Nat} (hb : b ∈ e.c) : b ∈ e.tr ∧ e.tm = false := by
  unfold ownC at h
  split at h
  · rename_i hc; rw [hc] at hb; cases hb
  · rename_i x l hc
    simp only [Bool.and_eq_true, Bool.not_eq_true'] at h
    rw [hc] at hb
    exact ⟨subN_spec h.1 hb, h.2⟩

theorem chkAll_spec : ∀ {l : List Ent} {n : Nat}, chkAll n l = true →
    (∀ (i j : Nat) (e f : Ent), i < j → l[i]? = some e → l[j]? = some f → indep e f = true ∨ n + i ∈ f.deps) ∧ (∀ (i : Nat) (e : Ent), l[i]? = some e → ∀ d ∈ e.deps, d < n + i) ∧ (∀ (i : Nat) (e : Ent) (b : Nat), l[i]? = some e → e.w = some b → b ∈ e.tb) ∧ (∀ (i : Nat) (e : Ent) (b : Nat), l[i]? = some e → b ∈ e.c → b ∈ e.tr ∧ e.tm = false)
  | [], n, _ => ⟨fun i j e f _ h => by simp at h, fun i e h => by simp at h, fun i e b h => by simp at h, fun i e b h => by simp at h⟩
  | x :: r, n, h => by
    simp only [chkAll, Bool.and_eq_true] at h
    obtain ⟨⟨⟨⟨h1, h2⟩, h4⟩, h6⟩, h5⟩ := h
    obtain ⟨i1, i2, i4, i5⟩ := chkAll_spec h5
    refine ⟨fun i j e f hij hi hj => ?_, fun i e hi d hd => ?_, fun i e b hi hb => ?_, fun i e b hi hb => ?_⟩
    · cases j with
      | zero => omega
      | succ j =>
        simp only [List.getElem?_cons_succ] at hj
        cases i with
        | zero =>
          simp only [List.getElem?_cons_zero, Option.some.injEq] at hi
          subst hi
          exact chk1_spec h1 hj
        | succ i =>
          simp only [List.getElem?_cons_succ] at hi
          have := i1 i j e f (by omega) hi hj
          rwa [show n + 1 + i = n + (i + 1) by omega] at this
    · cases i with
      | zero =>
        simp only [List.getElem?_cons_zero, Option.some.injEq] at hi
        subst hi
        exact depsLt_spec h2 d hd
      | succ i =>
        simp only [List.getElem?_cons_succ] at hi
        have := i2 i e hi d hd
        omega
    · cases i with
      | zero =>
        simp only [List.getElem?_cons_zero, Option.some.injEq] at hi
        subst hi
        simp only [ownW, hb] at h4
        exact memN_iff.1 h4
      | succ i =>
        simp only [List.getElem?_cons_succ] at hi
        exact i4 i e b hi hb
    · cases i with
      | zero =>
        simp only [List.getElem?_cons_zero, Option.some.injEq] at hi
        subst hi
        exact ownC_spec h6 hb
      | succ i =>
        simp only [List.getElem?_cons_succ] at hi
        exact i5 i e b hi hb

theorem chk_of {es : List Ent} (h : chkAll 0 es = true) : Chk es := by
  obtain ⟨h1, h2, h4, h5⟩ := chkAll_spec h
  exact ⟨fun i j e f hij hi hj => by have := h1 i j e f hij hi hj; simpa using this, fun i e hi d hd => by have := h2 i e hi d hd; omega, h4, h5⟩

/-- The state behind those operations whose numbers 'p' holds of. -/
def fil (g : Look) (p : Nat → Bool) : Nat → List Ent → Look
  | _, [] => g
  | i, e :: r => fil (match p i with | true => g.plan e.pl | false => g) p (i + 1) r

theorem plan_s (g : Look) (e : Ent) (t : Nat) : (g.plan e.pl).s t = match e.pl.s with
    | some (d, s) => if t = d then some s else g.s t
    | none => g.s t := by
  unfold Look.plan
  have happ : (g.app e.pl.eff).s = g.s := by cases e.pl.eff <;> first | rfl | (rename_i k r o; cases o <;> rfl)
  cases e.pl.s with
  | none => exact congrFun happ t
  | some d => simp only [Look.setS, happ]

theorem plan_h (g : Look) (e : Ent) (b : Nat) : (g.plan e.pl).h b = match e.pl.eff with
    | .alloc i l => if b = i then some l else g.h b
    | .store i l => if b = i then some l else g.h b
    | _ => g.h b := by
  unfold Look.plan
  cases e.pl.s <;> (cases e.pl.eff <;> first | rfl | (rename_i k r o; cases o <;> rfl))

/-- What an effect makes of a row. -/
def updR (f : Eff) (t : Nat) (x : Option (Option RowI)) : Option (Option RowI) := match f with
  | .row k r (some o) => if t = k then some (some r) else if t = o then some none else x
  | .row k r none => if t = k then some (some r) else x
  | .rset k e l => if t = k then setL e l x else x
  | .rkill l => if t ∈ l then some none else x
  | _ => x
theorem plan_r (g : Look) (e : Ent) (t : Nat) : (g.plan e.pl).r t = updR e.pl.eff t (g.r t) := by
  unfold Look.plan
  cases e.pl.s <;> (cases he : e.pl.eff with
    | row k r o => cases o <;> rfl
    | rset k s l =>
      simp only [Look.app, Look.setS, updR]
      by_cases h : t = k
      · subst h; rfl
      · rw [if_neg h, if_neg h]
    | _ => rfl)
theorem updR_off {f : Eff} {t : Nat} {x : Option (Option RowI)} (h : t ∉ effC f) : updR f t x = x := by
  cases f with
  | row k r o =>
    cases o <;> simp only [effC, List.mem_cons, List.not_mem_nil, or_false, not_or] at h <;> simp [updR, h]
  | rset k s l => simp only [effC, List.mem_cons, List.not_mem_nil, or_false] at h; simp [updR, h]
  | rkill l => simp only [effC] at h; simp [updR, h]
  | _ => rfl

theorem setL_blank (s : Sh) (l : List s.T) (x : Option (Option RowI)) : blank (setL s l x) = blank x := by
  unfold setL
  split
  · split <;> rfl
  · rfl
theorem updR_soft {f : Eff} {t : Nat} (h : effHard f = false) (x : Option (Option RowI)) : blank (updR f t x) = blank x := by
  cases f with
  | row k r o => cases h
  | rkill l => cases h
  | rset k s l =>
    simp only [updR]
    split
    · exact setL_blank s l x
    · rfl
  | _ => rfl
theorem updR_cong {f : Eff} {t : Nat} {x y : Option (Option RowI)} (h : blank x = blank y) : blank (updR f t x) = blank (updR f t y) := by
  cases f with
  | row k r o => cases o <;> simp only [updR] <;> split <;> first | rfl | (split <;> first | rfl | exact h) | exact h
  | rkill l => simp only [updR]; split <;> first | rfl | exact h
  | rset k s l =>
    simp only [updR]
    split
    · rw [setL_blank, setL_blank]; exact h
    · exact h
  | _ => exact h
theorem plan_r_off (g : Look) (e : Ent) (t : Nat) (h : t ∉ e.c) : (g.plan e.pl).r t = g.r t := by rw [plan_r, updR_off h]

theorem plan_s_off (g : Look) (e : Ent) (t : Nat) (h : e.d ≠ some t) : (g.plan e.pl).s t = g.s t := by
  rw [plan_s]
  unfold Ent.d at h
  cases hs : e.pl.s with
  | none => rfl
  | some x => rw [hs] at h; simp only [ne_eq, Option.some.injEq] at h; exact if_neg (Ne.symm h)
theorem plan_s_on (g g' : Look) (e : Ent) (t : Nat) (h : e.d = some t) : (g.plan e.pl).s t = (g'.plan e.pl).s t := by
  rw [plan_s, plan_s]
  unfold Ent.d at h
  cases hs : e.pl.s with
  | none => rw [hs] at h; cases h
  | some x => rw [hs] at h; simp only [Option.some.injEq] at h; simp [h]
theorem plan_h_off (g : Look) (e : Ent) (b : Nat) (h : e.w ≠ some b) : (g.plan e.pl).h b = g.h b := by
  rw [plan_h]
  unfold Ent.w at h
  cases he : e.pl.eff <;> rw [he] at h <;> first | rfl | (simp only [ne_eq, Option.some.injEq] at h; exact if_neg (Ne.symm h))
theorem plan_h_on (g g' : Look) (e : Ent) (b : Nat) (h : e.w = some b) : (g.plan e.pl).h b = (g'.plan e.pl).h b := by
  rw [plan_h, plan_h]
  unfold Ent.w at h
  cases he : e.pl.eff <;> rw [he] at h <;> first | cases h; done | (simp only [Option.some.injEq] at h; simp [h])

theorem fil_s {p q : Nat → Bool} {t : Nat} : ∀ {l : List Ent} {i : Nat} {g g' : Look}, (∀ (k : Nat) (e : Ent), l[k]? = some e → e.d = some t → p (i + k) = q (i + k)) → g.s t = g'.s t → (fil g p i l).s t = (fil g' q i l).s t
  | [], i, g, g', _, h => h
  | e :: r, i, g, g', hpq, h => by
    simp only [fil]
    refine fil_s (fun k f hk hd => ?_) ?_
    · have := hpq (k + 1) f (by simpa using hk) hd
      rwa [show i + (k + 1) = i + 1 + k by omega] at this
    · by_cases hd : e.d = some t
      · have := hpq 0 e rfl hd
        simp only [Nat.add_zero] at this
        rw [this]
        cases q i
        · exact h
        · exact plan_s_on g g' e t hd
      · have e1 : (match p i with | true => g.plan e.pl | false => g).s t = g.s t := by cases p i <;> first | rfl | exact plan_s_off g e t hd
        have e2 : (match q i with | true => g'.plan e.pl | false => g').s t = g'.s t := by cases q i <;> first | rfl | exact plan_s_off g' e t hd
        rw [e1, e2, h]

theorem fil_h {p q : Nat → Bool} {t : Nat} : ∀ {l : List Ent} {i : Nat} {g g' : Look}, (∀ (k : Nat) (e : Ent), l[k]? = some e → e.w = some t → p (i + k) = q (i + k)) → g.h t = g'.h t → (fil g p i l).h t = (fil g' q i l).h t
  | [], i, g, g', _, h => h
  | e :: r, i, g, g', hpq, h => by
    simp only [fil]
    refine fil_h (fun k f hk hd => ?_) ?_
    · have := hpq (k + 1) f (by simpa using hk) hd
      rwa [show i + (k + 1) = i + 1 + k by omega] at this
    · by_cases hd : e.w = some t
      · have := hpq 0 e rfl hd
        simp only [Nat.add_zero] at this
        rw [this]
        cases q i
        · exact h
        · exact plan_h_on g g' e t hd
      · have e1 : (match p i with | true => g.plan e.pl | false => g).h t = g.h t := by cases p i <;> first | rfl | exact plan_h_off g e t hd
        have e2 : (match q i with | true => g'.plan e.pl | false => g').h t = g'.h t := by cases q i <;> first | rfl | exact plan_h_off g' e t hd
        rw [e1, e2, h]

theorem fil_r {p q : Nat → Bool} {t : Nat} : ∀ {l : List Ent} {i : Nat} {g g' : Look}, (∀ (k : Nat) (e : Ent), l[k]? = some e → t ∈ e.c → p (i + k) = q (i + k)) → g.r t = g'.r t → (fil g p i l).r t = (fil g' q i l).r t
  | [], i, g, g', _, h => h
  | e :: r, i, g, g', hpq, h => by
    simp only [fil]
    refine fil_r (fun k f hk hd => ?_) ?_
    · have := hpq (k + 1) f (by simpa using hk) hd
      rwa [show i + (k + 1) = i + 1 + k by omega] at this
    · by_cases hd : t ∈ e.c
      · have := hpq 0 e rfl hd
        simp only [Nat.add_zero] at this
        rw [this]
        cases q i
        · exact h
        · simp only [plan_r, h]
      · have e1 : (match p i with | true => g.plan e.pl | false => g).r t = g.r t := by cases p i <;> first | rfl | exact plan_r_off g e t hd
        have e2 : (match q i with | true => g'.plan e.pl | false => g').r t = g'.r t := by cases q i <;> first | rfl | exact plan_r_off g' e t hd
        rw [e1, e2, h]

theorem fil_blank {p q : Nat → Bool} {t : Nat} : ∀ {l : List Ent} {i : Nat} {g g' : Look}, (∀ (k : Nat) (e : Ent), l[k]? = some e → t ∈ e.c → e.hard = true → p (i + k) = q (i + k)) → blank (g.r t) = blank (g'.r t) → blank ((fil g p i l).r t) = blank ((fil g' q i l).r t)
  | [], i, g, g', _, h => h
  | e :: r, i, g, g', hpq, h => by
    simp only [fil]
    refine fil_blank (fun k f hk hd hh => ?_) ?_
    · have := hpq (k + 1) f (by simpa using hk) hd hh
      rwa [show i + (k + 1) = i + 1 + k by omega] at this
    · have same : e.hard = false ∨ t ∉ e.c → ∀ g : Look, blank ((g.plan e.pl).r t) = blank (g.r t) := fun ho g => by
        rcases ho with ho | ho
        · rw [plan_r]; exact updR_soft ho _
        · rw [plan_r_off g e t ho]
      by_cases hd : t ∈ e.c ∧ e.hard = true
      · have := hpq 0 e rfl hd.1 hd.2
        simp only [Nat.add_zero] at this
        rw [this]
        cases q i
        · exact h
        · simp only [plan_r]; exact updR_cong h
      · have ho : e.hard = false ∨ t ∉ e.c := by
          cases hh : e.hard with
          | false => exact .inl rfl
          | true => exact .inr fun hc => hd ⟨hc, hh⟩
        have e1 : blank ((match p i with | true => g.plan e.pl | false => g).r t) = blank (g.r t) := by cases p i <;> first | rfl | exact same ho g
        have e2 : blank ((match q i with | true => g'.plan e.pl | false => g').r t) = blank (g'.r t) := by cases q i <;> first | rfl | exact same ho g'
        rw [e1, e2, h]

/-- The last writer decides. -/
theorem fil_s_at {p : Nat → Bool} {t : Nat} : ∀ {l : List Ent} {i j : Nat} {g : Look} {e : Ent}, l[j]? = some e → p (i + j) = true → e.d = some t → (∀ (k : Nat) (f : Ent), j < k → l[k]? = some f → f.d = some t → p (i + k) = false) → ∀ g' : Look, (fil g p i l).s t = (g'.plan e.pl).s t
  | [], i, j, g, e, h, _, _, _, _ => by simp at h
  | x :: r, i, 0, g, e, h, hp, hd, hl, g' => by
    simp only [List.getElem?_cons_zero, Option.some.injEq] at h
    subst h
    simp only [Nat.add_zero] at hp
    simp only [fil, hp]
    have := fil_s (p := p) (q := fun _ => false) (t := t) (l := r) (i := i + 1) (g := g.plan x.pl) (g' := g.plan x.pl) (fun k f hk hf => by
      have := hl (k + 1) f (by omega) (by simpa using hk) hf
      rwa [show i + (k + 1) = i + 1 + k by omega] at this) rfl
    rw [this]
    have none_ : ∀ (l : List Ent) (i : Nat) (g : Look), fil g (fun _ => false) i l = g := by
      intro l
      induction l with
      | nil => intro i g; rfl
      | cons y l ih => intro i g; exact ih (i + 1) g
    rw [none_]
    exact plan_s_on g g' x t hd
  | x :: r, i, j + 1, g, e, h, hp, hd, hl, g' => by
    simp only [List.getElem?_cons_succ] at h
    simp only [fil]
    refine fil_s_at (j := j) h (by rwa [show i + 1 + j = i + (j + 1) by omega]) hd (fun k f hk hf hfd => ?_) g'
    have := hl (k + 1) f (by omega) (by simpa using hf) hfd
    rwa [show i + (k + 1) = i + 1 + k by omega] at this

theorem fil_h_at {p : Nat → Bool} {t : Nat} : ∀ {l : List Ent} {i j : Nat} {g : Look} {e : Ent}, l[j]? = some e → p (i + j) = true → e.w = some t → (∀ (k : Nat) (f : Ent), j < k → l[k]? = some f → f.w = some t → p (i + k) = false) → ∀ g' : Look, (fil g p i l).h t = (g'.plan e.pl).h t
  | [], i, j, g, e, h, _, _, _, _ => by simp at h
  | x :: r, i, 0, g, e, h, hp, hd, hl, g' => by
    simp only [List.getElem?_cons_zero, Option.some.injEq] at h
    subst h
    simp only [Nat.add_zero] at hp
    simp only [fil, hp]
    have := fil_h (p := p) (q := fun _ => false) (t := t) (l := r) (i := i + 1) (g := g.plan x.pl) (g' := g.plan x.pl) (fun k f hk hf => by
      have := hl (k + 1) f (by omega) (by simpa using hk) hf
      rwa [show i + (k + 1) = i + 1 + k by omega] at this) rfl
    rw [this]
    have none_ : ∀ (l : List Ent) (i : Nat) (g : Look), fil g (fun _ => false) i l = g := by
      intro l
      induction l with
      | nil => intro i g; rfl
      | cons y l ih => intro i g; exact ih (i + 1) g
    rw [none_]
    exact plan_h_on g g' x t hd
  | x :: r, i, j + 1, g, e, h, hp, hd, hl, g' => by
    simp only [List.getElem?_cons_succ] at h
    simp only [fil]
    refine fil_h_at (j := j) h (by rwa [show i + 1 + j = i + (j + 1) by omega]) hd (fun k f hk hf hfd => ?_) g'
    have := hl (k + 1) f (by omega) (by simpa using hf) hfd
    rwa [show i + (k + 1) = i + 1 + k by omega] at this

theorem fil_none (l : List Ent) (i : Nat) (g : Look) (p : Nat → Bool) (t : Nat) (h : ∀ (k : Nat) (f : Ent), l[k]? = some f → t ∈ f.c → p (i + k) = false) : (fil g p i l).r t = g.r t := by
  rw [fil_r (q := fun _ => false) (g' := g) h rfl]
  have none_ : ∀ (l : List Ent) (i : Nat) (g : Look), fil g (fun _ => false) i l = g := by
    intro l
    induction l with
    | nil => intro i g; rfl
    | cons y l ih => intro i g; exact ih (i + 1) g
  rw [none_]

/-- One more operation, behind all that change the row. -/
theorem fil_r_at {p q : Nat → Bool} {t : Nat} : ∀ {l : List Ent} {i j : Nat} {g g' : Look} {e : Ent}, l[j]? = some e → p (i + j) = true → q (i + j) = false → (∀ k, k ≠ j → p (i + k) = q (i + k)) → (∀ (k : Nat) (f : Ent), j < k → l[k]? = some f → t ∈ f.c → p (i + k) = false) →
    g.r t = g'.r t → (fil g p i l).r t = updR e.pl.eff t ((fil g' q i l).r t)
  | [], i, j, g, g', e, h, _, _, _, _, _ => by simp at h
  | x :: r, i, 0, g, g', e, h, hp, hq, hpq, hl, hg => by
    simp only [List.getElem?_cons_zero, Option.some.injEq] at h
    subst h
    simp only [Nat.add_zero] at hp hq
    simp only [fil, hp, hq]
    have hl' : ∀ (k : Nat) (f : Ent), r[k]? = some f → t ∈ f.c → p (i + 1 + k) = false := fun k f hk hf => by
      have := hl (k + 1) f (by omega) (by simpa using hk) hf
      rwa [show i + (k + 1) = i + 1 + k by omega] at this
    rw [fil_none r (i + 1) _ p t hl', fil_none r (i + 1) _ q t fun k f hk hf => ?_, plan_r, hg]
    have := hpq (k + 1) (by omega)
    rw [show i + (k + 1) = i + 1 + k by omega] at this
    rw [← this]
    exact hl' k f hk hf
  | x :: r, i, j + 1, g, g', e, h, hp, hq, hpq, hl, hg => by
    simp only [List.getElem?_cons_succ] at h
    simp only [fil]
    refine fil_r_at (j := j) h (by rwa [show i + 1 + j = i + (j + 1) by omega]) (by rwa [show i + 1 + j = i + (j + 1) by omega]) (fun k hk => ?_) (fun k f hk hf hfd => ?_) ?_
    · have := hpq (k + 1) (by omega)
      rwa [show i + (k + 1) = i + 1 + k by omega] at this
    · have := hl (k + 1) f (by omega) (by simpa using hf) hfd
      rwa [show i + (k + 1) = i + 1 + k by omega] at this
    · have := hpq 0 (by omega)
      simp only [Nat.add_zero] at this
      rw [this]
      cases q i
      · exact hg
      · simp only [plan_r, hg]

theorem fil_shift {p : Nat → Bool} : ∀ {l : List Ent} {i : Nat} {g : Look}, fil g p (i + 1) l = fil g (fun k => p (k + 1)) i l
  | [], _, _ => rfl
  | e :: r, i, g => by simp only [fil]; exact fil_shift

theorem fil_true : ∀ {l : List Ent} {i : Nat} {g : Look}, fil g (fun _ => true) i l = l.foldl (fun g e => g.plan e.pl) g
  | [], _, _ => rfl
  | e :: r, i, g => by simp only [fil, List.foldl_cons]; exact fil_true

/-- What the run in the text's order says of each operation. -/
structure At0 (C : Ctx) (N : Nat) (ops : Array Oper) (g : Look) (es : List Ent) (j : Nat) (o : Oper) (e : Ent) : Prop where
  get : es[j]? = some e
  step : ∃ b, b ∈ e.tb ∧ b ∈ e.tr ∧ StepP C N ops (fil g (fun k => decide (k < j)) 0 es).s (bkT e.tb (fil g (fun k => decide (k < j)) 0 es).h) (rkT o e.tr (fil g (fun k => decide (k < j)) 0 es).r) b o e.pl
  tmeq : e.tm = metaOp o
  looks : e.looks = o.looksAt ops
  deps : e.deps = (o.after.toList.filter (Region.binds .any)).map (·.on)

theorem regR_at {C : Ctx} {N : Nat} {ops : Array Oper} : ∀ {l : List Oper} {σ σ' : St} {es : List Ent}, RegR C N ops l σ es σ' →
    σ'.look = es.foldl (fun g e => g.plan e.pl) σ.look ∧ es.length = l.length ∧ (∀ (j : Nat) (o : Oper), l[j]? = some o → ∃ e, At0 C N ops σ.look es j o e)
  | [], σ, σ', es, h => by
    obtain ⟨rfl, rfl⟩ := h
    exact ⟨rfl, rfl, fun j o h => by simp at h⟩
  | o :: r, σ, σ', es, h => by
    obtain ⟨pl, es', hpl, hef, rfl, hr⟩ := h
    obtain ⟨h1, h2, h3⟩ := regR_at hr
    have e0 := look_step σ pl
    rw [e0] at h1 h3
    refine ⟨h1, by simp [h2], fun j o' hj => ?_⟩
    cases j with
    | zero =>
      simp only [List.getElem?_cons_zero, Option.some.injEq] at hj
      subst hj
      refine ⟨_, rfl, ⟨σ.next, by simp [entOf, tbOf], by simp [entOf, trOf], ?_⟩, rfl, rfl, rfl⟩
      have e00 : ∀ (l : List Ent) (i : Nat) (g : Look), fil g (fun k => decide (k < 0)) i l = g := by
        intro l
        induction l with
        | nil => intro i g; rfl
        | cons y l ih => intro i g; exact ih (i + 1) g
      rw [e00]
      exact hpl
    | succ j =>
      simp only [List.getElem?_cons_succ] at hj
      obtain ⟨e, a1, ⟨b, hb, hbr, a2⟩, am, a3, a4⟩ := h3 j o' hj
      refine ⟨e, by simpa using a1, ⟨b, hb, hbr, ?_⟩, am, a3, a4⟩
      have e1 : ∀ (x : Ent), x.pl = pl → fil σ.look (fun k => decide (k < j + 1)) 0 (x :: es') = fil (σ.look.plan pl) (fun k => decide (k < j)) 0 es' := by
        intro x hx
        have hf : (fun k => decide (k + 1 < j + 1)) = fun k => decide (k < j) := by funext k; simp
        simp only [fil]
        rw [fil_shift, hf, hx]
        rfl
      rw [e1 _ rfl]
      exact a2

section
variable {N : Nat} {E : Env} {a : Act}

theorem drew_mod {g : Look} (hm : Mod N E a g) (n : Nat) : Mod N { E with w := { E.w with drawn := n } } a g ∧ Keep E { E with w := { E.w with drawn := n } } := by
  have hx : Ext (fun _ => False) E { E with w := { E.w with drawn := n } } := ⟨rfl, rfl, rfl, fun _ h => h, fun _ _ _ => rfl, fun _ _ => rfl, fun _ h => h, fun _ _ => rfl, fun _ h => h⟩
  refine ⟨hm.move (Free.none E) hx ?_ hm.nodef hm.size (fun i s h => .inl ⟨h, rfl⟩) (fun i l h => .inl ⟨h, id⟩) (fun i r h => .inl ⟨h, fun _ _ => id⟩), hx.keep hm.glob (Free.none E)⟩
  obtain ⟨⟨b1, b2, b3, b4, b5⟩, h2, h3, h4, h5, h6, h7, h8, h9, h10⟩ := hm.glob
  exact ⟨⟨b1, b2, b3, b4, b5⟩, h2, h3, h4, h5, h6, h7, h8, h9, h10⟩

theorem step_any {C : Ctx} (hC : C.ok) {ops : Array Oper} {g0 : Look} {es : List Ent} (hk : Chk es) {L : Nat → Bool} (hL : ∀ (k : Nat) (e : Ent), es[k]? = some e → L k = true → ∀ d ∈ e.deps, L d = true)
    {j : Nat} {o : Oper} {e : Ent} (h0 : At0 C N ops g0 es j o e) (hj : L j = false) (hd : ∀ d ∈ e.deps, L d = true) (hP : E.P = C.P) (hm : Mod N E a (fil g0 L 0 es)) {K : Act → World → Prop} {Q : Exit → Act → World → Prop} {X : Prop}
    (hK : ∀ E' a', Same E E' → Keep E E' → Mod N E' a' (fil g0 (fun k => L k || k == j) 0 es) → K a' E'.w) :
    if Region.wanted o (yielded ops a.tmps) then o.wp C.P a E.w K Q ∨ X else K (a.put o.dst undef) E.w := by
  obtain ⟨hget, ⟨b, hb, hbr, hst⟩, hmeta, hlk, hdp⟩ := h0
  -- the writers that count are those ahead in the text
  have before : ∀ (k : Nat) (f : Ent), es[k]? = some f → k ≠ j → (indep f e = true → False) → k < j → L k = true := fun k f hf hne hi hlt =>
    hd k ((hk.pair k j f e hlt hf hget).resolve_left fun h => hi h)
  have after : ∀ (k : Nat) (f : Ent), es[k]? = some f → (indep e f = true → False) → j < k → L k = false := fun k f hf hi hlt => by
    have hdep := (hk.pair j k e f hlt hget hf).resolve_left fun h => hi h
    cases hLk : L k with
    | false => rfl
    | true =>
      have := hL k f hf hLk j hdep
      rw [hj] at this
      cases this
  have slotsEq : ∀ t ∈ e.looks, (fil g0 L 0 es).s t = (fil g0 (fun k => decide (k < j)) 0 es).s t := fun t ht => by
    refine fil_s (fun k f hf hfd => ?_) rfl
    rw [Nat.zero_add]
    rcases Nat.lt_trichotomy k j with h | h | h
    · rw [before k f hf (by omega) (fun hi => by
        simp only [indep, Bool.and_eq_true] at hi
        exact offO_spec hi.1.1.1.1.1.1 hfd ht) h]
      simp [h]
    · subst h
      simp [hj]
    · rw [after k f hf (fun hi => by
        simp only [indep, Bool.and_eq_true] at hi
        exact offO_spec hi.1.1.1.1.2 hfd ht) h]
      simp; omega
  have blksEq : ∀ t ∈ e.tb, (fil g0 L 0 es).h t = (fil g0 (fun k => decide (k < j)) 0 es).h t := fun t ht => by
    refine fil_h (fun k f hf hfd => ?_) rfl
    rw [Nat.zero_add]
    rcases Nat.lt_trichotomy k j with h | h | h
    · rw [before k f hf (by omega) (fun hi => by
        simp only [indep, Bool.and_eq_true] at hi
        exact offO_spec hi.1.1.1.2 hfd ht) h]
      simp [h]
    · subst h
      simp [hj]
    · rw [after k f hf (fun hi => by
        simp only [indep, Bool.and_eq_true] at hi
        exact offO_spec hi.1.1.2 hfd ht) h]
      simp; omega
  have soft : ∀ (f g : Ent), (disj f.c g.tr || (g.tm && !f.hard)) = true → ∀ t, t ∈ f.c → t ∈ g.tr → g.tm = true ∧ f.hard = false := fun f g h t h1 h2 => by
    simp only [Bool.or_eq_true, Bool.and_eq_true, Bool.not_eq_true'] at h
    rcases h with h | h
    · exact absurd h2 (disj_spec h h1)
    · exact h
  have pick : ∀ t ∈ e.tr, ∀ (k : Nat) (f : Ent), es[k]? = some f → t ∈ f.c → k ≠ j → (e.tm = false ∨ f.hard = true) → L k = decide (k < j) := fun t ht k f hf hfd hne ho => by
    have no : ∀ {q : Prop}, e.tm = true ∧ f.hard = false → q := fun hq => by
      rcases ho with ho | ho
      · rw [ho] at hq; cases hq.1
      · rw [ho] at hq; cases hq.2
    rcases Nat.lt_trichotomy k j with h | h | h
    · rw [before k f hf (by omega) (fun hi => by
        simp only [indep, Bool.and_eq_true] at hi
        exact no (soft f e hi.1.2 t hfd ht)) h]
      simp [h]
    · exact absurd h hne
    · rw [after k f hf (fun hi => by
        simp only [indep, Bool.and_eq_true] at hi
        exact no (soft f e hi.2 t hfd ht)) h]
      simp; omega
  have pick' : ∀ t ∈ e.tr, ∀ (k : Nat) (f : Ent), es[k]? = some f → t ∈ f.c → (e.tm = false ∨ f.hard = true) → L k = decide (k < j) := fun t ht k f hf hfd ho => by
    by_cases hne : k = j
    · subst hne
      simp [hj]
    · exact pick t ht k f hf hfd hne ho
  have blankEq : ∀ t ∈ e.tr, blank ((fil g0 L 0 es).r t) = blank ((fil g0 (fun k => decide (k < j)) 0 es).r t) := fun t ht => by
    refine fil_blank (fun k f hf hfd hh => ?_) rfl
    rw [Nat.zero_add]
    exact pick' t ht k f hf hfd (.inr hh)
  have rowsEq : ∀ t ∈ e.tr, e.tm = false → (fil g0 L 0 es).r t = (fil g0 (fun k => decide (k < j)) 0 es).r t := fun t ht htm => by
    refine fil_r (fun k f hf hfd => ?_) rfl
    rw [Nat.zero_add]
    exact pick' t ht k f hf hfd (.inl htm)
  refine step_ok (K := K) (Q := Q) (X := X) hC hP hst hm (fun t ht => slotsEq t (by rw [hlk]; exact ht)) (fun i l hi => ?_) (fun hn => ?_) (fun hmo i r hi => ?_) (fun i ri hi => ?_) (fun hi => ?_) fun E' a' hs hkp hm' => hK E' a' hs hkp ?_
  · obtain ⟨h1, h2⟩ := bkT_sub hi
    rw [blksEq i h1]
    exact h2
  · rw [blksEq b hb]
    exact bkT_none hb hn
  · obtain ⟨h1, h2⟩ := rkT_sub hmo hi
    rw [rowsEq i h1 (by rw [hmeta]; exact hmo)]
    exact h2
  · obtain ⟨h1, rj, h2, h3, h4, h5⟩ := rkT_meta hi
    have hbl := blankEq i h1
    rw [h2] at hbl
    obtain ⟨rk, g1, g2, g3, g4⟩ := blank_some (ri := ⟨rj.t, rj.e, rj.n, []⟩) hbl
    exact ⟨rk, g1, g3.trans h4, g4.trans h5⟩
  · have h1 := rkT_none hbr hi
    have hbl := blankEq b hbr
    rw [h1] at hbl
    have : ∀ x : Option (Option RowI), blank x = none → x = none := fun x hx => by
      unfold blank at hx
      split at hx
      · cases hx
      · exact hx
    exact this _ hbl
  · have hg : (fil g0 L 0 es).plan e.pl = fil g0 (fun k => L k || k == j) 0 es := by
      have es_s : ((fil g0 L 0 es).plan e.pl).s = (fil g0 (fun k => L k || k == j) 0 es).s := by
        funext t
        by_cases ht : e.d = some t
        · symm
          refine fil_s_at (j := j) hget (by simp) ht (fun k f hlt hf hfd => ?_) _
          rw [Nat.zero_add, after k f hf (fun hi => by
            simp only [indep, Bool.and_eq_true] at hi
            exact neO_spec hi.1.1.1.1.1.2 ht hfd) hlt]
          simp; omega
        · rw [plan_s_off _ e t ht]
          refine fil_s (fun k f hf hfd => ?_) rfl
          rw [Nat.zero_add]
          have hkj : k ≠ j := fun h => by subst h; rw [hget] at hf; injection hf with hf; subst hf; exact ht hfd
          simp [hkj]
      have es_h : ((fil g0 L 0 es).plan e.pl).h = (fil g0 (fun k => L k || k == j) 0 es).h := by
        funext t
        by_cases ht : e.w = some t
        · symm
          refine fil_h_at (j := j) hget (by simp) ht (fun k f hlt hf hfd => ?_) _
          rw [Nat.zero_add, after k f hf (fun hi => by
            simp only [indep, Bool.and_eq_true] at hi
            exact offO_spec hi.1.1.2 hfd (hk.own j e t hget ht)) hlt]
          simp; omega
        · rw [plan_h_off _ e t ht]
          refine fil_h (fun k f hf hfd => ?_) rfl
          rw [Nat.zero_add]
          have hkj : k ≠ j := fun h => by subst h; rw [hget] at hf; injection hf with hf; subst hf; exact ht hfd
          simp [hkj]
      have es_r : ((fil g0 L 0 es).plan e.pl).r = (fil g0 (fun k => L k || k == j) 0 es).r := by
        funext t
        by_cases ht : t ∈ e.c
        · symm
          rw [plan_r]
          obtain ⟨o1, o2⟩ := hk.ownc j e t hget ht
          refine fil_r_at (j := j) hget (by simp) (by rw [Nat.zero_add]; exact hj) (fun k hkj => by simp [hkj]) (fun k f hlt hf hfd => ?_) rfl
          have := pick t o1 k f hf hfd (by omega) (.inl o2)
          rw [Nat.zero_add, this]
          simp; omega
        · rw [plan_r_off _ e t ht]
          refine fil_r (fun k f hf hfd => ?_) rfl
          rw [Nat.zero_add]
          have hkj : k ≠ j := fun h => by subst h; rw [hget] at hf; injection hf with hf; subst hf; exact ht hfd
          simp [hkj]
      have mk : ∀ x y : Look, x.s = y.s → x.h = y.h → x.r = y.r → x = y := by
        intro x y h1 h2 h3
        cases x; cases y
        simp only at h1 h2 h3
        subst h1; subst h2; subst h3
        rfl
      exact mk _ _ es_s es_h es_r
    rw [hg] at hm'
    exact hm'

theorem count_set {l : List Bool} {j : Nat} (h : l[j]? = some false) : (l.set j true).count false + 1 = l.count false := by
  induction l generalizing j with
  | nil => simp at h
  | cons b l ih =>
    cases j with
    | zero => simp only [List.getElem?_cons_zero, Option.some.injEq] at h; subst h; simp
    | succ j =>
      simp only [List.getElem?_cons_succ] at h
      have := ih h
      simp only [List.set_cons_succ, List.count_cons]
      omega

theorem any_ok {C : Ctx} (hC : C.ok) {ops : Array Oper} {g0 : Look} {es : List Ent} (hk : Chk es) (hlen : es.length = ops.size) (hat : ∀ (j : Nat) (o : Oper), ops[j]? = some o → ∃ e, At0 C N ops g0 es j o e)
    {Q : Exit → Act → World → Prop} {E0 : Env} (hQ : ∀ E' a', Same E0 E' → Keep E0 E' → Mod N E' a' (fil g0 (fun _ => true) 0 es) → Q .normal a' E'.w) (hP0 : E0.P = C.P) :
    ∀ (fuel : Nat) (listed : Array Bool) (a : Act) (E : Env), listed.size = ops.size → listed.toList.count false ≤ fuel → (∀ (k : Nat) (e : Ent), es[k]? = some e → listed.getD k false = true → ∀ d ∈ e.deps, listed.getD d false = true) → Same E0 E → Keep E0 E →
      Mod N E a (fil g0 (fun k => listed.getD k false) 0 es) → wpAny C.P .any ops Q fuel listed a E.w := by
  -- where nothing is ready all are listed
  have all : ∀ (listed : Array Bool), listed.size = ops.size → Region.ready .any ops listed = [] → ∀ j, j < ops.size → listed.getD j false = true := by
    intro listed hsz hr j
    induction j using Nat.strongRecOn with
    | _ j ih =>
      intro hj
      cases hl : listed.getD j false with
      | true => rfl
      | false =>
        exfalso
        have hoj : ops[j]? = some ops[j] := Array.getElem?_eq_getElem hj
        obtain ⟨e, a1, _, _, _, a4⟩ := hat j _ hoj
        have : j ∈ Region.ready .any ops listed := by
          refine mem_ready.2 ⟨?_, ops[j], hoj, fun ed hed hb => ?_⟩
          · have hj' : j < listed.size := by omega
            simp only [Array.getD_eq_getD_getElem?, Array.getElem?_eq_getElem hj', Option.getD_some] at hl ⊢
            exact hl
          · have hlt := hk.lt j e a1 ed.on (by rw [a4]; exact List.mem_map.2 ⟨ed, List.mem_filter.2 ⟨Array.mem_toList_iff.2 hed, hb⟩, rfl⟩)
            exact ih ed.on hlt (by omega)
        rw [hr] at this
        cases this
  have fin : ∀ (listed : Array Bool) (a : Act) (E : Env), listed.size = ops.size → Region.ready .any ops listed = [] → Same E0 E → Keep E0 E → Mod N E a (fil g0 (fun k => listed.getD k false) 0 es) → Q .normal a E.w := by
    intro listed a E hsz hr hs hkp hm
    refine hQ E a hs hkp ?_
    have hl := all listed hsz hr
    have hT : ∀ (k : Nat) (e : Ent), es[k]? = some e → listed.getD k false = true := fun k e hke => hl k (by
      have := (List.getElem?_eq_some_iff.1 hke).1
      omega)
    have : fil g0 (fun k => listed.getD k false) 0 es = fil g0 (fun _ => true) 0 es := by
      have mk : ∀ x y : Look, x.s = y.s → x.h = y.h → x.r = y.r → x = y := by
        intro x y h1 h2 h3
        cases x; cases y
        simp only at h1 h2 h3
        subst h1; subst h2; subst h3
        rfl
      refine mk _ _ (funext fun t => fil_s (fun k e hke _ => by rw [Nat.zero_add]; exact hT k e hke) rfl) (funext fun t => fil_h (fun k e hke _ => by rw [Nat.zero_add]; exact hT k e hke) rfl) ?_
      exact funext fun t => fil_r (fun k e hke _ => by rw [Nat.zero_add]; exact hT k e hke) rfl
    rw [this] at hm
    exact hm
  intro fuel
  induction fuel with
  | zero =>
    intro listed a E hsz hc hdn hs hkp hm
    have hr : Region.ready .any ops listed = [] := by
      rw [List.eq_nil_iff_forall_not_mem]
      intro j hj
      obtain ⟨h0, o, ho, _⟩ := mem_ready.1 hj
      have hlt : j < listed.size := by
        rcases Nat.lt_or_ge j listed.size with h | h
        · exact h
        · simp [Array.getD_eq_getD_getElem?, Array.getElem?_eq_none h] at h0
      have : false ∈ listed.toList := by
        rw [List.mem_iff_getElem?]
        refine ⟨j, ?_⟩
        simp only [Array.getD_eq_getD_getElem?, Array.getElem?_eq_getElem hlt, Option.getD_some] at h0
        simp [hlt, h0]
      have := List.count_pos_iff.2 this
      omega
    exact ⟨hr, fin listed a E hsz hr hs hkp hm⟩
  | succ fuel ih =>
    intro listed a E hsz hc hdn hs hkp hm
    refine ⟨fun hr => fin listed a E hsz hr hs hkp hm, fun j hj => ?_⟩
    obtain ⟨h0, o, ho, hall⟩ := mem_ready.1 hj
    have hlt : j < listed.size := by
      rcases Nat.lt_or_ge j listed.size with h | h
      · exact h
      · simp [Array.getD_eq_getD_getElem?, Array.getElem?_eq_none h] at h0
    have h0' : listed.getD j false = false := by
      simp only [Array.getD_eq_getD_getElem?, Array.getElem?_eq_getElem hlt, Option.getD_some] at h0 ⊢
      exact h0
    obtain ⟨e, he⟩ := hat j o ho
    have hd : ∀ d ∈ e.deps, listed.getD d false = true := fun d hdm => by
      rw [he.deps] at hdm
      obtain ⟨ed, h1, rfl⟩ := List.mem_map.1 hdm
      obtain ⟨h2, h3⟩ := List.mem_filter.1 h1
      exact hall ed (Array.mem_toList_iff.1 h2) h3
    have key := step_any (K := wpAny C.P .any ops Q fuel (listed.setIfInBounds j true)) (Q := Q) (X := o.asks C.P a E.w ∧ LetsOut Q) hC hk (L := fun k => listed.getD k false) hdn he h0' hd (hs.P.trans hP0) hm fun E' a' hs' hkp' hm' => by
      have hf : (fun k => listed.getD k false || k == j) = fun k => (listed.setIfInBounds j true).getD k false := by
        funext k
        by_cases hkj : k = j
        · subst hkj
          simp [Array.getD_eq_getD_getElem?, hlt]
        · simp [Array.getD_eq_getD_getElem?, hkj, Array.getElem?_setIfInBounds_ne (Ne.symm hkj)]
      rw [hf] at hm'
      refine ih (listed.setIfInBounds j true) a' E' (by simpa using hsz) ?_ ?_ (hs.trans hs') (hkp.trans hkp') hm'
      · have hl : listed.toList[j]? = some false := by
          simp only [Array.getD_eq_getD_getElem?, Array.getElem?_eq_getElem hlt, Option.getD_some] at h0
          simp [hlt, h0]
        have := count_set hl
        rw [Array.toList_setIfInBounds]
        omega
      · intro k f hkf hlk d hdf
        have hlk' : (listed.getD k false || k == j) = true := by rw [← hlk]; exact congrFun hf k
        have goal : (listed.getD d false || d == j) = true := by
          by_cases hkj : k = j
          · subst hkj
            rw [he.get] at hkf
            injection hkf with hkf
            subst hkf
            rw [hd d hdf]
            rfl
          · have : listed.getD k false = true := by
              have hne : (k == j) = false := by simpa using hkj
              rwa [hne, Bool.or_false] at hlk'
            rw [hdn k f hkf this d hdf]
            rfl
        exact (congrFun hf d).symm.trans goal
    unfold wpOp
    simp only [ho]
    exact key

theorem draw_ok {C : Ctx} (hC : C.ok) (hmix : C.P.follows .mixedOrders = true) {id : Nat} {ops : Array Oper} {Q : Exit → Act → World → Prop} {σ σ' : St} {es : List Ent} (h : RegR C N ops ops.toList σ es σ') (hc : chkAll 0 es = true)
    (hP : E.P = C.P) (hm : Mod N E a σ.look) (hQ : ∀ E' a', Same E E' → Keep E E' → Mod N E' a' σ'.look → Q .normal a' E'.w) : (Code.region id ops true).wp C.P Q a E.w := by
  obtain ⟨h1, h2, h3⟩ := regR_at h
  have hk := chk_of hc
  refine wp_region_any hmix ?_
  obtain ⟨hm', hk0⟩ := drew_mod hm (E.w.drawn + 1)
  have hno : ∀ k, (Array.replicate ops.size false).getD k false = false := fun k => by
    simp only [Array.getD_eq_getD_getElem?, Array.getElem?_replicate]
    split <;> rfl
  have hf : (fun k => (Array.replicate ops.size false).getD k false) = fun _ => false := funext hno
  have none_ : ∀ (l : List Ent) (i : Nat) (g : Look), fil g (fun _ => false) i l = g := by
    intro l
    induction l with
    | nil => intro i g; rfl
    | cons y l ih => intro i g; exact ih (i + 1) g
  refine any_ok (E0 := E) hC hk (by simpa using h2) (fun j o ho => h3 j o (by simpa using ho)) (fun E' a' hs hkp hm'' => hQ E' a' hs hkp ?_) hP ops.size _ a { E with w := { E.w with drawn := E.w.drawn + 1 } } (by simp) (by simp) (fun k e _ hl => by rw [hno] at hl; cases hl) rfl hk0 ?_
  · rw [fil_true, ← h1] at hm''
    exact hm''
  · rw [hf, none_]
    exact hm'

end
end
end Dn
end Go.Proofs.YtghjblbkbelcfaaGreat

namespace Go.Proofs.YtghjblbkbelcfaaGreat
namespace Dn
noncomputable section
open Go.RowKit

/-! ### Patterns -/

/-- A part of a value: a datum of a shape, or a row of the call's own. -/
inductive Pat where
  | d (s : Sh)
  | row (t : TypeId) (e : Sh)

abbrev Pat.T : Pat → Type
  | .d s => s.T
  | .row _ e => List e.T

abbrev TsPr : List Pat → Type → Type
  | [], X => X
  | p :: r, X => p.T × TsPr r X

def restP : (ps : List Pat) → {X : Type} → TsPr ps X → X
  | [], _, x => x
  | _ :: r, _, x => restP r x.2

def cellsP : (ps : List Pat) → {X : Type} → TsPr ps X → Nat → List At
  | [], _, _, _ => []
  | .d s :: r, _, x, k => Sh.cells s x.1 ++ cellsP r x.2 k
  | .row _ _ :: r, _, x, k => .row k :: cellsP r x.2 (k + 1)

def rowsP : (ps : List Pat) → {X : Type} → TsPr ps X → Nat → List (Nat × RowI)
  | [], _, _, _ => []
  | .d _ :: r, _, x, k => rowsP r x.2 k
  | .row t e :: r, _, x, k => (k, ⟨t, e, x.1.length, x.1⟩) :: rowsP r x.2 (k + 1)

def cntP : List Pat → Nat
  | [] => 0
  | .d _ :: r => cntP r
  | .row _ _ :: r => cntP r + 1

/-- The elements of a row of the call's own, of a type and a shape; nil has none. -/
def rowOf (rk : Rk) (t : TypeId) (e : Sh) : At → Option (List e.T)
  | .row q => match rk q with
    | some (some ri) => match Nat.beq ri.t t, Sh.eq? ri.e e with
      | true, some ⟨h⟩ => some (h ▸ ri.l)
      | _, _ => none
    | _ => none
  | .v (.slice none 0 0) => some []
  | _ => none
def srcA : At → Option Nat
  | .row q => some q
  | _ => none

def readP (rk : Rk) : (ps : List Pat) → List At → {X : Type} → X → Option (TsPr ps X)
  | [], [], _, y => some y
  | [], _ :: _, _, _ => none
  | .d s :: r, l, _, y => match s.take l with
    | some (x, l') => match readP rk r l' y with
      | some z => some (x, z)
      | none => none
    | none => none
  | .row t e :: r, a :: l, _, y => match rowOf rk t e a, readP rk r l y with
    | some x, some z => some (x, z)
    | _, _ => none
  | .row _ _ :: _, [], _, _ => none

/-- The rows that the pattern's rows are. -/
def srcP : List Pat → List At → List (Option Nat)
  | [], _ => []
  | .d s :: r, l => srcP r (l.drop s.size)
  | .row _ _ :: r, a :: l => srcA a :: srcP r l
  | .row _ _ :: r, [] => srcP r []

inductive Plc where
  | slot (i : Nat) (ag : Bool)
  | blk (b : Nat)
  | row (q : Nat)

/-- How many new rows a place has; the row itself, where its elements alone are told. -/
def cntE : Plc → List Pat → Nat
  | .row _, _ => 0
  | _, ps => cntP ps
def rowsE : Plc → (ps : List Pat) → {X : Type} → TsPr ps X → Nat → List (Nat × RowI)
  | .row q, .row t e :: _, _, x, _ => [(q, ⟨t, e, x.1.length, x.1⟩)]
  | .row _, _, _, _, _ => []
  | .slot _ _, ps, _, x, k => rowsP ps x k
  | .blk _, ps, _, x, k => rowsP ps x k
def rowsOf : List (Plc × List Pat) → List Nat
  | [] => []
  | (.row q, _) :: r => q :: rowsOf r
  | (.slot _ _, _) :: r => rowsOf r
  | (.blk _, _) :: r => rowsOf r

abbrev TsR : List (Plc × List Pat) → Type
  | [] => Unit
  | p :: r => TsPr p.2 (TsR r)

def instS : (rh : List (Plc × List Pat)) → TsR rh → Nat → List (Nat × Option SlotV)
  | [], _, _ => []
  | (.slot i ag, ps) :: r, x, k => (i, some ⟨none, .c ag (cellsP ps x k)⟩) :: instS r (restP ps x) (k + cntP ps)
  | (.blk _, ps) :: r, x, k => instS r (restP ps x) (k + cntP ps)
  | (.row _, ps) :: r, x, k => instS r (restP ps x) k
def instB : (rh : List (Plc × List Pat)) → TsR rh → Nat → List (Nat × List At)
  | [], _, _ => []
  | (.slot _ _, ps) :: r, x, k => instB r (restP ps x) (k + cntP ps)
  | (.blk b, ps) :: r, x, k => (b, cellsP ps x k) :: instB r (restP ps x) (k + cntP ps)
  | (.row _, ps) :: r, x, k => instB r (restP ps x) k
def instR : (rh : List (Plc × List Pat)) → TsR rh → Nat → List (Nat × RowI)
  | [], _, _ => []
  | (p, ps) :: r, x, k => rowsE p ps x k ++ instR r (restP ps x) (k + cntE p ps)
def cntR : List (Plc × List Pat) → Nat
  | [] => 0
  | (p, ps) :: r => cntE p ps + cntR r

def cellsAt (σ : St) : Plc → Option (List At)
  | .slot i ag => match lookS σ.s i with
    | some ⟨none, .c ag' l⟩ => match ag == ag' with
      | true => some l
      | false => none
    | _ => none
  | .blk b => look σ.h b
  | .row q => some [.row q]

def readR (σ : St) : (rh : List (Plc × List Pat)) → Option (TsR rh)
  | [] => some ()
  | (p, ps) :: r => match cellsAt σ p, readR σ r with
    | some l, some y => readP (look σ.r) ps l y
    | _, _ => none
def srcR (σ : St) : List (Plc × List Pat) → List (Option Nat)
  | [] => []
  | (.row _, _) :: r => srcR σ r
  | (.slot i ag, ps) :: r => match cellsAt σ (.slot i ag) with
    | some l => srcP ps l ++ srcR σ r
    | none => srcR σ r
  | (.blk b, ps) :: r => match cellsAt σ (.blk b) with
    | some l => srcP ps l ++ srcR σ r
    | none => srcR σ r

/-- The patterns of a place in the code: slots, and blocks by the slots that hold their addresses. -/
structure Hd where
  sl : List (Nat × Bool × List Pat)
  bk : List (Nat × List Pat) := []
  rw : List (Nat × Option Nat × TypeId × Sh) := []

def plcS : List (Nat × Bool × List Pat) → List (Plc × List Pat)
  | [] => []
  | p :: r => (.slot p.1 p.2.1, p.2.2) :: plcS r
def plcB (σ : St) : List (Nat × List Pat) → Option (List (Plc × List Pat))
  | [] => some []
  | p :: r => match lookS σ.s p.1, plcB σ r with
    | some ⟨none, .c false [.ptr b 0]⟩, some l => some ((.blk b, p.2) :: l)
    | _, _ => none
/-- Rows whose elements change in place: by the slots that hold them, or the cells of blocks. -/
def plcW (σ : St) : List (Nat × Option Nat × TypeId × Sh) → Option (List (Plc × List Pat))
  | [] => some []
  | (i, none, t, e) :: r => match lookS σ.s i, plcW σ r with
    | some ⟨none, .c false [.row q]⟩, some l => some ((.row q, [.row t e]) :: l)
    | _, _ => none
  | (i, some o, t, e) :: r => match lookS σ.s i, plcW σ r with
    | some ⟨none, .c false [.ptr b 0]⟩, some l => match look σ.h b with
      | some cs => match cs[o]? with
        | some (.row q) => some ((.row q, [.row t e]) :: l)
        | _ => none
      | none => none
    | _, _ => none
def Hd.at (hd : Hd) (σ : St) : Option (List (Plc × List Pat)) := match plcB σ hd.bk, plcW σ hd.rw with
  | some l, some m => some (plcS hd.sl ++ (l ++ m))
  | _, _ => none

def somes : List (Option Nat) → List Nat
  | [] => []
  | some q :: r => q :: somes r
  | none :: r => somes r
def slotsOf : List (Plc × List Pat) → List Nat
  | [] => []
  | (.slot i _, _) :: r => i :: slotsOf r
  | (.blk _, _) :: r => slotsOf r
  | (.row _, _) :: r => slotsOf r
def blksOf : List (Plc × List Pat) → List Nat
  | [] => []
  | (.slot _ _, _) :: r => blksOf r
  | (.blk b, _) :: r => b :: blksOf r
  | (.row _, _) :: r => blksOf r

def dropK {α : Type} (W : List Nat) : List (Nat × α) → List (Nat × α)
  | [] => []
  | p :: r => match memN p.1 W with
    | true => dropK W r
    | false => p :: dropK W r
def keysBut {α : Type} (W : List Nat) : List (Nat × α) → List Nat
  | [] => []
  | p :: r => match memN p.1 W with
    | true => keysBut W r
    | false => p.1 :: keysBut W r
def lift {α : Type} : List (Nat × α) → List (Nat × Option α)
  | [] => []
  | p :: r => (p.1, some p.2) :: lift r
def kills {α : Type} : List Nat → List (Nat × Option α)
  | [] => []
  | q :: r => (q, none) :: kills r

/-- The state that a place begins with: 'W': slots that may have been written; 'srcs': the rows that its rows were at first. -/
def head (rh : List (Plc × List Pat)) (W : List Nat) (srcs : List Nat) (σ : St) (x : TsR rh) : St :=
  { s := instS rh x σ.next ++ dropK W σ.s, h := instB rh x σ.next ++ σ.h, r := lift (instR rh x σ.next) ++ (kills srcs ++ σ.r), next := σ.next + cntR rh,
    ro := keysBut (blksOf rh) σ.h ++ σ.ro, roR := keysBut (rowsOf rh ++ srcs) σ.r ++ σ.roR }

/-! ### What is asked of a place -/

def nodupN : List Nat → Bool
  | [] => true
  | q :: r => !memN q r && nodupN r
def freshN {α : Type} (l : List (Nat × α)) (k : Nat) : Nat → Bool
  | 0 => true
  | n + 1 => (match look l k with
    | none => freshN l (k + 1) n
    | some _ => false)
def hasK {α : Type} (i : Nat) : List (Nat × α) → Bool
  | [] => false
  | p :: r => Nat.beq p.1 i || hasK i r
def allIn {α : Type} (l : List (Nat × α)) : List Nat → Bool
  | [] => true
  | i :: r => hasK i l && allIn l r
def okSlots (σ : St) : List (Nat × Option SlotV) → Bool
  | [] => true
  | (_, none) :: r => okSlots σ r
  | (_, some s) :: r => allIn σ.h (idsS s.s) && allIn σ.r (ridsS s.s) && okSlots σ r
def okBlks (σ : St) : List (Nat × List At) → Bool
  | [] => true
  | p :: r => allIn σ.h (idsL p.2) && allIn σ.r (ridsL p.2) && okBlks σ r
/-- What is kept names only what there is; the new rows' numbers are new; nothing is changed that may not be. -/
def placeOk (rh : List (Plc × List Pat)) (W : List Nat) (srcs : List Nat) (σ : St) : Bool :=
  okSlots σ (dropK W σ.s) && okBlks σ σ.h && freshN σ.r σ.next (cntR rh) && offL σ.ro (blksOf rh) && offL σ.roR srcs && nodupN (blksOf rh) && (offL σ.roR (rowsOf rh) && nodupN (rowsOf rh) && allIn σ.r (rowsOf rh) && offL (rowsOf rh) srcs)
/-- A state that has come to a place has the place's data, with rows of its own. -/
def readOk (rh : List (Plc × List Pat)) (roR : List Nat) (σ' : St) : Bool := nodupN (somes (srcR σ' rh)) && offL roR (somes (srcR σ' rh)) && offL (rowsOf rh) (somes (srcR σ' rh))

def readAt (rh : List (Plc × List Pat)) (roR : List Nat) (σ' : St) : Option (TsR rh) := match readOk rh roR σ' with
  | true => readR σ' rh
  | false => none

/-! ### Soundness -/

section
variable {N : Nat} {E : Env} {a : Act}

theorem hasK_look {α : Type} {i : Nat} : ∀ {l : List (Nat × α)}, hasK i l = true → (look l i).isSome = true
  | p :: r, h => by
    simp only [hasK, Bool.or_eq_true] at h
    rw [look_cons]
    by_cases hp : i = p.1
    · rw [if_pos hp]; rfl
    · rw [if_neg hp]
      refine hasK_look (h.resolve_left fun h' => hp ?_)
      have : p.1 = i := by simpa using h'
      exact this.symm
theorem allIn_look {α : Type} {l : List (Nat × α)} : ∀ {r : List Nat}, allIn l r = true → ∀ i ∈ r, (look l i).isSome = true
  | j :: r, h, i, hi => by
    simp only [allIn, Bool.and_eq_true] at h
    rcases List.mem_cons.1 hi with rfl | hi
    · exact hasK_look h.1
    · exact allIn_look h.2 i hi
theorem look_mem {α : Type} {i : Nat} : ∀ {l : List (Nat × α)} {x : α}, look l i = some x → (i, x) ∈ l
  | p :: r, x, h => by
    rw [look_cons] at h
    split at h
    · rename_i e
      injection h with h
      rw [e, ← h]
      simp
    · exact List.mem_cons_of_mem _ (look_mem h)
theorem look_append {α : Type} {i : Nat} : ∀ {l m : List (Nat × α)}, look (l ++ m) i = match look l i with | some x => some x | none => look m i
  | [], m => rfl
  | p :: r, m => by
    rw [List.cons_append, look_cons, look_cons]
    split
    · rfl
    · exact look_append
theorem look_dropK {α : Type} {W : List Nat} {i : Nat} : ∀ {l : List (Nat × α)} {x : α}, look (dropK W l) i = some x → look l i = some x ∧ i ∉ W
  | [], x, h => by simp [dropK, look] at h
  | p :: r, x, h => by
    simp only [dropK] at h
    split at h
    · rename_i hm
      obtain ⟨h1, h2⟩ := look_dropK h
      refine ⟨?_, h2⟩
      rw [look_cons, if_neg (fun e => h2 (by rw [e]; exact memN_iff.1 hm))]
      exact h1
    · rename_i hm
      rw [look_cons] at h ⊢
      split at h
      · rename_i e
        exact ⟨by rw [if_pos e]; exact h, fun hw => by rw [e, ← memN_iff, hm] at hw; cases hw⟩
      · rename_i e
        rw [if_neg e]
        exact look_dropK h
theorem look_off_dropK {α : Type} {W : List Nat} {i : Nat} (hi : i ∉ W) : ∀ {l : List (Nat × α)}, look (dropK W l) i = look l i
  | [] => rfl
  | p :: r => by
    simp only [dropK]
    split
    · rename_i hm
      rw [look_cons, if_neg (fun e => hi (by rw [e]; exact memN_iff.1 hm))]
      exact look_off_dropK hi
    · rw [look_cons, look_cons, look_off_dropK hi]
theorem keysBut_mem {α : Type} {W : List Nat} {i : Nat} : ∀ {l : List (Nat × α)}, i ∉ W → (look l i).isSome = true → i ∈ keysBut W l
  | [], _, h => by cases h
  | p :: r, hw, h => by
    rw [look_cons] at h
    simp only [keysBut]
    split at h
    · rename_i e
      subst e
      split
      · rename_i hm; exact absurd (memN_iff.1 hm) hw
      · simp
    · split
      · exact keysBut_mem hw h
      · exact List.mem_cons_of_mem _ (keysBut_mem hw h)
theorem look_lift {α : Type} {i : Nat} : ∀ {l : List (Nat × α)}, look (lift l) i = match look l i with | some x => some (some x) | none => none
  | [] => rfl
  | p :: r => by
    simp only [lift]
    rw [look_cons, look_cons]
    split
    · rfl
    · exact look_lift
theorem look_kills {α : Type} {i : Nat} : ∀ {l : List Nat}, look (kills l : List (Nat × Option α)) i = if i ∈ l then some none else none
  | [] => rfl
  | q :: r => by
    simp only [kills]
    rw [look_cons, look_kills]
    by_cases h : i = q
    · simp [h]
    · simp [h]
theorem freshN_spec {α : Type} {l : List (Nat × α)} : ∀ {n k : Nat}, freshN l k n = true → ∀ j, k ≤ j → j < k + n → look l j = none
  | 0, k, _, j, h1, h2 => by omega
  | n + 1, k, h, j, h1, h2 => by
    simp only [freshN] at h
    split at h
    · rename_i hk
      by_cases e : j = k
      · rw [e]; exact hk
      · exact freshN_spec h j (by omega) (by omega)
    · cases h
theorem nodupN_spec : ∀ {l : List Nat}, nodupN l = true → l.Nodup
  | [], _ => List.nodup_nil
  | q :: r, h => by
    simp only [nodupN, Bool.and_eq_true] at h
    exact List.nodup_cons.2 ⟨notMem h.1, nodupN_spec h.2⟩

/-! rows of patterns: numbers and sources -/

theorem rowsP_keys : ∀ {ps : List Pat} {X : Type} {x : TsPr ps X} {k i : Nat} {ri : RowI}, look (rowsP ps x k) i = some ri → k ≤ i ∧ i < k + cntP ps
  | [], _, _, _, _, _, h => by simp [rowsP, look] at h
  | .d _ :: r, _, x, k, i, ri, h => by
    simp only [rowsP, cntP] at h ⊢
    exact rowsP_keys h
  | .row t e :: r, _, x, k, i, ri, h => by
    simp only [rowsP, cntP] at h ⊢
    rw [look_cons] at h
    split at h
    · rename_i e; omega
    · have := rowsP_keys h; omega
theorem rowsP_none : ∀ {ps : List Pat} {X : Type} {x : TsPr ps X} {k i : Nat}, (k ≤ i ∧ i < k + cntP ps) → (look (rowsP ps x k) i).isSome = true
  | [], _, _, _, _, h => by simp only [cntP] at h; omega
  | .d _ :: r, _, x, k, i, h => by
    simp only [rowsP, cntP] at h ⊢
    exact rowsP_none h
  | .row t e :: r, _, x, k, i, h => by
    simp only [rowsP, cntP] at h ⊢
    rw [look_cons]
    split
    · rfl
    · exact rowsP_none (by omega)
theorem instR_keys : ∀ {rh : List (Plc × List Pat)} {x : TsR rh} {k i : Nat}, (look (instR rh x k) i).isSome = true → (k ≤ i ∧ i < k + cntR rh) ∨ i ∈ rowsOf rh
  | [], _, _, _, h => by simp [instR, look] at h
  | (p, ps) :: r, x, k, i, h => by
    simp only [instR] at h
    rw [look_append] at h
    cases hq : look (rowsE p ps x k) i with
    | some ri =>
      cases p with
      | row q =>
        refine .inr ?_
        match ps, x, hq with
        | .row t e :: _, x, hq =>
          simp only [rowsE] at hq
          rw [look_cons] at hq
          split at hq
          · rename_i e'; rw [e']; simp [rowsOf]
          · cases hq
        | [], x, hq => simp [rowsE, look] at hq
        | .d _ :: _, x, hq => simp [rowsE, look] at hq
      | slot j ag =>
        have := rowsP_keys (ps := ps) (x := x) hq
        simp only [cntR, cntE]
        exact .inl (by omega)
      | blk b =>
        have := rowsP_keys (ps := ps) (x := x) hq
        simp only [cntR, cntE]
        exact .inl (by omega)
    | none =>
      rw [hq] at h
      simp only at h
      rcases instR_keys (rh := r) h with h1 | h1
      · simp only [cntR]
        exact .inl (by omega)
      · refine .inr ?_
        cases p <;> simp [rowsOf, h1]
theorem instR_new : ∀ {rh : List (Plc × List Pat)} {x : TsR rh} {k i : Nat}, (k ≤ i ∧ i < k + cntR rh) → (look (instR rh x k) i).isSome = true
  | [], _, _, _, h => by simp only [cntR] at h; omega
  | (p, ps) :: r, x, k, i, h => by
    simp only [instR, cntR] at h ⊢
    rw [look_append]
    cases hq : look (rowsE p ps x k) i with
    | some ri => rfl
    | none =>
      simp only
      refine instR_new (rh := r) ?_
      cases p with
      | row q => simp only [cntE] at h ⊢; omega
      | slot j ag =>
        simp only [cntE] at h ⊢
        have h2 : ¬ (k ≤ i ∧ i < k + cntP ps) := fun hc => by have := rowsP_none (x := x) hc; simp only [rowsE] at hq; rw [hq] at this; cases this
        omega
      | blk b =>
        simp only [cntE] at h ⊢
        have h2 : ¬ (k ≤ i ∧ i < k + cntP ps) := fun hc => by have := rowsP_none (x := x) hc; simp only [rowsE] at hq; rw [hq] at this; cases this
        omega

/-- The source of the row with a number. -/
def srcAt : List (Option Nat) → Nat → Nat → Option (Option Nat)
  | [], _, _ => none
  | o :: r, k, i => if i = k then some o else srcAt r (k + 1) i

theorem srcAt_append {l m : List (Option Nat)} {k i : Nat} : srcAt (l ++ m) k i = match srcAt l k i with | some o => some o | none => srcAt m (k + l.length) i := by
  induction l generalizing k with
  | nil => rfl
  | cons o l ih =>
    simp only [List.cons_append, srcAt]
    split
    · rfl
    · rw [ih, List.length_cons, show k + 1 + l.length = k + (l.length + 1) by omega]
theorem srcAt_get {l : List (Option Nat)} {k i : Nat} {o : Option Nat} (h : srcAt l k i = some o) : k ≤ i ∧ l[i - k]? = some o := by
  induction l generalizing k with
  | nil => cases h
  | cons p l ih =>
    simp only [srcAt] at h
    split at h
    · rename_i e
      injection h with h
      subst h; subst e
      exact ⟨Nat.le_refl _, by simp⟩
    · obtain ⟨h1, h2⟩ := ih h
      refine ⟨by omega, ?_⟩
      rw [show i - k = (i - (k + 1)) + 1 by omega]
      simpa using h2
theorem somes_get {l : List (Option Nat)} : ∀ {i : Nat} {q : Nat}, l[i]? = some (some q) → q ∈ somes l := by
  induction l with
  | nil => intro i q h; simp at h
  | cons o l ih =>
    intro i q h
    cases i with
    | zero =>
      simp only [List.getElem?_cons_zero, Option.some.injEq] at h
      subst h
      simp [somes]
    | succ i =>
      simp only [List.getElem?_cons_succ] at h
      have := ih h
      cases o with
      | none => exact this
      | some p => exact List.mem_cons_of_mem _ this
theorem somes_inj {l : List (Option Nat)} (hn : (somes l).Nodup) : ∀ {i j q : Nat}, l[i]? = some (some q) → l[j]? = some (some q) → i = j := by
  induction l with
  | nil => intro i j q h; simp at h
  | cons o l ih =>
    intro i j q hi hj
    have hn' : (somes l).Nodup := by
      cases o with
      | none => exact hn
      | some p => exact (List.nodup_cons.1 hn).2
    cases i with
    | zero =>
      cases j with
      | zero => rfl
      | succ j =>
        simp only [List.getElem?_cons_zero, Option.some.injEq, List.getElem?_cons_succ] at hi hj
        subst hi
        exact absurd (somes_get hj) (List.nodup_cons.1 hn).1
    | succ i =>
      cases j with
      | zero =>
        simp only [List.getElem?_cons_zero, Option.some.injEq, List.getElem?_cons_succ] at hi hj
        subst hj
        exact absurd (somes_get hi) (List.nodup_cons.1 hn).1
      | succ j =>
        simp only [List.getElem?_cons_succ] at hi hj
        rw [ih hn' hi hj]

/-! ### The setting of a place -/

def Env.re (E : Env) (h : Nat → Prop) (r : Nat → Prop) (src : Nat → Option (Option Nat)) : Env :=
  { E with L := h, R := r, ρ := fun i => match src i with
      | some (some q) => E.ρ q
      | some none => .slice none 0 0
      | none => E.ρ i }

theorem RelA.re {h r : Nat → Prop} {src : Nat → Option (Option Nat)} {x : At} {v : Value} (hv : RelA E x v) (hh : ∀ i ∈ idsA x, h i) (hr : ∀ i ∈ ridsA x, r i ∧ src i = none) : RelA (E.re h r src) x v := by
  cases x with
  | u => trivial
  | v _ => exact hv
  | ptr b o => exact ⟨hv.1, hh b (by simp [idsA])⟩
  | clo g cap => exact ⟨hv.1, fun p hp => hh p.1 (List.mem_map.2 ⟨p, hp, rfl⟩)⟩
  | sl _ _ => exact hv
  | row q =>
    obtain ⟨h1, h2, h3⟩ := hv
    obtain ⟨h4, h5⟩ := hr q (by simp [ridsA])
    exact ⟨by simp only [Env.re, h5]; exact h1, h4, h3⟩
  | ae b _ _ _ _ _ => exact ⟨hv.1, hh b (by simp [idsA])⟩
  | sn _ _ => exact hv
  | rf _ _ _ => exact hv
  | re q i sz off =>
    obtain ⟨g, h1, h2, h3⟩ := hv
    obtain ⟨h4, h5⟩ := hr q (by simp [ridsA])
    exact ⟨g, by simp only [Env.re, h5]; exact h1, h2, h4⟩
  | fn _ _ _ => exact hv

theorem RelL.re {h r : Nat → Prop} {src : Nat → Option (Option Nat)} : ∀ {l : List At} {vs : List Value}, RelL E l vs → (∀ i ∈ idsL l, h i) → (∀ i ∈ ridsL l, r i ∧ src i = none) → RelL (E.re h r src) l vs
  | [], [], _, _, _ => trivial
  | _ :: _, _ :: _, hv, hh, hr => ⟨RelA.re hv.1 (fun i hi => hh i (List.mem_append_left _ hi)) (fun i hi => hr i (List.mem_append_left _ hi)), RelL.re hv.2 (fun i hi => hh i (List.mem_append_right _ hi)) (fun i hi => hr i (List.mem_append_right _ hi))⟩
  | [], _ :: _, hv, _, _ => hv.elim
  | _ :: _, [], hv, _, _ => hv.elim
theorem RelT.re {h r : Nat → Prop} {src : Nat → Option (Option Nat)} : ∀ {l : List (Bool × List At)} {vs : List Value}, RelT E l vs → (∀ i ∈ idsT l, h i) → (∀ i ∈ ridsT l, r i ∧ src i = none) → RelT (E.re h r src) l vs
  | [], [], _, _, _ => trivial
  | _ :: _, _ :: _, ⟨⟨cs, h1, h2, h3⟩, hv⟩, hh, hr => ⟨⟨cs, h1, RelL.re h2 (fun i hi => hh i (List.mem_append_left _ hi)) (fun i hi => hr i (List.mem_append_left _ hi)), h3⟩, RelT.re hv (fun i hi => hh i (List.mem_append_right _ hi)) (fun i hi => hr i (List.mem_append_right _ hi))⟩
  | [], _ :: _, hv, _, _ => hv.elim
  | _ :: _, [], hv, _, _ => hv.elim
theorem RelV.re {h r : Nat → Prop} {src : Nat → Option (Option Nat)} {s : SV} {v : Value} (hv : RelV E s v) (hh : ∀ i ∈ idsS s, h i) (hr : ∀ i ∈ ridsS s, r i ∧ src i = none) : RelV (E.re h r src) s v := by
  cases s with
  | c ag l => obtain ⟨cs, h1, h2, h3⟩ := hv; exact ⟨cs, h1, RelL.re h2 hh hr, h3⟩
  | tup l => obtain ⟨vs, h1, h2⟩ := hv; exact ⟨vs, h1, RelT.re h2 hh hr⟩
theorem RelS.re {h r : Nat → Prop} {src : Nat → Option (Option Nat)} {s : SlotV} {v : Value} (hv : RelS E s v) (hh : ∀ i ∈ idsS s.s, h i) (hr : ∀ i ∈ ridsS s.s, r i ∧ src i = none) : RelS (E.re h r src) s v := by
  unfold RelS at *
  split at hv
  · exact RelV.re hv hh hr
  · exact ⟨fun hc => RelV.re (hv.1 hc) hh hr, hv.2⟩

/-- Cells of data name no block and no row. -/
theorem cells_ids : ∀ {s : Sh} {x : s.T}, idsL (s.cells x) = [] ∧ ridsL (s.cells x) = []
  | .int _, _ => ⟨rfl, rfl⟩
  | .bool, _ => ⟨rfl, rfl⟩
  | .str, _ => ⟨rfl, rfl⟩
  | .sl _, _ => ⟨rfl, rfl⟩
  | .pair a b, x => by
    have ha := cells_ids (s := a) (x := x.1)
    have hb := cells_ids (s := b) (x := x.2)
    have app1 : ∀ l m : List At, idsL (l ++ m) = idsL l ++ idsL m := fun l m => by induction l with | nil => rfl | cons y l ih => simp [idsL, ih]
    have app2 : ∀ l m : List At, ridsL (l ++ m) = ridsL l ++ ridsL m := fun l m => by induction l with | nil => rfl | cons y l ih => simp [ridsL, ih]
    simp only [Sh.cells, app1, app2, ha, hb, List.append_nil, and_self]
  | .agg e, x => cells_ids (s := e) (x := x)

theorem take_drop : ∀ {s : Sh} {l rest : List At} {x : s.T}, s.take l = some (x, rest) → rest = l.drop s.size
  | .int k, l, rest, x, h => by
    simp only [Sh.take, takeInt] at h
    split at h
    · split at h
      · simp only [Option.some.injEq, Prod.mk.injEq] at h; rw [← h.2]; rfl
      · cases h
    · cases h
  | .bool, l, rest, x, h => by
    simp only [Sh.take, takeBool] at h
    split at h
    · simp only [Option.some.injEq, Prod.mk.injEq] at h; rw [← h.2]; rfl
    · cases h
  | .str, l, rest, x, h => by
    simp only [Sh.take, takeStr] at h
    split at h
    · simp only [Option.some.injEq, Prod.mk.injEq] at h; rw [← h.2]; rfl
    · cases h
  | .sl e, l, rest, x, h => by
    simp only [Sh.take, takeSl] at h
    split at h
    · split at h
      · simp only [Option.some.injEq, Prod.mk.injEq] at h; rw [← h.2]; rfl
      · cases h
    · split at h
      · simp only [Option.some.injEq, Prod.mk.injEq] at h; rw [← h.2]; rfl
      · cases h
    · simp only [Option.some.injEq, Prod.mk.injEq] at h; rw [← h.2]; rfl
    · cases h
  | .pair a b, l, rest, x, h => by
    simp only [Sh.take] at h
    split at h
    · rename_i y r hy
      split at h
      · rename_i z r' hz
        simp only [Option.some.injEq, Prod.mk.injEq] at h
        rw [← h.2, take_drop hz, take_drop hy, List.drop_drop]
        rfl
      · cases h
    · cases h
  | .agg e, l, rest, x, h => take_drop (s := e) h

/-- What reads as data of patterns is what the patterns say, in the setting of the place. -/
theorem readP_rel {σ : St} (hm : MemOk E σ.look) {h r : Nat → Prop} {src : Nat → Option (Option Nat)} : ∀ {ps : List Pat} {l : List At} {vs : List Value} {X : Type} {y : X} {z : TsPr ps X} {k : Nat}, readP (look σ.r) ps l y = some z → RelL E l vs →
    (∀ j o, srcAt (srcP ps l) k j = some o → r j ∧ src j = some o) → RelL (E.re h r src) (cellsP ps z k) vs ∧ restP ps z = y ∧ (srcP ps l).length = cntP ps
  | [], [], [], _, _, z, k, hz, _, _ => by
    simp only [readP, Option.some.injEq] at hz
    exact ⟨trivial, hz.symm, rfl⟩
  | [], [], _ :: _, _, _, _, _, _, hr, _ => hr.elim
  | [], _ :: _, _, _, _, _, _, hz, _, _ => by simp [readP] at hz
  | .d s :: ps, l, vs, X, y, z, k, hz, hr, hs => by
    simp only [readP] at hz
    split at hz
    · rename_i x l' hx
      split at hz
      · rename_i w hw
        injection hz with hz
        subst hz
        obtain ⟨c1, c2, rfl, hd, h2⟩ := take_rel hx hr
        have e := take_drop hx
        simp only [srcP, ← e] at hs ⊢
        obtain ⟨i1, i2, i3⟩ := readP_rel hm (h := h) (r := r) (src := src) hw h2 hs
        have hc : RelL (E.re h r src) (s.cells x) c1 := RelL.re hd.rel (fun i hi => by rw [cells_ids.1] at hi; cases hi) (fun i hi => by rw [cells_ids.2] at hi; cases hi)
        exact ⟨hc.append i1, i2, i3⟩
      · cases hz
    · cases hz
  | .row t e :: ps, a :: l, vs, X, y, z, k, hz, hr, hs => by
    simp only [readP] at hz
    split at hz
    · rename_i x w hx hw
      injection hz with hz
      subst hz
      match vs, hr with
      | v :: vs, hr =>
        simp only [srcP] at hs ⊢
        obtain ⟨i1, i2, i3⟩ := readP_rel hm (h := h) (r := r) (src := src) (k := k + 1) hw hr.2 fun j o hj => hs j o (by
          simp only [srcAt]
          rw [if_neg (fun e => by have := (srcAt_get hj).1; omega)]
          exact hj)
        obtain ⟨h1, h2⟩ := hs k (srcA a) (by simp [srcAt])
        refine ⟨⟨?_, i1⟩, i2, by simp [cntP, i3]⟩
        -- the value is the row's
        have hra := hr.1
        show v = (match src k with | some (some q) => E.ρ q | some none => .slice none 0 0 | none => E.ρ k) ∧ r k ∧ v.oneCell' = true
        rw [h2]
        unfold rowOf at hx
        split at hx
        · rename_i q
          obtain ⟨g1, g2, g3⟩ := hra
          exact ⟨g1, h1, g3⟩
        · have g1 : v = .slice none 0 0 := hra
          subst g1
          exact ⟨rfl, h1, rfl⟩
        · cases hx
    · cases hz
  | .row _ _ :: _, [], _, _, _, _, _, hz, _, _ => by simp [readP] at hz

/-- The place's rows are rows of the state. -/
theorem readP_rows {σ : St} {rk : Rk} (hrk : rk = look σ.r) : ∀ {ps : List Pat} {l : List At} {X : Type} {y : X} {z : TsPr ps X} {k : Nat}, readP rk ps l y = some z → ∀ i ri, look (rowsP ps z k) i = some ri →
    (∃ q n, srcAt (srcP ps l) k i = some (some q) ∧ look σ.r q = some (some ⟨ri.t, ri.e, n, ri.l⟩) ∧ ri.n = ri.l.length) ∨ (srcAt (srcP ps l) k i = some none ∧ ri.l = [] ∧ ri.n = ri.l.length)
  | [], _, _, _, _, _, _, i, ri, h => by simp [rowsP, look] at h
  | .d s :: ps, l, X, y, z, k, hz, i, ri, h => by
    simp only [readP] at hz
    split at hz
    · rename_i x l' hx
      split at hz
      · rename_i w hw
        injection hz with hz
        subst hz
        have e := take_drop hx
        simp only [srcP, ← e]
        exact readP_rows hrk hw i ri h
      · cases hz
    · cases hz
  | .row t e :: ps, a :: l, X, y, z, k, hz, i, ri, h => by
    simp only [readP] at hz
    split at hz
    · rename_i x w hx hw
      injection hz with hz
      subst hz
      simp only [rowsP] at h
      rw [look_cons] at h
      simp only [srcP, srcAt]
      split at h
      · rename_i hik
        injection h with h
        subst h
        rw [if_pos hik]
        unfold rowOf at hx
        split at hx
        · rename_i q
          split at hx
          · rename_i ri hri
            split at hx
            · rename_i he ht _
              obtain ⟨rt, re, rn, rl⟩ := ri
              simp only at he ht
              subst he
              have ht : rt = t := by simpa using ht
              subst ht
              injection hx with hx
              subst hx
              exact .inl ⟨q, rn, rfl, by rw [← hrk]; exact hri, rfl⟩
            · cases hx
          · cases hx
        · injection hx with hx
          subst hx
          exact .inr ⟨rfl, rfl, rfl⟩
        · cases hx
      · rename_i hik
        rw [if_neg hik]
        exact readP_rows hrk hw i ri h
    · cases hz
  | .row _ _ :: _, [], _, _, _, _, hz, _, _, _ => by simp [readP] at hz

end
end
end Dn
end Go.Proofs.YtghjblbkbelcfaaGreat

namespace Go.Proofs.YtghjblbkbelcfaaGreat
namespace Dn
noncomputable section
open Go.RowKit

section
variable {N : Nat} {E E0 : Env} {a a0 : Act}

theorem cellsAt_slot {σ : St} (hm : Mod N E a σ.look) {i : Nat} {ag : Bool} {l : List At} (h : cellsAt σ (.slot i ag) = some l) : ∃ v cs, a.tmps[i]? = some v ∧ v = mkV ag cs ∧ RelL E l cs ∧ (ag = false → cs.length = 1) := by
  simp only [cellsAt] at h
  split at h
  · rename_i ag' l' hs
    split at h
    · rename_i hag
      have hag : ag = ag' := by simpa using hag
      subst hag
      injection h with h
      subst h
      obtain ⟨v, hv, hr⟩ := hm.slots i _ hs
      obtain ⟨cs, h1, h2, h3⟩ := (hr : RelC E ag l' v)
      exact ⟨v, cs, hv, h1, h2, h3⟩
    · cases h
  · cases h

theorem restP_read {rk : Rk} : ∀ {ps : List Pat} {l : List At} {X : Type} {y : X} {z : TsPr ps X}, readP rk ps l y = some z → restP ps z = y ∧ (srcP ps l).length = cntP ps
  | [], [], _, _, z, hz => by
    simp only [readP, Option.some.injEq] at hz
    exact ⟨hz.symm, rfl⟩
  | [], _ :: _, _, _, _, hz => by simp [readP] at hz
  | .d s :: ps, l, X, y, z, hz => by
    simp only [readP] at hz
    split at hz
    · rename_i x l' hx
      split at hz
      · rename_i w hw
        injection hz with hz
        subst hz
        have e := take_drop hx
        simp only [srcP, ← e]
        exact restP_read (ps := ps) hw
      · cases hz
    · cases hz
  | .row t e :: ps, a :: l, X, y, z, hz => by
    simp only [readP] at hz
    split at hz
    · rename_i x w hx hw
      injection hz with hz
      subst hz
      obtain ⟨h1, h2⟩ := restP_read (ps := ps) hw
      exact ⟨h1, by simp [srcP, cntP, h2]⟩
    · cases hz
  | .row _ _ :: _, [], _, _, _, hz => by simp [readP] at hz

/-- The slots of a place. -/
theorem instS_rel {σ : St} (hm : Mod N E a σ.look) {h r : Nat → Prop} {src : Nat → Option (Option Nat)} : ∀ {rh : List (Plc × List Pat)} {x : TsR rh} {k : Nat}, readR σ rh = some x →
    (∀ j o, srcAt (srcR σ rh) k j = some o → r j ∧ src j = some o) → (srcR σ rh).length = cntR rh ∧ (∀ i t, look (instS rh x k) i = some (some t) → ∃ v, a.tmps[i]? = some v ∧ RelS (E.re h r src) t v) ∧
    (∀ i l, look (instB rh x k) i = some l → ∃ l', look σ.h i = some l' ∧ ∀ cs, RelL E l' cs → RelL (E.re h r src) l cs)
  | [], x, k, _, _ => ⟨rfl, fun i t h => by simp [instS, look] at h, fun i l h => by simp [instB, look] at h⟩
  | (p, ps) :: rh, x, k, hx, hs => by
    simp only [readR] at hx
    split at hx
    · rename_i l y hl hy
      cases p with
      | row q =>
        obtain ⟨g2, _⟩ := restP_read (ps := ps) hx
        simp only [srcR] at hs ⊢
        have ih := instS_rel hm (h := h) (r := r) (src := src) (k := k) hy hs
        rw [← g2] at ih
        obtain ⟨j1, j2, j3⟩ := ih
        exact ⟨by rw [j1]; simp [cntR, cntE], j2, j3⟩
      | slot i ag =>
        simp only [srcR, hl] at hs ⊢
        have hs1 : ∀ j o, srcAt (srcP ps l) k j = some o → r j ∧ src j = some o := fun j o hj => hs j o (by rw [srcAt_append, hj])
        obtain ⟨v, cs, h1, h2, h3, h4⟩ := cellsAt_slot hm hl
        obtain ⟨g1, g2, g3⟩ := readP_rel hm.memOk (h := h) (r := r) (src := src) (k := k) hx h3 hs1
        have hs2 : ∀ j o, srcAt (srcR σ rh) (k + cntP ps) j = some o → r j ∧ src j = some o := fun j o hj => hs j o (by
          rw [srcAt_append]
          cases hq : srcAt (srcP ps l) k j with
          | none => simp only [g3]; exact hj
          | some o' =>
            have e1 := (srcAt_get hj).1
            obtain ⟨_, e3⟩ := srcAt_get hq
            have := (List.getElem?_eq_some_iff.1 e3).1
            omega)
        have ih := instS_rel hm (h := h) (r := r) (src := src) (k := k + cntP ps) hy hs2
        rw [← g2] at ih
        obtain ⟨j1, j2, j3⟩ := ih
        refine ⟨by rw [List.length_append, g3, j1]; rfl, fun i' t ht => ?_, j3⟩
        simp only [instS] at ht
        rw [look_cons] at ht
        split at ht
        · rename_i e
          subst e
          simp only [Option.some.injEq] at ht
          subst ht
          exact ⟨v, h1, (⟨cs, h2, g1, h4⟩ : RelC _ ag _ v)⟩
        · exact j2 i' t ht
      | blk b =>
        simp only [srcR, hl] at hs ⊢
        have hs1 : ∀ j o, srcAt (srcP ps l) k j = some o → r j ∧ src j = some o := fun j o hj => hs j o (by rw [srcAt_append, hj])
        have hb : look σ.h b = some l := hl
        obtain ⟨_, cs0, t0, _, h3, _⟩ := hm.blks b l hb
        obtain ⟨_, g2, g3⟩ := readP_rel hm.memOk (h := h) (r := r) (src := src) (k := k) hx h3 hs1
        have hs2 : ∀ j o, srcAt (srcR σ rh) (k + cntP ps) j = some o → r j ∧ src j = some o := fun j o hj => hs j o (by
          rw [srcAt_append]
          cases hq : srcAt (srcP ps l) k j with
          | none => simp only [g3]; exact hj
          | some o' =>
            have e1 := (srcAt_get hj).1
            obtain ⟨_, e3⟩ := srcAt_get hq
            have := (List.getElem?_eq_some_iff.1 e3).1
            omega)
        have ih := instS_rel hm (h := h) (r := r) (src := src) (k := k + cntP ps) hy hs2
        rw [← g2] at ih
        obtain ⟨j1, j2, j3⟩ := ih
        refine ⟨by rw [List.length_append, g3, j1]; rfl, j2, fun i l' ht => ?_⟩
        simp only [instB] at ht
        rw [look_cons] at ht
        split at ht
        · rename_i e
          subst e
          injection ht with ht
          subst ht
          exact ⟨l, hb, fun cs hcs => (readP_rel hm.memOk (h := h) (r := r) (src := src) (k := k) hx hcs hs1).1⟩
        · exact j3 i l' ht
    · cases hx

theorem instR_rows {σ : St} : ∀ {rh : List (Plc × List Pat)} {x : TsR rh} {k : Nat}, readR σ rh = some x →
    ∀ i ri, look (instR rh x k) i = some ri → (∃ q n, srcAt (srcR σ rh) k i = some (some q) ∧ look σ.r q = some (some ⟨ri.t, ri.e, n, ri.l⟩) ∧ ri.n = ri.l.length) ∨ (srcAt (srcR σ rh) k i = some none ∧ ri.l = [] ∧ ri.n = ri.l.length) ∨ (i ∈ rowsOf rh ∧ ∃ n, look σ.r i = some (some ⟨ri.t, ri.e, n, ri.l⟩) ∧ ri.n = ri.l.length)
  | [], x, k, _, i, ri, h => by simp [instR, look] at h
  | (p, ps) :: rh, x, k, hx, i, ri, h => by
    simp only [readR] at hx
    split at hx
    · rename_i l y hl hy
      obtain ⟨g2, g3⟩ := restP_read (ps := ps) hx
      simp only [instR] at h
      rw [look_append] at h
      have other : ∀ q : Plc, q = p → (∀ z, q ≠ .row z) → (∀ ri', look (rowsE p ps x k) i = some ri' → look (rowsP ps x k) i = some ri') → (look (rowsE p ps x k) i = none → look (rowsP ps x k) i = none) → cntE p ps = cntP ps → srcR σ ((p, ps) :: rh) = srcP ps l ++ srcR σ rh → rowsOf ((p, ps) :: rh) = rowsOf rh →
          (∃ q n, srcAt (srcR σ ((p, ps) :: rh)) k i = some (some q) ∧ look σ.r q = some (some ⟨ri.t, ri.e, n, ri.l⟩) ∧ ri.n = ri.l.length) ∨ (srcAt (srcR σ ((p, ps) :: rh)) k i = some none ∧ ri.l = [] ∧ ri.n = ri.l.length) ∨ (i ∈ rowsOf ((p, ps) :: rh) ∧ ∃ n, look σ.r i = some (some ⟨ri.t, ri.e, n, ri.l⟩) ∧ ri.n = ri.l.length) := by
        intro _ _ _ e1 e2 e3 e4 e5
        rw [e4, e5, srcAt_append, g3]
        cases hq : look (rowsE p ps x k) i with
        | some ri' =>
          rw [hq] at h
          injection h with h
          subst h
          rcases readP_rows rfl hx i ri' (e1 ri' hq) with ⟨q, n, h1, h2⟩ | ⟨h1, h2⟩
          · exact .inl ⟨q, n, by rw [h1], h2⟩
          · exact .inr (.inl ⟨by rw [h1], h2⟩)
        | none =>
          rw [hq] at h
          simp only at h
          have hno : srcAt (srcP ps l) k i = none := by
            cases hh : srcAt (srcP ps l) k i with
            | none => rfl
            | some o =>
              obtain ⟨e1, e3⟩ := srcAt_get hh
              have := (List.getElem?_eq_some_iff.1 e3).1
              have := rowsP_none (ps := ps) (x := x) (k := k) (i := i) (by omega)
              rw [e2 hq] at this
              cases this
          rw [hno]
          rw [g2, e3] at h
          exact instR_rows hy i ri h
      cases p with
      | slot j ag => exact other _ rfl (by simp) (fun _ h => h) (fun h => h) rfl (by simp [srcR, hl]) rfl
      | blk b => exact other _ rfl (by simp) (fun _ h => h) (fun h => h) rfl (by simp only [srcR, hl]) rfl
      | row q =>
        have hl' : l = [.row q] := by simp only [cellsAt, Option.some.injEq] at hl; exact hl.symm
        subst hl'
        cases hq : look (rowsE (.row q) ps x k) i with
        | some ri' =>
          rw [hq] at h
          injection h with h
          subst h
          match ps, x, hx, hq with
          | .row t e :: _, x, hx, hq =>
            simp only [rowsE] at hq
            rw [look_cons] at hq
            split at hq
            · rename_i e'
              injection hq with hq
              subst hq; subst e'
              refine .inr (.inr ⟨by simp [rowsOf], ?_⟩)
              simp only [readP] at hx
              split at hx
              · rename_i xl w hxl hw
                injection hx with hx
                subst hx
                simp only [rowOf] at hxl
                split at hxl
                · rename_i ri hri
                  split at hxl
                  · rename_i he ht _
                    obtain ⟨rt, re, rn, rl⟩ := ri
                    simp only at he ht
                    subst he
                    have ht : rt = t := by simpa using ht
                    subst ht
                    injection hxl with hxl
                    subst hxl
                    exact ⟨rn, hri, rfl⟩
                  · cases hxl
                · cases hxl
              · cases hx
            · cases hq
          | [], x, _, hq => simp [rowsE, look] at hq
          | .d _ :: _, x, _, hq => simp [rowsE, look] at hq
        | none =>
          rw [hq] at h
          simp only [cntE, Nat.add_zero] at h
          rw [g2] at h
          simp only [srcR]
          rcases instR_rows hy i ri h with h | h | ⟨h1, h2⟩
          · exact .inl h
          · exact .inr (.inl h)
          · exact .inr (.inr ⟨by simp [rowsOf, h1], h2⟩)
    · cases hx

theorem instB_keys {i : Nat} : ∀ {rh : List (Plc × List Pat)} {x : TsR rh} {k : Nat}, (look (instB rh x k) i).isSome = true ↔ i ∈ blksOf rh
  | [], _, _ => by simp [instB, look, blksOf]
  | (.slot _ _, ps) :: r, x, k => by simp only [instB, blksOf]; exact instB_keys
  | (.row _, ps) :: r, x, k => by simp only [instB, blksOf]; exact instB_keys
  | (.blk b, ps) :: r, x, k => by
    simp only [instB, blksOf]
    rw [look_cons]
    split
    · rename_i e; simp [e]
    · rename_i e
      rw [instB_keys]
      simp [e]

theorem take_row : ∀ {s : Sh} {q : Nat} {x : s.T} {l : List At}, s.take [.row q] = some (x, l) → False
  | .int _, _, _, _, h => by simp [Sh.take, takeInt] at h
  | .bool, _, _, _, h => by simp [Sh.take, takeBool] at h
  | .str, _, _, _, h => by simp [Sh.take, takeStr] at h
  | .sl _, _, _, _, h => by simp [Sh.take, takeSl] at h
  | .pair a b, q, x, l, h => by
    simp only [Sh.take] at h
    split at h
    · rename_i y r hy
      exact take_row hy
    · cases h
  | .agg e, _, _, _, h => take_row (s := e) h

/-- A row whose elements alone are told is there. -/
theorem instR_of {σ : St} {i : Nat} : ∀ {rh : List (Plc × List Pat)} {x : TsR rh} {k : Nat}, readR σ rh = some x → i ∈ rowsOf rh → (look (instR rh x k) i).isSome = true
  | (p, ps) :: r, x, k, hx, h => by
    simp only [readR] at hx
    split at hx
    · rename_i l y hl hy
      obtain ⟨g2, _⟩ := restP_read (ps := ps) hx
      simp only [instR]
      rw [look_append]
      cases hq : look (rowsE p ps x k) i with
      | some ri => rfl
      | none =>
        simp only
        rw [g2]
        refine instR_of hy ?_
        cases p with
        | slot j ag => exact h
        | blk b => exact h
        | row q =>
          simp only [rowsOf, List.mem_cons] at h
          rcases h with h | h
          · exfalso
            subst h
            have hl' : l = [.row i] := by simp only [cellsAt, Option.some.injEq] at hl; exact hl.symm
            subst hl'
            match ps, x, hx, hq with
            | .row t e :: _, x, _, hq => simp [rowsE, look_cons] at hq
            | [], x, hx, _ => simp [readP] at hx
            | .d s :: _, x, hx, _ =>
              simp only [readP] at hx
              split at hx
              · rename_i hh
                have := take_row hh
                exact this
              · cases hx
          · exact h
    · cases hx

theorem okSlots_spec {σ : St} : ∀ {l : List (Nat × Option SlotV)}, okSlots σ l = true → ∀ i s, look l i = some (some s) → (∀ b ∈ idsS s.s, (look σ.h b).isSome = true) ∧ ∀ q ∈ ridsS s.s, (look σ.r q).isSome = true
  | (j, none) :: r, hh, i, s, hi => by
    simp only [okSlots] at hh
    rw [look_cons] at hi
    split at hi
    · cases hi
    · exact okSlots_spec hh i s hi
  | (j, some t) :: r, hh, i, s, hi => by
    simp only [okSlots, Bool.and_eq_true] at hh
    rw [look_cons] at hi
    split at hi
    · injection hi with hi
      injection hi with hi
      subst hi
      exact ⟨allIn_look hh.1.1, allIn_look hh.1.2⟩
    · exact okSlots_spec hh.2 i s hi
theorem okBlks_spec {σ : St} : ∀ {l : List (Nat × List At)}, okBlks σ l = true → ∀ i m, look l i = some m → (∀ b ∈ idsL m, (look σ.h b).isSome = true) ∧ ∀ q ∈ ridsL m, (look σ.r q).isSome = true
  | (j, t) :: r, hh, i, m, hi => by
    simp only [okBlks, Bool.and_eq_true] at hh
    rw [look_cons] at hi
    split at hi
    · injection hi with hi
      subst hi
      exact ⟨allIn_look hh.1.1, allIn_look hh.1.2⟩
    · exact okBlks_spec hh.2 i m hi

/-- From the state 'σ' on, a state 'σ'' has come to the place. -/
theorem place_mod {rh : List (Plc × List Pat)} {W : List Nat} {srcs : List Nat} {σ σ' : St} {x : TsR rh} (hok : placeOk rh W srcs σ = true) (hm0 : Mod N E0 a0 σ.look) (hk : Keep E0 E) (hm : Mod N E a σ'.look) (hx : readAt rh (keysBut (rowsOf rh ++ srcs) σ.r ++ σ.roR) σ' = some x)
    (hs : ∀ i, i ∉ W → look σ'.s i = look σ.s i) (hh : ∀ i ∈ keysBut (blksOf rh) σ.h ++ σ.ro, look σ'.h i = look σ.h i) (hr : ∀ i ∈ keysBut (rowsOf rh ++ srcs) σ.r ++ σ.roR, look σ'.r i = look σ.r i) :
    ∃ E', Same E E' ∧ E'.w = E.w ∧ Keep E0 E' ∧ Mod N E' a (head rh W srcs σ x).look := by
  simp only [placeOk, Bool.and_eq_true] at hok
  obtain ⟨⟨⟨⟨⟨⟨k1, k2⟩, k3⟩, k4⟩, k5⟩, k6⟩, ⟨⟨⟨k7, k8⟩, k9⟩, k10⟩⟩ := hok
  unfold readAt at hx
  split at hx
  case h_2 => cases hx
  rename_i hro
  simp only [readOk, Bool.and_eq_true] at hro
  obtain ⟨⟨hnd, hoff⟩, hoff2⟩ := hro
  have hoff2 := offL_mem hoff2
  have hrk9 := allIn_look k9
  have hnd := nodupN_spec hnd
  have hoff := offL_mem hoff
  have hfresh := freshN_spec k3
  let g' := (head rh W srcs σ x).look
  let src : Nat → Option (Option Nat) := srcAt (srcR σ' rh) σ.next
  let E' := E.re (fun i => (g'.h i).isSome = true) (fun i => (g'.r i).isSome = true) src
  have hlen : (srcR σ' rh).length = cntR rh := (instS_rel hm (h := fun _ => True) (r := fun _ => True) (src := src) (k := σ.next) hx fun j o hj => ⟨trivial, hj⟩).1
  -- the head's rows: new ones, and those kept
  have gr : ∀ i, g'.r i = match look (instR rh x σ.next) i with | some ri => some (some ri) | none => if i ∈ srcs then some none else look σ.r i := by
    intro i
    show look (lift (instR rh x σ.next) ++ (kills srcs ++ σ.r)) i = _
    rw [look_append, look_lift]
    cases look (instR rh x σ.next) i with
    | some ri => rfl
    | none =>
      simp only
      rw [look_append, look_kills]
      by_cases h : i ∈ srcs
      · simp [h]
      · simp [h]
  have gh : ∀ i, g'.h i = match look (instB rh x σ.next) i with | some l => some l | none => look σ.h i := by
    intro i
    show look (instB rh x σ.next ++ σ.h) i = _
    rw [look_append]
    cases look (instB rh x σ.next) i <;> rfl
  have srcNew : ∀ i, (src i).isSome = true ↔ (σ.next ≤ i ∧ i < σ.next + cntR rh) := by
    intro i
    constructor
    · intro h
      cases hq : src i with
      | none => rw [hq] at h; cases h
      | some o =>
        obtain ⟨e1, e2⟩ := srcAt_get hq
        have := (List.getElem?_eq_some_iff.1 e2).1
        omega
    · intro h
      cases hq : src i with
      | some o => rfl
      | none =>
        exfalso
        have : ∀ (l : List (Option Nat)) (k : Nat), k ≤ i → i < k + l.length → srcAt l k i = none → False := by
          intro l
          induction l with
          | nil => intro k h1 h2; simp at h2; omega
          | cons o l ih =>
            intro k h1 h2 h3
            simp only [srcAt] at h3
            split at h3
            · cases h3
            · simp only [List.length_cons] at h2; exact ih (k + 1) (by omega) (by omega) h3
        exact this _ _ h.1 (by omega) hq
  have srcNone : ∀ i, (look σ.r i).isSome = true → src i = none := by
    intro i h
    cases hq : src i with
    | none => rfl
    | some o =>
      have := (srcNew i).1 (by rw [hq]; rfl)
      rw [hfresh i this.1 this.2] at h
      cases h
  have rkey : ∀ i, (look σ.r i).isSome = true → (g'.r i).isSome = true := by
    intro i h
    rw [gr]
    split
    · rfl
    · split
      · rfl
      · exact h
  have hkey : ∀ i, (look σ.h i).isSome = true → (g'.h i).isSome = true := by
    intro i h
    rw [gh]
    split
    · rfl
    · exact h
  have newR : ∀ i, (σ.next ≤ i ∧ i < σ.next + cntR rh) → (g'.r i).isSome = true := by
    intro i h
    rw [gr]
    have := instR_new (rh := rh) (x := x) (k := σ.next) (i := i) h
    cases hq : look (instR rh x σ.next) i with
    | some ri => rfl
    | none => rw [hq] at this; cases this
  obtain ⟨_, hS, hB⟩ := instS_rel hm (h := fun i => (g'.h i).isSome = true) (r := fun i => (g'.r i).isSome = true) (src := src) (k := σ.next) hx fun j o hj => ⟨newR j ((srcNew j).1 (by show (srcAt _ _ j).isSome = true; rw [hj]; rfl)), hj⟩
  have hR := instR_rows (k := σ.next) hx
  -- keeping
  have keep : Keep E0 E' := fun y v hv => by
    have hv' := hk y v hv
    refine RelA.re hv' (fun i hi => ?_) (fun i hi => ?_)
    · have : E0.L i := by
        cases y <;> simp only [idsA] at hi
        case ptr => simp only [List.mem_singleton] at hi; subst hi; exact hv.2
        case ae => simp only [List.mem_singleton] at hi; subst hi; exact hv.2
        case clo => obtain ⟨p, hp, rfl⟩ := List.mem_map.1 hi; exact hv.2 p hp
        all_goals cases hi
      exact hkey i (hm0.glob.live i this)
    · have : E0.R i := by
        cases y <;> simp only [ridsA] at hi
        case row r => simp only [List.mem_singleton] at hi; subst hi; exact hv.2.1
        case re r _ _ _ => simp only [List.mem_singleton] at hi; subst hi; obtain ⟨_, _, _, h⟩ := hv; exact h
        all_goals cases hi
      have := hm0.glob.rlive i this
      exact ⟨rkey i this, srcNone i this⟩
  -- rows that live
  have rowsL : ∀ i ri, g'.r i = some (some ri) → (∃ q n, look σ'.r q = some (some ⟨ri.t, ri.e, n, ri.l⟩) ∧ E'.ρ i = E.ρ q ∧ ((src i = some (some q)) ∨ (src i = none ∧ q = i ∧ (i ∈ keysBut (rowsOf rh ++ srcs) σ.r ++ σ.roR ∨ i ∈ rowsOf rh))) ∧ (ri.n = ri.l.length ∨ ri.n = n)) ∨ (E'.ρ i = .slice none 0 0 ∧ ri.l = [] ∧ ri.n = ri.l.length) := by
    intro i ri hi
    rw [gr] at hi
    cases hq : look (instR rh x σ.next) i with
    | some ri' =>
      rw [hq] at hi
      simp only [Option.some.injEq] at hi
      subst hi
      rcases hR i ri' hq with ⟨q, n, h1, h2, h3⟩ | ⟨h1, h2⟩ | ⟨h1, n, h2, h3⟩
      · exact .inl ⟨q, n, h2, by show (match src i with | some (some q) => E.ρ q | some none => .slice none 0 0 | none => E.ρ i) = _; rw [show src i = some (some q) from h1], .inl h1, .inl h3⟩
      · exact .inr ⟨by show (match src i with | some (some q) => E.ρ q | some none => .slice none 0 0 | none => E.ρ i) = _; rw [show src i = some none from h1], h2⟩
      · refine .inl ⟨i, n, h2, ?_, .inr ⟨srcNone i (hrk9 i h1), rfl, .inr h1⟩, .inl h3⟩
        show (match src i with | some (some q) => E.ρ q | some none => .slice none 0 0 | none => E.ρ i) = _
        rw [srcNone i (hrk9 i h1)]
    | none =>
      rw [hq] at hi
      simp only at hi
      split at hi
      · cases hi
      · rename_i hns
        have hsome : (look σ.r i).isSome = true := by rw [hi]; rfl
        have hnq : i ∉ rowsOf rh := fun hr => by
          have : (look (instR rh x σ.next) i).isSome = true := instR_of hx hr
          rw [hq] at this
          cases this
        have hmem : i ∈ keysBut (rowsOf rh ++ srcs) σ.r ++ σ.roR := List.mem_append_left _ (keysBut_mem (fun h => (List.mem_append.1 h).elim hnq hns) hsome)
        refine .inl ⟨i, ri.n, by rw [hr i hmem]; exact hi, ?_, .inr ⟨srcNone i hsome, rfl, .inl hmem⟩, .inr rfl⟩
        show (match src i with | some (some q) => E.ρ q | some none => .slice none 0 0 | none => E.ρ i) = _
        rw [srcNone i hsome]
  have blksL : ∀ i l, g'.h i = some l → ∃ l', look σ'.h i = some l' ∧ ∀ cs, RelL E l' cs → RelL E' l cs := by
    intro i l hi
    rw [gh] at hi
    cases hq : look (instB rh x σ.next) i with
    | some l0 =>
      rw [hq] at hi
      injection hi with hi
      subst hi
      exact hB i l0 hq
    | none =>
      rw [hq] at hi
      simp only at hi
      have hnb : i ∉ blksOf rh := fun hb => by
        have := (instB_keys (rh := rh) (x := x) (k := σ.next)).2 hb
        rw [hq] at this
        cases this
      have hmem : i ∈ keysBut (blksOf rh) σ.h ++ σ.ro := List.mem_append_left _ (keysBut_mem hnb (by rw [hi]; rfl))
      obtain ⟨o1, o2⟩ := okBlks_spec k2 i l hi
      exact ⟨l, by rw [hh i hmem]; exact hi, fun cs hcs => RelL.re hcs (fun b hb => hkey b (o1 b hb)) (fun q hq => ⟨rkey q (o2 q hq), srcNone q (o2 q hq)⟩)⟩
  refine ⟨E', rfl, rfl, keep, ⟨⟨hm.glob.below, hm.glob.zlt, hm.glob.z0, hm.glob.zfrom, fun b hb => hb, fun q hq => hq, fun i l hi => ?_, fun i j l l' hi hj hij => ?_, fun i ri b hi hb => ?_, fun i j ri rj b hi hj hb hb' => ?_⟩, hm.nodef, hm.size, fun i t hi => ?_, fun i l hi => ?_, fun i ri hi => ?_⟩⟩
  · obtain ⟨l', h1, _⟩ := blksL i l hi
    exact hm.glob.own i l' h1
  · obtain ⟨l1, h1, _⟩ := blksL i l hi
    obtain ⟨l2, h2, _⟩ := blksL j l' hj
    exact hm.glob.inj i j l1 l2 h1 h2 hij
  · rcases rowsL i ri hi with ⟨q, n, h1, h2, _⟩ | ⟨h1, _⟩
    · rw [h2] at hb
      obtain ⟨h3, h4⟩ := hm.glob.rown q _ b h1 hb
      exact ⟨h3, fun j l hj => by obtain ⟨l', h5, _⟩ := blksL j l hj; exact h4 j l' h5⟩
    · rw [h1] at hb; cases hb
  · rcases rowsL i ri hi with ⟨q, n, h1, h2, h3, _⟩ | ⟨h1, _⟩
    · rcases rowsL j rj hj with ⟨p, n', g1, g2, g3, _⟩ | ⟨g1, _⟩
      · rw [h2] at hb
        rw [g2] at hb'
        have hqp := hm.glob.rinj q p _ _ b h1 g1 hb hb'
        subst hqp
        rcases h3 with h3 | ⟨h3, rfl, h4⟩
        · rcases g3 with g3 | ⟨g3, rfl, g4⟩
          · obtain ⟨e1, e2⟩ := srcAt_get h3
            obtain ⟨e3, e4⟩ := srcAt_get g3
            have := somes_inj hnd e2 e4
            omega
          · rcases g4 with g4 | g4
            · exact absurd g4 (hoff q (somes_get (srcAt_get h3).2))
            · exact absurd g4 (hoff2 q (somes_get (srcAt_get h3).2))
        · rcases g3 with g3 | ⟨_, rfl, _⟩
          · rcases h4 with h4 | h4
            · exact absurd h4 (hoff q (somes_get (srcAt_get g3).2))
            · exact absurd h4 (hoff2 q (somes_get (srcAt_get g3).2))
          · rfl
      · rw [g1] at hb'; cases hb'
    · rw [h1] at hb; cases hb
  · -- slots
    simp only [St.look, lookS, head] at hi
    split at hi
    · rename_i t' hl
      injection hi with hi
      subst hi
      rw [look_append] at hl
      cases hq : look (instS rh x σ.next) i with
      | some t0 =>
        rw [hq] at hl
        injection hl with hl
        subst hl
        exact hS i t' hq
      | none =>
        rw [hq] at hl
        simp only at hl
        obtain ⟨h1, h2⟩ := look_dropK hl
        have e : σ'.look.s i = some t' := by
          show lookS σ'.s i = some t'
          simp only [lookS, hs i h2, h1]
        obtain ⟨v, h3, h4⟩ := hm.slots i t' e
        obtain ⟨o1, o2⟩ := okSlots_spec k1 i t' hl
        exact ⟨v, h3, RelS.re h4 (fun b hb => hkey b (o1 b hb)) (fun q hq => ⟨rkey q (o2 q hq), srcNone q (o2 q hq)⟩)⟩
    · cases hi
  · obtain ⟨l', h1, h2⟩ := blksL i l hi
    obtain ⟨_, cs, t, h4, h5, h6⟩ := hm.blks i l' h1
    exact ⟨by show (g'.h i).isSome = true; rw [hi]; rfl, cs, t, h4, h2 cs h5, h6⟩
  · rcases rowsL i ri hi with ⟨q, n, h1, h2, _, h5⟩ | ⟨h1, h2, h3⟩
    · obtain ⟨_, xs, h3, h4, h6⟩ := hm.rows q _ h1
      exact ⟨by show (g'.r i).isSome = true; rw [hi]; rfl, xs, by rw [h2]; exact h3, h4, h5.elim id fun e => e.trans h6⟩
    · obtain ⟨t, e, n, l⟩ := ri
      simp only at h2 h3
      subst h2
      exact ⟨by show (g'.r i).isSome = true; rw [hi]; rfl, [], by rw [h1]; exact World.ownsRow_nil _ _ _ _, rfl, h3⟩

end
end
end Dn
end Go.Proofs.YtghjblbkbelcfaaGreat
