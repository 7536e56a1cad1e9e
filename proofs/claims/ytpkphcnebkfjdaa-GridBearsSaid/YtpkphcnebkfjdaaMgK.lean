/- r19: the iterators' contracts: what the iterator over beams hands to the rounds. r19: what its functions answer (printed by a program), and that they do. r19: what its functions answer (printed by a program), and that they do; part 2. Plain lemmas for what functions answer: loops, machine numbers, lists. Names: both programs know the same ones. -/
import Derived.RangeFuncBox
import Derived.RangeFuncLeaves
import Derived.Shelf.Abstract
import Derived.TacticsInMore
import Derived.LoopNIn
import Derived.LoopIn
import Derived.Laws.StructEq
import Derived.Test.YtpkphcnebkfjdaaMgJ

namespace Go.Proofs.Ytpkphcnebkfjdaa
open Try Dn Dn.Sh Go.RowKit
attribute [local go_sem] Oper.semAt_some

/-- The places, from i on, of the beams over a depth. -/
def overG (d : Int) : List (ByteArray × Int × Int × Int) → Int → List (Int × Unit)
  | [], _ => []
  | b :: r, i => bif decide (b.2.1 ≤ d) && decide (d ≤ b.2.2.1) then (i, ()) :: overG d r (i + 1) else overG d r (i + 1)
def overL (l : List (ByteArray × Int × Int × Int)) (d : Int) : List (Int × Unit) := overG d l 0
/-- Lists that memory holds. -/
def overP (l : List (ByteArray × Int × Int × Int)) : Bool := Nat.ble l.length 4398046511104
def overIt : ICtr := ⟨[.sl T40, i64], [i64], fun x => overP x.1, fun x => overL x.1 x.2.1⟩
def its : List (Nat × ICtr) := [(90, overIt)]
theorem overG_cons {d : Int} {bs : List (ByteArray × Int × Int × Int)} {k : Nat} {b : ByteArray × Int × Int × Int} (h : bs[k]? = some b) :
    overG d (bs.drop k) k = (bif decide (b.2.1 ≤ d) && decide (d ≤ b.2.2.1) then [((k : Int), ())] else []) ++ overG d (bs.drop (k + 1)) (k + 1 : Nat) := by
  have hk := (List.getElem?_eq_some_iff.1 h).1
  rw [List.drop_eq_getElem_cons hk, (List.getElem?_eq_some_iff.1 h).2]
  simp only [overG]
  cases decide (b.2.1 ≤ d) && decide (d ≤ b.2.2.1) <;> simp
theorem load_in {n : Nat} {P : Program} {o : Oper} {a : Act} {t : TypeId} {x : Operand} {ad : Addr} {v : Value} {w : World} {next : Act → World → Prop} {Q : Exit → Act → World → Prop} (ho : o.op = .load t x) (hx : a.eval x = .pointer (some ad)) (hl : (loadVar t ad).run P w = .ok v w) (hn : next (a.put o.dst v) w) : o.wpIn Fence.wide n P a w next Q := by
  refine ⟨fun _ _ => trivial, ?_⟩
  have : (o.semAt Fence.wide.round a.eval).run P w = .ok (.value v) w := by
    simp [Oper.semAt, execOp, ho, hx, Instr.loadAt, Instr.sureAddr, hl]
  rw [this]
  exact hn
theorem list_skip {n : Nat} {P : Program} {ops : Array Oper} {o : Oper} {rest : List Oper} {a : Act} {w : World} {Q : Exit → Act → World → Prop} (h : Region.wanted o (yielded ops a.tmps) = false) (hn : wpListIn Fence.wide n P ops Q rest (a.put o.dst undef) w) : wpListIn Fence.wide n P ops Q (o :: rest) a w := by
  rw [wpListIn, h]
  exact ⟨fun _ _ => trivial, hn⟩
theorem ad0 (ad : Addr) : ad.add 0 = ad := by rcases ad with ⟨b, o, _ | s⟩ <;> rfl
set_option maxRecDepth 100000 in
set_option maxHeartbeats 8000000 in
theorem overIt_ok : ICtr.ok overIt Try.prog 90 := by
  unfold ICtr.ok
  rintro l ⟨bs, d, ⟨⟩⟩ ads J Jx W hp hJ hX hC hH hY h0
  obtain ⟨Z, hcaps, hH⟩ := hH
  obtain ⟨ad1, ads1, rfl, ⟨cs1, hd1, hc1⟩, ad2, ads2, rfl, ⟨cs2, hd2, hc2⟩, rfl⟩ := hcaps
  have hreach : bs.length * 8 ≤ 140737488351232 := by
    have hb : Nat.ble bs.length 4398046511104 = true := hp
    have := Nat.le_of_ble_eq_true hb
    omega
  refine callsIn_of_wp Try.func90 rfl trivial ?_
  simp only [Try.ntmps90, List.map_cons, List.map_nil, List.size_toArray, List.length_cons, List.length_nil, Nat.reduceAdd, Nat.reduceSub, Array.replicate_succ, Array.replicate_zero, List.push_toArray, List.append_toArray, List.nil_append, List.cons_append]
  have hdat := fun k W' hj => hH (.sl T40) bs cs1 hd1 k W' hj
  obtain ⟨A, c, rfl, hlc, hA, hel⟩ := hd1
  have hcs := hc1 0 _ rfl
  rw [ad0] at hcs
  gi_wp2
  gi_loopw [8] (fun i wr => ∃ k : Nat, k ≤ bs.length ∧ i = .int .i64 k ∧ ∃ pre : List (Int × Unit), overL bs d = pre ++ overG d (bs.drop k) k ∧ J pre.length wr) (fun i _ => bs.length - (intOf i).toNat)
  case atStart => exact ⟨0, Nat.zero_le _, rfl, [], rfl, h0⟩
  case round =>
    obtain ⟨k, hk, rfl, pre, hpre, hj⟩ := hrel
    by_cases hlt : k < bs.length
    · have hbk : bs[k]? = some bs[k] := List.getElem?_eq_getElem hlt
      generalize hbe : bs[k] = b at hbk
      obtain ⟨Z1, A1, c1, e1, q1, q2, q3⟩ := hdat _ _ hj
      simp only [List.cons.injEq, Value.slice.injEq, and_true] at e1
      obtain ⟨rfl, -, rfl⟩ := e1
      obtain ⟨ad, rfl, -, q4⟩ := q3 (by omega)
      obtain ⟨ecs, q5, q6⟩ := q4 k b hbk
      obtain ⟨name, fr, to, mo⟩ := b
      simp only [Dat] at q5
      obtain ⟨_, _, rfl, rfl, _, _, rfl, rfl, _, _, rfl, rfl, rfl⟩ := q5
      have r0 := q6 0 _ rfl
      have r1 := q6 1 _ rfl
      have r2 := q6 2 _ rfl
      have r3 := q6 3 _ rfl
      simp only [Sh.size, Nat.reduceAdd] at r0 r1 r2 r3
      have hld : (loadVar 40 (ad.add (k * 4))).run prog wr = .ok (.agg #[.string name, .int .i64 fr, .int .i64 to, .int .i64 mo]) wr :=
        run_loadVar_of (ag := true) (cs := [.string name, .int .i64 fr, .int .i64 to, .int .i64 mo]) (by kernel_rfl) (by kernel_rfl) (fun h => by cases h) wr fun j v hv => by
          rw [add_add]
          exact q6 j v hv
      have hj2 := hJ _ _ _ hj (Turned.alloc wr.heap.size wr (Obj.cells #[.string name, .int .i64 fr, .int .i64 to, .int .i64 mo] 40))
      obtain ⟨Z2, g1⟩ := hC _ _ hj2
      obtain ⟨_, _, g2, -, _, _, g3, ⟨cs3, g4, g5⟩, -⟩ := g1
      injection g2 with g2a g2
      subst g2a
      subst g2
      injection g3 with g3 g3b
      subst g3
      subst g3b
      simp only [Dat] at g4
      subst g4
      have hcd := g5 0 _ rfl
      rw [ad0] at hcd
      have hov0 := overG_cons (d := d) hbk
      dsimp only at hov0
      clear g5 hC hdat q3 q4 q6 hel
      have fin : ∀ pre2, overL bs d = pre2 ++ overG d (bs.drop (k + 1)) (k + 1 : Nat) → ∀ W3, J pre2.length W3 → ∃ k2 : Nat, k2 ≤ bs.length ∧ Value.int .i64 ((k : Int) + 1) = .int .i64 k2 ∧ ∃ pre : List (Int × Unit), overL bs d = pre ++ overG d (bs.drop k2) k2 ∧ J pre.length W3 :=
        fun pre2 h W3 hj3 => ⟨k + 1, by omega, rfl, pre2, h, hj3⟩
      by_cases h1 : fr ≤ d
      · by_cases h2 : d ≤ to
        · have hov : overL bs d = (pre ++ [((k : Int), ())]) ++ overG d (bs.drop (k + 1)) (k + 1 : Nat) := by rw [hpre, hov0]; simp [h1, h2]
          have fin2 : ∀ W3, J (pre.length + 1) W3 → _ := fun W3 hJ3 => fin (pre ++ [((k : Int), ())]) hov W3 (by rw [List.length_append]; exact hJ3)
          obtain ⟨fn, tmps, assign, body, hy, hR⟩ := hY pre.length ((k : Int), ()) [.int .i64 k] _ (by show (overL bs d)[pre.length]? = _; rw [hov]; simp; rfl) hj2 (fun Z => ⟨_, _, rfl, ⟨_, rfl, rfl, fun _ => rfl⟩, rfl⟩)
          clear hov hov0 hpre fin
          gi_wp2_with (refine load_in (t := 40) rfl rfl hld ?_)
          refine ⟨rfl, hR.mono ?_⟩
          rintro e W3 (⟨rfl, hJ3⟩ | ⟨rfl, hJx3⟩)
          · gi_wp2
            go_roundw
            case rel =>
              exact fin2 W3 hJ3
            case measure => simp [intOf]; omega
          · gi_wp2
            refine bodyPost_ret (results_none rfl _ _ _) rfl ?_
            exact ⟨⟨_, rfl⟩, .inr hJx3⟩
        · have hov : overL bs d = pre ++ overG d (bs.drop (k + 1)) (k + 1 : Nat) := by rw [hpre, hov0]; simp [h1, h2]
          have fin2 := fin pre hov _ hj2
          clear hov hov0 hpre fin
          gi_wp2_with (first | refine load_in (t := 40) rfl rfl hld ?_ | (refine list_skip rfl ?_; go_simp))
          exact ⟨⟨_, _, _, fin2, rfl, rfl, rfl⟩, by simp [intOf]; omega⟩
      · have hov : overL bs d = pre ++ overG d (bs.drop (k + 1)) (k + 1 : Nat) := by rw [hpre, hov0]; simp [h1]
        have fin2 := fin pre hov _ hj2
        clear hov hov0 hpre fin
        gi_wp2_with (first | refine load_in (t := 40) rfl rfl hld ?_ | (refine list_skip rfl ?_; go_simp))
        exact ⟨⟨_, _, _, fin2, rfl, rfl, rfl⟩, by simp [intOf]; omega⟩
    · obtain rfl : k = bs.length := by omega
      gi_wp2
      go_end0
      refine ⟨⟨_, rfl⟩, .inl ?_⟩
      show J (overL bs d).length _
      rw [hpre, List.drop_length]
      simpa [overG] using hj
theorem itsOk : ItsOk Try.prog its := itsOk_cons (by kernel_rfl) overIt_ok itsOk_nil
end Go.Proofs.Ytpkphcnebkfjdaa

namespace Go.Proofs.Ytpkphcnebkfjdaa
open Try Dn Dn.Sh

set_option maxRecDepth 100000
theorem hmix : prog.follows .mixedOrders = true := by kernel_rfl
theorem inlsOk : inlOk prog inls = true := by kernel_rfl
theorem q0 : (ctxOf prog shs inls its [] []).ok := ctxOf_nil inlsOk itsOk
/-- math bits.Mul64 -/
noncomputable def bits_Mul64_b (_ : Lp) (_ : Jn) (x0 : Int) (x1 : Int) : Option (Int × Int × Unit) :=
  
  let v4 : Int := (2 : Int) ^ (32 : Nat);
  let v5 : Int := Int.fdiv x0 v4;
  let v6 : Int := Int.fdiv x1 v4;
  let v7 : Bool := decide ((0 : Int) ≤ (32 : Int));
  let v8 : Int := IntKind.wrap IntKind.u64 (↑(Nat.land (Int.toNat (x1 % Int.ofNat (18446744073709551616 : Nat))) (Int.toNat ((4294967295 : Int) % Int.ofNat (18446744073709551616 : Nat)))) :
    Int);
  let v9 : Int := IntKind.wrap IntKind.u64 (↑(Nat.land (Int.toNat (x0 % Int.ofNat (18446744073709551616 : Nat))) (Int.toNat ((4294967295 : Int) % Int.ofNat (18446744073709551616 : Nat)))) :
    Int);
  let v10 : Int := IntKind.wrap IntKind.u64 (IntKind.wrap IntKind.u64 (v5 * v8) + Int.fdiv (IntKind.wrap IntKind.u64 (v9 * v8)) v4); bif v7 then bif v7 then bif v7 then bif v7 then bif v7
    then some (IntKind.wrap IntKind.u64 (IntKind.wrap IntKind.u64 (IntKind.wrap IntKind.u64 (v5 * v6) + Int.fdiv v10 v4) + Int.fdiv (IntKind.wrap IntKind.u64 (IntKind.wrap IntKind.u64
    (↑(Nat.land (Int.toNat (v10 % Int.ofNat (18446744073709551616 : Nat))) (Int.toNat ((4294967295 : Int) % Int.ofNat (18446744073709551616 : Nat)))) : Int) + IntKind.wrap IntKind.u64 (v9 *
    v6))) v4), IntKind.wrap IntKind.u64 (x0 * x1), PUnit.unit) else none else none else none else none else none
noncomputable def bits_Mul64 (x0 : Int) (x1 : Int) : Option (Int × Int × Unit) := bits_Mul64_b lpK jnK x0 x1
noncomputable def c98 : Ctr := ⟨[(.int .u64), (.int .u64)], [], [], .tup [(.int .u64), (.int .u64)], fun x _ _ => bits_Mul64 x.1 x.2.1⟩
theorem e98 (lp : Lp) (jn : Jn) : ∀ (x : TsS c98.as) (F : TsF c98.fs) (y : TsS c98.cs), bits_Mul64_b lp jn x.1 x.2.1 = runC lp jn (ctxOf prog shs inls its [] []) hints 4 98 f98 c98 x F y := fun x F y => by kernel_rfl
theorem l98 : (ctxOf prog shs inls its [] []).ok := q0
theorem ok98 : c98.ok prog 98 := Ctr.of_den l98 hmix (hl := hints) (d := 4) func98 rfl (by decide) (e98 lpK jnK)

/-- math bits.Mul32 -/
noncomputable def bits_Mul32_b (_ : Lp) (_ : Jn) (x0 : Int) (x1 : Int) : Option (Int × Int × Unit) :=
  
  let v4 : Int := IntKind.wrap IntKind.u64 (IntKind.wrap IntKind.u64 x0 * IntKind.wrap IntKind.u64 x1); bif decide ((0 : Int) ≤ (32 : Int)) then some (IntKind.wrap IntKind.u32 (Int.fdiv v4
    ((2 : Int) ^ (32 : Nat))), IntKind.wrap IntKind.u32 v4, PUnit.unit) else none
noncomputable def bits_Mul32 (x0 : Int) (x1 : Int) : Option (Int × Int × Unit) := bits_Mul32_b lpK jnK x0 x1
noncomputable def c109 : Ctr := ⟨[(.int .u32), (.int .u32)], [], [], .tup [(.int .u32), (.int .u32)], fun x _ _ => bits_Mul32 x.1 x.2.1⟩
theorem e109 (lp : Lp) (jn : Jn) : ∀ (x : TsS c109.as) (F : TsF c109.fs) (y : TsS c109.cs), bits_Mul32_b lp jn x.1 x.2.1 = runC lp jn (ctxOf prog shs inls its [] []) hints 4 109 f109 c109 x F y := fun x F y => by kernel_rfl
theorem l109 : (ctxOf prog shs inls its [] []).ok := q0
theorem ok109 : c109.ok prog 109 := Ctr.of_den l109 hmix (hl := hints) (d := 4) func109 rfl (by decide) (e109 lpK jnK)

/-- math bits.Mul -/
noncomputable def bits_Mul_b (_ : Lp) (_ : Jn) (bits_Mul64 : (Int) → (Int) → Option (Int × Int × Unit)) (_ : (Int) → (Int) → Option (Int × Int × Unit)) (x0 : Int) (x1 : Int) : Option (Int × Int × Unit) :=
  obind (bits_Mul64 x0 x1) fun (t : Int × Int × PUnit) => some (t.fst, t.snd.fst, PUnit.unit)
noncomputable def bits_Mul (x0 : Int) (x1 : Int) : Option (Int × Int × Unit) := bits_Mul_b lpK jnK bits_Mul64 bits_Mul32 x0 x1
noncomputable def c102 : Ctr := ⟨[(.int .u64), (.int .u64)], [], [], .tup [(.int .u64), (.int .u64)], fun x _ _ => bits_Mul x.1 x.2.1⟩
theorem e102 (lp : Lp) (jn : Jn) (bits_Mul64 : (Int) → (Int) → Option (Int × Int × Unit)) (bits_Mul32 : (Int) → (Int) → Option (Int × Int × Unit)) : ∀ (x : TsS c102.as) (F : TsF c102.fs) (y : TsS c102.cs), bits_Mul_b lp jn bits_Mul64 bits_Mul32 x.1 x.2.1 = runC lp jn (ctxOf prog shs inls its [(109, ⟨[(.int .u32), (.int .u32)], [], [], .tup [(.int .u32), (.int .u32)], fun x _ _ => bits_Mul32 x.1 x.2.1⟩), (98, ⟨[(.int .u64), (.int .u64)], [], [], .tup [(.int .u64), (.int .u64)], fun x _ _ => bits_Mul64 x.1 x.2.1⟩)] []) hints 4 102 f102 c102 x F y := fun x F y => by kernel_rfl
theorem l102 : (ctxOf prog shs inls its [(109, c109), (98, c98)] []).ok := ctxOf_cons (ctxOf_cons (q0) (by kernel_rfl) ok98) (by kernel_rfl) ok109
theorem ok102 : c102.ok prog 102 := Ctr.of_den l102 hmix (hl := hints) (d := 4) func102 rfl (by decide) (e102 lpK jnK bits_Mul64 bits_Mul32)

/-- slices.Repeat[[]loftblock api.Frac,loftblock api.Frac] -/
noncomputable def slices_Repeat_88_b (lp : Lp) (jn : Jn) (bits_Mul : (Int) → (Int) → Option (Int × Int × Unit)) (x0 : List (Int × Int)) (x1 : Int) : Option (List (Int × Int)) :=
  
  let v4 : Int := IntKind.wrap IntKind.u64 x1;
  let v5 : Bool := decide (x1 < (0 : Int)); jn PUnit (List (Int × Int)) (fun (_ : PUnit) => obind (bits_Mul (IntKind.wrap IntKind.u64 (↑(List.length x0) : Int)) v4) fun (t : Int × Int ×
    PUnit) =>
  let v8 : List (Int × Int) := List.take (Int.toNat (IntKind.wrap IntKind.i64 t.snd.fst)) x0;
  let v9 : Bool := decide (t.fst > (0 : Int));
  let v10 : Bool := !v9;
  let v11 : List (Int × Int) := List.replicate (Int.toNat (IntKind.wrap IntKind.i64 t.snd.fst)) ((0 : Int), (0 : Int)); bif !v10 || v10 then bif v9 || v10 then jn PUnit (List (Int × Int))
    (fun (_ : PUnit) => bif decide ((0 : Int) ≤ IntKind.wrap IntKind.i64 t.snd.fst) && fitB (Int.toNat (IntKind.wrap IntKind.i64 t.snd.fst)) (16 : Nat) then lp (Int × List (Int × Int) ×
    PUnit) (List (Int × Int)) (fun (again : Int × List (Int × Int) × PUnit → Option (List (Int × Int))) (x_2 : Int × List (Int × Int) × PUnit) =>
  let v15 : List (Int × Int) := List.take (Int.toNat x_2.fst) x_2.snd.fst;
  let v16 : Bool := decide (x_2.fst < (↑(List.length x_2.snd.fst) : Int));
  let v17 : List (Int × Int) := List.take (Int.toNat (↑(List.length x_2.snd.fst) : Int) - Int.toNat x_2.fst) (List.drop (0 : Nat) v15); bif v16 then bif slB x_2.fst (↑(List.length
    x_2.snd.fst) : Int) (List.length x_2.snd.fst) && v16 then bif slB (0 : Int) x_2.fst (List.length x_2.snd.fst) && decide ((0 : Int) < (↑(List.length x_2.snd.fst) : Int)) then bif Nat.ble
    (Int.toNat x_2.fst) (Int.toNat (↑(List.length x_2.snd.fst) : Int)) && (Nat.ble (Int.toNat (↑(List.length x_2.snd.fst) : Int)) (List.length x_2.snd.fst) && Nat.ble (Int.toNat x_2.fst)
    (List.length x_2.snd.fst)) then again (IntKind.wrap IntKind.i64 (x_2.fst + (↑(List.length v17) : Int)), v15 ++ v17 ++ List.drop (Int.toNat x_2.fst + List.length v17) x_2.snd.fst,
    PUnit.unit) else none else none else none else some x_2.snd.fst) ((↑(List.length v8) : Int), List.take (0 : Nat) v11 ++ v8 ++ List.drop ((0 : Nat) + List.length v8) v11, PUnit.unit)
    else none) fun (j : PUnit → Option (List (Int × Int))) => bif bif v9 then true else decide (t.snd.fst > (9223372036854775807 : Int)) then none else j PUnit.unit else none else none) fun
    (j : PUnit → Option (List (Int × Int))) => bif v5 then none else j PUnit.unit
noncomputable def slices_Repeat_88 (x0 : List (Int × Int)) (x1 : Int) : Option (List (Int × Int)) := slices_Repeat_88_b lpK jnK bits_Mul x0 x1
theorem l88 : (ctxOf prog shs inls its [(102, c102)] []).ok := ctxOf_cons (q0) (by kernel_rfl) ok102
noncomputable def r88 : RCtr := ⟨[(.sl T27), i64], 27, T27, fun x => slices_Repeat_88 x.1 x.2.1⟩
theorem e88 (lp : Lp) (jn : Jn) (bits_Mul : (Int) → (Int) → Option (Int × Int × Unit)) : ∀ x : TsS r88.as, slices_Repeat_88_b lp jn bits_Mul x.1 x.2.1 = runR lp jn (ctxOf prog shs inls its [(102, ⟨[(.int .u64), (.int .u64)], [], [], .tup [(.int .u64), (.int .u64)], fun x _ _ => bits_Mul x.1 x.2.1⟩)] []) hints 4 88 f88 r88.t r88.e (initS r88.as x 0) := fun x => by kernel_rfl
theorem okr88 : r88.ok prog 88 := RCtr.of_den (c := r88) l88 hmix (hl := hints) (d := 4) func88 rfl (by decide) (e88 lpK jnK bits_Mul)
theorem q88 : (ctxOf prog shs inls its [] [(88, r88)]).ok := ctxOf_row q0 (by kernel_rfl) okr88

/-- slices.Concat[[]loftblock api.Load,loftblock api.Load] -/
noncomputable def slices_Concat_29_b (lp : Lp) (jn : Jn) (x0 : List (List (Int × Int))) : Option (List (Int × Int)) :=
  lp (Int × Int × PUnit) (List (Int × Int)) (fun (again : Int × Int × PUnit → Option (List (Int × Int))) (x : Int × Int × PUnit) => bif decide (x.snd.fst < (↑(List.length x0) : Int)) then bif
    inB x.snd.fst (List.length x0) then bif decide (IntKind.wrap IntKind.i64 (x.fst + (↑(List.length (List.getD x0 (Int.toNat x.snd.fst) [])) : Int)) < (0 : Int)) then none else again
    (IntKind.wrap IntKind.i64 (x.fst + (↑(List.length (List.getD x0 (Int.toNat x.snd.fst) [])) : Int)), IntKind.wrap IntKind.i64 (x.snd.fst + (1 : Int)), PUnit.unit) else none else jn PUnit
    (List (Int × Int)) (fun (_ : PUnit) => bif decide (IntKind.wrap IntKind.i64 (x.fst - IntKind.wrap IntKind.i64 ((↑(0 : Nat) : Int) - (↑(0 : Nat) : Int))) > (0 : Int)) then bif slB (0 :
    Int) (↑(0 : Nat) : Int) (0 : Nat) then bif decide ((0 : Int) < IntKind.wrap IntKind.i64 (x.fst - IntKind.wrap IntKind.i64 ((↑(0 : Nat) : Int) - (↑(0 : Nat) : Int)))) && fitB (Int.toNat
    (IntKind.wrap IntKind.i64 (x.fst - IntKind.wrap IntKind.i64 ((↑(0 : Nat) : Int) - (↑(0 : Nat) : Int))))) (16 : Nat) then bif slB (0 : Int) (↑(0 : Nat) : Int) (Int.toNat (IntKind.wrap
    IntKind.i64 (x.fst - IntKind.wrap IntKind.i64 ((↑(0 : Nat) : Int) - (↑(0 : Nat) : Int))))) && decide ((0 : Nat) < Int.toNat (IntKind.wrap IntKind.i64 (x.fst - IntKind.wrap IntKind.i64
    ((↑(0 : Nat) : Int) - (↑(0 : Nat) : Int))))) then lp (List (Int × Int) × Int × PUnit) (List (Int × Int)) (fun (again : List (Int × Int) × Int × PUnit → Option (List (Int × Int))) (x :
    List (Int × Int) × Int × PUnit) =>
  let v8 : List (Int × Int) := List.getD x0 (Int.toNat x.snd.fst) []; bif decide (x.snd.fst < (↑(List.length x0) : Int)) then bif inB x.snd.fst (List.length x0) then bif fitB (List.length
    x.fst + List.length v8) (16 : Nat) then again (x.fst ++ v8, IntKind.wrap IntKind.i64 (x.snd.fst + (1 : Int)), PUnit.unit) else none else none else some x.fst) (List.take (Int.toNat (↑(0
    : Nat) : Int)) (List.replicate (Int.toNat (IntKind.wrap IntKind.i64 (x.fst - IntKind.wrap IntKind.i64 ((↑(0 : Nat) : Int) - (↑(0 : Nat) : Int))))) ((0 : Int), (0 : Int))), (0 : Int),
    PUnit.unit) else none else none else none else lp (List (Int × Int) × Int × PUnit) (List (Int × Int)) (fun (again : List (Int × Int) × Int × PUnit → Option (List (Int × Int))) (x : List
    (Int × Int) × Int × PUnit) =>
  let v8 : List (Int × Int) := List.getD x0 (Int.toNat x.snd.fst) []; bif decide (x.snd.fst < (↑(List.length x0) : Int)) then bif inB x.snd.fst (List.length x0) then bif fitB (List.length
    x.fst + List.length v8) (16 : Nat) then again (x.fst ++ v8, IntKind.wrap IntKind.i64 (x.snd.fst + (1 : Int)), PUnit.unit) else none else none else some x.fst) ([], (0 : Int),
    PUnit.unit)) fun (j : PUnit → Option (List (Int × Int))) => bif decide (x.fst < (0 : Int)) then none else j PUnit.unit) ((0 : Int), (0 : Int), PUnit.unit)
noncomputable def slices_Concat_29 (x0 : List (List (Int × Int))) : Option (List (Int × Int)) := slices_Concat_29_b lpK jnK x0
theorem l29 : (ctxOf prog shs inls its [] [(88, r88)]).ok := q88
noncomputable def r29 : RCtr := ⟨[(.sl (.sl T60))], 60, T60, fun x => slices_Concat_29 x.1⟩
theorem e29 (lp : Lp) (jn : Jn) : ∀ x : TsS r29.as, slices_Concat_29_b lp jn x.1 = runR lp jn (ctxOf prog shs inls its [] [(88, r88)]) hints 4 29 f29 r29.t r29.e (initS r29.as x 0) := fun x => by kernel_rfl
theorem okr29 : r29.ok prog 29 := RCtr.of_den (c := r29) l29 hmix (hl := hints) (d := 4) func29 rfl (by decide) (e29 lpK jnK)
theorem q29 : (ctxOf prog shs inls its [] [(29, r29), (88, r88)]).ok := ctxOf_row q88 (by kernel_rfl) okr29

/-- slices.Clone[[]loftblock api.Load,loftblock api.Load] -/
noncomputable def slices_Clone_37_b (_ : Lp) (_ : Jn) (x0 : List (Int × Int)) : Option (List (Int × Int)) :=
  bif fitB ((0 : Nat) + List.length x0) (16 : Nat) then some x0 else none
noncomputable def slices_Clone_37 (x0 : List (Int × Int)) : Option (List (Int × Int)) := slices_Clone_37_b lpK jnK x0
theorem l37 : (ctxOf prog shs inls its [] [(29, r29), (88, r88)]).ok := q29
noncomputable def r37 : RCtr := ⟨[(.sl T60)], 60, T60, fun x => slices_Clone_37 x.1⟩
theorem e37 (lp : Lp) (jn : Jn) : ∀ x : TsS r37.as, slices_Clone_37_b lp jn x.1 = runR lp jn (ctxOf prog shs inls its [] [(29, r29), (88, r88)]) hints 4 37 f37 r37.t r37.e (initN r37.as x true) := fun x => by kernel_rfl
theorem okr37 : r37.ok prog 37 := RCtr.of_den_nil (c := r37) l37 hmix (hl := hints) (d := 4) rfl func37 rfl (by decide) (e37 lpK jnK) fun x h => by
  obtain ⟨l, u⟩ := x
  simp only at h
  subst h
  kernel_rfl
theorem q37 : (ctxOf prog shs inls its [] [(37, r37), (29, r29), (88, r88)]).ok := ctxOf_row q29 (by kernel_rfl) okr37

/-- slices.IndexFunc[[]loftblock api.Roof,loftblock api.Roof] -/
noncomputable def slices_IndexFunc_85_b (lp : Lp) (_ : Jn) (x0 : List (ByteArray × Int × Int × Int)) (f0 : (((ByteArray × Int × Int × Int) × Unit) → Option Bool)) : Option Int :=
  lp (Int × PUnit) Int (fun (again : Int × PUnit → Option Int) (x : Int × PUnit) => bif decide (x.fst < (↑(List.length x0) : Int)) then bif inB x.fst (List.length x0) then obind (f0
    (List.getD x0 (Int.toNat x.fst) ({ data := { toList := [] } }, (0 : Int), (0 : Int), (0 : Int)), PUnit.unit)) fun (t : Bool) => bif t then some x.fst else again (IntKind.wrap
    IntKind.i64 (x.fst + (1 : Int)), PUnit.unit) else none else some (-1 : Int)) ((0 : Int), PUnit.unit)
noncomputable def slices_IndexFunc_85 (x0 : List (ByteArray × Int × Int × Int)) (f0 : (((ByteArray × Int × Int × Int) × Unit) → Option Bool)) : Option Int := slices_IndexFunc_85_b lpK jnK x0 f0
noncomputable def c85 : Ctr := ⟨[(.sl T40)], [([T40], .bool)], [], .one i64, fun x F _ => slices_IndexFunc_85 x.1 F.1⟩
theorem e85 (lp : Lp) (jn : Jn) : ∀ (x : TsS c85.as) (F : TsF c85.fs) (y : TsS c85.cs), slices_IndexFunc_85_b lp jn x.1 F.1 = runC lp jn (ctxOf prog shs inls its [] [(37, r37), (29, r29), (88, r88)]) hints 4 85 f85 c85 x F y := fun x F y => by kernel_rfl
theorem l85 : (ctxOf prog shs inls its [] [(37, r37), (29, r29), (88, r88)]).ok := q37
theorem ok85 : c85.ok prog 85 := Ctr.of_den l85 hmix (hl := hints) (d := 4) func85 rfl (by decide) (e85 lpK jnK)

/-- slices.ContainsFunc[[]loftblock api.Roof,loftblock api.Roof] -/
noncomputable def slices_ContainsFunc_41_b (_ : Lp) (_ : Jn) (slices_IndexFunc_85 : (List (ByteArray × Int × Int × Int)) → ((((ByteArray × Int × Int × Int) × Unit) → Option Bool)) → Option (Int)) (x0 : List (ByteArray × Int × Int × Int)) (f0 : (((ByteArray × Int × Int × Int) × Unit) → Option Bool)) : Option Bool :=
  obind (slices_IndexFunc_85 x0 f0) fun (t : Int) => some (decide (t ≥ (0 : Int)))
noncomputable def slices_ContainsFunc_41 (x0 : List (ByteArray × Int × Int × Int)) (f0 : (((ByteArray × Int × Int × Int) × Unit) → Option Bool)) : Option Bool := slices_ContainsFunc_41_b lpK jnK slices_IndexFunc_85 x0 f0
noncomputable def c41 : Ctr := ⟨[(.sl T40)], [([T40], .bool)], [], .one .bool, fun x F _ => slices_ContainsFunc_41 x.1 F.1⟩
theorem e41 (lp : Lp) (jn : Jn) (slices_IndexFunc_85 : (List (ByteArray × Int × Int × Int)) → ((((ByteArray × Int × Int × Int) × Unit) → Option Bool)) → Option (Int)) : ∀ (x : TsS c41.as) (F : TsF c41.fs) (y : TsS c41.cs), slices_ContainsFunc_41_b lp jn slices_IndexFunc_85 x.1 F.1 = runC lp jn (ctxOf prog shs inls its [(85, ⟨[(.sl T40)], [([T40], .bool)], [], .one i64, fun x F _ => slices_IndexFunc_85 x.1 F.1⟩)] [(37, r37), (29, r29), (88, r88)]) hints 4 41 f41 c41 x F y := fun x F y => by kernel_rfl
theorem l41 : (ctxOf prog shs inls its [(85, c85)] [(37, r37), (29, r29), (88, r88)]).ok := ctxOf_cons (q37) (by kernel_rfl) ok85
theorem ok41 : c41.ok prog 41 := Ctr.of_den l41 hmix (hl := hints) (d := 4) func41 rfl (by decide) (e41 lpK jnK slices_IndexFunc_85)

/-- loftblock grid.within -/
noncomputable def grid_within_b (_ : Lp) (_ : Jn) (x0 : Int) : Option Bool :=
  
  let v3 : Bool := decide (x0 ≥ (0 : Int));
  let v4 : Bool := !v3 || v3; bif v4 then bif v4 then some (bif v3 then decide (x0 ≤ (1048576 : Int)) else false) else none else none
noncomputable def grid_within (x0 : Int) : Option Bool := grid_within_b lpK jnK x0
noncomputable def c46 : Ctr := ⟨[i64], [], [], .one .bool, fun x _ _ => grid_within x.1⟩
theorem e46 (lp : Lp) (jn : Jn) : ∀ (x : TsS c46.as) (F : TsF c46.fs) (y : TsS c46.cs), grid_within_b lp jn x.1 = runC lp jn (ctxOf prog shs inls its [] [(37, r37), (29, r29), (88, r88)]) hints 4 46 f46 c46 x F y := fun x F y => by kernel_rfl
theorem l46 : (ctxOf prog shs inls its [] [(37, r37), (29, r29), (88, r88)]).ok := q37
theorem ok46 : c46.ok prog 46 := Ctr.of_den l46 hmix (hl := hints) (d := 4) func46 rfl (by decide) (e46 lpK jnK)

/-- loftblock decimal.letter -/
noncomputable def decimal_letter_b (_ : Lp) (_ : Jn) (x0 : Int) : Option Bool :=
  
  let v3 : Bool := decide (x0 ≥ (97 : Int));
  let v4 : Bool := decide (x0 ≥ (65 : Int));
  let v5 : Bool := !v3 || v3;
  let v6 : Bool := bif v3 then decide (x0 ≤ (122 : Int)) else false;
  let v7 : Bool := !v6;
  let v8 : Bool := !v7;
  let v9 : Bool := v7 && v4;
  let v10 : Bool := v8 || v7; bif v5 then bif v5 then bif v10 then bif v10 then bif !v9 || v9 then bif (v8 || v10) && (v8 || (!v4 || (v8 || v9))) then bif v6 || v7 then some (bif v6 then
    true else bif v4 then decide (x0 ≤ (90 : Int)) else false) else none else none else none else none else none else none else none
noncomputable def decimal_letter (x0 : Int) : Option Bool := decimal_letter_b lpK jnK x0
noncomputable def c105 : Ctr := ⟨[(.int .u8)], [], [], .one .bool, fun x _ _ => decimal_letter x.1⟩
theorem e105 (lp : Lp) (jn : Jn) : ∀ (x : TsS c105.as) (F : TsF c105.fs) (y : TsS c105.cs), decimal_letter_b lp jn x.1 = runC lp jn (ctxOf prog shs inls its [] [(37, r37), (29, r29), (88, r88)]) hints 4 105 f105 c105 x F y := fun x F y => by kernel_rfl
theorem l105 : (ctxOf prog shs inls its [] [(37, r37), (29, r29), (88, r88)]).ok := q37
theorem ok105 : c105.ok prog 105 := Ctr.of_den l105 hmix (hl := hints) (d := 4) func105 rfl (by decide) (e105 lpK jnK)

/-- loftblock decimal.digit -/
noncomputable def decimal_digit_b (_ : Lp) (_ : Jn) (x0 : Int) : Option Bool :=
  
  let v3 : Bool := decide (x0 ≥ (48 : Int));
  let v4 : Bool := !v3 || v3; bif v4 then bif v4 then some (bif v3 then decide (x0 ≤ (57 : Int)) else false) else none else none
noncomputable def decimal_digit (x0 : Int) : Option Bool := decimal_digit_b lpK jnK x0
noncomputable def c111 : Ctr := ⟨[(.int .u8)], [], [], .one .bool, fun x _ _ => decimal_digit x.1⟩
theorem e111 (lp : Lp) (jn : Jn) : ∀ (x : TsS c111.as) (F : TsF c111.fs) (y : TsS c111.cs), decimal_digit_b lp jn x.1 = runC lp jn (ctxOf prog shs inls its [] [(37, r37), (29, r29), (88, r88)]) hints 4 111 f111 c111 x F y := fun x F y => by kernel_rfl
theorem l111 : (ctxOf prog shs inls its [] [(37, r37), (29, r29), (88, r88)]).ok := q37
theorem ok111 : c111.ok prog 111 := Ctr.of_den l111 hmix (hl := hints) (d := 4) func111 rfl (by decide) (e111 lpK jnK)

/-- loftblock decimal.word -/
noncomputable def decimal_word_b (lp : Lp) (_ : Jn) (decimal_letter : (Int) → Option (Bool)) (decimal_digit : (Int) → Option (Bool)) (x0 : ByteArray) : Option Int :=
  lp (Int × PUnit) Int (fun (again : Int × PUnit → Option Int) (x : Int × PUnit) =>
  let v5 : Bool := inB x.fst (ByteArray.size x0);
  let v6 : Int := byteAt x0 (Int.toNat x.fst);
  let v7 : Bool := decide (x.fst < (↑(ByteArray.size x0) : Int));
  let v8 : Bool := !v7;
  let v9 : Bool := v8 || v7;
  let v10 : Bool := v8 || v9; bif v9 && (v9 && (v8 || v5)) then bif v9 then obind (bif v7 then decimal_letter v6 else some false) fun (t : Bool) =>
  let v12 : Bool := v7 && !t;
  let v13 : Bool := !v12;
  let v14 : Bool := v13 || v12; bif v9 then bif v14 && (v14 && (v13 || v5)) then bif v14 then obind (bif v12 then decimal_digit v6 else some false) fun (t_1 : Bool) =>
  let v16 : Bool := bif t then true else t_1;
  let v17 : Bool := v7 && !v16;
  let v18 : Bool := !v17;
  let v19 : Bool := v18 || v17; bif v10 && (v8 || (t || (v8 || v12))) then bif v9 then bif v19 && (v19 && (v18 || v5)) then bif v19 then bif v10 && (v8 || (v16 || (v8 || v17))) then bif v9
    then bif bif v7 then bif v16 then true else decide (v6 = (95 : Int)) else false then again (IntKind.wrap IntKind.i64 (x.fst + (1 : Int)), PUnit.unit) else some x.fst else none else none
    else none else none else none else none else none else none else none else none else none) ((0 : Int), PUnit.unit)
noncomputable def decimal_word (x0 : ByteArray) : Option Int := decimal_word_b lpK jnK decimal_letter decimal_digit x0
noncomputable def c106 : Ctr := ⟨[.str], [], [], .one i64, fun x _ _ => decimal_word x.1⟩
theorem e106 (lp : Lp) (jn : Jn) (decimal_letter : (Int) → Option (Bool)) (decimal_digit : (Int) → Option (Bool)) : ∀ (x : TsS c106.as) (F : TsF c106.fs) (y : TsS c106.cs), decimal_word_b lp jn decimal_letter decimal_digit x.1 = runC lp jn (ctxOf prog shs inls its [(111, ⟨[(.int .u8)], [], [], .one .bool, fun x _ _ => decimal_digit x.1⟩), (105, ⟨[(.int .u8)], [], [], .one .bool, fun x _ _ => decimal_letter x.1⟩)] [(37, r37), (29, r29), (88, r88)]) hints 4 106 f106 c106 x F y := fun x F y => by kernel_rfl
theorem l106 : (ctxOf prog shs inls its [(111, c111), (105, c105)] [(37, r37), (29, r29), (88, r88)]).ok := ctxOf_cons (ctxOf_cons (q37) (by kernel_rfl) ok105) (by kernel_rfl) ok111
theorem ok106 : c106.ok prog 106 := Ctr.of_den l106 hmix (hl := hints) (d := 4) func106 rfl (by decide) (e106 lpK jnK decimal_letter decimal_digit)

/-- loftblock decimal.IsName -/
noncomputable def decimal_IsName_b (_ : Lp) (_ : Jn) (decimal_letter : (Int) → Option (Bool)) (decimal_word : (ByteArray) → Option (Int)) (x0 : ByteArray) : Option Bool :=
  
  let v3 : Bool := !List.beq (ByteArray.toList x0) (ByteArray.toList { data := #[] });
  let v4 : Bool := !v3 || v3;
  let v5 : Bool := bif v3 then decide ((↑(ByteArray.size x0) : Int) ≤ (20 : Int)) else false;
  let v6 : Bool := !v5;
  let v7 : Bool := v6 || v5; bif v4 then bif v4 then bif v4 then bif v7 && (v6 || inB (0 : Int) (ByteArray.size x0)) then bif v7 then obind (bif v5 then decimal_letter (byteAt x0 (0 : Nat))
    else some false) fun (t : Bool) =>
  let v9 : Bool := bif v5 then t else false;
  let v10 : Bool := !v9 || v9; bif v7 then bif v10 then obind (bif v9 then decimal_word x0 else some (0 : Int)) fun (t : Int) => bif v10 then bif v10 && v10 then bif v10 then some (bif v9
    then decide (t = (↑(ByteArray.size x0) : Int)) else false) else none else none else none else none else none else none else none else none else none else none
noncomputable def decimal_IsName (x0 : ByteArray) : Option Bool := decimal_IsName_b lpK jnK decimal_letter decimal_word x0
noncomputable def c93 : Ctr := ⟨[.str], [], [], .one .bool, fun x _ _ => decimal_IsName x.1⟩
theorem e93 (lp : Lp) (jn : Jn) (decimal_letter : (Int) → Option (Bool)) (decimal_word : (ByteArray) → Option (Int)) : ∀ (x : TsS c93.as) (F : TsF c93.fs) (y : TsS c93.cs), decimal_IsName_b lp jn decimal_letter decimal_word x.1 = runC lp jn (ctxOf prog shs inls its [(106, ⟨[.str], [], [], .one i64, fun x _ _ => decimal_word x.1⟩), (105, ⟨[(.int .u8)], [], [], .one .bool, fun x _ _ => decimal_letter x.1⟩)] [(37, r37), (29, r29), (88, r88)]) hints 4 93 f93 c93 x F y := fun x F y => by kernel_rfl
theorem l93 : (ctxOf prog shs inls its [(106, c106), (105, c105)] [(37, r37), (29, r29), (88, r88)]).ok := ctxOf_cons (ctxOf_cons (q37) (by kernel_rfl) ok105) (by kernel_rfl) ok106
theorem ok93 : c93.ok prog 93 := Ctr.of_den l93 hmix (hl := hints) (d := 4) func93 rfl (by decide) (e93 lpK jnK decimal_letter decimal_word)

/-- loftblock grid.isName -/
noncomputable def grid_isName_b (_ : Lp) (_ : Jn) (decimal_IsName : (ByteArray) → Option (Bool)) (x0 : ByteArray) : Option Bool :=
  obind (decimal_IsName x0) fun (t : Bool) => some t
noncomputable def grid_isName (x0 : ByteArray) : Option Bool := grid_isName_b lpK jnK decimal_IsName x0
noncomputable def c60 : Ctr := ⟨[.str], [], [], .one .bool, fun x _ _ => grid_isName x.1⟩
theorem e60 (lp : Lp) (jn : Jn) (decimal_IsName : (ByteArray) → Option (Bool)) : ∀ (x : TsS c60.as) (F : TsF c60.fs) (y : TsS c60.cs), grid_isName_b lp jn decimal_IsName x.1 = runC lp jn (ctxOf prog shs inls its [(93, ⟨[.str], [], [], .one .bool, fun x _ _ => decimal_IsName x.1⟩)] [(37, r37), (29, r29), (88, r88)]) hints 4 60 f60 c60 x F y := fun x F y => by kernel_rfl
theorem l60 : (ctxOf prog shs inls its [(93, c93)] [(37, r37), (29, r29), (88, r88)]).ok := ctxOf_cons (q37) (by kernel_rfl) ok93
theorem ok60 : c60.ok prog 60 := Ctr.of_den l60 hmix (hl := hints) (d := 4) func60 rfl (by decide) (e60 lpK jnK decimal_IsName)

/-- loftblock grid.Valid$1 -/
noncomputable def grid_Valid_1_b (_ : Lp) (_ : Jn) (x0 : ByteArray × Int × Int × Int) (y0 : ByteArray × Int × Int × Int) : Option Bool :=
  some (List.beq (ByteArray.toList x0.fst) (ByteArray.toList y0.fst))
noncomputable def grid_Valid_1 (x0 : ByteArray × Int × Int × Int) (y0 : ByteArray × Int × Int × Int) : Option Bool := grid_Valid_1_b lpK jnK x0 y0
noncomputable def c61 : Ctr := ⟨[T40], [], [T40], .one .bool, fun x _ y => grid_Valid_1 x.1 y.1⟩
theorem e61 (lp : Lp) (jn : Jn) : ∀ (x : TsS c61.as) (F : TsF c61.fs) (y : TsS c61.cs), grid_Valid_1_b lp jn x.1 y.1 = runC lp jn (ctxOf prog shs inls its [] [(37, r37), (29, r29), (88, r88)]) hints 4 61 f61 c61 x F y := fun x F y => by kernel_rfl
theorem l61 : (ctxOf prog shs inls its [] [(37, r37), (29, r29), (88, r88)]).ok := q37
theorem ok61 : c61.ok prog 61 := Ctr.of_den l61 hmix (hl := hints) (d := 4) func61 rfl (by decide) (e61 lpK jnK)

/-- loftblock grid.Valid -/
noncomputable def grid_Valid_b (lp : Lp) (_ : Jn) (slices_ContainsFunc_41 : (List (ByteArray × Int × Int × Int)) → ((((ByteArray × Int × Int × Int) × Unit) → Option Bool)) → Option (Bool)) (grid_within : (Int) → Option (Bool)) (grid_isName : (ByteArray) → Option (Bool)) (grid_Valid_1 : (ByteArray × Int × Int × Int) → (ByteArray × Int × Int × Int) → Option (Bool)) (x0 : List (ByteArray × Int × Int × Int)) : Option Bool :=
  bif decide ((↑(List.length x0) : Int) > (20 : Int)) then some false else lp (Int × PUnit) Bool (fun (again : Int × PUnit → Option Bool) (x : Int × PUnit) =>
  let v5 : ByteArray × Int × Int × Int := List.getD x0 (Int.toNat x.fst) ({ data := { toList := [] } }, (0 : Int), (0 : Int), (0 : Int)); bif decide (x.fst < (↑(List.length x0) : Int)) then
    bif inB x.fst (List.length x0) then obind (grid_isName v5.fst) fun (t : Bool) =>
  let v7 : Bool := !t;
  let v8 : Bool := !v7;
  let v9 : Bool := !v8 || v8; bif v9 then bif v9 then obind (bif v8 then grid_within v5.snd.fst else some false) fun (t : Bool) =>
  let v11 : Bool := bif v7 then true else !t;
  let v12 : Bool := !v11;
  let v13 : Bool := !v12 || v12; bif v9 then bif v7 || v8 then bif v13 then bif v13 then obind (bif v12 then grid_within v5.snd.snd.fst else some false) fun (t : Bool) =>
  let v15 : Bool := bif v11 then true else !t;
  let v16 : Bool := !v15;
  let v17 : Bool := !v16 || v16;
  let v18 : Bool := bif v15 then true else decide (v5.snd.fst > v5.snd.snd.fst);
  let v19 : Bool := !v18;
  let v20 : Bool := bif v18 then true else decide (v5.snd.snd.snd < (0 : Int));
  let v21 : Bool := !v20;
  let v22 : Bool := !v19 || v19;
  let v23 : Bool := !v21 || v21; bif v13 then bif v11 || v12 then bif v17 then bif v17 then bif v17 && v17 then bif v15 || v16 then bif v22 then bif v22 then bif v18 || v19 then bif v23
    then bif v23 then bif v20 || v21 then bif bif v20 then true else decide (v5.snd.snd.snd > (67108864 : Int)) then some false else bif slB (0 : Int) x.fst (List.length x0) then obind
    (slices_ContainsFunc_41 (List.drop (0 : Nat) (List.take (Int.toNat x.fst) x0)) fun (x : (ByteArray × Int × Int × Int) × PUnit) => grid_Valid_1 x.fst v5) fun (t : Bool) => bif t then
    some false else again (IntKind.wrap IntKind.i64 (x.fst + (1 : Int)), PUnit.unit) else none else none else none else none else none else none else none else none else none else none else
    none else none else none else none else none else none else none else none else none else none else some true) ((0 : Int), PUnit.unit)
noncomputable def grid_Valid (x0 : List (ByteArray × Int × Int × Int)) : Option Bool := grid_Valid_b lpK jnK slices_ContainsFunc_41 grid_within grid_isName grid_Valid_1 x0
noncomputable def c15 : Ctr := ⟨[(.sl T40)], [], [], .one .bool, fun x _ _ => grid_Valid x.1⟩
theorem e15 (lp : Lp) (jn : Jn) (slices_ContainsFunc_41 : (List (ByteArray × Int × Int × Int)) → ((((ByteArray × Int × Int × Int) × Unit) → Option Bool)) → Option (Bool)) (grid_within : (Int) → Option (Bool)) (grid_isName : (ByteArray) → Option (Bool)) (grid_Valid_1 : (ByteArray × Int × Int × Int) → (ByteArray × Int × Int × Int) → Option (Bool)) : ∀ (x : TsS c15.as) (F : TsF c15.fs) (y : TsS c15.cs), grid_Valid_b lp jn slices_ContainsFunc_41 grid_within grid_isName grid_Valid_1 x.1 = runC lp jn (ctxOf prog shs inls its [(61, ⟨[T40], [], [T40], .one .bool, fun x _ y => grid_Valid_1 x.1 y.1⟩), (60, ⟨[.str], [], [], .one .bool, fun x _ _ => grid_isName x.1⟩), (46, ⟨[i64], [], [], .one .bool, fun x _ _ => grid_within x.1⟩), (41, ⟨[(.sl T40)], [([T40], .bool)], [], .one .bool, fun x F _ => slices_ContainsFunc_41 x.1 F.1⟩)] [(37, r37), (29, r29), (88, r88)]) hints 4 15 f15 c15 x F y := fun x F y => by kernel_rfl
theorem l15 : (ctxOf prog shs inls its [(61, c61), (60, c60), (46, c46), (41, c41)] [(37, r37), (29, r29), (88, r88)]).ok := ctxOf_cons (ctxOf_cons (ctxOf_cons (ctxOf_cons (q37) (by kernel_rfl) ok41) (by kernel_rfl) ok46) (by kernel_rfl) ok60) (by kernel_rfl) ok61
theorem ok15 : c15.ok prog 15 := Ctr.of_den l15 hmix (hl := hints) (d := 4) func15 rfl (by decide) (e15 lpK jnK slices_ContainsFunc_41 grid_within grid_isName grid_Valid_1)

/-- slices.IndexFunc[[]loftblock api.Load,loftblock api.Load] -/
noncomputable def slices_IndexFunc_81_b (lp : Lp) (_ : Jn) (x0 : List (Int × Int)) (f0 : (((Int × Int) × Unit) → Option Bool)) : Option Int :=
  lp (Int × PUnit) Int (fun (again : Int × PUnit → Option Int) (x : Int × PUnit) => bif decide (x.fst < (↑(List.length x0) : Int)) then bif inB x.fst (List.length x0) then obind (f0
    (List.getD x0 (Int.toNat x.fst) ((0 : Int), (0 : Int)), PUnit.unit)) fun (t : Bool) => bif t then some x.fst else again (IntKind.wrap IntKind.i64 (x.fst + (1 : Int)), PUnit.unit) else
    none else some (-1 : Int)) ((0 : Int), PUnit.unit)
noncomputable def slices_IndexFunc_81 (x0 : List (Int × Int)) (f0 : (((Int × Int) × Unit) → Option Bool)) : Option Int := slices_IndexFunc_81_b lpK jnK x0 f0
noncomputable def c81 : Ctr := ⟨[(.sl T60)], [([T60], .bool)], [], .one i64, fun x F _ => slices_IndexFunc_81 x.1 F.1⟩
theorem e81 (lp : Lp) (jn : Jn) : ∀ (x : TsS c81.as) (F : TsF c81.fs) (y : TsS c81.cs), slices_IndexFunc_81_b lp jn x.1 F.1 = runC lp jn (ctxOf prog shs inls its [] [(37, r37), (29, r29), (88, r88)]) hints 4 81 f81 c81 x F y := fun x F y => by kernel_rfl
theorem l81 : (ctxOf prog shs inls its [] [(37, r37), (29, r29), (88, r88)]).ok := q37
theorem ok81 : c81.ok prog 81 := Ctr.of_den l81 hmix (hl := hints) (d := 4) func81 rfl (by decide) (e81 lpK jnK)

/-- slices.ContainsFunc[[]loftblock api.Load,loftblock api.Load] -/
noncomputable def slices_ContainsFunc_31_b (_ : Lp) (_ : Jn) (slices_IndexFunc_81 : (List (Int × Int)) → ((((Int × Int) × Unit) → Option Bool)) → Option (Int)) (x0 : List (Int × Int)) (f0 : (((Int × Int) × Unit) → Option Bool)) : Option Bool :=
  obind (slices_IndexFunc_81 x0 f0) fun (t : Int) => some (decide (t ≥ (0 : Int)))
noncomputable def slices_ContainsFunc_31 (x0 : List (Int × Int)) (f0 : (((Int × Int) × Unit) → Option Bool)) : Option Bool := slices_ContainsFunc_31_b lpK jnK slices_IndexFunc_81 x0 f0
noncomputable def c31 : Ctr := ⟨[(.sl T60)], [([T60], .bool)], [], .one .bool, fun x F _ => slices_ContainsFunc_31 x.1 F.1⟩
theorem e31 (lp : Lp) (jn : Jn) (slices_IndexFunc_81 : (List (Int × Int)) → ((((Int × Int) × Unit) → Option Bool)) → Option (Int)) : ∀ (x : TsS c31.as) (F : TsF c31.fs) (y : TsS c31.cs), slices_ContainsFunc_31_b lp jn slices_IndexFunc_81 x.1 F.1 = runC lp jn (ctxOf prog shs inls its [(81, ⟨[(.sl T60)], [([T60], .bool)], [], .one i64, fun x F _ => slices_IndexFunc_81 x.1 F.1⟩)] [(37, r37), (29, r29), (88, r88)]) hints 4 31 f31 c31 x F y := fun x F y => by kernel_rfl
theorem l31 : (ctxOf prog shs inls its [(81, c81)] [(37, r37), (29, r29), (88, r88)]).ok := ctxOf_cons (q37) (by kernel_rfl) ok81
theorem ok31 : c31.ok prog 31 := Ctr.of_den l31 hmix (hl := hints) (d := 4) func31 rfl (by decide) (e31 lpK jnK slices_IndexFunc_81)

/-- loftblock grid.given$1 -/
noncomputable def grid_given_1_b (_ : Lp) (_ : Jn) (grid_within : (Int) → Option (Bool)) (x0 : Int × Int) : Option Bool :=
  obind (grid_within x0.fst) fun (t : Bool) =>
  let v4 : Bool := !t;
  let v5 : Bool := !v4;
  let v6 : Bool := !v5 || v5;
  let v7 : Bool := bif v4 then true else decide (x0.snd < (0 : Int));
  let v8 : Bool := !v7;
  let v9 : Bool := !v8 || v8; bif v6 then bif v6 then bif v4 || v5 then bif v9 then bif v9 then bif v7 || v8 then some (bif v7 then true else decide (x0.snd > (67108864 : Int))) else none
    else none else none else none else none else none
noncomputable def grid_given_1 (x0 : Int × Int) : Option Bool := grid_given_1_b lpK jnK grid_within x0
noncomputable def c87 : Ctr := ⟨[T60], [], [], .one .bool, fun x _ _ => grid_given_1 x.1⟩
theorem e87 (lp : Lp) (jn : Jn) (grid_within : (Int) → Option (Bool)) : ∀ (x : TsS c87.as) (F : TsF c87.fs) (y : TsS c87.cs), grid_given_1_b lp jn grid_within x.1 = runC lp jn (ctxOf prog shs inls its [(46, ⟨[i64], [], [], .one .bool, fun x _ _ => grid_within x.1⟩)] [(37, r37), (29, r29), (88, r88)]) hints 4 87 f87 c87 x F y := fun x F y => by kernel_rfl
theorem l87 : (ctxOf prog shs inls its [(46, c46)] [(37, r37), (29, r29), (88, r88)]).ok := ctxOf_cons (q37) (by kernel_rfl) ok46
theorem ok87 : c87.ok prog 87 := Ctr.of_den l87 hmix (hl := hints) (d := 4) func87 rfl (by decide) (e87 lpK jnK grid_within)

/-- loftblock grid.given -/
noncomputable def grid_given_b (_ : Lp) (_ : Jn) (grid_Valid : (List (ByteArray × Int × Int × Int)) → Option (Bool)) (slices_ContainsFunc_31 : (List (Int × Int)) → ((((Int × Int) × Unit) → Option Bool)) → Option (Bool)) (grid_given_1 : (Int × Int) → Option (Bool)) (x0 : List (ByteArray × Int × Int × Int)) (x1 : List (Int × Int)) : Option Int :=
  
  let v4 : Bool := decide ((↑(List.length x1) : Int) > (1000 : Int)); obind (grid_Valid x0) fun (t : Bool) =>
  let v6 : Bool := !t;
  let v7 : Bool := !v6;
  let v8 : Bool := bif v6 then true else v4;
  let v9 : Bool := !v8;
  let v10 : Bool := !v7 || v7; bif v10 then bif v10 then bif v6 || v7 then bif !v9 || v9 then obind (bif v9 then slices_ContainsFunc_31 x1 fun (x : (Int × Int) × PUnit) => grid_given_1
    x.fst else some false) fun (t : Bool) => bif v8 || v9 then bif bif v8 then true else t then some (1 : Int) else some (0 : Int) else none else none else none else none else none
noncomputable def grid_given (x0 : List (ByteArray × Int × Int × Int)) (x1 : List (Int × Int)) : Option Int := grid_given_b lpK jnK grid_Valid slices_ContainsFunc_31 grid_given_1 x0 x1
noncomputable def c45 : Ctr := ⟨[(.sl T40), (.sl T60)], [], [], .one i64, fun x _ _ => grid_given x.1 x.2.1⟩
theorem e45 (lp : Lp) (jn : Jn) (grid_Valid : (List (ByteArray × Int × Int × Int)) → Option (Bool)) (slices_ContainsFunc_31 : (List (Int × Int)) → ((((Int × Int) × Unit) → Option Bool)) → Option (Bool)) (grid_given_1 : (Int × Int) → Option (Bool)) : ∀ (x : TsS c45.as) (F : TsF c45.fs) (y : TsS c45.cs), grid_given_b lp jn grid_Valid slices_ContainsFunc_31 grid_given_1 x.1 x.2.1 = runC lp jn (ctxOf prog shs inls its [(87, ⟨[T60], [], [], .one .bool, fun x _ _ => grid_given_1 x.1⟩), (31, ⟨[(.sl T60)], [([T60], .bool)], [], .one .bool, fun x F _ => slices_ContainsFunc_31 x.1 F.1⟩), (15, ⟨[(.sl T40)], [], [], .one .bool, fun x _ _ => grid_Valid x.1⟩)] [(37, r37), (29, r29), (88, r88)]) hints 4 45 f45 c45 x F y := fun x F y => by kernel_rfl
theorem l45 : (ctxOf prog shs inls its [(87, c87), (31, c31), (15, c15)] [(37, r37), (29, r29), (88, r88)]).ok := ctxOf_cons (ctxOf_cons (ctxOf_cons (q37) (by kernel_rfl) ok15) (by kernel_rfl) ok31) (by kernel_rfl) ok87
theorem ok45 : c45.ok prog 45 := Ctr.of_den l45 hmix (hl := hints) (d := 4) func45 rfl (by decide) (e45 lpK jnK grid_Valid slices_ContainsFunc_31 grid_given_1)

/--  loftblock grid.beams .count -/
noncomputable def grid_beams_count_b (lp : Lp) (_ : Jn) (x0 : List (ByteArray × Int × Int × Int)) (x1 : Int) : Option Int :=
  bif overP x0 then lp (Nat × Int × PUnit) Int (fun (again : Nat × Int × PUnit → Option Int) (p : Nat × Int × PUnit) => bif Nat.ble (Nat.succ p.fst) (List.length (overL x0 x1)) then again
    (Nat.succ p.fst, IntKind.wrap IntKind.i64 (p.snd.fst + (1 : Int)), PUnit.unit) else some p.snd.fst) ((0 : Nat), (0 : Int), PUnit.unit) else none
noncomputable def grid_beams_count (x0 : List (ByteArray × Int × Int × Int)) (x1 : Int) : Option Int := grid_beams_count_b lpK jnK x0 x1
noncomputable def c47 : Ctr := ⟨[(.sl T40), i64], [], [], .one i64, fun x _ _ => grid_beams_count x.1 x.2.1⟩
theorem e47 (lp : Lp) (jn : Jn) : ∀ (x : TsS c47.as) (F : TsF c47.fs) (y : TsS c47.cs), grid_beams_count_b lp jn x.1 x.2.1 = runC lp jn (ctxOf prog shs inls its [] [(37, r37), (29, r29), (88, r88)]) hints 4 47 f47 c47 x F y := fun x F y => by kernel_rfl
theorem l47 : (ctxOf prog shs inls its [] [(37, r37), (29, r29), (88, r88)]).ok := q37
theorem ok47 : c47.ok prog 47 := Ctr.of_den l47 hmix (hl := hints) (d := 4) func47 rfl (by decide) (e47 lpK jnK)

/-- loftblock ratio.gcd -/
noncomputable def ratio_gcd_b (lp : Lp) (_ : Jn) (x0 : Int) (x1 : Int) : Option Int :=
  lp (Int × Int × PUnit) Int (fun (again : Int × Int × PUnit → Option Int) (x : Int × Int × PUnit) => bif !decide (x.snd.fst = (0 : Int)) then bif nzB x.snd.fst then again (x.snd.fst,
    Int.tmod x.fst x.snd.fst, PUnit.unit) else none else some x.fst) (x0, x1, PUnit.unit)
noncomputable def ratio_gcd (x0 : Int) (x1 : Int) : Option Int := ratio_gcd_b lpK jnK x0 x1
noncomputable def c73 : Ctr := ⟨[(.int .u64), (.int .u64)], [], [], .one (.int .u64), fun x _ _ => ratio_gcd x.1 x.2.1⟩
theorem e73 (lp : Lp) (jn : Jn) : ∀ (x : TsS c73.as) (F : TsF c73.fs) (y : TsS c73.cs), ratio_gcd_b lp jn x.1 x.2.1 = runC lp jn (ctxOf prog shs inls its [] [(37, r37), (29, r29), (88, r88)]) hints 4 73 f73 c73 x F y := fun x F y => by kernel_rfl
theorem l73 : (ctxOf prog shs inls its [] [(37, r37), (29, r29), (88, r88)]).ok := q37
theorem ok73 : c73.ok prog 73 := Ctr.of_den l73 hmix (hl := hints) (d := 4) func73 rfl (by decide) (e73 lpK jnK)

/-- loftblock ratio.size -/
noncomputable def ratio_size_b (_ : Lp) (_ : Jn) (x0 : Int) : Option Int :=
  
  let v3 : Int := IntKind.wrap IntKind.u64 x0; bif decide (x0 < (0 : Int)) then some (IntKind.wrap IntKind.u64 ((0 : Int) - v3)) else some v3
noncomputable def ratio_size (x0 : Int) : Option Int := ratio_size_b lpK jnK x0
noncomputable def c75 : Ctr := ⟨[i64], [], [], .one (.int .u64), fun x _ _ => ratio_size x.1⟩
theorem e75 (lp : Lp) (jn : Jn) : ∀ (x : TsS c75.as) (F : TsF c75.fs) (y : TsS c75.cs), ratio_size_b lp jn x.1 = runC lp jn (ctxOf prog shs inls its [] [(37, r37), (29, r29), (88, r88)]) hints 4 75 f75 c75 x F y := fun x F y => by kernel_rfl
theorem l75 : (ctxOf prog shs inls its [] [(37, r37), (29, r29), (88, r88)]).ok := q37
theorem ok75 : c75.ok prog 75 := Ctr.of_den l75 hmix (hl := hints) (d := 4) func75 rfl (by decide) (e75 lpK jnK)

/-- loftblock ratio.Valid -/
noncomputable def ratio_Valid_b (_ : Lp) (_ : Jn) (ratio_gcd : (Int) → (Int) → Option (Int)) (ratio_size : (Int) → Option (Int)) (x0 : Int × Int) : Option Bool :=
  
  let v3 : Bool := decide (x0.snd ≥ (1 : Int));
  let v4 : Bool := !v3 || v3;
  let v5 : Bool := bif v3 then decide (x0.snd ≤ (1152921504606846976 : Int)) else false;
  let v6 : Bool := bif v5 then decide (x0.fst ≥ (-1152921504606846976 : Int)) else false;
  let v7 : Bool := !v5 || v5;
  let v8 : Bool := bif v6 then decide (x0.fst ≤ (1152921504606846976 : Int)) else false;
  let v9 : Bool := !v6 || v6;
  let v10 : Bool := !v8 || v8; bif v4 then bif v4 then bif v4 then bif v7 then bif v7 then bif v7 then bif v9 then bif v9 then bif v9 then bif v10 then bif v10 then obind (bif v8 then
    ratio_size x0.fst else some (0 : Int)) fun (t : Int) => bif v10 then bif v10 then bif v10 && v10 then obind (bif v8 then ratio_gcd t (IntKind.wrap IntKind.u64 x0.snd) else some (0 :
    Int)) fun (t : Int) => bif v10 then bif v10 then some (bif v8 then decide (t = (1 : Int)) else false) else none else none else none else none else none else none else none else none
    else none else none else none else none else none else none else none else none
noncomputable def ratio_Valid (x0 : Int × Int) : Option Bool := ratio_Valid_b lpK jnK ratio_gcd ratio_size x0
noncomputable def c70 : Ctr := ⟨[T27], [], [], .one .bool, fun x _ _ => ratio_Valid x.1⟩
theorem e70 (lp : Lp) (jn : Jn) (ratio_gcd : (Int) → (Int) → Option (Int)) (ratio_size : (Int) → Option (Int)) : ∀ (x : TsS c70.as) (F : TsF c70.fs) (y : TsS c70.cs), ratio_Valid_b lp jn ratio_gcd ratio_size x.1 = runC lp jn (ctxOf prog shs inls its [(75, ⟨[i64], [], [], .one (.int .u64), fun x _ _ => ratio_size x.1⟩), (73, ⟨[(.int .u64), (.int .u64)], [], [], .one (.int .u64), fun x _ _ => ratio_gcd x.1 x.2.1⟩)] [(37, r37), (29, r29), (88, r88)]) hints 4 70 f70 c70 x F y := fun x F y => by kernel_rfl
theorem l70 : (ctxOf prog shs inls its [(75, c75), (73, c73)] [(37, r37), (29, r29), (88, r88)]).ok := ctxOf_cons (ctxOf_cons (q37) (by kernel_rfl) ok73) (by kernel_rfl) ok75
theorem ok70 : c70.ok prog 70 := Ctr.of_den l70 hmix (hl := hints) (d := 4) func70 rfl (by decide) (e70 lpK jnK ratio_gcd ratio_size)

/-- loftblock ratio.product -/
noncomputable def ratio_product_b (_ : Lp) (_ : Jn) (bits_Mul64 : (Int) → (Int) → Option (Int × Int × Unit)) (x0 : Int) (x1 : Int) : Option (Int × Int) :=
  obind (bits_Mul64 x0 x1) fun (t : Int × Int × PUnit) => some (t.fst, t.snd.fst)
noncomputable def ratio_product (x0 : Int) (x1 : Int) : Option (Int × Int) := ratio_product_b lpK jnK bits_Mul64 x0 x1
noncomputable def c74 : Ctr := ⟨[(.int .u64), (.int .u64)], [], [], .one T105, fun x _ _ => ratio_product x.1 x.2.1⟩
theorem e74 (lp : Lp) (jn : Jn) (bits_Mul64 : (Int) → (Int) → Option (Int × Int × Unit)) : ∀ (x : TsS c74.as) (F : TsF c74.fs) (y : TsS c74.cs), ratio_product_b lp jn bits_Mul64 x.1 x.2.1 = runC lp jn (ctxOf prog shs inls its [(98, ⟨[(.int .u64), (.int .u64)], [], [], .tup [(.int .u64), (.int .u64)], fun x _ _ => bits_Mul64 x.1 x.2.1⟩)] [(37, r37), (29, r29), (88, r88)]) hints 4 74 f74 c74 x F y := fun x F y => by kernel_rfl
theorem l74 : (ctxOf prog shs inls its [(98, c98)] [(37, r37), (29, r29), (88, r88)]).ok := ctxOf_cons (q37) (by kernel_rfl) ok98
theorem ok74 : c74.ok prog 74 := Ctr.of_den l74 hmix (hl := hints) (d := 4) func74 rfl (by decide) (e74 lpK jnK bits_Mul64)

/-- loftblock ratio.plus -/
noncomputable def ratio_plus_b (_ : Lp) (_ : Jn) (x0 : Int × Int) (x1 : Int × Int) : Option (Int × Int) :=
  bif decide ((0 : Int) ≤ (0 : Int)) && decide ((0 : Int) ≤ (1 : Int)) then bif decide ((0 : Int) ≤ addC x0.snd x1.snd (0 : Int)) && decide (addC x0.snd x1.snd (0 : Int) ≤ (1 : Int)) then
    some (addO x0.fst x1.fst (addC x0.snd x1.snd (0 : Int)), addO x0.snd x1.snd (0 : Int)) else none else none
noncomputable def ratio_plus (x0 : Int × Int) (x1 : Int × Int) : Option (Int × Int) := ratio_plus_b lpK jnK x0 x1
noncomputable def c76 : Ctr := ⟨[T105, T105], [], [], .one T105, fun x _ _ => ratio_plus x.1 x.2.1⟩
theorem e76 (lp : Lp) (jn : Jn) : ∀ (x : TsS c76.as) (F : TsF c76.fs) (y : TsS c76.cs), ratio_plus_b lp jn x.1 x.2.1 = runC lp jn (ctxOf prog shs inls its [] [(37, r37), (29, r29), (88, r88)]) hints 4 76 f76 c76 x F y := fun x F y => by kernel_rfl
theorem l76 : (ctxOf prog shs inls its [] [(37, r37), (29, r29), (88, r88)]).ok := q37
theorem ok76 : c76.ok prog 76 := Ctr.of_den l76 hmix (hl := hints) (d := 4) func76 rfl (by decide) (e76 lpK jnK)

/-- loftblock ratio.less -/
noncomputable def ratio_less_b (_ : Lp) (_ : Jn) (x0 : Int × Int) (x1 : Int × Int) : Option Bool :=
  
  let v4 : Bool := decide (x0.fst = x1.fst);
  let v5 : Bool := decide (x0.fst < x1.fst);
  let v6 : Bool := !v5;
  let v7 : Bool := !v6;
  let v8 : Bool := v6 && v4;
  let v9 : Bool := v7 || v6;
  let v10 : Bool := !v8 || v8; bif v9 then bif v9 then bif v9 && v9 then bif v9 then bif v10 then bif v10 then bif v10 && v10 then bif (v7 || v9) && (v7 || (!v4 || (v7 || v8))) then bif v5
    || v6 then some (bif v5 then true else bif v4 then decide (x0.snd < x1.snd) else false) else none else none else none else none else none else none else none else none else none
noncomputable def ratio_less (x0 : Int × Int) (x1 : Int × Int) : Option Bool := ratio_less_b lpK jnK x0 x1
noncomputable def c77 : Ctr := ⟨[T105, T105], [], [], .one .bool, fun x _ _ => ratio_less x.1 x.2.1⟩
theorem e77 (lp : Lp) (jn : Jn) : ∀ (x : TsS c77.as) (F : TsF c77.fs) (y : TsS c77.cs), ratio_less_b lp jn x.1 x.2.1 = runC lp jn (ctxOf prog shs inls its [] [(37, r37), (29, r29), (88, r88)]) hints 4 77 f77 c77 x F y := fun x F y => by kernel_rfl
theorem l77 : (ctxOf prog shs inls its [] [(37, r37), (29, r29), (88, r88)]).ok := q37
theorem ok77 : c77.ok prog 77 := Ctr.of_den l77 hmix (hl := hints) (d := 4) func77 rfl (by decide) (e77 lpK jnK)

/-- loftblock ratio.minus -/
noncomputable def ratio_minus_b (_ : Lp) (_ : Jn) (x0 : Int × Int) (x1 : Int × Int) : Option (Int × Int) :=
  bif decide ((0 : Int) ≤ (0 : Int)) && decide ((0 : Int) ≤ (1 : Int)) then bif decide ((0 : Int) ≤ subC x0.snd x1.snd (0 : Int)) && decide (subC x0.snd x1.snd (0 : Int) ≤ (1 : Int)) then
    some (subO x0.fst x1.fst (subC x0.snd x1.snd (0 : Int)), subO x0.snd x1.snd (0 : Int)) else none else none
noncomputable def ratio_minus (x0 : Int × Int) (x1 : Int × Int) : Option (Int × Int) := ratio_minus_b lpK jnK x0 x1
noncomputable def c78 : Ctr := ⟨[T105, T105], [], [], .one T105, fun x _ _ => ratio_minus x.1 x.2.1⟩
theorem e78 (lp : Lp) (jn : Jn) : ∀ (x : TsS c78.as) (F : TsF c78.fs) (y : TsS c78.cs), ratio_minus_b lp jn x.1 x.2.1 = runC lp jn (ctxOf prog shs inls its [] [(37, r37), (29, r29), (88, r88)]) hints 4 78 f78 c78 x F y := fun x F y => by kernel_rfl
theorem l78 : (ctxOf prog shs inls its [] [(37, r37), (29, r29), (88, r88)]).ok := q37
theorem ok78 : c78.ok prog 78 := Ctr.of_den l78 hmix (hl := hints) (d := 4) func78 rfl (by decide) (e78 lpK jnK)

/-- math bits.Len64 -/
noncomputable def bits_Len64_b (_ : Lp) (jn : Jn) (x0 : Int) : Option Int :=
  jn (Int × Int × PUnit) Int (fun (x : Int × Int × PUnit) => jn (Int × Int × PUnit) Int (fun (x : Int × Int × PUnit) =>
  let v5 : Int := IntKind.wrap IntKind.u8 x.fst;
  let v6 : Int := IntKind.wrap IntKind.u8 (Int.fdiv x.fst ((2 : Int) ^ (8 : Nat))); bif decide (x.fst ≥ (256 : Int)) then bif decide ((0 : Int) ≤ (8 : Int)) then bif inB v6 (256 : Nat) then
    some (IntKind.wrap IntKind.i64 (IntKind.wrap IntKind.i64 (x.snd.fst + (8 : Int)) + IntKind.wrap IntKind.i64 (byteAt { data := List.toArray (List.append (List.append [(0 : UInt8), (1 :
    UInt8), (2 : UInt8), (2 : UInt8), (3 : UInt8), (3 : UInt8), (3 : UInt8), (3 : UInt8), (4 : UInt8), (4 : UInt8), (4 : UInt8), (4 : UInt8), (4 : UInt8), (4 : UInt8), (4 : UInt8), (4 :
    UInt8), (5 : UInt8), (5 : UInt8), (5 : UInt8), (5 : UInt8), (5 : UInt8), (5 : UInt8), (5 : UInt8), (5 : UInt8), (5 : UInt8), (5 : UInt8), (5 : UInt8), (5 : UInt8), (5 : UInt8), (5 :
    UInt8), (5 : UInt8), (5 : UInt8), (6 : UInt8), (6 : UInt8), (6 : UInt8), (6 : UInt8), (6 : UInt8), (6 : UInt8), (6 : UInt8), (6 : UInt8), (6 : UInt8), (6 : UInt8), (6 : UInt8), (6 :
    UInt8), (6 : UInt8), (6 : UInt8), (6 : UInt8), (6 : UInt8), (6 : UInt8), (6 : UInt8), (6 : UInt8), (6 : UInt8), (6 : UInt8), (6 : UInt8), (6 : UInt8), (6 : UInt8), (6 : UInt8), (6 :
    UInt8), (6 : UInt8), (6 : UInt8), (6 : UInt8), (6 : UInt8), (6 : UInt8), (6 : UInt8)] [(7 : UInt8), (7 : UInt8), (7 : UInt8), (7 : UInt8), (7 : UInt8), (7 : UInt8), (7 : UInt8), (7 :
    UInt8), (7 : UInt8), (7 : UInt8), (7 : UInt8), (7 : UInt8), (7 : UInt8), (7 : UInt8), (7 : UInt8), (7 : UInt8), (7 : UInt8), (7 : UInt8), (7 : UInt8), (7 : UInt8), (7 : UInt8), (7 :
    UInt8), (7 : UInt8), (7 : UInt8), (7 : UInt8), (7 : UInt8), (7 : UInt8), (7 : UInt8), (7 : UInt8), (7 : UInt8), (7 : UInt8), (7 : UInt8), (7 : UInt8), (7 : UInt8), (7 : UInt8), (7 :
    UInt8), (7 : UInt8), (7 : UInt8), (7 : UInt8), (7 : UInt8), (7 : UInt8), (7 : UInt8), (7 : UInt8), (7 : UInt8), (7 : UInt8), (7 : UInt8), (7 : UInt8), (7 : UInt8), (7 : UInt8), (7 :
    UInt8), (7 : UInt8), (7 : UInt8), (7 : UInt8), (7 : UInt8), (7 : UInt8), (7 : UInt8), (7 : UInt8), (7 : UInt8), (7 : UInt8), (7 : UInt8), (7 : UInt8), (7 : UInt8), (7 : UInt8), (7 :
    UInt8)]) (List.append [(8 : UInt8), (8 : UInt8), (8 : UInt8), (8 : UInt8), (8 : UInt8), (8 : UInt8), (8 : UInt8), (8 : UInt8), (8 : UInt8), (8 : UInt8), (8 : UInt8), (8 : UInt8), (8 :
    UInt8), (8 : UInt8), (8 : UInt8), (8 : UInt8), (8 : UInt8), (8 : UInt8), (8 : UInt8), (8 : UInt8), (8 : UInt8), (8 : UInt8), (8 : UInt8), (8 : UInt8), (8 : UInt8), (8 : UInt8), (8 :
    UInt8), (8 : UInt8), (8 : UInt8), (8 : UInt8), (8 : UInt8), (8 : UInt8), (8 : UInt8), (8 : UInt8), (8 : UInt8), (8 : UInt8), (8 : UInt8), (8 : UInt8), (8 : UInt8), (8 : UInt8), (8 :
    UInt8), (8 : UInt8), (8 : UInt8), (8 : UInt8), (8 : UInt8), (8 : UInt8), (8 : UInt8), (8 : UInt8), (8 : UInt8), (8 : UInt8), (8 : UInt8), (8 : UInt8), (8 : UInt8), (8 : UInt8), (8 :
    UInt8), (8 : UInt8), (8 : UInt8), (8 : UInt8), (8 : UInt8), (8 : UInt8), (8 : UInt8), (8 : UInt8), (8 : UInt8), (8 : UInt8)] [(8 : UInt8), (8 : UInt8), (8 : UInt8), (8 : UInt8), (8 :
    UInt8), (8 : UInt8), (8 : UInt8), (8 : UInt8), (8 : UInt8), (8 : UInt8), (8 : UInt8), (8 : UInt8), (8 : UInt8), (8 : UInt8), (8 : UInt8), (8 : UInt8), (8 : UInt8), (8 : UInt8), (8 :
    UInt8), (8 : UInt8), (8 : UInt8), (8 : UInt8), (8 : UInt8), (8 : UInt8), (8 : UInt8), (8 : UInt8), (8 : UInt8), (8 : UInt8), (8 : UInt8), (8 : UInt8), (8 : UInt8), (8 : UInt8), (8 :
    UInt8), (8 : UInt8), (8 : UInt8), (8 : UInt8), (8 : UInt8), (8 : UInt8), (8 : UInt8), (8 : UInt8), (8 : UInt8), (8 : UInt8), (8 : UInt8), (8 : UInt8), (8 : UInt8), (8 : UInt8), (8 :
    UInt8), (8 : UInt8), (8 : UInt8), (8 : UInt8), (8 : UInt8), (8 : UInt8), (8 : UInt8), (8 : UInt8), (8 : UInt8), (8 : UInt8), (8 : UInt8), (8 : UInt8), (8 : UInt8), (8 : UInt8), (8 :
    UInt8), (8 : UInt8), (8 : UInt8), (8 : UInt8)])) } (Int.toNat v6)))) else none else none else bif inB v5 (256 : Nat) then some (IntKind.wrap IntKind.i64 (x.snd.fst + IntKind.wrap
    IntKind.i64 (byteAt { data := List.toArray (List.append (List.append [(0 : UInt8), (1 : UInt8), (2 : UInt8), (2 : UInt8), (3 : UInt8), (3 : UInt8), (3 : UInt8), (3 : UInt8), (4 :
    UInt8), (4 : UInt8), (4 : UInt8), (4 : UInt8), (4 : UInt8), (4 : UInt8), (4 : UInt8), (4 : UInt8), (5 : UInt8), (5 : UInt8), (5 : UInt8), (5 : UInt8), (5 : UInt8), (5 : UInt8), (5 :
    UInt8), (5 : UInt8), (5 : UInt8), (5 : UInt8), (5 : UInt8), (5 : UInt8), (5 : UInt8), (5 : UInt8), (5 : UInt8), (5 : UInt8), (6 : UInt8), (6 : UInt8), (6 : UInt8), (6 : UInt8), (6 :
    UInt8), (6 : UInt8), (6 : UInt8), (6 : UInt8), (6 : UInt8), (6 : UInt8), (6 : UInt8), (6 : UInt8), (6 : UInt8), (6 : UInt8), (6 : UInt8), (6 : UInt8), (6 : UInt8), (6 : UInt8), (6 :
    UInt8), (6 : UInt8), (6 : UInt8), (6 : UInt8), (6 : UInt8), (6 : UInt8), (6 : UInt8), (6 : UInt8), (6 : UInt8), (6 : UInt8), (6 : UInt8), (6 : UInt8), (6 : UInt8), (6 : UInt8)] [(7 :
    UInt8), (7 : UInt8), (7 : UInt8), (7 : UInt8), (7 : UInt8), (7 : UInt8), (7 : UInt8), (7 : UInt8), (7 : UInt8), (7 : UInt8), (7 : UInt8), (7 : UInt8), (7 : UInt8), (7 : UInt8), (7 :
    UInt8), (7 : UInt8), (7 : UInt8), (7 : UInt8), (7 : UInt8), (7 : UInt8), (7 : UInt8), (7 : UInt8), (7 : UInt8), (7 : UInt8), (7 : UInt8), (7 : UInt8), (7 : UInt8), (7 : UInt8), (7 :
    UInt8), (7 : UInt8), (7 : UInt8), (7 : UInt8), (7 : UInt8), (7 : UInt8), (7 : UInt8), (7 : UInt8), (7 : UInt8), (7 : UInt8), (7 : UInt8), (7 : UInt8), (7 : UInt8), (7 : UInt8), (7 :
    UInt8), (7 : UInt8), (7 : UInt8), (7 : UInt8), (7 : UInt8), (7 : UInt8), (7 : UInt8), (7 : UInt8), (7 : UInt8), (7 : UInt8), (7 : UInt8), (7 : UInt8), (7 : UInt8), (7 : UInt8), (7 :
    UInt8), (7 : UInt8), (7 : UInt8), (7 : UInt8), (7 : UInt8), (7 : UInt8), (7 : UInt8), (7 : UInt8)]) (List.append [(8 : UInt8), (8 : UInt8), (8 : UInt8), (8 : UInt8), (8 : UInt8), (8 :
    UInt8), (8 : UInt8), (8 : UInt8), (8 : UInt8), (8 : UInt8), (8 : UInt8), (8 : UInt8), (8 : UInt8), (8 : UInt8), (8 : UInt8), (8 : UInt8), (8 : UInt8), (8 : UInt8), (8 : UInt8), (8 :
    UInt8), (8 : UInt8), (8 : UInt8), (8 : UInt8), (8 : UInt8), (8 : UInt8), (8 : UInt8), (8 : UInt8), (8 : UInt8), (8 : UInt8), (8 : UInt8), (8 : UInt8), (8 : UInt8), (8 : UInt8), (8 :
    UInt8), (8 : UInt8), (8 : UInt8), (8 : UInt8), (8 : UInt8), (8 : UInt8), (8 : UInt8), (8 : UInt8), (8 : UInt8), (8 : UInt8), (8 : UInt8), (8 : UInt8), (8 : UInt8), (8 : UInt8), (8 :
    UInt8), (8 : UInt8), (8 : UInt8), (8 : UInt8), (8 : UInt8), (8 : UInt8), (8 : UInt8), (8 : UInt8), (8 : UInt8), (8 : UInt8), (8 : UInt8), (8 : UInt8), (8 : UInt8), (8 : UInt8), (8 :
    UInt8), (8 : UInt8), (8 : UInt8)] [(8 : UInt8), (8 : UInt8), (8 : UInt8), (8 : UInt8), (8 : UInt8), (8 : UInt8), (8 : UInt8), (8 : UInt8), (8 : UInt8), (8 : UInt8), (8 : UInt8), (8 :
    UInt8), (8 : UInt8), (8 : UInt8), (8 : UInt8), (8 : UInt8), (8 : UInt8), (8 : UInt8), (8 : UInt8), (8 : UInt8), (8 : UInt8), (8 : UInt8), (8 : UInt8), (8 : UInt8), (8 : UInt8), (8 :
    UInt8), (8 : UInt8), (8 : UInt8), (8 : UInt8), (8 : UInt8), (8 : UInt8), (8 : UInt8), (8 : UInt8), (8 : UInt8), (8 : UInt8), (8 : UInt8), (8 : UInt8), (8 : UInt8), (8 : UInt8), (8 :
    UInt8), (8 : UInt8), (8 : UInt8), (8 : UInt8), (8 : UInt8), (8 : UInt8), (8 : UInt8), (8 : UInt8), (8 : UInt8), (8 : UInt8), (8 : UInt8), (8 : UInt8), (8 : UInt8), (8 : UInt8), (8 :
    UInt8), (8 : UInt8), (8 : UInt8), (8 : UInt8), (8 : UInt8), (8 : UInt8), (8 : UInt8), (8 : UInt8), (8 : UInt8), (8 : UInt8), (8 : UInt8)])) } (Int.toNat v5)))) else none) fun (j : Int ×
    Int × PUnit → Option Int) => bif decide (x.fst ≥ (65536 : Int)) then bif decide ((0 : Int) ≤ (16 : Int)) then j (Int.fdiv x.fst ((2 : Int) ^ (16 : Nat)), IntKind.wrap IntKind.i64
    (x.snd.fst + (16 : Int)), PUnit.unit) else none else j (x.fst, x.snd.fst, PUnit.unit)) fun (j : Int × Int × PUnit → Option Int) => bif decide (x0 ≥ (4294967296 : Int)) then bif decide
    ((0 : Int) ≤ (32 : Int)) then j (Int.fdiv x0 ((2 : Int) ^ (32 : Nat)), (32 : Int), PUnit.unit) else none else j (x0, (0 : Int), PUnit.unit)
noncomputable def bits_Len64 (x0 : Int) : Option Int := bits_Len64_b lpK jnK x0
noncomputable def c112 : Ctr := ⟨[(.int .u64)], [], [], .one i64, fun x _ _ => bits_Len64 x.1⟩
theorem e112 (lp : Lp) (jn : Jn) : ∀ (x : TsS c112.as) (F : TsF c112.fs) (y : TsS c112.cs), bits_Len64_b lp jn x.1 = runC lp jn (ctxOf prog shs inls its [] [(37, r37), (29, r29), (88, r88)]) hints 4 112 f112 c112 x F y := fun x F y => by kernel_rfl
theorem l112 : (ctxOf prog shs inls its [] [(37, r37), (29, r29), (88, r88)]).ok := q37
theorem ok112 : c112.ok prog 112 := Ctr.of_den l112 hmix (hl := hints) (d := 4) func112 rfl (by decide) (e112 lpK jnK)

/-- math bits.LeadingZeros64 -/
noncomputable def bits_LeadingZeros64_b (_ : Lp) (_ : Jn) (bits_Len64 : (Int) → Option (Int)) (x0 : Int) : Option Int :=
  obind (bits_Len64 x0) fun (t : Int) => some (IntKind.wrap IntKind.i64 ((64 : Int) - t))
noncomputable def bits_LeadingZeros64 (x0 : Int) : Option Int := bits_LeadingZeros64_b lpK jnK bits_Len64 x0
noncomputable def c108 : Ctr := ⟨[(.int .u64)], [], [], .one i64, fun x _ _ => bits_LeadingZeros64 x.1⟩
theorem e108 (lp : Lp) (jn : Jn) (bits_Len64 : (Int) → Option (Int)) : ∀ (x : TsS c108.as) (F : TsF c108.fs) (y : TsS c108.cs), bits_LeadingZeros64_b lp jn bits_Len64 x.1 = runC lp jn (ctxOf prog shs inls its [(112, ⟨[(.int .u64)], [], [], .one i64, fun x _ _ => bits_Len64 x.1⟩)] [(37, r37), (29, r29), (88, r88)]) hints 4 108 f108 c108 x F y := fun x F y => by kernel_rfl
theorem l108 : (ctxOf prog shs inls its [(112, c112)] [(37, r37), (29, r29), (88, r88)]).ok := ctxOf_cons (q37) (by kernel_rfl) ok112
theorem ok108 : c108.ok prog 108 := Ctr.of_den l108 hmix (hl := hints) (d := 4) func108 rfl (by decide) (e108 lpK jnK bits_Len64)

/-- math bits.Div64 -/
noncomputable def bits_Div64_b (lp : Lp) (jn : Jn) (bits_LeadingZeros64 : (Int) → Option (Int)) (x0 : Int) (x1 : Int) (x2 : Int) : Option (Int × Int × Unit) :=
  
  let v5 : Bool := nzB x2;
  let v6 : Int := (2 : Int) ^ (32 : Nat);
  let v7 : Bool := decide ((0 : Int) ≤ (32 : Int)); jn PUnit (Int × Int × PUnit) (fun (_ : PUnit) => jn PUnit (Int × Int × PUnit) (fun (_ : PUnit) => bif decide (x0 = (0 : Int)) then bif v5
    then bif v5 then some (IntKind.wrap IntKind.u64 (Int.tdiv x1 x2), Int.tmod x1 x2, PUnit.unit) else none else none else obind (bits_LeadingZeros64 x2) fun (t : Int) =>
  let v11 : Int := IntKind.wrap IntKind.u64 t;
  let v12 : Bool := decide ((0 : Int) ≤ v11);
  let v13 : Int := (2 : Int) ^ min (Int.toNat v11) (64 : Nat);
  let v14 : Int := IntKind.wrap IntKind.u64 (x2 * v13);
  let v15 : Int := IntKind.wrap IntKind.u64 (x1 * v13);
  let v16 : Int := Int.fdiv v14 v6;
  let v17 : Int := Int.fdiv v15 v6;
  let v18 : Bool := nzB v16;
  let v19 : Int := IntKind.wrap IntKind.u64 (↑(Nat.land (Int.toNat (v15 % Int.ofNat (18446744073709551616 : Nat))) (Int.toNat ((4294967295 : Int) % Int.ofNat (18446744073709551616 : Nat))))
    : Int);
  let v20 : Int := IntKind.wrap IntKind.u64 (↑(Nat.land (Int.toNat (v14 % Int.ofNat (18446744073709551616 : Nat))) (Int.toNat ((4294967295 : Int) % Int.ofNat (18446744073709551616 : Nat))))
    : Int);
  let v21 : Int := IntKind.wrap IntKind.u64 (↑(Nat.lor (Int.toNat (IntKind.wrap IntKind.u64 (x0 * v13) % Int.ofNat (18446744073709551616 : Nat))) (Int.toNat (Int.fdiv x1 ((2 : Int) ^ min
    (Int.toNat (IntKind.wrap IntKind.u64 ((64 : Int) - v11))) (64 : Nat)) % Int.ofNat (18446744073709551616 : Nat)))) : Int);
  let v22 : Int := IntKind.wrap IntKind.u64 (Int.tdiv v21 v16); bif v12 then bif v7 then bif v12 then bif decide ((0 : Int) ≤ IntKind.wrap IntKind.u64 ((64 : Int) - v11)) then bif v12 then
    bif v7 then bif v18 then jn (Int × PUnit) (Int × Int × PUnit) (fun (x : Int × PUnit) =>
  let v24 : Int := IntKind.wrap IntKind.u64 (IntKind.wrap IntKind.u64 (IntKind.wrap IntKind.u64 (v21 * (4294967296 : Int)) + v17) - IntKind.wrap IntKind.u64 (x.fst * v14));
  let v25 : Int := IntKind.wrap IntKind.u64 (Int.tdiv v24 v16); bif v18 then jn (Int × PUnit) (Int × Int × PUnit) (fun (x_1 : Int × PUnit) => bif v12 then some (IntKind.wrap IntKind.u64
    (IntKind.wrap IntKind.u64 (x.fst * (4294967296 : Int)) + x_1.fst), Int.fdiv (IntKind.wrap IntKind.u64 (IntKind.wrap IntKind.u64 (IntKind.wrap IntKind.u64 (v24 * (4294967296 : Int)) +
    v19) - IntKind.wrap IntKind.u64 (x_1.fst * v14))) v13, PUnit.unit) else none) fun (j : Int × PUnit → Option (Int × Int × PUnit)) => lp (Int × Int × PUnit) (Int × Int × PUnit) (fun
    (again : Int × Int × PUnit → Option (Int × Int × PUnit)) (x : Int × Int × PUnit) =>
  let v29 : Int × PUnit := (IntKind.wrap IntKind.u64 (x.snd.fst - (1 : Int)), PUnit.unit);
  let v30 : Bool := decide (x.snd.fst ≥ (4294967296 : Int));
  let v31 : Bool := !v30;
  let v32 : Bool := !v31 || v31;
  let v33 : Bool := v32 && v32; bif v33 then bif v32 then bif v33 then bif v33 then bif v30 || v31 then bif bif v30 then true else decide (IntKind.wrap IntKind.u64 (x.snd.fst * v20) >
    IntKind.wrap IntKind.u64 (IntKind.wrap IntKind.u64 ((4294967296 : Int) * x.fst) + v19)) then bif decide (IntKind.wrap IntKind.u64 (x.fst + v16) ≥ (4294967296 : Int)) then j v29 else
    again (IntKind.wrap IntKind.u64 (x.fst + v16), v29) else j (x.snd.fst, PUnit.unit) else none else none else none else none else none) (IntKind.wrap IntKind.u64 (v24 - IntKind.wrap
    IntKind.u64 (v25 * v16)), v25, PUnit.unit) else none) fun (j : Int × PUnit → Option (Int × Int × PUnit)) => lp (Int × Int × PUnit) (Int × Int × PUnit) (fun (again : Int × Int × PUnit →
    Option (Int × Int × PUnit)) (x : Int × Int × PUnit) =>
  let v26 : Int := IntKind.wrap IntKind.u64 (x.fst - (1 : Int));
  let v27 : Bool := decide (x.fst ≥ (4294967296 : Int));
  let v28 : Bool := !v27;
  let v29 : Bool := !v28 || v28;
  let v30 : Bool := v29 && v29; bif v30 then bif v29 then bif v30 then bif v30 then bif v27 || v28 then bif bif v27 then true else decide (IntKind.wrap IntKind.u64 (x.fst * v20) >
    IntKind.wrap IntKind.u64 (IntKind.wrap IntKind.u64 ((4294967296 : Int) * x.snd.fst) + v17)) then bif decide (IntKind.wrap IntKind.u64 (x.snd.fst + v16) ≥ (4294967296 : Int)) then j
    (v26, PUnit.unit) else again (v26, IntKind.wrap IntKind.u64 (x.snd.fst + v16), PUnit.unit) else j (x.fst, PUnit.unit) else none else none else none else none else none) (v22,
    IntKind.wrap IntKind.u64 (v21 - IntKind.wrap IntKind.u64 (v22 * v16)), PUnit.unit) else none else none else none else none else none else none else none) fun (j : PUnit → Option (Int ×
    Int × PUnit)) => bif decide (x2 ≤ x0) then none else j PUnit.unit) fun (j : PUnit → Option (Int × Int × PUnit)) => bif decide (x2 = (0 : Int)) then none else j PUnit.unit
noncomputable def bits_Div64 (x0 : Int) (x1 : Int) (x2 : Int) : Option (Int × Int × Unit) := bits_Div64_b lpK jnK bits_LeadingZeros64 x0 x1 x2
noncomputable def c101 : Ctr := ⟨[(.int .u64), (.int .u64), (.int .u64)], [], [], .tup [(.int .u64), (.int .u64)], fun x _ _ => bits_Div64 x.1 x.2.1 x.2.2.1⟩
theorem e101 (lp : Lp) (jn : Jn) (bits_LeadingZeros64 : (Int) → Option (Int)) : ∀ (x : TsS c101.as) (F : TsF c101.fs) (y : TsS c101.cs), bits_Div64_b lp jn bits_LeadingZeros64 x.1 x.2.1 x.2.2.1 = runC lp jn (ctxOf prog shs inls its [(108, ⟨[(.int .u64)], [], [], .one i64, fun x _ _ => bits_LeadingZeros64 x.1⟩)] [(37, r37), (29, r29), (88, r88)]) hints 4 101 f101 c101 x F y := fun x F y => by kernel_rfl
theorem l101 : (ctxOf prog shs inls its [(108, c108)] [(37, r37), (29, r29), (88, r88)]).ok := ctxOf_cons (q37) (by kernel_rfl) ok108
theorem ok101 : c101.ok prog 101 := Ctr.of_den l101 hmix (hl := hints) (d := 4) func101 rfl (by decide) (e101 lpK jnK bits_LeadingZeros64)

/-- loftblock ratio.over -/
noncomputable def ratio_over_b (_ : Lp) (_ : Jn) (bits_Div64 : (Int) → (Int) → (Int) → Option (Int × Int × Unit)) (x0 : Int × Int) (x1 : Int) : Option ((Int × Int) × Int × Unit) :=
  
  let v4 : Bool := nzB x1; bif v4 then obind (bits_Div64 (Int.tmod x0.fst x1) x0.snd x1) fun (t : Int × Int × PUnit) => bif v4 then some ((IntKind.wrap IntKind.u64 (Int.tdiv x0.fst x1),
    t.fst), t.snd.fst, PUnit.unit) else none else none
noncomputable def ratio_over (x0 : Int × Int) (x1 : Int) : Option ((Int × Int) × Int × Unit) := ratio_over_b lpK jnK bits_Div64 x0 x1
noncomputable def c79 : Ctr := ⟨[T105, (.int .u64)], [], [], .tup [T105, (.int .u64)], fun x _ _ => ratio_over x.1 x.2.1⟩
theorem e79 (lp : Lp) (jn : Jn) (bits_Div64 : (Int) → (Int) → (Int) → Option (Int × Int × Unit)) : ∀ (x : TsS c79.as) (F : TsF c79.fs) (y : TsS c79.cs), ratio_over_b lp jn bits_Div64 x.1 x.2.1 = runC lp jn (ctxOf prog shs inls its [(101, ⟨[(.int .u64), (.int .u64), (.int .u64)], [], [], .tup [(.int .u64), (.int .u64)], fun x _ _ => bits_Div64 x.1 x.2.1 x.2.2.1⟩)] [(37, r37), (29, r29), (88, r88)]) hints 4 79 f79 c79 x F y := fun x F y => by kernel_rfl
theorem l79 : (ctxOf prog shs inls its [(101, c101)] [(37, r37), (29, r29), (88, r88)]).ok := ctxOf_cons (q37) (by kernel_rfl) ok101
theorem ok79 : c79.ok prog 79 := Ctr.of_den l79 hmix (hl := hints) (d := 4) func79 rfl (by decide) (e79 lpK jnK bits_Div64)

/-- loftblock ratio.signed -/
noncomputable def ratio_signed_b (_ : Lp) (_ : Jn) (x0 : Bool) (x1 : Int) (x2 : Int) : Option ((Int × Int) × Int × Unit) :=
  
  let v5 : Int := IntKind.wrap IntKind.i64 x1;
  let v6 : Int := IntKind.wrap IntKind.i64 x2;
  let v7 : Bool := decide (x1 > (1152921504606846976 : Int));
  let v8 : Bool := !v7; bif !v8 || v8 then bif v7 || v8 then bif bif v7 then true else decide (x2 > (1152921504606846976 : Int)) then some (((0 : Int), (0 : Int)), (5 : Int), PUnit.unit)
    else bif x0 then some ((IntKind.wrap IntKind.i64 ((0 : Int) - v5), v6), (0 : Int), PUnit.unit) else some ((v5, v6), (0 : Int), PUnit.unit) else none else none
noncomputable def ratio_signed (x0 : Bool) (x1 : Int) (x2 : Int) : Option ((Int × Int) × Int × Unit) := ratio_signed_b lpK jnK x0 x1 x2
noncomputable def c80 : Ctr := ⟨[.bool, (.int .u64), (.int .u64)], [], [], .tup [T27, i64], fun x _ _ => ratio_signed x.1 x.2.1 x.2.2.1⟩
theorem e80 (lp : Lp) (jn : Jn) : ∀ (x : TsS c80.as) (F : TsF c80.fs) (y : TsS c80.cs), ratio_signed_b lp jn x.1 x.2.1 x.2.2.1 = runC lp jn (ctxOf prog shs inls its [] [(37, r37), (29, r29), (88, r88)]) hints 4 80 f80 c80 x F y := fun x F y => by kernel_rfl
theorem l80 : (ctxOf prog shs inls its [] [(37, r37), (29, r29), (88, r88)]).ok := q37
theorem ok80 : c80.ok prog 80 := Ctr.of_den l80 hmix (hl := hints) (d := 4) func80 rfl (by decide) (e80 lpK jnK)

/-- loftblock ratio.Add -/
noncomputable def ratio_Add_b (_ : Lp) (jn : Jn) (ratio_gcd : (Int) → (Int) → Option (Int)) (ratio_size : (Int) → Option (Int)) (ratio_Valid : (Int × Int) → Option (Bool)) (ratio_product : (Int) → (Int) → Option (Int × Int)) (ratio_plus : (Int × Int) → (Int × Int) → Option (Int × Int)) (ratio_less : (Int × Int) → (Int × Int) → Option (Bool)) (ratio_minus : (Int × Int) → (Int × Int) → Option (Int × Int)) (ratio_over : (Int × Int) → (Int) → Option ((Int × Int) × Int × Unit)) (ratio_signed : (Bool) → (Int) → (Int) → Option ((Int × Int) × Int × Unit)) (x0 : Int × Int) (x1 : Int × Int) : Option ((Int × Int) × Int × Unit) :=
  
  let v4 : Int := IntKind.wrap IntKind.u64 x0.snd;
  let v5 : Int := IntKind.wrap IntKind.u64 x1.snd;
  let v6 : Bool := decide (x0.fst < (0 : Int)); obind (ratio_Valid x0) fun (t : Bool) =>
  let v8 : Bool := !t;
  let v9 : Bool := !v8;
  let v10 : Bool := !v9 || v9; bif v10 then obind (bif v9 then ratio_Valid x1 else some false) fun (t : Bool) => bif v10 then bif v8 || v9 then bif bif v8 then true else !t then some (((0 :
    Int), (0 : Int)), (1 : Int), PUnit.unit) else obind (ratio_gcd v4 v5) fun (t : Int) =>
  let v13 : Bool := nzB t;
  let v14 : Int := IntKind.wrap IntKind.u64 (Int.tdiv v4 t); obind (ratio_size x0.fst) fun (t_1 : Int) => bif v13 then obind (ratio_product t_1 (IntKind.wrap IntKind.u64 (Int.tdiv v5 t)))
    fun (t_2 : Int × Int) => obind (ratio_size x1.fst) fun (t_3 : Int) => bif v13 then obind (ratio_product t_3 v14) fun (t_4 : Int × Int) => jn (Bool × (Int × Int) × PUnit) ((Int × Int) ×
    Int × PUnit) (fun (x : Bool × (Int × Int) × PUnit) => bif decide (x.snd.fst.fst = (0 : Int)) && (decide (x.snd.fst.snd = (0 : Int)) && true) then some (((0 : Int), (1 : Int)), (0 :
    Int), PUnit.unit) else obind (ratio_over x.snd.fst t) fun (t_5 : (Int × Int) × Int × PUnit) => obind (ratio_gcd t t_5.snd.fst) fun (t : Int) => obind (ratio_over x.snd.fst t) fun (t_6 :
    (Int × Int) × Int × PUnit) =>
  let v23 : Bool := decide (t_6.fst.fst > (0 : Int));
  let v24 : Bool := !v23;
  let v25 : Bool := !v24 || v24; bif v13 then bif nzB t then obind (ratio_product v14 (IntKind.wrap IntKind.u64 (Int.tdiv v5 t))) fun (t : Int × Int) => bif v25 then bif v25 then bif v23 ||
    v24 then bif bif v23 then true else decide (t.fst > (0 : Int)) then some (((0 : Int), (0 : Int)), (5 : Int), PUnit.unit) else obind (ratio_signed x.fst t_6.fst.snd t.snd) fun (t : (Int
    × Int) × Int × PUnit) => some (t.fst, t.snd.fst, PUnit.unit) else none else none else none else none else none) fun (j : Bool × (Int × Int) × PUnit → Option ((Int × Int) × Int × PUnit))
    => bif decide (v6 = decide (x1.fst < (0 : Int))) then obind (ratio_plus t_2 t_4) fun (t : Int × Int) => j (v6, t, PUnit.unit) else obind (ratio_less t_2 t_4) fun (t : Bool) => jn (Bool
    × (Int × Int) × PUnit) ((Int × Int) × Int × PUnit) (fun (x : Bool × (Int × Int) × PUnit) => j (x.fst, x.snd.fst, PUnit.unit)) fun (j : Bool × (Int × Int) × PUnit → Option ((Int × Int) ×
    Int × PUnit)) => bif t then obind (ratio_minus t_4 t_2) fun (t : Int × Int) => j (!v6, t, PUnit.unit) else obind (ratio_minus t_2 t_4) fun (t : Int × Int) => j (v6, t, PUnit.unit) else
    none else none else none else none else none
noncomputable def ratio_Add (x0 : Int × Int) (x1 : Int × Int) : Option ((Int × Int) × Int × Unit) := ratio_Add_b lpK jnK ratio_gcd ratio_size ratio_Valid ratio_product ratio_plus ratio_less ratio_minus ratio_over ratio_signed x0 x1
noncomputable def c30 : Ctr := ⟨[T27, T27], [], [], .tup [T27, i64], fun x _ _ => ratio_Add x.1 x.2.1⟩
theorem e30 (lp : Lp) (jn : Jn) (ratio_gcd : (Int) → (Int) → Option (Int)) (ratio_size : (Int) → Option (Int)) (ratio_Valid : (Int × Int) → Option (Bool)) (ratio_product : (Int) → (Int) → Option (Int × Int)) (ratio_plus : (Int × Int) → (Int × Int) → Option (Int × Int)) (ratio_less : (Int × Int) → (Int × Int) → Option (Bool)) (ratio_minus : (Int × Int) → (Int × Int) → Option (Int × Int)) (ratio_over : (Int × Int) → (Int) → Option ((Int × Int) × Int × Unit)) (ratio_signed : (Bool) → (Int) → (Int) → Option ((Int × Int) × Int × Unit)) : ∀ (x : TsS c30.as) (F : TsF c30.fs) (y : TsS c30.cs), ratio_Add_b lp jn ratio_gcd ratio_size ratio_Valid ratio_product ratio_plus ratio_less ratio_minus ratio_over ratio_signed x.1 x.2.1 = runC lp jn (ctxOf prog shs inls its [(80, ⟨[.bool, (.int .u64), (.int .u64)], [], [], .tup [T27, i64], fun x _ _ => ratio_signed x.1 x.2.1 x.2.2.1⟩), (79, ⟨[T105, (.int .u64)], [], [], .tup [T105, (.int .u64)], fun x _ _ => ratio_over x.1 x.2.1⟩), (78, ⟨[T105, T105], [], [], .one T105, fun x _ _ => ratio_minus x.1 x.2.1⟩), (77, ⟨[T105, T105], [], [], .one .bool, fun x _ _ => ratio_less x.1 x.2.1⟩), (76, ⟨[T105, T105], [], [], .one T105, fun x _ _ => ratio_plus x.1 x.2.1⟩), (74, ⟨[(.int .u64), (.int .u64)], [], [], .one T105, fun x _ _ => ratio_product x.1 x.2.1⟩), (70, ⟨[T27], [], [], .one .bool, fun x _ _ => ratio_Valid x.1⟩), (75, ⟨[i64], [], [], .one (.int .u64), fun x _ _ => ratio_size x.1⟩), (73, ⟨[(.int .u64), (.int .u64)], [], [], .one (.int .u64), fun x _ _ => ratio_gcd x.1 x.2.1⟩)] [(37, r37), (29, r29), (88, r88)]) hints 4 30 f30 c30 x F y := fun x F y => by kernel_rfl
theorem l30 : (ctxOf prog shs inls its [(80, c80), (79, c79), (78, c78), (77, c77), (76, c76), (74, c74), (70, c70), (75, c75), (73, c73)] [(37, r37), (29, r29), (88, r88)]).ok := ctxOf_cons (ctxOf_cons (ctxOf_cons (ctxOf_cons (ctxOf_cons (ctxOf_cons (ctxOf_cons (ctxOf_cons (ctxOf_cons (q37) (by kernel_rfl) ok73) (by kernel_rfl) ok75) (by kernel_rfl) ok70) (by kernel_rfl) ok74) (by kernel_rfl) ok76) (by kernel_rfl) ok77) (by kernel_rfl) ok78) (by kernel_rfl) ok79) (by kernel_rfl) ok80
theorem ok30 : c30.ok prog 30 := Ctr.of_den l30 hmix (hl := hints) (d := 4) func30 rfl (by decide) (e30 lpK jnK ratio_gcd ratio_size ratio_Valid ratio_product ratio_plus ratio_less ratio_minus ratio_over ratio_signed)

/-- loftblock grid.of -/
noncomputable def grid_of_b (_ : Lp) (_ : Jn) (x0 : Int) : Option (Int × Int) :=
  some (x0, (1 : Int))
noncomputable def grid_of (x0 : Int) : Option (Int × Int) := grid_of_b lpK jnK x0
noncomputable def c51 : Ctr := ⟨[i64], [], [], .one T27, fun x _ _ => grid_of x.1⟩
theorem e51 (lp : Lp) (jn : Jn) : ∀ (x : TsS c51.as) (F : TsF c51.fs) (y : TsS c51.cs), grid_of_b lp jn x.1 = runC lp jn (ctxOf prog shs inls its [] [(37, r37), (29, r29), (88, r88)]) hints 4 51 f51 c51 x F y := fun x F y => by kernel_rfl
theorem l51 : (ctxOf prog shs inls its [] [(37, r37), (29, r29), (88, r88)]).ok := q37
theorem ok51 : c51.ok prog 51 := Ctr.of_den l51 hmix (hl := hints) (d := 4) func51 rfl (by decide) (e51 lpK jnK)

/-- loftblock ratio.Make -/
noncomputable def ratio_Make_b (_ : Lp) (_ : Jn) (ratio_gcd : (Int) → (Int) → Option (Int)) (ratio_size : (Int) → Option (Int)) (ratio_signed : (Bool) → (Int) → (Int) → Option ((Int × Int) × Int × Unit)) (x0 : Int) (x1 : Int) : Option ((Int × Int) × Int × Unit) :=
  
  let v4 : Bool := !decide (x0 = (0 : Int));
  let v5 : Bool := !v4 || v4; bif decide (x1 = (0 : Int)) then some (((0 : Int), (0 : Int)), (16 : Int), PUnit.unit) else obind (ratio_size x0) fun (t : Int) => obind (ratio_size x1) fun
    (t_1 : Int) => obind (ratio_gcd t t_1) fun (t_2 : Int) =>
  let v9 : Bool := nzB t_2; bif v5 then bif v5 then bif v5 && v5 then bif v5 then bif v9 then bif v9 then obind (ratio_signed (bif v4 then !decide (decide (x0 < (0 : Int)) = decide (x1 < (0
    : Int))) else false) (IntKind.wrap IntKind.u64 (Int.tdiv t t_2)) (IntKind.wrap IntKind.u64 (Int.tdiv t_1 t_2))) fun (t : (Int × Int) × Int × PUnit) => some (t.fst, t.snd.fst,
    PUnit.unit) else none else none else none else none else none else none
noncomputable def ratio_Make (x0 : Int) (x1 : Int) : Option ((Int × Int) × Int × Unit) := ratio_Make_b lpK jnK ratio_gcd ratio_size ratio_signed x0 x1
noncomputable def c89 : Ctr := ⟨[i64, i64], [], [], .tup [T27, i64], fun x _ _ => ratio_Make x.1 x.2.1⟩
theorem e89 (lp : Lp) (jn : Jn) (ratio_gcd : (Int) → (Int) → Option (Int)) (ratio_size : (Int) → Option (Int)) (ratio_signed : (Bool) → (Int) → (Int) → Option ((Int × Int) × Int × Unit)) : ∀ (x : TsS c89.as) (F : TsF c89.fs) (y : TsS c89.cs), ratio_Make_b lp jn ratio_gcd ratio_size ratio_signed x.1 x.2.1 = runC lp jn (ctxOf prog shs inls its [(80, ⟨[.bool, (.int .u64), (.int .u64)], [], [], .tup [T27, i64], fun x _ _ => ratio_signed x.1 x.2.1 x.2.2.1⟩), (75, ⟨[i64], [], [], .one (.int .u64), fun x _ _ => ratio_size x.1⟩), (73, ⟨[(.int .u64), (.int .u64)], [], [], .one (.int .u64), fun x _ _ => ratio_gcd x.1 x.2.1⟩)] [(37, r37), (29, r29), (88, r88)]) hints 4 89 f89 c89 x F y := fun x F y => by kernel_rfl
theorem l89 : (ctxOf prog shs inls its [(80, c80), (75, c75), (73, c73)] [(37, r37), (29, r29), (88, r88)]).ok := ctxOf_cons (ctxOf_cons (ctxOf_cons (q37) (by kernel_rfl) ok73) (by kernel_rfl) ok75) (by kernel_rfl) ok80
theorem ok89 : c89.ok prog 89 := Ctr.of_den l89 hmix (hl := hints) (d := 4) func89 rfl (by decide) (e89 lpK jnK ratio_gcd ratio_size ratio_signed)

/-- loftblock grid.borne -/
noncomputable def grid_borne_b (lp : Lp) (_ : Jn) (grid_beams_count : (List (ByteArray × Int × Int × Int)) → (Int) → Option (Int)) (ratio_Add : (Int × Int) → (Int × Int) → Option ((Int × Int) × Int × Unit)) (grid_of : (Int) → Option (Int × Int)) (ratio_Make : (Int) → (Int) → Option ((Int × Int) × Int × Unit)) (slices_Repeat_88 : (List (Int × Int)) → (Int) → Option (List (Int × Int))) (x0 : List (ByteArray × Int × Int × Int)) (x1 : List (Int × Int)) : Option ((List (Int × Int)) × Int × Unit) :=
  obind (grid_of (0 : Int)) fun (t : Int × Int) => obind (slices_Repeat_88 [t] (↑(List.length x0) : Int)) fun (t : List (Int × Int)) => lp (Int × List (Int × Int) × Int × PUnit) (List (Int ×
    Int) × Int × PUnit) (fun (again : Int × List (Int × Int) × Int × PUnit → Option (List (Int × Int) × Int × PUnit)) (x : Int × List (Int × Int) × Int × PUnit) => bif decide (x.fst <
    (↑(List.length x1) : Int)) then bif inB x.fst (List.length x1) then obind (grid_beams_count x0 (List.getD x1 (Int.toNat x.fst) ((0 : Int), (0 : Int))).fst) fun (t : Int) => bif decide
    (t = (0 : Int)) then some ([], (12 : Int), PUnit.unit) else again (IntKind.wrap IntKind.i64 (x.fst + (1 : Int)), x.snd.fst, x.snd.snd.fst, PUnit.unit) else none else lp (Int × List (Int
    × Int) × Int × List (Int × Int) × PUnit) (List (Int × Int) × Int × PUnit) (fun (again : Int × List (Int × Int) × Int × List (Int × Int) × PUnit → Option (List (Int × Int) × Int ×
    PUnit)) (x : Int × List (Int × Int) × Int × List (Int × Int) × PUnit) =>
  let v10 : Int × Int := List.getD x1 (Int.toNat x.fst) ((0 : Int), (0 : Int));
  let v11 : List (Int × Unit) := overL x0 v10.fst; bif decide (x.fst < (↑(List.length x1) : Int)) then bif inB x.fst (List.length x1) then obind (grid_beams_count x0 v10.fst) fun (t : Int)
    => obind (ratio_Make v10.snd t) fun (t : (Int × Int) × Int × PUnit) => bif !decide (t.snd.fst = (0 : Int)) then some ([], t.snd.fst, PUnit.unit) else bif overP x0 then lp (Nat × List
    (Int × Int) × Int × Int × List (Int × Int) × PUnit) (List (Int × Int) × Int × PUnit) (fun (again_1 : Nat × List (Int × Int) × Int × Int × List (Int × Int) × PUnit → Option (List (Int ×
    Int) × Int × PUnit)) (p : Nat × List (Int × Int) × Int × Int × List (Int × Int) × PUnit) =>
  let v16 : Bool := inB (List.getD v11 p.fst ((0 : Int), PUnit.unit)).fst (List.length p.snd.snd.snd.snd.fst);
  let v17 : Bool := Nat.ble (Nat.succ (Int.toNat (List.getD v11 p.fst ((0 : Int), PUnit.unit)).fst)) (List.length p.snd.snd.snd.snd.fst); bif Nat.ble (Nat.succ p.fst) (List.length v11) then
    bif v16 then bif v17 then obind (ratio_Add (List.getD p.snd.snd.snd.snd.fst (Int.toNat (List.getD v11 p.fst ((0 : Int), PUnit.unit)).fst) ((0 : Int), (0 : Int))) t.fst) fun (t : (Int ×
    Int) × Int × PUnit) => bif v16 then bif v17 then bif !decide (t.snd.fst = (0 : Int)) then some ([], t.snd.fst, PUnit.unit) else again_1 (Nat.succ p.fst, p.snd.fst, p.snd.snd.fst,
    t.snd.fst, List.set p.snd.snd.snd.snd.fst (Int.toNat (List.getD v11 p.fst ((0 : Int), PUnit.unit)).fst) t.fst, PUnit.unit) else none else none else none else none else again
    (IntKind.wrap IntKind.i64 (x.fst + (1 : Int)), p.snd.fst, p.snd.snd.fst, p.snd.snd.snd.snd.fst, PUnit.unit)) ((0 : Nat), x.snd.fst, x.snd.snd.fst, t.snd.fst, x.snd.snd.snd.fst,
    PUnit.unit) else none else none else some (x.snd.snd.snd.fst, (0 : Int), PUnit.unit)) ((0 : Int), x.snd.fst, x.snd.snd.fst, t, PUnit.unit)) ((0 : Int), [], (0 : Int), PUnit.unit)
noncomputable def grid_borne (x0 : List (ByteArray × Int × Int × Int)) (x1 : List (Int × Int)) : Option ((List (Int × Int)) × Int × Unit) := grid_borne_b lpK jnK grid_beams_count ratio_Add grid_of ratio_Make slices_Repeat_88 x0 x1
noncomputable def c48 : Ctr := ⟨[(.sl T40), (.sl T60)], [], [], .tup [(.sl T27), i64], fun x _ _ => grid_borne x.1 x.2.1⟩
theorem e48 (lp : Lp) (jn : Jn) (grid_beams_count : (List (ByteArray × Int × Int × Int)) → (Int) → Option (Int)) (ratio_Add : (Int × Int) → (Int × Int) → Option ((Int × Int) × Int × Unit)) (grid_of : (Int) → Option (Int × Int)) (ratio_Make : (Int) → (Int) → Option ((Int × Int) × Int × Unit)) (slices_Repeat_88 : (List (Int × Int)) → (Int) → Option (List (Int × Int))) : ∀ (x : TsS c48.as) (F : TsF c48.fs) (y : TsS c48.cs), grid_borne_b lp jn grid_beams_count ratio_Add grid_of ratio_Make slices_Repeat_88 x.1 x.2.1 = runC lp jn (ctxOf prog shs inls its [(89, ⟨[i64, i64], [], [], .tup [T27, i64], fun x _ _ => ratio_Make x.1 x.2.1⟩), (51, ⟨[i64], [], [], .one T27, fun x _ _ => grid_of x.1⟩), (30, ⟨[T27, T27], [], [], .tup [T27, i64], fun x _ _ => ratio_Add x.1 x.2.1⟩), (47, ⟨[(.sl T40), i64], [], [], .one i64, fun x _ _ => grid_beams_count x.1 x.2.1⟩)] [(37, r37), (29, r29), (88, ⟨[(.sl T27), i64], 27, T27, fun x => slices_Repeat_88 x.1 x.2.1⟩)]) hints 4 48 f48 c48 x F y := fun x F y => by kernel_rfl
theorem l48 : (ctxOf prog shs inls its [(89, c89), (51, c51), (30, c30), (47, c47)] [(37, r37), (29, r29), (88, r88)]).ok := ctxOf_cons (ctxOf_cons (ctxOf_cons (ctxOf_cons (q37) (by kernel_rfl) ok47) (by kernel_rfl) ok30) (by kernel_rfl) ok51) (by kernel_rfl) ok89
theorem ok48 : c48.ok prog 48 := Ctr.of_den l48 hmix (hl := hints) (d := 4) func48 rfl (by decide) (e48 lpK jnK grid_beams_count ratio_Add grid_of ratio_Make slices_Repeat_88)

/-- loftblock ratio.Sub -/
noncomputable def ratio_Sub_b (_ : Lp) (_ : Jn) (ratio_Valid : (Int × Int) → Option (Bool)) (ratio_Add : (Int × Int) → (Int × Int) → Option ((Int × Int) × Int × Unit)) (x0 : Int × Int) (x1 : Int × Int) : Option ((Int × Int) × Int × Unit) :=
  obind (ratio_Valid x0) fun (t : Bool) =>
  let v5 : Bool := !t;
  let v6 : Bool := !v5;
  let v7 : Bool := !v6 || v6; bif v7 then obind (bif v6 then ratio_Valid x1 else some false) fun (t : Bool) => bif v7 then bif v5 || v6 then bif bif v5 then true else !t then some (((0 :
    Int), (0 : Int)), (1 : Int), PUnit.unit) else obind (ratio_Add x0 (IntKind.wrap IntKind.i64 ((0 : Int) - x1.fst), x1.snd)) fun (t : (Int × Int) × Int × PUnit) => some (t.fst, t.snd.fst,
    PUnit.unit) else none else none else none
noncomputable def ratio_Sub (x0 : Int × Int) (x1 : Int × Int) : Option ((Int × Int) × Int × Unit) := ratio_Sub_b lpK jnK ratio_Valid ratio_Add x0 x1
noncomputable def c50 : Ctr := ⟨[T27, T27], [], [], .tup [T27, i64], fun x _ _ => ratio_Sub x.1 x.2.1⟩
theorem e50 (lp : Lp) (jn : Jn) (ratio_Valid : (Int × Int) → Option (Bool)) (ratio_Add : (Int × Int) → (Int × Int) → Option ((Int × Int) × Int × Unit)) : ∀ (x : TsS c50.as) (F : TsF c50.fs) (y : TsS c50.cs), ratio_Sub_b lp jn ratio_Valid ratio_Add x.1 x.2.1 = runC lp jn (ctxOf prog shs inls its [(30, ⟨[T27, T27], [], [], .tup [T27, i64], fun x _ _ => ratio_Add x.1 x.2.1⟩), (70, ⟨[T27], [], [], .one .bool, fun x _ _ => ratio_Valid x.1⟩)] [(37, r37), (29, r29), (88, r88)]) hints 4 50 f50 c50 x F y := fun x F y => by kernel_rfl
theorem l50 : (ctxOf prog shs inls its [(30, c30), (70, c70)] [(37, r37), (29, r29), (88, r88)]).ok := ctxOf_cons (ctxOf_cons (q37) (by kernel_rfl) ok70) (by kernel_rfl) ok30
theorem ok50 : c50.ok prog 50 := Ctr.of_den l50 hmix (hl := hints) (d := 4) func50 rfl (by decide) (e50 lpK jnK ratio_Valid ratio_Add)

/-- loftblock ratio.Mul -/
noncomputable def ratio_Mul_b (_ : Lp) (_ : Jn) (ratio_gcd : (Int) → (Int) → Option (Int)) (ratio_size : (Int) → Option (Int)) (ratio_Valid : (Int × Int) → Option (Bool)) (ratio_product : (Int) → (Int) → Option (Int × Int)) (ratio_signed : (Bool) → (Int) → (Int) → Option ((Int × Int) × Int × Unit)) (x0 : Int × Int) (x1 : Int × Int) : Option ((Int × Int) × Int × Unit) :=
  
  let v4 : Int := IntKind.wrap IntKind.u64 x1.snd;
  let v5 : Int := IntKind.wrap IntKind.u64 x0.snd; obind (ratio_Valid x0) fun (t : Bool) =>
  let v7 : Bool := !t;
  let v8 : Bool := !v7;
  let v9 : Bool := !v8 || v8; bif v9 then obind (bif v8 then ratio_Valid x1 else some false) fun (t : Bool) => bif v9 then bif v7 || v8 then bif bif v7 then true else !t then some (((0 :
    Int), (0 : Int)), (1 : Int), PUnit.unit) else obind (ratio_size x0.fst) fun (t : Int) => obind (ratio_gcd t v4) fun (t : Int) =>
  let v13 : Bool := nzB t; obind (ratio_size x1.fst) fun (t_1 : Int) => obind (ratio_gcd t_1 v5) fun (t_2 : Int) =>
  let v16 : Bool := nzB t_2; obind (ratio_size x0.fst) fun (t_3 : Int) => bif v13 then obind (ratio_size x1.fst) fun (t_4 : Int) => bif v16 then obind (ratio_product (IntKind.wrap
    IntKind.u64 (Int.tdiv t_3 t)) (IntKind.wrap IntKind.u64 (Int.tdiv t_4 t_2))) fun (t_5 : Int × Int) =>
  let v20 : Bool := decide (t_5.fst > (0 : Int));
  let v21 : Bool := decide (t_5.snd > (0 : Int));
  let v22 : Bool := !v20;
  let v23 : Bool := !v21 || v21;
  let v24 : Bool := !v22 || v22; bif v16 then bif v13 then obind (ratio_product (IntKind.wrap IntKind.u64 (Int.tdiv v5 t_2)) (IntKind.wrap IntKind.u64 (Int.tdiv v4 t))) fun (t : Int × Int)
    => bif v24 then bif v24 then bif v20 || v22 then bif bif v20 then true else decide (t.fst > (0 : Int)) then some (((0 : Int), (0 : Int)), (5 : Int), PUnit.unit) else bif v23 then bif
    v23 then bif v23 then bif v23 then bif v23 && v23 then bif v23 then obind (ratio_signed (bif v21 then !decide (decide (x0.fst < (0 : Int)) = decide (x1.fst < (0 : Int))) else false)
    t_5.snd t.snd) fun (t : (Int × Int) × Int × PUnit) => some (t.fst, t.snd.fst, PUnit.unit) else none else none else none else none else none else none else none else none else none else
    none else none else none else none else none else none else none
noncomputable def ratio_Mul (x0 : Int × Int) (x1 : Int × Int) : Option ((Int × Int) × Int × Unit) := ratio_Mul_b lpK jnK ratio_gcd ratio_size ratio_Valid ratio_product ratio_signed x0 x1
noncomputable def c52 : Ctr := ⟨[T27, T27], [], [], .tup [T27, i64], fun x _ _ => ratio_Mul x.1 x.2.1⟩
theorem e52 (lp : Lp) (jn : Jn) (ratio_gcd : (Int) → (Int) → Option (Int)) (ratio_size : (Int) → Option (Int)) (ratio_Valid : (Int × Int) → Option (Bool)) (ratio_product : (Int) → (Int) → Option (Int × Int)) (ratio_signed : (Bool) → (Int) → (Int) → Option ((Int × Int) × Int × Unit)) : ∀ (x : TsS c52.as) (F : TsF c52.fs) (y : TsS c52.cs), ratio_Mul_b lp jn ratio_gcd ratio_size ratio_Valid ratio_product ratio_signed x.1 x.2.1 = runC lp jn (ctxOf prog shs inls its [(80, ⟨[.bool, (.int .u64), (.int .u64)], [], [], .tup [T27, i64], fun x _ _ => ratio_signed x.1 x.2.1 x.2.2.1⟩), (74, ⟨[(.int .u64), (.int .u64)], [], [], .one T105, fun x _ _ => ratio_product x.1 x.2.1⟩), (70, ⟨[T27], [], [], .one .bool, fun x _ _ => ratio_Valid x.1⟩), (75, ⟨[i64], [], [], .one (.int .u64), fun x _ _ => ratio_size x.1⟩), (73, ⟨[(.int .u64), (.int .u64)], [], [], .one (.int .u64), fun x _ _ => ratio_gcd x.1 x.2.1⟩)] [(37, r37), (29, r29), (88, r88)]) hints 4 52 f52 c52 x F y := fun x F y => by kernel_rfl
theorem l52 : (ctxOf prog shs inls its [(80, c80), (74, c74), (70, c70), (75, c75), (73, c73)] [(37, r37), (29, r29), (88, r88)]).ok := ctxOf_cons (ctxOf_cons (ctxOf_cons (ctxOf_cons (ctxOf_cons (q37) (by kernel_rfl) ok73) (by kernel_rfl) ok75) (by kernel_rfl) ok70) (by kernel_rfl) ok74) (by kernel_rfl) ok80
theorem ok52 : c52.ok prog 52 := Ctr.of_den l52 hmix (hl := hints) (d := 4) func52 rfl (by decide) (e52 lpK jnK ratio_gcd ratio_size ratio_Valid ratio_product ratio_signed)

/-- loftblock ratio.Cmp -/
noncomputable def ratio_Cmp_b (_ : Lp) (jn : Jn) (ratio_size : (Int) → Option (Int)) (ratio_Valid : (Int × Int) → Option (Bool)) (ratio_product : (Int) → (Int) → Option (Int × Int)) (ratio_less : (Int × Int) → (Int × Int) → Option (Bool)) (x0 : Int × Int) (x1 : Int × Int) : Option (Int × Int × Unit) :=
  
  let v4 : Bool := decide (x0.fst < (0 : Int)); obind (ratio_Valid x0) fun (t : Bool) =>
  let v6 : Bool := !t;
  let v7 : Bool := !v6;
  let v8 : Bool := !v7 || v7; bif v8 then obind (bif v7 then ratio_Valid x1 else some false) fun (t : Bool) => bif v8 then bif v6 || v7 then bif bif v6 then true else !t then some ((0 :
    Int), (1 : Int), PUnit.unit) else obind (ratio_size x0.fst) fun (t : Int) => obind (ratio_product t (IntKind.wrap IntKind.u64 x1.snd)) fun (t : Int × Int) => obind (ratio_size x1.fst)
    fun (t_1 : Int) => obind (ratio_product t_1 (IntKind.wrap IntKind.u64 x0.snd)) fun (t_2 : Int × Int) => bif !decide (v4 = decide (x1.fst < (0 : Int))) then bif v4 then some ((-1 : Int),
    (0 : Int), PUnit.unit) else some ((1 : Int), (0 : Int), PUnit.unit) else jn ((Int × Int) × (Int × Int) × PUnit) (Int × Int × PUnit) (fun (x : (Int × Int) × (Int × Int) × PUnit) => obind
    (ratio_less x.fst x.snd.fst) fun (t : Bool) => bif t then some ((-1 : Int), (0 : Int), PUnit.unit) else obind (ratio_less x.snd.fst x.fst) fun (t : Bool) => bif t then some ((1 : Int),
    (0 : Int), PUnit.unit) else some ((0 : Int), (0 : Int), PUnit.unit)) fun (j : (Int × Int) × (Int × Int) × PUnit → Option (Int × Int × PUnit)) => bif v4 then j (t_2, t, PUnit.unit) else
    j (t, t_2, PUnit.unit) else none else none else none
noncomputable def ratio_Cmp (x0 : Int × Int) (x1 : Int × Int) : Option (Int × Int × Unit) := ratio_Cmp_b lpK jnK ratio_size ratio_Valid ratio_product ratio_less x0 x1
noncomputable def c53 : Ctr := ⟨[T27, T27], [], [], .tup [i64, i64], fun x _ _ => ratio_Cmp x.1 x.2.1⟩
theorem e53 (lp : Lp) (jn : Jn) (ratio_size : (Int) → Option (Int)) (ratio_Valid : (Int × Int) → Option (Bool)) (ratio_product : (Int) → (Int) → Option (Int × Int)) (ratio_less : (Int × Int) → (Int × Int) → Option (Bool)) : ∀ (x : TsS c53.as) (F : TsF c53.fs) (y : TsS c53.cs), ratio_Cmp_b lp jn ratio_size ratio_Valid ratio_product ratio_less x.1 x.2.1 = runC lp jn (ctxOf prog shs inls its [(77, ⟨[T105, T105], [], [], .one .bool, fun x _ _ => ratio_less x.1 x.2.1⟩), (74, ⟨[(.int .u64), (.int .u64)], [], [], .one T105, fun x _ _ => ratio_product x.1 x.2.1⟩), (70, ⟨[T27], [], [], .one .bool, fun x _ _ => ratio_Valid x.1⟩), (75, ⟨[i64], [], [], .one (.int .u64), fun x _ _ => ratio_size x.1⟩)] [(37, r37), (29, r29), (88, r88)]) hints 4 53 f53 c53 x F y := fun x F y => by kernel_rfl
theorem l53 : (ctxOf prog shs inls its [(77, c77), (74, c74), (70, c70), (75, c75)] [(37, r37), (29, r29), (88, r88)]).ok := ctxOf_cons (ctxOf_cons (ctxOf_cons (ctxOf_cons (q37) (by kernel_rfl) ok75) (by kernel_rfl) ok70) (by kernel_rfl) ok74) (by kernel_rfl) ok77
theorem ok53 : c53.ok prog 53 := Ctr.of_den l53 hmix (hl := hints) (d := 4) func53 rfl (by decide) (e53 lpK jnK ratio_size ratio_Valid ratio_product ratio_less)

/-- loftblock grid.Spare -/
noncomputable def grid_Spare_b (lp : Lp) (_ : Jn) (grid_within : (Int) → Option (Bool)) (grid_given : (List (ByteArray × Int × Int × Int)) → (List (Int × Int)) → Option (Int)) (grid_beams_count : (List (ByteArray × Int × Int × Int)) → (Int) → Option (Int)) (grid_of : (Int) → Option (Int × Int)) (grid_borne : (List (ByteArray × Int × Int × Int)) → (List (Int × Int)) → Option ((List (Int × Int)) × Int × Unit)) (ratio_Sub : (Int × Int) → (Int × Int) → Option ((Int × Int) × Int × Unit)) (ratio_Mul : (Int × Int) → (Int × Int) → Option ((Int × Int) × Int × Unit)) (ratio_Cmp : (Int × Int) → (Int × Int) → Option (Int × Int × Unit)) (x0 : List (ByteArray × Int × Int × Int)) (x1 : List (Int × Int)) (x2 : Int) : Option ((Int × Int) × Int × Unit) :=
  
  let v5 : List (Int × Unit) := overL x0 x2; obind (grid_given x0 x1) fun (t : Int) => bif !decide (t = (0 : Int)) then some (((0 : Int), (0 : Int)), t, PUnit.unit) else obind (grid_within
    x2) fun (t : Bool) => bif !t then some (((0 : Int), (0 : Int)), (2 : Int), PUnit.unit) else obind (grid_beams_count x0 x2) fun (t : Int) => bif decide (t = (0 : Int)) then some (((0 :
    Int), (0 : Int)), (12 : Int), PUnit.unit) else obind (grid_borne x0 x1) fun (t_1 : List (Int × Int) × Int × PUnit) => bif !decide (t_1.snd.fst = (0 : Int)) then some (((0 : Int), (0 :
    Int)), t_1.snd.fst, PUnit.unit) else bif overP x0 then lp (Nat × (Int × Int) × Int × (Int × Int) × Bool × PUnit) ((Int × Int) × Int × PUnit) (fun (again : Nat × (Int × Int) × Int × (Int
    × Int) × Bool × PUnit → Option ((Int × Int) × Int × PUnit)) (p : Nat × (Int × Int) × Int × (Int × Int) × Bool × PUnit) =>
  let v12 : Bool := !p.snd.snd.snd.snd.fst;
  let v13 : Bool := !v12; bif Nat.ble (Nat.succ p.fst) (List.length v5) then bif inB (List.getD v5 p.fst ((0 : Int), PUnit.unit)).fst (List.length x0) then obind (grid_of (List.getD x0
    (Int.toNat (List.getD v5 p.fst ((0 : Int), PUnit.unit)).fst) ({ data := { toList := [] } }, (0 : Int), (0 : Int), (0 : Int))).snd.snd.snd) fun (t_2 : Int × Int) => bif inB (List.getD v5
    p.fst ((0 : Int), PUnit.unit)).fst (List.length t_1.fst) then obind (ratio_Sub t_2 (List.getD t_1.fst (Int.toNat (List.getD v5 p.fst ((0 : Int), PUnit.unit)).fst) ((0 : Int), (0 :
    Int)))) fun (t_3 : (Int × Int) × Int × PUnit) => bif !decide (t_3.snd.fst = (0 : Int)) then some (((0 : Int), (0 : Int)), t_3.snd.fst, PUnit.unit) else obind (grid_of t) fun (t : Int ×
    Int) => obind (ratio_Mul t_3.fst t) fun (t : (Int × Int) × Int × PUnit) => bif !decide (t.snd.fst = (0 : Int)) then some (((0 : Int), (0 : Int)), t.snd.fst, PUnit.unit) else obind
    (ratio_Cmp t.fst p.snd.snd.snd.fst) fun (t_4 : Int × Int × PUnit) => bif !v13 || v13 then bif v12 || v13 then bif bif v12 then true else decide (t_4.fst < (0 : Int)) then again
    (Nat.succ p.fst, p.snd.fst, p.snd.snd.fst, t.fst, true, PUnit.unit) else again (Nat.succ p.fst, p.snd.fst, p.snd.snd.fst, p.snd.snd.snd.fst, p.snd.snd.snd.snd.fst, PUnit.unit) else none
    else none else none else none else some (p.snd.snd.snd.fst, (0 : Int), PUnit.unit)) ((0 : Nat), ((0 : Int), (0 : Int)), (0 : Int), ((0 : Int), (0 : Int)), false, PUnit.unit) else none
noncomputable def grid_Spare (x0 : List (ByteArray × Int × Int × Int)) (x1 : List (Int × Int)) (x2 : Int) : Option ((Int × Int) × Int × Unit) := grid_Spare_b lpK jnK grid_within grid_given grid_beams_count grid_of grid_borne ratio_Sub ratio_Mul ratio_Cmp x0 x1 x2
noncomputable def c11 : Ctr := ⟨[(.sl T40), (.sl T60), i64], [], [], .tup [T27, i64], fun x _ _ => grid_Spare x.1 x.2.1 x.2.2.1⟩
theorem e11 (lp : Lp) (jn : Jn) (grid_within : (Int) → Option (Bool)) (grid_given : (List (ByteArray × Int × Int × Int)) → (List (Int × Int)) → Option (Int)) (grid_beams_count : (List (ByteArray × Int × Int × Int)) → (Int) → Option (Int)) (grid_of : (Int) → Option (Int × Int)) (grid_borne : (List (ByteArray × Int × Int × Int)) → (List (Int × Int)) → Option ((List (Int × Int)) × Int × Unit)) (ratio_Sub : (Int × Int) → (Int × Int) → Option ((Int × Int) × Int × Unit)) (ratio_Mul : (Int × Int) → (Int × Int) → Option ((Int × Int) × Int × Unit)) (ratio_Cmp : (Int × Int) → (Int × Int) → Option (Int × Int × Unit)) : ∀ (x : TsS c11.as) (F : TsF c11.fs) (y : TsS c11.cs), grid_Spare_b lp jn grid_within grid_given grid_beams_count grid_of grid_borne ratio_Sub ratio_Mul ratio_Cmp x.1 x.2.1 x.2.2.1 = runC lp jn (ctxOf prog shs inls its [(53, ⟨[T27, T27], [], [], .tup [i64, i64], fun x _ _ => ratio_Cmp x.1 x.2.1⟩), (52, ⟨[T27, T27], [], [], .tup [T27, i64], fun x _ _ => ratio_Mul x.1 x.2.1⟩), (50, ⟨[T27, T27], [], [], .tup [T27, i64], fun x _ _ => ratio_Sub x.1 x.2.1⟩), (48, ⟨[(.sl T40), (.sl T60)], [], [], .tup [(.sl T27), i64], fun x _ _ => grid_borne x.1 x.2.1⟩), (51, ⟨[i64], [], [], .one T27, fun x _ _ => grid_of x.1⟩), (47, ⟨[(.sl T40), i64], [], [], .one i64, fun x _ _ => grid_beams_count x.1 x.2.1⟩), (45, ⟨[(.sl T40), (.sl T60)], [], [], .one i64, fun x _ _ => grid_given x.1 x.2.1⟩), (46, ⟨[i64], [], [], .one .bool, fun x _ _ => grid_within x.1⟩)] [(37, r37), (29, r29), (88, r88)]) hints 4 11 f11 c11 x F y := fun x F y => by kernel_rfl
theorem l11 : (ctxOf prog shs inls its [(53, c53), (52, c52), (50, c50), (48, c48), (51, c51), (47, c47), (45, c45), (46, c46)] [(37, r37), (29, r29), (88, r88)]).ok := ctxOf_cons (ctxOf_cons (ctxOf_cons (ctxOf_cons (ctxOf_cons (ctxOf_cons (ctxOf_cons (ctxOf_cons (q37) (by kernel_rfl) ok46) (by kernel_rfl) ok45) (by kernel_rfl) ok47) (by kernel_rfl) ok51) (by kernel_rfl) ok48) (by kernel_rfl) ok50) (by kernel_rfl) ok52) (by kernel_rfl) ok53
theorem ok11 : c11.ok prog 11 := Ctr.of_den l11 hmix (hl := hints) (d := 4) func11 rfl (by decide) (e11 lpK jnK grid_within grid_given grid_beams_count grid_of grid_borne ratio_Sub ratio_Mul ratio_Cmp)

/-- loftblock grid.Loads -/
noncomputable def grid_Loads_b (_ : Lp) (_ : Jn) (grid_given : (List (ByteArray × Int × Int × Int)) → (List (Int × Int)) → Option (Int)) (grid_borne : (List (ByteArray × Int × Int × Int)) → (List (Int × Int)) → Option ((List (Int × Int)) × Int × Unit)) (x0 : List (ByteArray × Int × Int × Int)) (x1 : List (Int × Int)) : Option ((List (Int × Int)) × Int × Unit) :=
  obind (grid_given x0 x1) fun (t : Int) => bif !decide (t = (0 : Int)) then some ([], t, PUnit.unit) else obind (grid_borne x0 x1) fun (t : List (Int × Int) × Int × PUnit) => some (t.fst,
    t.snd.fst, PUnit.unit)
noncomputable def grid_Loads (x0 : List (ByteArray × Int × Int × Int)) (x1 : List (Int × Int)) : Option ((List (Int × Int)) × Int × Unit) := grid_Loads_b lpK jnK grid_given grid_borne x0 x1
noncomputable def c19 : Ctr := ⟨[(.sl T40), (.sl T60)], [], [], .tup [(.sl T27), i64], fun x _ _ => grid_Loads x.1 x.2.1⟩
theorem e19 (lp : Lp) (jn : Jn) (grid_given : (List (ByteArray × Int × Int × Int)) → (List (Int × Int)) → Option (Int)) (grid_borne : (List (ByteArray × Int × Int × Int)) → (List (Int × Int)) → Option ((List (Int × Int)) × Int × Unit)) : ∀ (x : TsS c19.as) (F : TsF c19.fs) (y : TsS c19.cs), grid_Loads_b lp jn grid_given grid_borne x.1 x.2.1 = runC lp jn (ctxOf prog shs inls its [(48, ⟨[(.sl T40), (.sl T60)], [], [], .tup [(.sl T27), i64], fun x _ _ => grid_borne x.1 x.2.1⟩), (45, ⟨[(.sl T40), (.sl T60)], [], [], .one i64, fun x _ _ => grid_given x.1 x.2.1⟩)] [(37, r37), (29, r29), (88, r88)]) hints 4 19 f19 c19 x F y := fun x F y => by kernel_rfl
theorem l19 : (ctxOf prog shs inls its [(48, c48), (45, c45)] [(37, r37), (29, r29), (88, r88)]).ok := ctxOf_cons (ctxOf_cons (q37) (by kernel_rfl) ok45) (by kernel_rfl) ok48
theorem ok19 : c19.ok prog 19 := Ctr.of_den l19 hmix (hl := hints) (d := 4) func19 rfl (by decide) (e19 lpK jnK grid_given grid_borne)

/-- slices.Equal[[]loftblock api.Frac,loftblock api.Frac] -/
noncomputable def slices_Equal_22_b (lp : Lp) (_ : Jn) (x0 : List (Int × Int)) (x1 : List (Int × Int)) : Option Bool :=
  bif !decide ((↑(List.length x0) : Int) = (↑(List.length x1) : Int)) then some false else lp (Int × PUnit) Bool (fun (again : Int × PUnit → Option Bool) (x : Int × PUnit) => bif decide
    (x.fst < (↑(List.length x0) : Int)) then bif inB x.fst (List.length x0) then bif inB x.fst (List.length x1) then bif !(decide ((List.getD x0 (Int.toNat x.fst) ((0 : Int), (0 :
    Int))).fst = (List.getD x1 (Int.toNat x.fst) ((0 : Int), (0 : Int))).fst) && (decide ((List.getD x0 (Int.toNat x.fst) ((0 : Int), (0 : Int))).snd = (List.getD x1 (Int.toNat x.fst) ((0 :
    Int), (0 : Int))).snd) && true)) then some false else again (IntKind.wrap IntKind.i64 (x.fst + (1 : Int)), PUnit.unit) else none else none else some true) ((0 : Int), PUnit.unit)
noncomputable def slices_Equal_22 (x0 : List (Int × Int)) (x1 : List (Int × Int)) : Option Bool := slices_Equal_22_b lpK jnK x0 x1
noncomputable def c22 : Ctr := ⟨[(.sl T27), (.sl T27)], [], [], .one .bool, fun x _ _ => slices_Equal_22 x.1 x.2.1⟩
theorem e22 (lp : Lp) (jn : Jn) : ∀ (x : TsS c22.as) (F : TsF c22.fs) (y : TsS c22.cs), slices_Equal_22_b lp jn x.1 x.2.1 = runC lp jn (ctxOf prog shs inls its [] [(37, r37), (29, r29), (88, r88)]) hints 4 22 f22 c22 x F y := fun x F y => by kernel_rfl
theorem l22 : (ctxOf prog shs inls its [] [(37, r37), (29, r29), (88, r88)]).ok := q37
theorem ok22 : c22.ok prog 22 := Ctr.of_den l22 hmix (hl := hints) (d := 4) func22 rfl (by decide) (e22 lpK jnK)

/-- loftblock loftblocklaw19.whole -/
noncomputable def law19_whole_b (_ : Lp) (_ : Jn) (x0 : Int) : Option (Int × Int) :=
  some (x0, (1 : Int))
noncomputable def law19_whole (x0 : Int) : Option (Int × Int) := law19_whole_b lpK jnK x0
noncomputable def c24 : Ctr := ⟨[i64], [], [], .one T27, fun x _ _ => law19_whole x.1⟩
theorem e24 (lp : Lp) (jn : Jn) : ∀ (x : TsS c24.as) (F : TsF c24.fs) (y : TsS c24.cs), law19_whole_b lp jn x.1 = runC lp jn (ctxOf prog shs inls its [] [(37, r37), (29, r29), (88, r88)]) hints 4 24 f24 c24 x F y := fun x F y => by kernel_rfl
theorem l24 : (ctxOf prog shs inls its [] [(37, r37), (29, r29), (88, r88)]).ok := q37
theorem ok24 : c24.ok prog 24 := Ctr.of_den l24 hmix (hl := hints) (d := 4) func24 rfl (by decide) (e24 lpK jnK)

/-- loftblock loftblocklaw19.example -/
noncomputable def law19_example_b (_ : Lp) (_ : Jn) : Option ((List (ByteArray × Int × Int × Int)) × (List (Int × Int)) × Unit) :=
  some ([({ data := #[(97 : UInt8)] }, (0 : Int), (1000 : Int), (300 : Int)), ({ data := #[(98 : UInt8)] }, (500 : Int), (2000 : Int), (300 : Int))], [((200 : Int), (100 : Int)), ((700 :
    Int), (100 : Int))], PUnit.unit)
noncomputable def law19_example : Option ((List (ByteArray × Int × Int × Int)) × (List (Int × Int)) × Unit) := law19_example_b lpK jnK
noncomputable def c40 : Ctr := ⟨[], [], [], .tup [(.sl T40), (.sl T60)], fun _ _ _ => law19_example⟩
theorem e40 (lp : Lp) (jn : Jn) : ∀ (x : TsS c40.as) (F : TsF c40.fs) (y : TsS c40.cs), law19_example_b lp jn = runC lp jn (ctxOf prog shs inls its [] [(37, r37), (29, r29), (88, r88)]) hints 4 40 f40 c40 x F y := fun x F y => by kernel_rfl
theorem l40 : (ctxOf prog shs inls its [] [(37, r37), (29, r29), (88, r88)]).ok := q37
theorem ok40 : c40.ok prog 40 := Ctr.of_den l40 hmix (hl := hints) (d := 4) func40 rfl (by decide) (e40 lpK jnK)

/-- loftblock loftblocklaw19.awake -/
noncomputable def law19_awake_b (_ : Lp) (_ : Jn) (grid_Spare : (List (ByteArray × Int × Int × Int)) → (List (Int × Int)) → (Int) → Option ((Int × Int) × Int × Unit)) (grid_Loads : (List (ByteArray × Int × Int × Int)) → (List (Int × Int)) → Option ((List (Int × Int)) × Int × Unit)) (slices_Equal_22 : (List (Int × Int)) → (List (Int × Int)) → Option (Bool)) (law19_whole : (Int) → Option (Int × Int)) (law19_example : Option ((List (ByteArray × Int × Int × Int)) × (List (Int × Int)) × Unit)) : Option Bool :=
  obind law19_example fun (t : List (ByteArray × Int × Int × Int) × List (Int × Int) × PUnit) => obind (grid_Loads t.fst t.snd.fst) fun (t_1 : List (Int × Int) × Int × PUnit) =>
  let v4 : Bool := decide (t_1.snd.fst = (0 : Int));
  let v5 : Bool := !v4 || v4;
  let v6 : Bool := v5 && v5; obind (grid_Spare t.fst t.snd.fst (700 : Int)) fun (t : (Int × Int) × Int × PUnit) =>
  let v8 : Bool := decide (t.snd.fst = (0 : Int)); obind (bif v4 then law19_whole (150 : Int) else some ((0 : Int), (0 : Int))) fun (t_2 : Int × Int) => obind (bif v4 then law19_whole (50 :
    Int) else some ((0 : Int), (0 : Int))) fun (t_3 : Int × Int) => bif v6 then bif v6 then obind (bif v4 then slices_Equal_22 t_1.fst [t_2, t_3] else some false) fun (t_4 : Bool) =>
  let v12 : Bool := bif v4 then t_4 else false;
  let v13 : Bool := bif v12 then v8 else false;
  let v14 : Bool := !v12 || v12;
  let v15 : Bool := !v13 || v13; bif v5 then bif v14 then bif v14 then obind (bif v13 then law19_whole (300 : Int) else some ((0 : Int), (0 : Int))) fun (t_5 : Int × Int) => bif v15 && v15
    then bif v15 then some (bif v13 then decide (t.fst.fst = t_5.fst) && (decide (t.fst.snd = t_5.snd) && true) else false) else none else none else none else none else none else none else
    none
noncomputable def law19_awake : Option Bool := law19_awake_b lpK jnK grid_Spare grid_Loads slices_Equal_22 law19_whole law19_example
noncomputable def c9 : Ctr := ⟨[], [], [], .one .bool, fun _ _ _ => law19_awake⟩
theorem e9 (lp : Lp) (jn : Jn) (grid_Spare : (List (ByteArray × Int × Int × Int)) → (List (Int × Int)) → (Int) → Option ((Int × Int) × Int × Unit)) (grid_Loads : (List (ByteArray × Int × Int × Int)) → (List (Int × Int)) → Option ((List (Int × Int)) × Int × Unit)) (slices_Equal_22 : (List (Int × Int)) → (List (Int × Int)) → Option (Bool)) (law19_whole : (Int) → Option (Int × Int)) (law19_example : Option ((List (ByteArray × Int × Int × Int)) × (List (Int × Int)) × Unit)) : ∀ (x : TsS c9.as) (F : TsF c9.fs) (y : TsS c9.cs), law19_awake_b lp jn grid_Spare grid_Loads slices_Equal_22 law19_whole law19_example = runC lp jn (ctxOf prog shs inls its [(40, ⟨[], [], [], .tup [(.sl T40), (.sl T60)], fun _ _ _ => law19_example⟩), (24, ⟨[i64], [], [], .one T27, fun x _ _ => law19_whole x.1⟩), (22, ⟨[(.sl T27), (.sl T27)], [], [], .one .bool, fun x _ _ => slices_Equal_22 x.1 x.2.1⟩), (19, ⟨[(.sl T40), (.sl T60)], [], [], .tup [(.sl T27), i64], fun x _ _ => grid_Loads x.1 x.2.1⟩), (11, ⟨[(.sl T40), (.sl T60), i64], [], [], .tup [T27, i64], fun x _ _ => grid_Spare x.1 x.2.1 x.2.2.1⟩)] [(37, r37), (29, r29), (88, r88)]) hints 4 9 f9 c9 x F y := fun x F y => by kernel_rfl
theorem l9 : (ctxOf prog shs inls its [(40, c40), (24, c24), (22, c22), (19, c19), (11, c11)] [(37, r37), (29, r29), (88, r88)]).ok := ctxOf_cons (ctxOf_cons (ctxOf_cons (ctxOf_cons (ctxOf_cons (q37) (by kernel_rfl) ok11) (by kernel_rfl) ok19) (by kernel_rfl) ok22) (by kernel_rfl) ok24) (by kernel_rfl) ok40
theorem ok9 : c9.ok prog 9 := Ctr.of_den l9 hmix (hl := hints) (d := 4) func9 rfl (by decide) (e9 lpK jnK grid_Spare grid_Loads slices_Equal_22 law19_whole law19_example)

/-- loftblock loftblocklaw19.few$1 -/
noncomputable def law19_few_1_b (_ : Lp) (_ : Jn) (x0 : ByteArray × Int × Int × Int) : Option Bool :=
  some (decide ((↑(ByteArray.size x0.fst) : Int) > (60 : Int)))
noncomputable def law19_few_1 (x0 : ByteArray × Int × Int × Int) : Option Bool := law19_few_1_b lpK jnK x0
noncomputable def c42 : Ctr := ⟨[T40], [], [], .one .bool, fun x _ _ => law19_few_1 x.1⟩
theorem e42 (lp : Lp) (jn : Jn) : ∀ (x : TsS c42.as) (F : TsF c42.fs) (y : TsS c42.cs), law19_few_1_b lp jn x.1 = runC lp jn (ctxOf prog shs inls its [] [(37, r37), (29, r29), (88, r88)]) hints 4 42 f42 c42 x F y := fun x F y => by kernel_rfl
theorem l42 : (ctxOf prog shs inls its [] [(37, r37), (29, r29), (88, r88)]).ok := q37
theorem ok42 : c42.ok prog 42 := Ctr.of_den l42 hmix (hl := hints) (d := 4) func42 rfl (by decide) (e42 lpK jnK)

/-- slices.IndexFunc[[][]loftblock api.Load,[]loftblock api.Load] -/
noncomputable def slices_IndexFunc_86_b (lp : Lp) (_ : Jn) (x0 : List (List (Int × Int))) (f0 : (((List (Int × Int)) × Unit) → Option Bool)) : Option Int :=
  lp (Int × PUnit) Int (fun (again : Int × PUnit → Option Int) (x : Int × PUnit) => bif decide (x.fst < (↑(List.length x0) : Int)) then bif inB x.fst (List.length x0) then obind (f0
    (List.getD x0 (Int.toNat x.fst) [], PUnit.unit)) fun (t : Bool) => bif t then some x.fst else again (IntKind.wrap IntKind.i64 (x.fst + (1 : Int)), PUnit.unit) else none else some (-1 :
    Int)) ((0 : Int), PUnit.unit)
noncomputable def slices_IndexFunc_86 (x0 : List (List (Int × Int))) (f0 : (((List (Int × Int)) × Unit) → Option Bool)) : Option Int := slices_IndexFunc_86_b lpK jnK x0 f0
noncomputable def c86 : Ctr := ⟨[(.sl (.sl T60))], [([(.sl T60)], .bool)], [], .one i64, fun x F _ => slices_IndexFunc_86 x.1 F.1⟩
theorem e86 (lp : Lp) (jn : Jn) : ∀ (x : TsS c86.as) (F : TsF c86.fs) (y : TsS c86.cs), slices_IndexFunc_86_b lp jn x.1 F.1 = runC lp jn (ctxOf prog shs inls its [] [(37, r37), (29, r29), (88, r88)]) hints 4 86 f86 c86 x F y := fun x F y => by kernel_rfl
theorem l86 : (ctxOf prog shs inls its [] [(37, r37), (29, r29), (88, r88)]).ok := q37
theorem ok86 : c86.ok prog 86 := Ctr.of_den l86 hmix (hl := hints) (d := 4) func86 rfl (by decide) (e86 lpK jnK)

/-- slices.ContainsFunc[[][]loftblock api.Load,[]loftblock api.Load] -/
noncomputable def slices_ContainsFunc_43_b (_ : Lp) (_ : Jn) (slices_IndexFunc_86 : (List (List (Int × Int))) → ((((List (Int × Int)) × Unit) → Option Bool)) → Option (Int)) (x0 : List (List (Int × Int))) (f0 : (((List (Int × Int)) × Unit) → Option Bool)) : Option Bool :=
  obind (slices_IndexFunc_86 x0 f0) fun (t : Int) => some (decide (t ≥ (0 : Int)))
noncomputable def slices_ContainsFunc_43 (x0 : List (List (Int × Int))) (f0 : (((List (Int × Int)) × Unit) → Option Bool)) : Option Bool := slices_ContainsFunc_43_b lpK jnK slices_IndexFunc_86 x0 f0
noncomputable def c43 : Ctr := ⟨[(.sl (.sl T60))], [([(.sl T60)], .bool)], [], .one .bool, fun x F _ => slices_ContainsFunc_43 x.1 F.1⟩
theorem e43 (lp : Lp) (jn : Jn) (slices_IndexFunc_86 : (List (List (Int × Int))) → ((((List (Int × Int)) × Unit) → Option Bool)) → Option (Int)) : ∀ (x : TsS c43.as) (F : TsF c43.fs) (y : TsS c43.cs), slices_ContainsFunc_43_b lp jn slices_IndexFunc_86 x.1 F.1 = runC lp jn (ctxOf prog shs inls its [(86, ⟨[(.sl (.sl T60))], [([(.sl T60)], .bool)], [], .one i64, fun x F _ => slices_IndexFunc_86 x.1 F.1⟩)] [(37, r37), (29, r29), (88, r88)]) hints 4 43 f43 c43 x F y := fun x F y => by kernel_rfl
theorem l43 : (ctxOf prog shs inls its [(86, c86)] [(37, r37), (29, r29), (88, r88)]).ok := ctxOf_cons (q37) (by kernel_rfl) ok86
theorem ok43 : c43.ok prog 43 := Ctr.of_den l43 hmix (hl := hints) (d := 4) func43 rfl (by decide) (e43 lpK jnK slices_IndexFunc_86)

/-- loftblock loftblocklaw19.few$2 -/
noncomputable def law19_few_2_b (_ : Lp) (_ : Jn) (x0 : List (Int × Int)) : Option Bool :=
  
  let v3 : Bool := decide ((↑(List.length x0) : Int) > (30 : Int));
  let v4 : Bool := decide ((↑(List.length x0) : Int) ≤ (1000 : Int));
  let v5 : Bool := !v3;
  let v6 : Bool := v5 || v3;
  let v7 : Bool := v3 && !v4;
  let v8 : Bool := !v7 || v7; bif v6 then bif v6 then bif v6 then bif v8 then bif v8 then bif (v5 || v6) && (v5 || (v4 || (v5 || v7))) then bif v6 then some (bif v3 then bif v4 then true
    else decide ((↑(List.length x0) : Int) > (1010 : Int)) else false) else none else none else none else none else none else none else none
noncomputable def law19_few_2 (x0 : List (Int × Int)) : Option Bool := law19_few_2_b lpK jnK x0
noncomputable def c44 : Ctr := ⟨[(.sl T60)], [], [], .one .bool, fun x _ _ => law19_few_2 x.1⟩
theorem e44 (lp : Lp) (jn : Jn) : ∀ (x : TsS c44.as) (F : TsF c44.fs) (y : TsS c44.cs), law19_few_2_b lp jn x.1 = runC lp jn (ctxOf prog shs inls its [] [(37, r37), (29, r29), (88, r88)]) hints 4 44 f44 c44 x F y := fun x F y => by kernel_rfl
theorem l44 : (ctxOf prog shs inls its [] [(37, r37), (29, r29), (88, r88)]).ok := q37
theorem ok44 : c44.ok prog 44 := Ctr.of_den l44 hmix (hl := hints) (d := 4) func44 rfl (by decide) (e44 lpK jnK)

/-- loftblock loftblocklaw19.few -/
noncomputable def law19_few_b (_ : Lp) (_ : Jn) (slices_ContainsFunc_41 : (List (ByteArray × Int × Int × Int)) → ((((ByteArray × Int × Int × Int) × Unit) → Option Bool)) → Option (Bool)) (law19_few_1 : (ByteArray × Int × Int × Int) → Option (Bool)) (slices_ContainsFunc_43 : (List (List (Int × Int))) → ((((List (Int × Int)) × Unit) → Option Bool)) → Option (Bool)) (law19_few_2 : (List (Int × Int)) → Option (Bool)) (x0 : List (ByteArray × Int × Int × Int)) (x1 : List (List (Int × Int))) : Option Bool :=
  
  let v4 : Bool := decide ((↑(List.length x0) : Int) ≤ (25 : Int));
  let v5 : Bool := !v4 || v4; bif v5 then obind (bif v4 then slices_ContainsFunc_41 x0 fun (x : (ByteArray × Int × Int × Int) × PUnit) => law19_few_1 x.fst else some false) fun (t : Bool) =>
  let v7 : Bool := bif v4 then !t else false;
  let v8 : Bool := !v7 || v7; bif v5 then bif v5 then bif v8 then obind (bif v7 then slices_ContainsFunc_43 x1 fun (x : List (Int × Int) × PUnit) => law19_few_2 x.fst else some false) fun
    (t : Bool) => bif v8 then bif v8 then some (bif v7 then !t else false) else none else none else none else none else none else none
noncomputable def law19_few (x0 : List (ByteArray × Int × Int × Int)) (x1 : List (List (Int × Int))) : Option Bool := law19_few_b lpK jnK slices_ContainsFunc_41 law19_few_1 slices_ContainsFunc_43 law19_few_2 x0 x1
noncomputable def c10 : Ctr := ⟨[(.sl T40), (.sl (.sl T60))], [], [], .one .bool, fun x _ _ => law19_few x.1 x.2.1⟩
theorem e10 (lp : Lp) (jn : Jn) (slices_ContainsFunc_41 : (List (ByteArray × Int × Int × Int)) → ((((ByteArray × Int × Int × Int) × Unit) → Option Bool)) → Option (Bool)) (law19_few_1 : (ByteArray × Int × Int × Int) → Option (Bool)) (slices_ContainsFunc_43 : (List (List (Int × Int))) → ((((List (Int × Int)) × Unit) → Option Bool)) → Option (Bool)) (law19_few_2 : (List (Int × Int)) → Option (Bool)) : ∀ (x : TsS c10.as) (F : TsF c10.fs) (y : TsS c10.cs), law19_few_b lp jn slices_ContainsFunc_41 law19_few_1 slices_ContainsFunc_43 law19_few_2 x.1 x.2.1 = runC lp jn (ctxOf prog shs inls its [(44, ⟨[(.sl T60)], [], [], .one .bool, fun x _ _ => law19_few_2 x.1⟩), (43, ⟨[(.sl (.sl T60))], [([(.sl T60)], .bool)], [], .one .bool, fun x F _ => slices_ContainsFunc_43 x.1 F.1⟩), (42, ⟨[T40], [], [], .one .bool, fun x _ _ => law19_few_1 x.1⟩), (41, ⟨[(.sl T40)], [([T40], .bool)], [], .one .bool, fun x F _ => slices_ContainsFunc_41 x.1 F.1⟩)] [(37, r37), (29, r29), (88, r88)]) hints 4 10 f10 c10 x F y := fun x F y => by kernel_rfl
theorem l10 : (ctxOf prog shs inls its [(44, c44), (43, c43), (42, c42), (41, c41)] [(37, r37), (29, r29), (88, r88)]).ok := ctxOf_cons (ctxOf_cons (ctxOf_cons (ctxOf_cons (q37) (by kernel_rfl) ok41) (by kernel_rfl) ok42) (by kernel_rfl) ok43) (by kernel_rfl) ok44
theorem ok10 : c10.ok prog 10 := Ctr.of_den l10 hmix (hl := hints) (d := 4) func10 rfl (by decide) (e10 lpK jnK slices_ContainsFunc_41 law19_few_1 slices_ContainsFunc_43 law19_few_2)

/-- loftblock loftblockref01.Letter -/
noncomputable def ref01_Letter_b (_ : Lp) (_ : Jn) (x0 : Int) : Option Bool :=
  
  let v3 : Bool := decide (x0 ≥ (97 : Int));
  let v4 : Bool := decide (x0 ≥ (65 : Int));
  let v5 : Bool := !v3 || v3;
  let v6 : Bool := bif v3 then decide (x0 ≤ (122 : Int)) else false;
  let v7 : Bool := !v6;
  let v8 : Bool := !v7;
  let v9 : Bool := v7 && v4;
  let v10 : Bool := v8 || v7; bif v5 then bif v5 then bif v10 then bif v10 then bif !v9 || v9 then bif (v8 || v10) && (v8 || (!v4 || (v8 || v9))) then bif v6 || v7 then some (bif v6 then
    true else bif v4 then decide (x0 ≤ (90 : Int)) else false) else none else none else none else none else none else none else none
noncomputable def ref01_Letter (x0 : Int) : Option Bool := ref01_Letter_b lpK jnK x0
noncomputable def c94 : Ctr := ⟨[(.int .u8)], [], [], .one .bool, fun x _ _ => ref01_Letter x.1⟩
theorem e94 (lp : Lp) (jn : Jn) : ∀ (x : TsS c94.as) (F : TsF c94.fs) (y : TsS c94.cs), ref01_Letter_b lp jn x.1 = runC lp jn (ctxOf prog shs inls its [] [(37, r37), (29, r29), (88, r88)]) hints 4 94 f94 c94 x F y := fun x F y => by kernel_rfl
theorem l94 : (ctxOf prog shs inls its [] [(37, r37), (29, r29), (88, r88)]).ok := q37
theorem ok94 : c94.ok prog 94 := Ctr.of_den l94 hmix (hl := hints) (d := 4) func94 rfl (by decide) (e94 lpK jnK)

/-- loftblock loftblockref01.Digit -/
noncomputable def ref01_Digit_b (_ : Lp) (_ : Jn) (x0 : Int) : Option Bool :=
  
  let v3 : Bool := decide (x0 ≥ (48 : Int));
  let v4 : Bool := !v3 || v3; bif v4 then bif v4 then some (bif v3 then decide (x0 ≤ (57 : Int)) else false) else none else none
noncomputable def ref01_Digit (x0 : Int) : Option Bool := ref01_Digit_b lpK jnK x0
noncomputable def c107 : Ctr := ⟨[(.int .u8)], [], [], .one .bool, fun x _ _ => ref01_Digit x.1⟩
theorem e107 (lp : Lp) (jn : Jn) : ∀ (x : TsS c107.as) (F : TsF c107.fs) (y : TsS c107.cs), ref01_Digit_b lp jn x.1 = runC lp jn (ctxOf prog shs inls its [] [(37, r37), (29, r29), (88, r88)]) hints 4 107 f107 c107 x F y := fun x F y => by kernel_rfl
theorem l107 : (ctxOf prog shs inls its [] [(37, r37), (29, r29), (88, r88)]).ok := q37
theorem ok107 : c107.ok prog 107 := Ctr.of_den l107 hmix (hl := hints) (d := 4) func107 rfl (by decide) (e107 lpK jnK)

/-- loftblock loftblockref01.word -/
noncomputable def ref01_word_b (lp : Lp) (_ : Jn) (ref01_Letter : (Int) → Option (Bool)) (ref01_Digit : (Int) → Option (Bool)) (x0 : ByteArray) (x1 : Int) : Option Int :=
  lp (Int × PUnit) Int (fun (again : Int × PUnit → Option Int) (x : Int × PUnit) =>
  let v6 : Bool := inB x.fst (ByteArray.size x0);
  let v7 : Int := byteAt x0 (Int.toNat x.fst);
  let v8 : Bool := decide (x.fst < (↑(ByteArray.size x0) : Int));
  let v9 : Bool := !v8;
  let v10 : Bool := v9 || v8;
  let v11 : Bool := v9 || v10; bif v10 && (v10 && (v9 || v6)) then bif v10 then obind (bif v8 then ref01_Letter v7 else some false) fun (t : Bool) =>
  let v13 : Bool := v8 && !t;
  let v14 : Bool := !v13;
  let v15 : Bool := v14 || v13; bif v10 then bif v15 && (v15 && (v14 || v6)) then bif v15 then obind (bif v13 then ref01_Digit v7 else some false) fun (t_1 : Bool) =>
  let v17 : Bool := bif t then true else t_1;
  let v18 : Bool := v8 && !v17;
  let v19 : Bool := !v18;
  let v20 : Bool := v19 || v18; bif v11 && (v9 || (t || (v9 || v13))) then bif v10 then bif v20 && (v20 && (v19 || v6)) then bif v20 then bif v11 && (v9 || (v17 || (v9 || v18))) then bif
    v10 then bif bif v8 then bif v17 then true else decide (v7 = (95 : Int)) else false then again (IntKind.wrap IntKind.i64 (x.fst + (1 : Int)), PUnit.unit) else some x.fst else none else
    none else none else none else none else none else none else none else none else none else none) (x1, PUnit.unit)
noncomputable def ref01_word (x0 : ByteArray) (x1 : Int) : Option Int := ref01_word_b lpK jnK ref01_Letter ref01_Digit x0 x1
noncomputable def c95 : Ctr := ⟨[.str, i64], [], [], .one i64, fun x _ _ => ref01_word x.1 x.2.1⟩
theorem e95 (lp : Lp) (jn : Jn) (ref01_Letter : (Int) → Option (Bool)) (ref01_Digit : (Int) → Option (Bool)) : ∀ (x : TsS c95.as) (F : TsF c95.fs) (y : TsS c95.cs), ref01_word_b lp jn ref01_Letter ref01_Digit x.1 x.2.1 = runC lp jn (ctxOf prog shs inls its [(107, ⟨[(.int .u8)], [], [], .one .bool, fun x _ _ => ref01_Digit x.1⟩), (94, ⟨[(.int .u8)], [], [], .one .bool, fun x _ _ => ref01_Letter x.1⟩)] [(37, r37), (29, r29), (88, r88)]) hints 4 95 f95 c95 x F y := fun x F y => by kernel_rfl
theorem l95 : (ctxOf prog shs inls its [(107, c107), (94, c94)] [(37, r37), (29, r29), (88, r88)]).ok := ctxOf_cons (ctxOf_cons (q37) (by kernel_rfl) ok94) (by kernel_rfl) ok107
theorem ok95 : c95.ok prog 95 := Ctr.of_den l95 hmix (hl := hints) (d := 4) func95 rfl (by decide) (e95 lpK jnK ref01_Letter ref01_Digit)

/-- loftblock loftblockref01.IsName -/
noncomputable def ref01_IsName_b (_ : Lp) (_ : Jn) (ref01_Letter : (Int) → Option (Bool)) (ref01_word : (ByteArray) → (Int) → Option (Int)) (x0 : ByteArray) : Option Bool :=
  
  let v3 : Bool := decide ((↑(ByteArray.size x0) : Int) = (0 : Int));
  let v4 : Bool := !v3;
  let v5 : Bool := !v4 || v4;
  let v6 : Bool := bif v3 then true else decide ((↑(ByteArray.size x0) : Int) > (20 : Int));
  let v7 : Bool := !v6;
  let v8 : Bool := !v7;
  let v9 : Bool := v8 || v7; bif v5 then bif v5 then bif v3 || v4 then bif v9 && (v8 || inB (0 : Int) (ByteArray.size x0)) then bif v9 then obind (bif v7 then ref01_Letter (byteAt x0 (0 :
    Nat)) else some false) fun (t : Bool) => bif v9 then bif v6 || v7 then bif bif v6 then true else !t then some false else obind (ref01_word x0 (0 : Int)) fun (t : Int) => some (decide (t
    = (↑(ByteArray.size x0) : Int))) else none else none else none else none else none else none else none
noncomputable def ref01_IsName (x0 : ByteArray) : Option Bool := ref01_IsName_b lpK jnK ref01_Letter ref01_word x0
noncomputable def c62 : Ctr := ⟨[.str], [], [], .one .bool, fun x _ _ => ref01_IsName x.1⟩
theorem e62 (lp : Lp) (jn : Jn) (ref01_Letter : (Int) → Option (Bool)) (ref01_word : (ByteArray) → (Int) → Option (Int)) : ∀ (x : TsS c62.as) (F : TsF c62.fs) (y : TsS c62.cs), ref01_IsName_b lp jn ref01_Letter ref01_word x.1 = runC lp jn (ctxOf prog shs inls its [(95, ⟨[.str, i64], [], [], .one i64, fun x _ _ => ref01_word x.1 x.2.1⟩), (94, ⟨[(.int .u8)], [], [], .one .bool, fun x _ _ => ref01_Letter x.1⟩)] [(37, r37), (29, r29), (88, r88)]) hints 4 62 f62 c62 x F y := fun x F y => by kernel_rfl
theorem l62 : (ctxOf prog shs inls its [(95, c95), (94, c94)] [(37, r37), (29, r29), (88, r88)]).ok := ctxOf_cons (ctxOf_cons (q37) (by kernel_rfl) ok94) (by kernel_rfl) ok95
theorem ok62 : c62.ok prog 62 := Ctr.of_den l62 hmix (hl := hints) (d := 4) func62 rfl (by decide) (e62 lpK jnK ref01_Letter ref01_word)

/-- loftblock loftblockref19.between -/
noncomputable def ref19_between_b (_ : Lp) (_ : Jn) (x0 : Int) (x1 : Int) (x2 : Int) : Option Bool :=
  
  let v5 : Bool := decide (x0 ≥ x1);
  let v6 : Bool := !v5 || v5; bif v6 && v6 then bif v6 then some (bif v5 then decide (x0 ≤ x2) else false) else none else none
noncomputable def ref19_between (x0 : Int) (x1 : Int) (x2 : Int) : Option Bool := ref19_between_b lpK jnK x0 x1 x2
noncomputable def c63 : Ctr := ⟨[i64, i64, i64], [], [], .one .bool, fun x _ _ => ref19_between x.1 x.2.1 x.2.2.1⟩
theorem e63 (lp : Lp) (jn : Jn) : ∀ (x : TsS c63.as) (F : TsF c63.fs) (y : TsS c63.cs), ref19_between_b lp jn x.1 x.2.1 x.2.2.1 = runC lp jn (ctxOf prog shs inls its [] [(37, r37), (29, r29), (88, r88)]) hints 4 63 f63 c63 x F y := fun x F y => by kernel_rfl
theorem l63 : (ctxOf prog shs inls its [] [(37, r37), (29, r29), (88, r88)]).ok := q37
theorem ok63 : c63.ok prog 63 := Ctr.of_den l63 hmix (hl := hints) (d := 4) func63 rfl (by decide) (e63 lpK jnK)

/-- loftblock loftblockref19.Valid -/
noncomputable def ref19_Valid_b (lp : Lp) (_ : Jn) (ref01_IsName : (ByteArray) → Option (Bool)) (ref19_between : (Int) → (Int) → (Int) → Option (Bool)) (x0 : List (ByteArray × Int × Int × Int)) : Option Bool :=
  bif decide ((↑(List.length x0) : Int) > (20 : Int)) then some false else lp (Int × PUnit) Bool (fun (again : Int × PUnit → Option Bool) (x : Int × PUnit) =>
  let v5 : ByteArray × Int × Int × Int := List.getD x0 (Int.toNat x.fst) ({ data := { toList := [] } }, (0 : Int), (0 : Int), (0 : Int)); bif decide (x.fst < (↑(List.length x0) : Int)) then
    bif inB x.fst (List.length x0) then obind (ref01_IsName v5.fst) fun (t : Bool) =>
  let v7 : Bool := !t;
  let v8 : Bool := !v7;
  let v9 : Bool := !v8 || v8; bif v9 then bif v9 then bif v9 && v9 then obind (bif v8 then ref19_between v5.snd.fst (0 : Int) v5.snd.snd.fst else some false) fun (t : Bool) =>
  let v11 : Bool := bif v7 then true else !t;
  let v12 : Bool := !v11;
  let v13 : Bool := !v12 || v12; bif v9 then bif v7 || v8 then bif v13 then bif v13 then obind (bif v12 then ref19_between v5.snd.snd.fst (0 : Int) (1048576 : Int) else some false) fun (t :
    Bool) =>
  let v15 : Bool := bif v11 then true else !t;
  let v16 : Bool := !v15;
  let v17 : Bool := !v16 || v16; bif v13 then bif v11 || v12 then bif v17 then bif v17 then obind (bif v16 then ref19_between v5.snd.snd.snd (0 : Int) (67108864 : Int) else some false) fun
    (t : Bool) => bif v17 then bif v15 || v16 then bif bif v15 then true else !t then some false else lp (Int × PUnit) Bool (fun (again_1 : Int × PUnit → Option Bool) (x_1 : Int × PUnit) =>
    bif decide (x_1.fst < x.fst) then bif inB x_1.fst (List.length x0) then bif List.beq (ByteArray.toList (List.getD x0 (Int.toNat x_1.fst) ({ data := { toList := [] } }, (0 : Int), (0 :
    Int), (0 : Int))).fst) (ByteArray.toList v5.fst) then some false else again_1 (IntKind.wrap IntKind.i64 (x_1.fst + (1 : Int)), PUnit.unit) else none else again (IntKind.wrap IntKind.i64
    (x.fst + (1 : Int)), PUnit.unit)) ((0 : Int), PUnit.unit) else none else none else none else none else none else none else none else none else none else none else none else none else
    none else none else some true) ((0 : Int), PUnit.unit)
noncomputable def ref19_Valid (x0 : List (ByteArray × Int × Int × Int)) : Option Bool := ref19_Valid_b lpK jnK ref01_IsName ref19_between x0
noncomputable def c16 : Ctr := ⟨[(.sl T40)], [], [], .one .bool, fun x _ _ => ref19_Valid x.1⟩
theorem e16 (lp : Lp) (jn : Jn) (ref01_IsName : (ByteArray) → Option (Bool)) (ref19_between : (Int) → (Int) → (Int) → Option (Bool)) : ∀ (x : TsS c16.as) (F : TsF c16.fs) (y : TsS c16.cs), ref19_Valid_b lp jn ref01_IsName ref19_between x.1 = runC lp jn (ctxOf prog shs inls its [(63, ⟨[i64, i64, i64], [], [], .one .bool, fun x _ _ => ref19_between x.1 x.2.1 x.2.2.1⟩), (62, ⟨[.str], [], [], .one .bool, fun x _ _ => ref01_IsName x.1⟩)] [(37, r37), (29, r29), (88, r88)]) hints 4 16 f16 c16 x F y := fun x F y => by kernel_rfl
theorem l16 : (ctxOf prog shs inls its [(63, c63), (62, c62)] [(37, r37), (29, r29), (88, r88)]).ok := ctxOf_cons (ctxOf_cons (q37) (by kernel_rfl) ok62) (by kernel_rfl) ok63
theorem ok16 : c16.ok prog 16 := Ctr.of_den l16 hmix (hl := hints) (d := 4) func16 rfl (by decide) (e16 lpK jnK ref01_IsName ref19_between)

/-- loftblock loftblockref19.Depth -/
noncomputable def ref19_Depth_b (_ : Lp) (_ : Jn) (ref19_between : (Int) → (Int) → (Int) → Option (Bool)) (x0 : Int) : Option Bool :=
  obind (ref19_between x0 (0 : Int) (1048576 : Int)) fun (t : Bool) => some t
noncomputable def ref19_Depth (x0 : Int) : Option Bool := ref19_Depth_b lpK jnK ref19_between x0
noncomputable def c55 : Ctr := ⟨[i64], [], [], .one .bool, fun x _ _ => ref19_Depth x.1⟩
theorem e55 (lp : Lp) (jn : Jn) (ref19_between : (Int) → (Int) → (Int) → Option (Bool)) : ∀ (x : TsS c55.as) (F : TsF c55.fs) (y : TsS c55.cs), ref19_Depth_b lp jn ref19_between x.1 = runC lp jn (ctxOf prog shs inls its [(63, ⟨[i64, i64, i64], [], [], .one .bool, fun x _ _ => ref19_between x.1 x.2.1 x.2.2.1⟩)] [(37, r37), (29, r29), (88, r88)]) hints 4 55 f55 c55 x F y := fun x F y => by kernel_rfl
theorem l55 : (ctxOf prog shs inls its [(63, c63)] [(37, r37), (29, r29), (88, r88)]).ok := ctxOf_cons (q37) (by kernel_rfl) ok63
theorem ok55 : c55.ok prog 55 := Ctr.of_den l55 hmix (hl := hints) (d := 4) func55 rfl (by decide) (e55 lpK jnK ref19_between)

/-- loftblock loftblockref19.Right -/
noncomputable def ref19_Right_b (lp : Lp) (_ : Jn) (ref19_between : (Int) → (Int) → (Int) → Option (Bool)) (ref19_Depth : (Int) → Option (Bool)) (x0 : List (Int × Int)) : Option Bool :=
  bif decide ((↑(List.length x0) : Int) > (1000 : Int)) then some false else lp (Int × PUnit) Bool (fun (again : Int × PUnit → Option Bool) (x : Int × PUnit) =>
  let v5 : Bool := inB x.fst (List.length x0);
  let v6 : Int × Int := List.getD x0 (Int.toNat x.fst) ((0 : Int), (0 : Int)); bif decide (x.fst < (↑(List.length x0) : Int)) then bif v5 then obind (ref19_Depth v6.fst) fun (t : Bool) =>
  let v8 : Bool := !t;
  let v9 : Bool := !v8;
  let v10 : Bool := !v9;
  let v11 : Bool := v10 || v9; bif v11 && (v11 && (v10 || v5)) then bif v11 then bif v11 then bif v11 then obind (bif v9 then ref19_between v6.snd (0 : Int) (67108864 : Int) else some
    false) fun (t : Bool) => bif v11 then bif v8 || v9 then bif bif v8 then true else !t then some false else again (IntKind.wrap IntKind.i64 (x.fst + (1 : Int)), PUnit.unit) else none else
    none else none else none else none else none else none else some true) ((0 : Int), PUnit.unit)
noncomputable def ref19_Right (x0 : List (Int × Int)) : Option Bool := ref19_Right_b lpK jnK ref19_between ref19_Depth x0
noncomputable def c54 : Ctr := ⟨[(.sl T60)], [], [], .one .bool, fun x _ _ => ref19_Right x.1⟩
theorem e54 (lp : Lp) (jn : Jn) (ref19_between : (Int) → (Int) → (Int) → Option (Bool)) (ref19_Depth : (Int) → Option (Bool)) : ∀ (x : TsS c54.as) (F : TsF c54.fs) (y : TsS c54.cs), ref19_Right_b lp jn ref19_between ref19_Depth x.1 = runC lp jn (ctxOf prog shs inls its [(55, ⟨[i64], [], [], .one .bool, fun x _ _ => ref19_Depth x.1⟩), (63, ⟨[i64, i64, i64], [], [], .one .bool, fun x _ _ => ref19_between x.1 x.2.1 x.2.2.1⟩)] [(37, r37), (29, r29), (88, r88)]) hints 4 54 f54 c54 x F y := fun x F y => by kernel_rfl
theorem l54 : (ctxOf prog shs inls its [(55, c55), (63, c63)] [(37, r37), (29, r29), (88, r88)]).ok := ctxOf_cons (ctxOf_cons (q37) (by kernel_rfl) ok63) (by kernel_rfl) ok55
theorem ok54 : c54.ok prog 54 := Ctr.of_den l54 hmix (hl := hints) (d := 4) func54 rfl (by decide) (e54 lpK jnK ref19_between ref19_Depth)

/-- loftblock loftblocklaw19.given -/
noncomputable def law19_given_b (_ : Lp) (_ : Jn) (ref19_Valid : (List (ByteArray × Int × Int × Int)) → Option (Bool)) (ref19_Depth : (Int) → Option (Bool)) (ref19_Right : (List (Int × Int)) → Option (Bool)) (x0 : List (ByteArray × Int × Int × Int)) (x1 : List (Int × Int)) (x2 : Int) : Option Int :=
  obind (ref19_Valid x0) fun (t : Bool) =>
  let v6 : Bool := !t;
  let v7 : Bool := !v6;
  let v8 : Bool := !v7 || v7; bif v8 then obind (bif v7 then ref19_Right x1 else some false) fun (t : Bool) => bif v8 then bif v6 || v7 then bif bif v6 then true else !t then some (1 : Int)
    else obind (ref19_Depth x2) fun (t : Bool) => bif !t then some (2 : Int) else some (0 : Int) else none else none else none
noncomputable def law19_given (x0 : List (ByteArray × Int × Int × Int)) (x1 : List (Int × Int)) (x2 : Int) : Option Int := law19_given_b lpK jnK ref19_Valid ref19_Depth ref19_Right x0 x1 x2
noncomputable def c12 : Ctr := ⟨[(.sl T40), (.sl T60), i64], [], [], .one i64, fun x _ _ => law19_given x.1 x.2.1 x.2.2.1⟩
theorem e12 (lp : Lp) (jn : Jn) (ref19_Valid : (List (ByteArray × Int × Int × Int)) → Option (Bool)) (ref19_Depth : (Int) → Option (Bool)) (ref19_Right : (List (Int × Int)) → Option (Bool)) : ∀ (x : TsS c12.as) (F : TsF c12.fs) (y : TsS c12.cs), law19_given_b lp jn ref19_Valid ref19_Depth ref19_Right x.1 x.2.1 x.2.2.1 = runC lp jn (ctxOf prog shs inls its [(54, ⟨[(.sl T60)], [], [], .one .bool, fun x _ _ => ref19_Right x.1⟩), (55, ⟨[i64], [], [], .one .bool, fun x _ _ => ref19_Depth x.1⟩), (16, ⟨[(.sl T40)], [], [], .one .bool, fun x _ _ => ref19_Valid x.1⟩)] [(37, r37), (29, r29), (88, r88)]) hints 4 12 f12 c12 x F y := fun x F y => by kernel_rfl
theorem l12 : (ctxOf prog shs inls its [(54, c54), (55, c55), (16, c16)] [(37, r37), (29, r29), (88, r88)]).ok := ctxOf_cons (ctxOf_cons (ctxOf_cons (q37) (by kernel_rfl) ok16) (by kernel_rfl) ok55) (by kernel_rfl) ok54
theorem ok12 : c12.ok prog 12 := Ctr.of_den l12 hmix (hl := hints) (d := 4) func12 rfl (by decide) (e12 lpK jnK ref19_Valid ref19_Depth ref19_Right)

/-- loftblock loftblockref19.Is -/
noncomputable def ref19_Is_b (_ : Lp) (_ : Jn) (ref19_between : (Int) → (Int) → (Int) → Option (Bool)) (x0 : ByteArray × Int × Int × Int) (x1 : Int) : Option Bool :=
  obind (ref19_between x1 x0.snd.fst x0.snd.snd.fst) fun (t : Bool) => some t
noncomputable def ref19_Is (x0 : ByteArray × Int × Int × Int) (x1 : Int) : Option Bool := ref19_Is_b lpK jnK ref19_between x0 x1
noncomputable def c17 : Ctr := ⟨[T40, i64], [], [], .one .bool, fun x _ _ => ref19_Is x.1 x.2.1⟩
theorem e17 (lp : Lp) (jn : Jn) (ref19_between : (Int) → (Int) → (Int) → Option (Bool)) : ∀ (x : TsS c17.as) (F : TsF c17.fs) (y : TsS c17.cs), ref19_Is_b lp jn ref19_between x.1 x.2.1 = runC lp jn (ctxOf prog shs inls its [(63, ⟨[i64, i64, i64], [], [], .one .bool, fun x _ _ => ref19_between x.1 x.2.1 x.2.2.1⟩)] [(37, r37), (29, r29), (88, r88)]) hints 4 17 f17 c17 x F y := fun x F y => by kernel_rfl
theorem l17 : (ctxOf prog shs inls its [(63, c63)] [(37, r37), (29, r29), (88, r88)]).ok := ctxOf_cons (q37) (by kernel_rfl) ok63
theorem ok17 : c17.ok prog 17 := Ctr.of_den l17 hmix (hl := hints) (d := 4) func17 rfl (by decide) (e17 lpK jnK ref19_between)

/-- loftblock loftblockref19.Count -/
noncomputable def ref19_Count_b (lp : Lp) (_ : Jn) (ref19_Is : (ByteArray × Int × Int × Int) → (Int) → Option (Bool)) (x0 : List (ByteArray × Int × Int × Int)) (x1 : Int) : Option Int :=
  lp (Int × Int × PUnit) Int (fun (again : Int × Int × PUnit → Option Int) (x : Int × Int × PUnit) =>
  let v6 : Int × PUnit := (IntKind.wrap IntKind.i64 (x.snd.fst + (1 : Int)), PUnit.unit); bif decide (x.snd.fst < (↑(List.length x0) : Int)) then bif inB x.snd.fst (List.length x0) then
    obind (ref19_Is (List.getD x0 (Int.toNat x.snd.fst) ({ data := { toList := [] } }, (0 : Int), (0 : Int), (0 : Int))) x1) fun (t : Bool) => bif t then again (IntKind.wrap IntKind.i64
    (x.fst + (1 : Int)), v6) else again (x.fst, v6) else none else some x.fst) ((0 : Int), (0 : Int), PUnit.unit)
noncomputable def ref19_Count (x0 : List (ByteArray × Int × Int × Int)) (x1 : Int) : Option Int := ref19_Count_b lpK jnK ref19_Is x0 x1
noncomputable def c56 : Ctr := ⟨[(.sl T40), i64], [], [], .one i64, fun x _ _ => ref19_Count x.1 x.2.1⟩
theorem e56 (lp : Lp) (jn : Jn) (ref19_Is : (ByteArray × Int × Int × Int) → (Int) → Option (Bool)) : ∀ (x : TsS c56.as) (F : TsF c56.fs) (y : TsS c56.cs), ref19_Count_b lp jn ref19_Is x.1 x.2.1 = runC lp jn (ctxOf prog shs inls its [(17, ⟨[T40, i64], [], [], .one .bool, fun x _ _ => ref19_Is x.1 x.2.1⟩)] [(37, r37), (29, r29), (88, r88)]) hints 4 56 f56 c56 x F y := fun x F y => by kernel_rfl
theorem l56 : (ctxOf prog shs inls its [(17, c17)] [(37, r37), (29, r29), (88, r88)]).ok := ctxOf_cons (q37) (by kernel_rfl) ok17
theorem ok56 : c56.ok prog 56 := Ctr.of_den l56 hmix (hl := hints) (d := 4) func56 rfl (by decide) (e56 lpK jnK ref19_Is)

/-- loftblock loftblockref02.Of -/
noncomputable def ref02_Of_b (_ : Lp) (_ : Jn) (x0 : Int) : Option (Int × Int) :=
  some (x0, (1 : Int))
noncomputable def ref02_Of (x0 : Int) : Option (Int × Int) := ref02_Of_b lpK jnK x0
noncomputable def c58 : Ctr := ⟨[i64], [], [], .one T27, fun x _ _ => ref02_Of x.1⟩
theorem e58 (lp : Lp) (jn : Jn) : ∀ (x : TsS c58.as) (F : TsF c58.fs) (y : TsS c58.cs), ref02_Of_b lp jn x.1 = runC lp jn (ctxOf prog shs inls its [] [(37, r37), (29, r29), (88, r88)]) hints 4 58 f58 c58 x F y := fun x F y => by kernel_rfl
theorem l58 : (ctxOf prog shs inls its [] [(37, r37), (29, r29), (88, r88)]).ok := q37
theorem ok58 : c58.ok prog 58 := Ctr.of_den l58 hmix (hl := hints) (d := 4) func58 rfl (by decide) (e58 lpK jnK)

/-- loftblock loftblockref02.Size -/
noncomputable def ref02_Size_b (_ : Lp) (_ : Jn) (x0 : Int) : Option Int :=
  
  let v3 : Int := IntKind.wrap IntKind.u64 x0; bif decide (x0 < (0 : Int)) then some (IntKind.wrap IntKind.u64 ((0 : Int) - v3)) else some v3
noncomputable def ref02_Size (x0 : Int) : Option Int := ref02_Size_b lpK jnK x0
noncomputable def c67 : Ctr := ⟨[i64], [], [], .one (.int .u64), fun x _ _ => ref02_Size x.1⟩
theorem e67 (lp : Lp) (jn : Jn) : ∀ (x : TsS c67.as) (F : TsF c67.fs) (y : TsS c67.cs), ref02_Size_b lp jn x.1 = runC lp jn (ctxOf prog shs inls its [] [(37, r37), (29, r29), (88, r88)]) hints 4 67 f67 c67 x F y := fun x F y => by kernel_rfl
theorem l67 : (ctxOf prog shs inls its [] [(37, r37), (29, r29), (88, r88)]).ok := q37
theorem ok67 : c67.ok prog 67 := Ctr.of_den l67 hmix (hl := hints) (d := 4) func67 rfl (by decide) (e67 lpK jnK)

/-- loftblock loftblockref02.Less -/
noncomputable def ref02_Less_b (_ : Lp) (_ : Jn) (x0 : Int × Int) (x1 : Int × Int) : Option Bool :=
  
  let v4 : Bool := decide (x0.fst = x1.fst);
  let v5 : Bool := decide (x0.fst < x1.fst);
  let v6 : Bool := !v5;
  let v7 : Bool := !v6;
  let v8 : Bool := v6 && v4;
  let v9 : Bool := v7 || v6;
  let v10 : Bool := !v8 || v8; bif v9 then bif v9 then bif v9 && v9 then bif v9 then bif v10 then bif v10 then bif v10 && v10 then bif (v7 || v9) && (v7 || (!v4 || (v7 || v8))) then bif v5
    || v6 then some (bif v5 then true else bif v4 then decide (x0.snd < x1.snd) else false) else none else none else none else none else none else none else none else none else none
noncomputable def ref02_Less (x0 : Int × Int) (x1 : Int × Int) : Option Bool := ref02_Less_b lpK jnK x0 x1
noncomputable def c68 : Ctr := ⟨[T97, T97], [], [], .one .bool, fun x _ _ => ref02_Less x.1 x.2.1⟩
theorem e68 (lp : Lp) (jn : Jn) : ∀ (x : TsS c68.as) (F : TsF c68.fs) (y : TsS c68.cs), ref02_Less_b lp jn x.1 x.2.1 = runC lp jn (ctxOf prog shs inls its [] [(37, r37), (29, r29), (88, r88)]) hints 4 68 f68 c68 x F y := fun x F y => by kernel_rfl
theorem l68 : (ctxOf prog shs inls its [] [(37, r37), (29, r29), (88, r88)]).ok := q37
theorem ok68 : c68.ok prog 68 := Ctr.of_den l68 hmix (hl := hints) (d := 4) func68 rfl (by decide) (e68 lpK jnK)

/-- loftblock loftblockref02.Plus -/
noncomputable def ref02_Plus_b (_ : Lp) (_ : Jn) (x0 : Int × Int) (x1 : Int × Int) : Option (Int × Int) :=
  
  let v4 : Int := IntKind.wrap IntKind.u64 (x0.fst + x1.fst);
  let v5 : Int := IntKind.wrap IntKind.u64 (x0.snd + x1.snd); bif decide (v5 < x0.snd) then some (IntKind.wrap IntKind.u64 (v4 + (1 : Int)), v5) else some (v4, v5)
noncomputable def ref02_Plus (x0 : Int × Int) (x1 : Int × Int) : Option (Int × Int) := ref02_Plus_b lpK jnK x0 x1
noncomputable def c96 : Ctr := ⟨[T97, T97], [], [], .one T97, fun x _ _ => ref02_Plus x.1 x.2.1⟩
theorem e96 (lp : Lp) (jn : Jn) : ∀ (x : TsS c96.as) (F : TsF c96.fs) (y : TsS c96.cs), ref02_Plus_b lp jn x.1 x.2.1 = runC lp jn (ctxOf prog shs inls its [] [(37, r37), (29, r29), (88, r88)]) hints 4 96 f96 c96 x F y := fun x F y => by kernel_rfl
theorem l96 : (ctxOf prog shs inls its [] [(37, r37), (29, r29), (88, r88)]).ok := q37
theorem ok96 : c96.ok prog 96 := Ctr.of_den l96 hmix (hl := hints) (d := 4) func96 rfl (by decide) (e96 lpK jnK)

/-- loftblock loftblockref02.Minus -/
noncomputable def ref02_Minus_b (_ : Lp) (_ : Jn) (x0 : Int × Int) (x1 : Int × Int) : Option (Int × Int) :=
  
  let v4 : Int := IntKind.wrap IntKind.u64 (x0.fst - x1.fst);
  let v5 : Int := IntKind.wrap IntKind.u64 (x0.snd - x1.snd); bif decide (x0.snd < x1.snd) then some (IntKind.wrap IntKind.u64 (v4 - (1 : Int)), v5) else some (v4, v5)
noncomputable def ref02_Minus (x0 : Int × Int) (x1 : Int × Int) : Option (Int × Int) := ref02_Minus_b lpK jnK x0 x1
noncomputable def c97 : Ctr := ⟨[T97, T97], [], [], .one T97, fun x _ _ => ref02_Minus x.1 x.2.1⟩
theorem e97 (lp : Lp) (jn : Jn) : ∀ (x : TsS c97.as) (F : TsF c97.fs) (y : TsS c97.cs), ref02_Minus_b lp jn x.1 x.2.1 = runC lp jn (ctxOf prog shs inls its [] [(37, r37), (29, r29), (88, r88)]) hints 4 97 f97 c97 x F y := fun x F y => by kernel_rfl
theorem l97 : (ctxOf prog shs inls its [] [(37, r37), (29, r29), (88, r88)]).ok := q37
theorem ok97 : c97.ok prog 97 := Ctr.of_den l97 hmix (hl := hints) (d := 4) func97 rfl (by decide) (e97 lpK jnK)

/-- loftblock loftblockref02.Half -/
noncomputable def ref02_Half_b (_ : Lp) (_ : Jn) (x0 : Int × Int) : Option (Int × Int) :=
  
  let v3 : Int := (2 : Int) ^ (1 : Nat);
  let v4 : Bool := decide ((0 : Int) ≤ (1 : Int)); bif v4 then bif v4 then bif decide ((0 : Int) ≤ (63 : Int)) then some (Int.fdiv x0.fst v3, IntKind.wrap IntKind.u64 (Int.fdiv x0.snd v3 +
    IntKind.wrap IntKind.u64 (x0.fst * (2 : Int) ^ (63 : Nat)))) else none else none else none
noncomputable def ref02_Half (x0 : Int × Int) : Option (Int × Int) := ref02_Half_b lpK jnK x0
noncomputable def c110 : Ctr := ⟨[T97], [], [], .one T97, fun x _ _ => ref02_Half x.1⟩
theorem e110 (lp : Lp) (jn : Jn) : ∀ (x : TsS c110.as) (F : TsF c110.fs) (y : TsS c110.cs), ref02_Half_b lp jn x.1 = runC lp jn (ctxOf prog shs inls its [] [(37, r37), (29, r29), (88, r88)]) hints 4 110 f110 c110 x F y := fun x F y => by kernel_rfl
theorem l110 : (ctxOf prog shs inls its [] [(37, r37), (29, r29), (88, r88)]).ok := q37
theorem ok110 : c110.ok prog 110 := Ctr.of_den l110 hmix (hl := hints) (d := 4) func110 rfl (by decide) (e110 lpK jnK)

/-- loftblock loftblockref02.Gcd -/
noncomputable def ref02_Gcd_b (lp : Lp) (_ : Jn) (ref02_Less : (Int × Int) → (Int × Int) → Option (Bool)) (ref02_Plus : (Int × Int) → (Int × Int) → Option (Int × Int)) (ref02_Minus : (Int × Int) → (Int × Int) → Option (Int × Int)) (ref02_Half : (Int × Int) → Option (Int × Int)) (x0 : Int × Int) (x1 : Int × Int) : Option (Int × Int) :=
  bif decide (x0.fst = (0 : Int)) && (decide (x0.snd = (0 : Int)) && true) then some x1 else lp (Int × (Int × Int) × (Int × Int) × PUnit) (Int × Int) (fun (again : Int × (Int × Int) × (Int ×
    Int) × PUnit → Option (Int × Int)) (x : Int × (Int × Int) × (Int × Int) × PUnit) =>
  let v6 : Bool := decide (IntKind.wrap IntKind.u64 (↑(Nat.land (Int.toNat (x.snd.fst.snd % Int.ofNat (18446744073709551616 : Nat))) (Int.toNat ((1 : Int) % Int.ofNat (18446744073709551616
    : Nat)))) : Int) = (0 : Int));
  let v7 : Bool := !v6 || v6; bif v7 then bif v7 then bif v7 then bif v7 then bif bif v6 then decide (IntKind.wrap IntKind.u64 (↑(Nat.land (Int.toNat (x.snd.snd.fst.snd % Int.ofNat
    (18446744073709551616 : Nat))) (Int.toNat ((1 : Int) % Int.ofNat (18446744073709551616 : Nat)))) : Int) = (0 : Int)) else false then obind (ref02_Half x.snd.fst) fun (t : Int × Int) =>
    obind (ref02_Half x.snd.snd.fst) fun (t_1 : Int × Int) => again (IntKind.wrap IntKind.i64 (x.fst + (1 : Int)), t, t_1, PUnit.unit) else lp ((Int × Int) × (Int × Int) × PUnit) (Int ×
    Int) (fun (again : (Int × Int) × (Int × Int) × PUnit → Option (Int × Int)) (x_1 : (Int × Int) × (Int × Int) × PUnit) =>
  let v10 : (Int × Int) × PUnit := (x_1.snd.fst, PUnit.unit); bif !(decide (x_1.fst.fst = (0 : Int)) && (decide (x_1.fst.snd = (0 : Int)) && true)) then lp ((Int × Int) × PUnit) (Int × Int)
    (fun (again_1 : (Int × Int) × PUnit → Option (Int × Int)) (x : (Int × Int) × PUnit) => bif decide (IntKind.wrap IntKind.u64 (↑(Nat.land (Int.toNat (x.fst.snd % Int.ofNat
    (18446744073709551616 : Nat))) (Int.toNat ((1 : Int) % Int.ofNat (18446744073709551616 : Nat)))) : Int) = (0 : Int)) then obind (ref02_Half x.fst) fun (t : Int × Int) => again_1 (t,
    PUnit.unit) else lp ((Int × Int) × PUnit) (Int × Int) (fun (again_2 : (Int × Int) × PUnit → Option (Int × Int)) (x_2 : (Int × Int) × PUnit) => bif decide (IntKind.wrap IntKind.u64
    (↑(Nat.land (Int.toNat (x_2.fst.snd % Int.ofNat (18446744073709551616 : Nat))) (Int.toNat ((1 : Int) % Int.ofNat (18446744073709551616 : Nat)))) : Int) = (0 : Int)) then obind
    (ref02_Half x_2.fst) fun (t : Int × Int) => again_2 (t, PUnit.unit) else obind (ref02_Less x.fst x_2.fst) fun (t : Bool) => bif t then obind (ref02_Minus x_2.fst x.fst) fun (t : Int ×
    Int) => again (t, x.fst, PUnit.unit) else obind (ref02_Minus x.fst x_2.fst) fun (t : Int × Int) => again (t, x_2.fst, PUnit.unit)) v10) (x_1.fst, PUnit.unit) else lp (Int × (Int × Int)
    × PUnit) (Int × Int) (fun (again : Int × (Int × Int) × PUnit → Option (Int × Int)) (x : Int × (Int × Int) × PUnit) => bif decide (x.fst > (0 : Int)) then obind (ref02_Plus x.snd.fst
    x.snd.fst) fun (t : Int × Int) => again (IntKind.wrap IntKind.i64 (x.fst - (1 : Int)), t, PUnit.unit) else some x.snd.fst) (x.fst, v10)) (x.snd.fst, x.snd.snd.fst, PUnit.unit) else none
    else none else none else none) ((0 : Int), x0, x1, PUnit.unit)
noncomputable def ref02_Gcd (x0 : Int × Int) (x1 : Int × Int) : Option (Int × Int) := ref02_Gcd_b lpK jnK ref02_Less ref02_Plus ref02_Minus ref02_Half x0 x1
noncomputable def c103 : Ctr := ⟨[T97, T97], [], [], .one T97, fun x _ _ => ref02_Gcd x.1 x.2.1⟩
theorem e103 (lp : Lp) (jn : Jn) (ref02_Less : (Int × Int) → (Int × Int) → Option (Bool)) (ref02_Plus : (Int × Int) → (Int × Int) → Option (Int × Int)) (ref02_Minus : (Int × Int) → (Int × Int) → Option (Int × Int)) (ref02_Half : (Int × Int) → Option (Int × Int)) : ∀ (x : TsS c103.as) (F : TsF c103.fs) (y : TsS c103.cs), ref02_Gcd_b lp jn ref02_Less ref02_Plus ref02_Minus ref02_Half x.1 x.2.1 = runC lp jn (ctxOf prog shs inls its [(110, ⟨[T97], [], [], .one T97, fun x _ _ => ref02_Half x.1⟩), (97, ⟨[T97, T97], [], [], .one T97, fun x _ _ => ref02_Minus x.1 x.2.1⟩), (96, ⟨[T97, T97], [], [], .one T97, fun x _ _ => ref02_Plus x.1 x.2.1⟩), (68, ⟨[T97, T97], [], [], .one .bool, fun x _ _ => ref02_Less x.1 x.2.1⟩)] [(37, r37), (29, r29), (88, r88)]) hints 4 103 f103 c103 x F y := fun x F y => by kernel_rfl
theorem l103 : (ctxOf prog shs inls its [(110, c110), (97, c97), (96, c96), (68, c68)] [(37, r37), (29, r29), (88, r88)]).ok := ctxOf_cons (ctxOf_cons (ctxOf_cons (ctxOf_cons (q37) (by kernel_rfl) ok68) (by kernel_rfl) ok96) (by kernel_rfl) ok97) (by kernel_rfl) ok110
theorem ok103 : c103.ok prog 103 := Ctr.of_den l103 hmix (hl := hints) (d := 4) func103 rfl (by decide) (e103 lpK jnK ref02_Less ref02_Plus ref02_Minus ref02_Half)

/-- loftblock loftblockref02.Div -/
noncomputable def ref02_Div_b (lp : Lp) (_ : Jn) (ref02_Less : (Int × Int) → (Int × Int) → Option (Bool)) (ref02_Minus : (Int × Int) → (Int × Int) → Option (Int × Int)) (x0 : Int × Int) (x1 : Int × Int) : Option ((Int × Int) × (Int × Int) × Unit) :=
  
  let v4 : Bool := nzB x1.snd;
  let v5 : Int := (2 : Int) ^ (63 : Nat);
  let v6 : Int := (2 : Int) ^ (1 : Nat);
  let v7 : Bool := decide (x0.fst = (0 : Int));
  let v8 : Bool := decide ((0 : Int) ≤ (63 : Int));
  let v9 : Bool := decide ((0 : Int) ≤ (1 : Int));
  let v10 : Bool := !v7 || v7; bif v10 then bif v10 then bif v10 then bif bif v7 then decide (x1.fst = (0 : Int)) else false then bif v4 then bif v4 then some (((0 : Int), IntKind.wrap
    IntKind.u64 (Int.tdiv x0.snd x1.snd)), ((0 : Int), Int.tmod x0.snd x1.snd), PUnit.unit) else none else none else lp (Int × (Int × Int) × (Int × Int) × (Int × Int) × PUnit) ((Int × Int)
    × (Int × Int) × PUnit) (fun (again : Int × (Int × Int) × (Int × Int) × (Int × Int) × PUnit → Option ((Int × Int) × (Int × Int) × PUnit)) (x : Int × (Int × Int) × (Int × Int) × (Int ×
    Int) × PUnit) =>
  let v13 : Int := IntKind.wrap IntKind.i64 (x.fst + (1 : Int));
  let v14 : Int := IntKind.wrap IntKind.u64 (x.snd.snd.fst.snd * v6);
  let v15 : Int := IntKind.wrap IntKind.u64 (IntKind.wrap IntKind.u64 (x.snd.snd.fst.fst * v6) + Int.fdiv x.snd.snd.fst.snd v5);
  let v16 : Bool := decide (Int.fdiv x.snd.snd.snd.fst.fst v5 > (0 : Int));
  let v17 : Bool := !v16;
  let v18 : Int × Int := (IntKind.wrap IntKind.u64 (IntKind.wrap IntKind.u64 (x.snd.fst.fst * v6) + Int.fdiv x.snd.fst.snd v5), IntKind.wrap IntKind.u64 (x.snd.fst.snd * v6));
  let v19 : Int × Int := (IntKind.wrap IntKind.u64 (IntKind.wrap IntKind.u64 (x.snd.snd.snd.fst.fst * v6) + Int.fdiv x.snd.snd.snd.fst.snd v5), IntKind.wrap IntKind.u64 (IntKind.wrap
    IntKind.u64 (x.snd.snd.snd.fst.snd * v6) + Int.fdiv x.snd.fst.fst v5));
  let v20 : Bool := !v17 || v17; bif decide (x.fst < (128 : Int)) then bif v8 then bif v9 then bif v8 then bif v9 then bif v8 then bif v9 then bif v8 then bif v9 then bif v9 then bif v8
    then bif v9 then bif v20 && v20 then obind (bif v17 then ref02_Less v19 x1 else some false) fun (t : Bool) => bif v20 then bif v16 || v17 then bif bif v16 then true else !t then obind
    (ref02_Minus v19 x1) fun (t : Int × Int) => again (v13, v18, (v15, IntKind.wrap IntKind.u64 (v14 + (1 : Int))), t, PUnit.unit) else again (v13, v18, (v15, v14), v19, PUnit.unit) else
    none else none else none else none else none else none else none else none else none else none else none else none else none else none else some (x.snd.snd.fst, x.snd.snd.snd.fst,
    PUnit.unit)) ((0 : Int), x0, ((0 : Int), (0 : Int)), ((0 : Int), (0 : Int)), PUnit.unit) else none else none else none
noncomputable def ref02_Div (x0 : Int × Int) (x1 : Int × Int) : Option ((Int × Int) × (Int × Int) × Unit) := ref02_Div_b lpK jnK ref02_Less ref02_Minus x0 x1
noncomputable def c104 : Ctr := ⟨[T97, T97], [], [], .tup [T97, T97], fun x _ _ => ref02_Div x.1 x.2.1⟩
theorem e104 (lp : Lp) (jn : Jn) (ref02_Less : (Int × Int) → (Int × Int) → Option (Bool)) (ref02_Minus : (Int × Int) → (Int × Int) → Option (Int × Int)) : ∀ (x : TsS c104.as) (F : TsF c104.fs) (y : TsS c104.cs), ref02_Div_b lp jn ref02_Less ref02_Minus x.1 x.2.1 = runC lp jn (ctxOf prog shs inls its [(97, ⟨[T97, T97], [], [], .one T97, fun x _ _ => ref02_Minus x.1 x.2.1⟩), (68, ⟨[T97, T97], [], [], .one .bool, fun x _ _ => ref02_Less x.1 x.2.1⟩)] [(37, r37), (29, r29), (88, r88)]) hints 4 104 f104 c104 x F y := fun x F y => by kernel_rfl
theorem l104 : (ctxOf prog shs inls its [(97, c97), (68, c68)] [(37, r37), (29, r29), (88, r88)]).ok := ctxOf_cons (ctxOf_cons (q37) (by kernel_rfl) ok68) (by kernel_rfl) ok97
theorem ok104 : c104.ok prog 104 := Ctr.of_den l104 hmix (hl := hints) (d := 4) func104 rfl (by decide) (e104 lpK jnK ref02_Less ref02_Minus)

/-- loftblock loftblockref02.Made -/
noncomputable def ref02_Made_b (_ : Lp) (_ : Jn) (ref02_Gcd : (Int × Int) → (Int × Int) → Option (Int × Int)) (ref02_Div : (Int × Int) → (Int × Int) → Option ((Int × Int) × (Int × Int) × Unit)) (x0 : Int × Int) (x1 : Bool) (x2 : Int × Int) : Option ((Int × Int) × Int × Unit) :=
  bif decide (x2.fst = (0 : Int)) && (decide (x2.snd = (0 : Int)) && true) then some (((0 : Int), (0 : Int)), (16 : Int), PUnit.unit) else obind (ref02_Gcd x0 x2) fun (t : Int × Int) => obind
    (ref02_Div x0 t) fun (t_1 : (Int × Int) × (Int × Int) × PUnit) =>
  let v7 : Int := IntKind.wrap IntKind.i64 t_1.fst.snd;
  let v8 : Bool := decide (t_1.fst.fst > (0 : Int));
  let v9 : Bool := !v8;
  let v10 : Bool := bif v8 then true else decide (t_1.fst.snd > (1152921504606846976 : Int));
  let v11 : Bool := !v9 || v9;
  let v12 : Bool := !v10;
  let v13 : Bool := !v12 || v12; obind (ref02_Div x2 t) fun (t : (Int × Int) × (Int × Int) × PUnit) =>
  let v15 : Int := IntKind.wrap IntKind.i64 t.fst.snd;
  let v16 : Bool := bif v10 then true else decide (t.fst.fst > (0 : Int));
  let v17 : Bool := !v16;
  let v18 : Bool := !v17 || v17; bif v11 then bif v11 then bif v8 || v9 then bif v13 then bif v13 then bif v10 || v12 then bif v18 then bif v18 then bif v16 || v17 then bif bif v16 then
    true else decide (t.fst.snd > (1152921504606846976 : Int)) then some (((0 : Int), (0 : Int)), (5 : Int), PUnit.unit) else bif x1 then some ((IntKind.wrap IntKind.i64 ((0 : Int) - v7),
    v15), (0 : Int), PUnit.unit) else some ((v7, v15), (0 : Int), PUnit.unit) else none else none else none else none else none else none else none else none else none
noncomputable def ref02_Made (x0 : Int × Int) (x1 : Bool) (x2 : Int × Int) : Option ((Int × Int) × Int × Unit) := ref02_Made_b lpK jnK ref02_Gcd ref02_Div x0 x1 x2
noncomputable def c92 : Ctr := ⟨[T97, .bool, T97], [], [], .tup [T27, i64], fun x _ _ => ref02_Made x.1 x.2.1 x.2.2.1⟩
theorem e92 (lp : Lp) (jn : Jn) (ref02_Gcd : (Int × Int) → (Int × Int) → Option (Int × Int)) (ref02_Div : (Int × Int) → (Int × Int) → Option ((Int × Int) × (Int × Int) × Unit)) : ∀ (x : TsS c92.as) (F : TsF c92.fs) (y : TsS c92.cs), ref02_Made_b lp jn ref02_Gcd ref02_Div x.1 x.2.1 x.2.2.1 = runC lp jn (ctxOf prog shs inls its [(104, ⟨[T97, T97], [], [], .tup [T97, T97], fun x _ _ => ref02_Div x.1 x.2.1⟩), (103, ⟨[T97, T97], [], [], .one T97, fun x _ _ => ref02_Gcd x.1 x.2.1⟩)] [(37, r37), (29, r29), (88, r88)]) hints 4 92 f92 c92 x F y := fun x F y => by kernel_rfl
theorem l92 : (ctxOf prog shs inls its [(104, c104), (103, c103)] [(37, r37), (29, r29), (88, r88)]).ok := ctxOf_cons (ctxOf_cons (q37) (by kernel_rfl) ok103) (by kernel_rfl) ok104
theorem ok92 : c92.ok prog 92 := Ctr.of_den l92 hmix (hl := hints) (d := 4) func92 rfl (by decide) (e92 lpK jnK ref02_Gcd ref02_Div)

/-- loftblock loftblockref02.Make -/
noncomputable def ref02_Make_b (_ : Lp) (_ : Jn) (ref02_Size : (Int) → Option (Int)) (ref02_Made : (Int × Int) → (Bool) → (Int × Int) → Option ((Int × Int) × Int × Unit)) (x0 : Int) (x1 : Int) : Option ((Int × Int) × Int × Unit) :=
  obind (ref02_Size x0) fun (t : Int) => obind (ref02_Size x1) fun (t_1 : Int) => obind (ref02_Made ((0 : Int), t) (!decide (decide (x0 < (0 : Int)) = decide (x1 < (0 : Int)))) ((0 : Int),
    t_1)) fun (t : (Int × Int) × Int × PUnit) => some (t.fst, t.snd.fst, PUnit.unit)
noncomputable def ref02_Make (x0 : Int) (x1 : Int) : Option ((Int × Int) × Int × Unit) := ref02_Make_b lpK jnK ref02_Size ref02_Made x0 x1
noncomputable def c64 : Ctr := ⟨[i64, i64], [], [], .tup [T27, i64], fun x _ _ => ref02_Make x.1 x.2.1⟩
theorem e64 (lp : Lp) (jn : Jn) (ref02_Size : (Int) → Option (Int)) (ref02_Made : (Int × Int) → (Bool) → (Int × Int) → Option ((Int × Int) × Int × Unit)) : ∀ (x : TsS c64.as) (F : TsF c64.fs) (y : TsS c64.cs), ref02_Make_b lp jn ref02_Size ref02_Made x.1 x.2.1 = runC lp jn (ctxOf prog shs inls its [(92, ⟨[T97, .bool, T97], [], [], .tup [T27, i64], fun x _ _ => ref02_Made x.1 x.2.1 x.2.2.1⟩), (67, ⟨[i64], [], [], .one (.int .u64), fun x _ _ => ref02_Size x.1⟩)] [(37, r37), (29, r29), (88, r88)]) hints 4 64 f64 c64 x F y := fun x F y => by kernel_rfl
theorem l64 : (ctxOf prog shs inls its [(92, c92), (67, c67)] [(37, r37), (29, r29), (88, r88)]).ok := ctxOf_cons (ctxOf_cons (q37) (by kernel_rfl) ok67) (by kernel_rfl) ok92
theorem ok64 : c64.ok prog 64 := Ctr.of_den l64 hmix (hl := hints) (d := 4) func64 rfl (by decide) (e64 lpK jnK ref02_Size ref02_Made)

end Go.Proofs.Ytpkphcnebkfjdaa

namespace Go.Proofs.Ytpkphcnebkfjdaa
open Try Dn Dn.Sh

set_option maxRecDepth 100000
/-- loftblock loftblockref02.Mul -/
noncomputable def ref02_Mul_b (_ : Lp) (_ : Jn) (x0 : Int) (x1 : Int) : Option (Int × Int) :=
  
  let v4 : Int := (2 : Int) ^ (32 : Nat);
  let v5 : Int := Int.fdiv x0 v4;
  let v6 : Int := Int.fdiv x1 v4;
  let v7 : Bool := decide ((0 : Int) ≤ (32 : Int));
  let v8 : Int := IntKind.wrap IntKind.u64 (↑(Nat.land (Int.toNat (x1 % Int.ofNat (18446744073709551616 : Nat))) (Int.toNat ((4294967295 : Int) % Int.ofNat (18446744073709551616 : Nat)))) :
    Int);
  let v9 : Int := IntKind.wrap IntKind.u64 (↑(Nat.land (Int.toNat (x0 % Int.ofNat (18446744073709551616 : Nat))) (Int.toNat ((4294967295 : Int) % Int.ofNat (18446744073709551616 : Nat)))) :
    Int);
  let v10 : Int := IntKind.wrap IntKind.u64 (v9 * v8);
  let v11 : Int := IntKind.wrap IntKind.u64 (IntKind.wrap IntKind.u64 (v5 * v8) + Int.fdiv v10 v4);
  let v12 : Int := IntKind.wrap IntKind.u64 (IntKind.wrap IntKind.u64 (v9 * v6) + IntKind.wrap IntKind.u64 (↑(Nat.land (Int.toNat (v11 % Int.ofNat (18446744073709551616 : Nat))) (Int.toNat
    ((4294967295 : Int) % Int.ofNat (18446744073709551616 : Nat)))) : Int)); bif v7 then bif v7 then bif v7 then bif v7 then bif v7 then bif v7 then some (IntKind.wrap IntKind.u64
    (IntKind.wrap IntKind.u64 (IntKind.wrap IntKind.u64 (v5 * v6) + Int.fdiv v11 v4) + Int.fdiv v12 v4), IntKind.wrap IntKind.u64 (IntKind.wrap IntKind.u64 (v12 * v4) + IntKind.wrap
    IntKind.u64 (↑(Nat.land (Int.toNat (v10 % Int.ofNat (18446744073709551616 : Nat))) (Int.toNat ((4294967295 : Int) % Int.ofNat (18446744073709551616 : Nat)))) : Int))) else none else
    none else none else none else none else none
noncomputable def ref02_Mul (x0 : Int) (x1 : Int) : Option (Int × Int) := ref02_Mul_b lpK jnK x0 x1
noncomputable def c66 : Ctr := ⟨[(.int .u64), (.int .u64)], [], [], .one T97, fun x _ _ => ref02_Mul x.1 x.2.1⟩
theorem e66 (lp : Lp) (jn : Jn) : ∀ (x : TsS c66.as) (F : TsF c66.fs) (y : TsS c66.cs), ref02_Mul_b lp jn x.1 x.2.1 = runC lp jn (ctxOf prog shs inls its [] [(37, r37), (29, r29), (88, r88)]) hints 4 66 f66 c66 x F y := fun x F y => by kernel_rfl
theorem l66 : (ctxOf prog shs inls its [] [(37, r37), (29, r29), (88, r88)]).ok := q37
theorem ok66 : c66.ok prog 66 := Ctr.of_den l66 hmix (hl := hints) (d := 4) func66 rfl (by decide) (e66 lpK jnK)

/-- loftblock loftblockref02.Add -/
noncomputable def ref02_Add_b (_ : Lp) (_ : Jn) (ref02_Size : (Int) → Option (Int)) (ref02_Less : (Int × Int) → (Int × Int) → Option (Bool)) (ref02_Plus : (Int × Int) → (Int × Int) → Option (Int × Int)) (ref02_Minus : (Int × Int) → (Int × Int) → Option (Int × Int)) (ref02_Made : (Int × Int) → (Bool) → (Int × Int) → Option ((Int × Int) × Int × Unit)) (ref02_Mul : (Int) → (Int) → Option (Int × Int)) (x0 : Int × Int) (x1 : Int × Int) : Option ((Int × Int) × Int × Unit) :=
  
  let v4 : Bool := decide (x0.fst < (0 : Int)); obind (ref02_Size x0.fst) fun (t : Int) => obind (ref02_Size x1.snd) fun (t_1 : Int) => obind (ref02_Mul t t_1) fun (t : Int × Int) => obind
    (ref02_Size x1.fst) fun (t_2 : Int) => obind (ref02_Size x0.snd) fun (t_3 : Int) => obind (ref02_Mul t_2 t_3) fun (t_4 : Int × Int) => obind (ref02_Size x0.snd) fun (t_5 : Int) => obind
    (ref02_Size x1.snd) fun (t_6 : Int) => obind (ref02_Mul t_5 t_6) fun (t_7 : Int × Int) => bif decide (v4 = decide (x1.fst < (0 : Int))) then obind (ref02_Plus t t_4) fun (t : Int × Int)
    => obind (ref02_Made t v4 t_7) fun (t : (Int × Int) × Int × PUnit) => some (t.fst, t.snd.fst, PUnit.unit) else obind (ref02_Less t t_4) fun (t_8 : Bool) => bif t_8 then obind
    (ref02_Minus t_4 t) fun (t : Int × Int) => obind (ref02_Made t (decide (x1.fst < (0 : Int))) t_7) fun (t : (Int × Int) × Int × PUnit) => some (t.fst, t.snd.fst, PUnit.unit) else obind
    (ref02_Minus t t_4) fun (t : Int × Int) => obind (ref02_Made t v4 t_7) fun (t : (Int × Int) × Int × PUnit) => some (t.fst, t.snd.fst, PUnit.unit)
noncomputable def ref02_Add (x0 : Int × Int) (x1 : Int × Int) : Option ((Int × Int) × Int × Unit) := ref02_Add_b lpK jnK ref02_Size ref02_Less ref02_Plus ref02_Minus ref02_Made ref02_Mul x0 x1
noncomputable def c65 : Ctr := ⟨[T27, T27], [], [], .tup [T27, i64], fun x _ _ => ref02_Add x.1 x.2.1⟩
theorem e65 (lp : Lp) (jn : Jn) (ref02_Size : (Int) → Option (Int)) (ref02_Less : (Int × Int) → (Int × Int) → Option (Bool)) (ref02_Plus : (Int × Int) → (Int × Int) → Option (Int × Int)) (ref02_Minus : (Int × Int) → (Int × Int) → Option (Int × Int)) (ref02_Made : (Int × Int) → (Bool) → (Int × Int) → Option ((Int × Int) × Int × Unit)) (ref02_Mul : (Int) → (Int) → Option (Int × Int)) : ∀ (x : TsS c65.as) (F : TsF c65.fs) (y : TsS c65.cs), ref02_Add_b lp jn ref02_Size ref02_Less ref02_Plus ref02_Minus ref02_Made ref02_Mul x.1 x.2.1 = runC lp jn (ctxOf prog shs inls its [(66, ⟨[(.int .u64), (.int .u64)], [], [], .one T97, fun x _ _ => ref02_Mul x.1 x.2.1⟩), (92, ⟨[T97, .bool, T97], [], [], .tup [T27, i64], fun x _ _ => ref02_Made x.1 x.2.1 x.2.2.1⟩), (97, ⟨[T97, T97], [], [], .one T97, fun x _ _ => ref02_Minus x.1 x.2.1⟩), (96, ⟨[T97, T97], [], [], .one T97, fun x _ _ => ref02_Plus x.1 x.2.1⟩), (68, ⟨[T97, T97], [], [], .one .bool, fun x _ _ => ref02_Less x.1 x.2.1⟩), (67, ⟨[i64], [], [], .one (.int .u64), fun x _ _ => ref02_Size x.1⟩)] [(37, r37), (29, r29), (88, r88)]) hints 4 65 f65 c65 x F y := fun x F y => by kernel_rfl
theorem l65 : (ctxOf prog shs inls its [(66, c66), (92, c92), (97, c97), (96, c96), (68, c68), (67, c67)] [(37, r37), (29, r29), (88, r88)]).ok := ctxOf_cons (ctxOf_cons (ctxOf_cons (ctxOf_cons (ctxOf_cons (ctxOf_cons (q37) (by kernel_rfl) ok67) (by kernel_rfl) ok68) (by kernel_rfl) ok96) (by kernel_rfl) ok97) (by kernel_rfl) ok92) (by kernel_rfl) ok66
theorem ok65 : c65.ok prog 65 := Ctr.of_den l65 hmix (hl := hints) (d := 4) func65 rfl (by decide) (e65 lpK jnK ref02_Size ref02_Less ref02_Plus ref02_Minus ref02_Made ref02_Mul)

/-- loftblock loftblockref19.Loads -/
noncomputable def ref19_Loads_b (lp : Lp) (_ : Jn) (ref19_Is : (ByteArray × Int × Int × Int) → (Int) → Option (Bool)) (ref19_Count : (List (ByteArray × Int × Int × Int)) → (Int) → Option (Int)) (ref02_Of : (Int) → Option (Int × Int)) (ref02_Make : (Int) → (Int) → Option ((Int × Int) × Int × Unit)) (ref02_Add : (Int × Int) → (Int × Int) → Option ((Int × Int) × Int × Unit)) (x0 : List (ByteArray × Int × Int × Int)) (x1 : List (Int × Int)) : Option ((List (Int × Int)) × Int × Unit) :=
  lp (Int × PUnit) (List (Int × Int) × Int × PUnit) (fun (again : Int × PUnit → Option (List (Int × Int) × Int × PUnit)) (x : Int × PUnit) => bif decide (x.fst < (↑(List.length x1) : Int))
    then bif inB x.fst (List.length x1) then obind (ref19_Count x0 (List.getD x1 (Int.toNat x.fst) ((0 : Int), (0 : Int))).fst) fun (t : Int) => bif decide (t = (0 : Int)) then some ([],
    (12 : Int), PUnit.unit) else again (IntKind.wrap IntKind.i64 (x.fst + (1 : Int)), PUnit.unit) else none else lp (List (Int × Int) × Int × PUnit) (List (Int × Int) × Int × PUnit) (fun
    (again : List (Int × Int) × Int × PUnit → Option (List (Int × Int) × Int × PUnit)) (x : List (Int × Int) × Int × PUnit) => bif decide (x.snd.fst < (↑(List.length x0) : Int)) then obind
    (ref02_Of (0 : Int)) fun (t : Int × Int) => lp (Int × (Int × Int) × PUnit) (List (Int × Int) × Int × PUnit) (fun (again_1 : Int × (Int × Int) × PUnit → Option (List (Int × Int) × Int ×
    PUnit)) (x_1 : Int × (Int × Int) × PUnit) =>
  let v11 : Bool := inB x_1.fst (List.length x1);
  let v12 : Int := IntKind.wrap IntKind.i64 (x_1.fst + (1 : Int));
  let v13 : Int × Int := List.getD x1 (Int.toNat x_1.fst) ((0 : Int), (0 : Int)); bif decide (x_1.fst < (↑(List.length x1) : Int)) then bif inB x.snd.fst (List.length x0) then bif v11 then
    obind (ref19_Is (List.getD x0 (Int.toNat x.snd.fst) ({ data := { toList := [] } }, (0 : Int), (0 : Int), (0 : Int))) v13.fst) fun (t : Bool) => bif !t then again_1 (v12, x_1.snd.fst,
    PUnit.unit) else bif v11 then bif v11 then obind (ref19_Count x0 v13.fst) fun (t : Int) => obind (ref02_Make v13.snd t) fun (t : (Int × Int) × Int × PUnit) => bif !decide (t.snd.fst =
    (0 : Int)) then some ([], t.snd.fst, PUnit.unit) else obind (ref02_Add x_1.snd.fst t.fst) fun (t : (Int × Int) × Int × PUnit) => bif !decide (t.snd.fst = (0 : Int)) then some ([],
    t.snd.fst, PUnit.unit) else again_1 (v12, t.fst, PUnit.unit) else none else none else none else none else bif fitB (List.length x.fst + (1 : Nat)) (16 : Nat) then again (x.fst ++
    [x_1.snd.fst], IntKind.wrap IntKind.i64 (x.snd.fst + (1 : Int)), PUnit.unit) else none) ((0 : Int), t, PUnit.unit) else some (x.fst, (0 : Int), PUnit.unit)) ([], (0 : Int), PUnit.unit))
    ((0 : Int), PUnit.unit)
noncomputable def ref19_Loads (x0 : List (ByteArray × Int × Int × Int)) (x1 : List (Int × Int)) : Option ((List (Int × Int)) × Int × Unit) := ref19_Loads_b lpK jnK ref19_Is ref19_Count ref02_Of ref02_Make ref02_Add x0 x1
noncomputable def c21 : Ctr := ⟨[(.sl T40), (.sl T60)], [], [], .tup [(.sl T27), i64], fun x _ _ => ref19_Loads x.1 x.2.1⟩
theorem e21 (lp : Lp) (jn : Jn) (ref19_Is : (ByteArray × Int × Int × Int) → (Int) → Option (Bool)) (ref19_Count : (List (ByteArray × Int × Int × Int)) → (Int) → Option (Int)) (ref02_Of : (Int) → Option (Int × Int)) (ref02_Make : (Int) → (Int) → Option ((Int × Int) × Int × Unit)) (ref02_Add : (Int × Int) → (Int × Int) → Option ((Int × Int) × Int × Unit)) : ∀ (x : TsS c21.as) (F : TsF c21.fs) (y : TsS c21.cs), ref19_Loads_b lp jn ref19_Is ref19_Count ref02_Of ref02_Make ref02_Add x.1 x.2.1 = runC lp jn (ctxOf prog shs inls its [(65, ⟨[T27, T27], [], [], .tup [T27, i64], fun x _ _ => ref02_Add x.1 x.2.1⟩), (64, ⟨[i64, i64], [], [], .tup [T27, i64], fun x _ _ => ref02_Make x.1 x.2.1⟩), (58, ⟨[i64], [], [], .one T27, fun x _ _ => ref02_Of x.1⟩), (56, ⟨[(.sl T40), i64], [], [], .one i64, fun x _ _ => ref19_Count x.1 x.2.1⟩), (17, ⟨[T40, i64], [], [], .one .bool, fun x _ _ => ref19_Is x.1 x.2.1⟩)] [(37, r37), (29, r29), (88, r88)]) hints 4 21 f21 c21 x F y := fun x F y => by kernel_rfl
theorem l21 : (ctxOf prog shs inls its [(65, c65), (64, c64), (58, c58), (56, c56), (17, c17)] [(37, r37), (29, r29), (88, r88)]).ok := ctxOf_cons (ctxOf_cons (ctxOf_cons (ctxOf_cons (ctxOf_cons (q37) (by kernel_rfl) ok17) (by kernel_rfl) ok56) (by kernel_rfl) ok58) (by kernel_rfl) ok64) (by kernel_rfl) ok65
theorem ok21 : c21.ok prog 21 := Ctr.of_den l21 hmix (hl := hints) (d := 4) func21 rfl (by decide) (e21 lpK jnK ref19_Is ref19_Count ref02_Of ref02_Make ref02_Add)

/-- loftblock loftblockref02.Cmp -/
noncomputable def ref02_Cmp_b (_ : Lp) (_ : Jn) (ref02_Size : (Int) → Option (Int)) (ref02_Less : (Int × Int) → (Int × Int) → Option (Bool)) (ref02_Mul : (Int) → (Int) → Option (Int × Int)) (x0 : Int × Int) (x1 : Int × Int) : Option Int :=
  
  let v4 : Bool := decide (x0.fst < (0 : Int));
  let v5 : Bool := decide (x0.fst ≥ (0 : Int));
  let v6 : Bool := !v4 || v4;
  let v7 : Bool := !v5 || v5; obind (ref02_Size x0.fst) fun (t : Int) => obind (ref02_Size x1.snd) fun (t_1 : Int) => obind (ref02_Mul t t_1) fun (t : Int × Int) => obind (ref02_Size
    x1.fst) fun (t_2 : Int) => obind (ref02_Size x0.snd) fun (t_3 : Int) => obind (ref02_Mul t_2 t_3) fun (t_4 : Int × Int) => bif v6 then bif v6 then bif v6 then bif bif v4 then decide
    (x1.fst ≥ (0 : Int)) else false then some (-1 : Int) else bif v7 then bif v7 then bif v7 then bif bif v5 then decide (x1.fst < (0 : Int)) else false then some (1 : Int) else bif decide
    (t.fst = t_4.fst) && (decide (t.snd = t_4.snd) && true) then some (0 : Int) else obind (ref02_Less t t_4) fun (t : Bool) => bif decide (t = v5) then some (-1 : Int) else some (1 : Int)
    else none else none else none else none else none else none
noncomputable def ref02_Cmp (x0 : Int × Int) (x1 : Int × Int) : Option Int := ref02_Cmp_b lpK jnK ref02_Size ref02_Less ref02_Mul x0 x1
noncomputable def c23 : Ctr := ⟨[T27, T27], [], [], .one i64, fun x _ _ => ref02_Cmp x.1 x.2.1⟩
theorem e23 (lp : Lp) (jn : Jn) (ref02_Size : (Int) → Option (Int)) (ref02_Less : (Int × Int) → (Int × Int) → Option (Bool)) (ref02_Mul : (Int) → (Int) → Option (Int × Int)) : ∀ (x : TsS c23.as) (F : TsF c23.fs) (y : TsS c23.cs), ref02_Cmp_b lp jn ref02_Size ref02_Less ref02_Mul x.1 x.2.1 = runC lp jn (ctxOf prog shs inls its [(66, ⟨[(.int .u64), (.int .u64)], [], [], .one T97, fun x _ _ => ref02_Mul x.1 x.2.1⟩), (68, ⟨[T97, T97], [], [], .one .bool, fun x _ _ => ref02_Less x.1 x.2.1⟩), (67, ⟨[i64], [], [], .one (.int .u64), fun x _ _ => ref02_Size x.1⟩)] [(37, r37), (29, r29), (88, r88)]) hints 4 23 f23 c23 x F y := fun x F y => by kernel_rfl
theorem l23 : (ctxOf prog shs inls its [(66, c66), (68, c68), (67, c67)] [(37, r37), (29, r29), (88, r88)]).ok := ctxOf_cons (ctxOf_cons (ctxOf_cons (q37) (by kernel_rfl) ok67) (by kernel_rfl) ok68) (by kernel_rfl) ok66
theorem ok23 : c23.ok prog 23 := Ctr.of_den l23 hmix (hl := hints) (d := 4) func23 rfl (by decide) (e23 lpK jnK ref02_Size ref02_Less ref02_Mul)

/-- loftblock loftblockref02.Neg -/
noncomputable def ref02_Neg_b (_ : Lp) (_ : Jn) (x0 : Int × Int) : Option (Int × Int) :=
  some (IntKind.wrap IntKind.i64 ((0 : Int) - x0.fst), x0.snd)
noncomputable def ref02_Neg (x0 : Int × Int) : Option (Int × Int) := ref02_Neg_b lpK jnK x0
noncomputable def c91 : Ctr := ⟨[T27], [], [], .one T27, fun x _ _ => ref02_Neg x.1⟩
theorem e91 (lp : Lp) (jn : Jn) : ∀ (x : TsS c91.as) (F : TsF c91.fs) (y : TsS c91.cs), ref02_Neg_b lp jn x.1 = runC lp jn (ctxOf prog shs inls its [] [(37, r37), (29, r29), (88, r88)]) hints 4 91 f91 c91 x F y := fun x F y => by kernel_rfl
theorem l91 : (ctxOf prog shs inls its [] [(37, r37), (29, r29), (88, r88)]).ok := q37
theorem ok91 : c91.ok prog 91 := Ctr.of_den l91 hmix (hl := hints) (d := 4) func91 rfl (by decide) (e91 lpK jnK)

/-- loftblock loftblockref02.Sub -/
noncomputable def ref02_Sub_b (_ : Lp) (_ : Jn) (ref02_Add : (Int × Int) → (Int × Int) → Option ((Int × Int) × Int × Unit)) (ref02_Neg : (Int × Int) → Option (Int × Int)) (x0 : Int × Int) (x1 : Int × Int) : Option ((Int × Int) × Int × Unit) :=
  obind (ref02_Neg x1) fun (t : Int × Int) => obind (ref02_Add x0 t) fun (t : (Int × Int) × Int × PUnit) => some (t.fst, t.snd.fst, PUnit.unit)
noncomputable def ref02_Sub (x0 : Int × Int) (x1 : Int × Int) : Option ((Int × Int) × Int × Unit) := ref02_Sub_b lpK jnK ref02_Add ref02_Neg x0 x1
noncomputable def c57 : Ctr := ⟨[T27, T27], [], [], .tup [T27, i64], fun x _ _ => ref02_Sub x.1 x.2.1⟩
theorem e57 (lp : Lp) (jn : Jn) (ref02_Add : (Int × Int) → (Int × Int) → Option ((Int × Int) × Int × Unit)) (ref02_Neg : (Int × Int) → Option (Int × Int)) : ∀ (x : TsS c57.as) (F : TsF c57.fs) (y : TsS c57.cs), ref02_Sub_b lp jn ref02_Add ref02_Neg x.1 x.2.1 = runC lp jn (ctxOf prog shs inls its [(91, ⟨[T27], [], [], .one T27, fun x _ _ => ref02_Neg x.1⟩), (65, ⟨[T27, T27], [], [], .tup [T27, i64], fun x _ _ => ref02_Add x.1 x.2.1⟩)] [(37, r37), (29, r29), (88, r88)]) hints 4 57 f57 c57 x F y := fun x F y => by kernel_rfl
theorem l57 : (ctxOf prog shs inls its [(91, c91), (65, c65)] [(37, r37), (29, r29), (88, r88)]).ok := ctxOf_cons (ctxOf_cons (q37) (by kernel_rfl) ok65) (by kernel_rfl) ok91
theorem ok57 : c57.ok prog 57 := Ctr.of_den l57 hmix (hl := hints) (d := 4) func57 rfl (by decide) (e57 lpK jnK ref02_Add ref02_Neg)

/-- loftblock loftblockref02.Times -/
noncomputable def ref02_Times_b (_ : Lp) (_ : Jn) (ref02_Size : (Int) → Option (Int)) (ref02_Made : (Int × Int) → (Bool) → (Int × Int) → Option ((Int × Int) × Int × Unit)) (ref02_Mul : (Int) → (Int) → Option (Int × Int)) (x0 : Int × Int) (x1 : Int × Int) : Option ((Int × Int) × Int × Unit) :=
  obind (ref02_Size x0.fst) fun (t : Int) => obind (ref02_Size x1.fst) fun (t_1 : Int) => obind (ref02_Mul t t_1) fun (t : Int × Int) => obind (ref02_Size x0.snd) fun (t_2 : Int) => obind
    (ref02_Size x1.snd) fun (t_3 : Int) => obind (ref02_Mul t_2 t_3) fun (t_4 : Int × Int) => obind (ref02_Made t (!decide (decide (x0.fst < (0 : Int)) = decide (x1.fst < (0 : Int)))) t_4)
    fun (t : (Int × Int) × Int × PUnit) => some (t.fst, t.snd.fst, PUnit.unit)
noncomputable def ref02_Times (x0 : Int × Int) (x1 : Int × Int) : Option ((Int × Int) × Int × Unit) := ref02_Times_b lpK jnK ref02_Size ref02_Made ref02_Mul x0 x1
noncomputable def c59 : Ctr := ⟨[T27, T27], [], [], .tup [T27, i64], fun x _ _ => ref02_Times x.1 x.2.1⟩
theorem e59 (lp : Lp) (jn : Jn) (ref02_Size : (Int) → Option (Int)) (ref02_Made : (Int × Int) → (Bool) → (Int × Int) → Option ((Int × Int) × Int × Unit)) (ref02_Mul : (Int) → (Int) → Option (Int × Int)) : ∀ (x : TsS c59.as) (F : TsF c59.fs) (y : TsS c59.cs), ref02_Times_b lp jn ref02_Size ref02_Made ref02_Mul x.1 x.2.1 = runC lp jn (ctxOf prog shs inls its [(66, ⟨[(.int .u64), (.int .u64)], [], [], .one T97, fun x _ _ => ref02_Mul x.1 x.2.1⟩), (92, ⟨[T97, .bool, T97], [], [], .tup [T27, i64], fun x _ _ => ref02_Made x.1 x.2.1 x.2.2.1⟩), (67, ⟨[i64], [], [], .one (.int .u64), fun x _ _ => ref02_Size x.1⟩)] [(37, r37), (29, r29), (88, r88)]) hints 4 59 f59 c59 x F y := fun x F y => by kernel_rfl
theorem l59 : (ctxOf prog shs inls its [(66, c66), (92, c92), (67, c67)] [(37, r37), (29, r29), (88, r88)]).ok := ctxOf_cons (ctxOf_cons (ctxOf_cons (q37) (by kernel_rfl) ok67) (by kernel_rfl) ok92) (by kernel_rfl) ok66
theorem ok59 : c59.ok prog 59 := Ctr.of_den l59 hmix (hl := hints) (d := 4) func59 rfl (by decide) (e59 lpK jnK ref02_Size ref02_Made ref02_Mul)

/-- loftblock loftblockref19.Spare -/
noncomputable def ref19_Spare_b (lp : Lp) (_ : Jn) (ref19_Is : (ByteArray × Int × Int × Int) → (Int) → Option (Bool)) (ref19_Count : (List (ByteArray × Int × Int × Int)) → (Int) → Option (Int)) (ref02_Of : (Int) → Option (Int × Int)) (ref19_Loads : (List (ByteArray × Int × Int × Int)) → (List (Int × Int)) → Option ((List (Int × Int)) × Int × Unit)) (ref02_Cmp : (Int × Int) → (Int × Int) → Option (Int)) (ref02_Sub : (Int × Int) → (Int × Int) → Option ((Int × Int) × Int × Unit)) (ref02_Times : (Int × Int) → (Int × Int) → Option ((Int × Int) × Int × Unit)) (x0 : List (ByteArray × Int × Int × Int)) (x1 : List (Int × Int)) (x2 : Int) : Option ((Int × Int) × Int × Unit) :=
  obind (ref19_Loads x0 x1) fun (t : List (Int × Int) × Int × PUnit) =>
  let v6 : Bool := decide (t.snd.fst = (12 : Int));
  let v7 : Bool := !v6;
  let v8 : Bool := !v7 || v7; bif v8 && v8 then obind (bif v7 then ref19_Count x0 x2 else some (0 : Int)) fun (t_1 : Int) => bif v8 then bif v6 || v7 then bif bif v6 then true else decide
    (t_1 = (0 : Int)) then some (((0 : Int), (0 : Int)), (12 : Int), PUnit.unit) else bif !decide (t.snd.fst = (0 : Int)) then some (((0 : Int), (0 : Int)), t.snd.fst, PUnit.unit) else lp
    (Bool × Int × (Int × Int) × (Int × Int) × PUnit) ((Int × Int) × Int × PUnit) (fun (again : Bool × Int × (Int × Int) × (Int × Int) × PUnit → Option ((Int × Int) × Int × PUnit)) (x : Bool
    × Int × (Int × Int) × (Int × Int) × PUnit) =>
  let v12 : Bool := !x.fst;
  let v13 : Bool := !v12;
  let v14 : Bool := !v13 || v13;
  let v15 : Bool := inB x.snd.fst (List.length x0);
  let v16 : Int := IntKind.wrap IntKind.i64 (x.snd.fst + (1 : Int));
  let v17 : ByteArray × Int × Int × Int := List.getD x0 (Int.toNat x.snd.fst) ({ data := { toList := [] } }, (0 : Int), (0 : Int), (0 : Int));
  let v18 : Int × (Int × Int) × (Int × Int) × PUnit := (v16, x.snd.snd.fst, x.snd.snd.snd.fst, PUnit.unit); bif decide (x.snd.fst < (↑(List.length x0) : Int)) then bif v15 then obind
    (ref19_Is v17 x2) fun (t_2 : Bool) => bif !t_2 then again (x.fst, v18) else bif v15 then obind (ref02_Of v17.snd.snd.snd) fun (t_3 : Int × Int) => bif inB x.snd.fst (List.length t.fst)
    then obind (ref02_Sub t_3 (List.getD t.fst (Int.toNat x.snd.fst) ((0 : Int), (0 : Int)))) fun (t : (Int × Int) × Int × PUnit) => bif !decide (t.snd.fst = (0 : Int)) then some (((0 :
    Int), (0 : Int)), t.snd.fst, PUnit.unit) else obind (ref19_Count x0 x2) fun (t_4 : Int) => obind (ref02_Of t_4) fun (t_5 : Int × Int) => obind (ref02_Times t.fst t_5) fun (t : (Int ×
    Int) × Int × PUnit) => bif !decide (t.snd.fst = (0 : Int)) then some (((0 : Int), (0 : Int)), t.snd.fst, PUnit.unit) else bif v14 && v14 then obind (bif v13 then ref02_Cmp t.fst
    x.snd.snd.snd.fst else some (0 : Int)) fun (t_6 : Int) => bif v14 then bif v12 || v13 then bif bif v12 then true else decide (t_6 < (0 : Int)) then again (true, v16, x.snd.snd.fst,
    t.fst, PUnit.unit) else again (true, v18) else none else none else none else none else none else none else some (x.snd.snd.snd.fst, (0 : Int), PUnit.unit)) (false, (0 : Int), ((0 :
    Int), (0 : Int)), ((0 : Int), (0 : Int)), PUnit.unit) else none else none else none
noncomputable def ref19_Spare (x0 : List (ByteArray × Int × Int × Int)) (x1 : List (Int × Int)) (x2 : Int) : Option ((Int × Int) × Int × Unit) := ref19_Spare_b lpK jnK ref19_Is ref19_Count ref02_Of ref19_Loads ref02_Cmp ref02_Sub ref02_Times x0 x1 x2
noncomputable def c13 : Ctr := ⟨[(.sl T40), (.sl T60), i64], [], [], .tup [T27, i64], fun x _ _ => ref19_Spare x.1 x.2.1 x.2.2.1⟩
theorem e13 (lp : Lp) (jn : Jn) (ref19_Is : (ByteArray × Int × Int × Int) → (Int) → Option (Bool)) (ref19_Count : (List (ByteArray × Int × Int × Int)) → (Int) → Option (Int)) (ref02_Of : (Int) → Option (Int × Int)) (ref19_Loads : (List (ByteArray × Int × Int × Int)) → (List (Int × Int)) → Option ((List (Int × Int)) × Int × Unit)) (ref02_Cmp : (Int × Int) → (Int × Int) → Option (Int)) (ref02_Sub : (Int × Int) → (Int × Int) → Option ((Int × Int) × Int × Unit)) (ref02_Times : (Int × Int) → (Int × Int) → Option ((Int × Int) × Int × Unit)) : ∀ (x : TsS c13.as) (F : TsF c13.fs) (y : TsS c13.cs), ref19_Spare_b lp jn ref19_Is ref19_Count ref02_Of ref19_Loads ref02_Cmp ref02_Sub ref02_Times x.1 x.2.1 x.2.2.1 = runC lp jn (ctxOf prog shs inls its [(59, ⟨[T27, T27], [], [], .tup [T27, i64], fun x _ _ => ref02_Times x.1 x.2.1⟩), (57, ⟨[T27, T27], [], [], .tup [T27, i64], fun x _ _ => ref02_Sub x.1 x.2.1⟩), (23, ⟨[T27, T27], [], [], .one i64, fun x _ _ => ref02_Cmp x.1 x.2.1⟩), (21, ⟨[(.sl T40), (.sl T60)], [], [], .tup [(.sl T27), i64], fun x _ _ => ref19_Loads x.1 x.2.1⟩), (58, ⟨[i64], [], [], .one T27, fun x _ _ => ref02_Of x.1⟩), (56, ⟨[(.sl T40), i64], [], [], .one i64, fun x _ _ => ref19_Count x.1 x.2.1⟩), (17, ⟨[T40, i64], [], [], .one .bool, fun x _ _ => ref19_Is x.1 x.2.1⟩)] [(37, r37), (29, r29), (88, r88)]) hints 4 13 f13 c13 x F y := fun x F y => by kernel_rfl
theorem l13 : (ctxOf prog shs inls its [(59, c59), (57, c57), (23, c23), (21, c21), (58, c58), (56, c56), (17, c17)] [(37, r37), (29, r29), (88, r88)]).ok := ctxOf_cons (ctxOf_cons (ctxOf_cons (ctxOf_cons (ctxOf_cons (ctxOf_cons (ctxOf_cons (q37) (by kernel_rfl) ok17) (by kernel_rfl) ok56) (by kernel_rfl) ok58) (by kernel_rfl) ok21) (by kernel_rfl) ok23) (by kernel_rfl) ok57) (by kernel_rfl) ok59
theorem ok13 : c13.ok prog 13 := Ctr.of_den l13 hmix (hl := hints) (d := 4) func13 rfl (by decide) (e13 lpK jnK ref19_Is ref19_Count ref02_Of ref19_Loads ref02_Cmp ref02_Sub ref02_Times)

/-- loftblock loftblocklaw19.GridSpares -/
noncomputable def law19_GridSpares_b (_ : Lp) (_ : Jn) (grid_Spare : (List (ByteArray × Int × Int × Int)) → (List (Int × Int)) → (Int) → Option ((Int × Int) × Int × Unit)) (law19_awake : Option (Bool)) (law19_few : (List (ByteArray × Int × Int × Int)) → (List (List (Int × Int))) → Option (Bool)) (law19_given : (List (ByteArray × Int × Int × Int)) → (List (Int × Int)) → (Int) → Option (Int)) (ref19_Spare : (List (ByteArray × Int × Int × Int)) → (List (Int × Int)) → (Int) → Option ((Int × Int) × Int × Unit)) (x0 : List (ByteArray × Int × Int × Int)) (x1 : List (Int × Int)) (x2 : Int) : Option Bool :=
  obind law19_awake fun (t : Bool) => bif !t then some false else obind (law19_few x0 [x1]) fun (t : Bool) => bif !t then some true else obind (grid_Spare x0 x1 x2) fun (t : (Int × Int) × Int
    × PUnit) =>
  let v8 : Bool := decide (t.fst.fst = (0 : Int)) && (decide (t.fst.snd = (0 : Int)) && true);
  let v9 : Bool := !v8 || v8; obind (law19_given x0 x1 x2) fun (t_1 : Int) => bif !decide (t_1 = (0 : Int)) then bif v9 && v9 then bif v9 then some (bif v8 then decide (t.snd.fst = t_1)
    else false) else none else none else obind (ref19_Spare x0 x1 x2) fun (t_2 : (Int × Int) × Int × PUnit) =>
  let v12 : Bool := decide (t.fst.fst = t_2.fst.fst) && (decide (t.fst.snd = t_2.fst.snd) && true);
  let v13 : Bool := !v12 || v12; bif v13 && v13 then bif v13 then some (bif v12 then decide (t.snd.fst = t_2.snd.fst) else false) else none else none
noncomputable def law19_GridSpares (x0 : List (ByteArray × Int × Int × Int)) (x1 : List (Int × Int)) (x2 : Int) : Option Bool := law19_GridSpares_b lpK jnK grid_Spare law19_awake law19_few law19_given ref19_Spare x0 x1 x2
noncomputable def c3 : Ctr := ⟨[(.sl T40), (.sl T60), i64], [], [], .one .bool, fun x _ _ => law19_GridSpares x.1 x.2.1 x.2.2.1⟩
theorem e3 (lp : Lp) (jn : Jn) (grid_Spare : (List (ByteArray × Int × Int × Int)) → (List (Int × Int)) → (Int) → Option ((Int × Int) × Int × Unit)) (law19_awake : Option (Bool)) (law19_few : (List (ByteArray × Int × Int × Int)) → (List (List (Int × Int))) → Option (Bool)) (law19_given : (List (ByteArray × Int × Int × Int)) → (List (Int × Int)) → (Int) → Option (Int)) (ref19_Spare : (List (ByteArray × Int × Int × Int)) → (List (Int × Int)) → (Int) → Option ((Int × Int) × Int × Unit)) : ∀ (x : TsS c3.as) (F : TsF c3.fs) (y : TsS c3.cs), law19_GridSpares_b lp jn grid_Spare law19_awake law19_few law19_given ref19_Spare x.1 x.2.1 x.2.2.1 = runC lp jn (ctxOf prog shs inls its [(13, ⟨[(.sl T40), (.sl T60), i64], [], [], .tup [T27, i64], fun x _ _ => ref19_Spare x.1 x.2.1 x.2.2.1⟩), (12, ⟨[(.sl T40), (.sl T60), i64], [], [], .one i64, fun x _ _ => law19_given x.1 x.2.1 x.2.2.1⟩), (10, ⟨[(.sl T40), (.sl (.sl T60))], [], [], .one .bool, fun x _ _ => law19_few x.1 x.2.1⟩), (9, ⟨[], [], [], .one .bool, fun _ _ _ => law19_awake⟩), (11, ⟨[(.sl T40), (.sl T60), i64], [], [], .tup [T27, i64], fun x _ _ => grid_Spare x.1 x.2.1 x.2.2.1⟩)] [(37, r37), (29, r29), (88, r88)]) hints 4 3 f3 c3 x F y := fun x F y => by kernel_rfl
theorem l3 : (ctxOf prog shs inls its [(13, c13), (12, c12), (10, c10), (9, c9), (11, c11)] [(37, r37), (29, r29), (88, r88)]).ok := ctxOf_cons (ctxOf_cons (ctxOf_cons (ctxOf_cons (ctxOf_cons (q37) (by kernel_rfl) ok11) (by kernel_rfl) ok9) (by kernel_rfl) ok10) (by kernel_rfl) ok12) (by kernel_rfl) ok13
theorem ok3 : c3.ok prog 3 := Ctr.of_den l3 hmix (hl := hints) (d := 4) func3 rfl (by decide) (e3 lpK jnK grid_Spare law19_awake law19_few law19_given ref19_Spare)

/-- loftblock grid.Under -/
noncomputable def grid_Under_b (lp : Lp) (_ : Jn) (grid_within : (Int) → Option (Bool)) (grid_Valid : (List (ByteArray × Int × Int × Int)) → Option (Bool)) (x0 : List (ByteArray × Int × Int × Int)) (x1 : Int) : Option ((List ByteArray) × Int × Unit) :=
  
  let v4 : List (Int × Unit) := overL x0 x1; obind (grid_Valid x0) fun (t : Bool) => bif !t then some ([], (1 : Int), PUnit.unit) else obind (grid_within x1) fun (t : Bool) => bif !t then
    some ([], (2 : Int), PUnit.unit) else bif overP x0 then lp (Nat × List ByteArray × PUnit) (List ByteArray × Int × PUnit) (fun (again : Nat × List ByteArray × PUnit → Option (List
    ByteArray × Int × PUnit)) (p : Nat × List ByteArray × PUnit) => bif Nat.ble (Nat.succ p.fst) (List.length v4) then bif inB (List.getD v4 p.fst ((0 : Int), PUnit.unit)).fst (List.length
    x0) then bif fitB (List.length p.snd.fst + (1 : Nat)) (16 : Nat) then again (Nat.succ p.fst, p.snd.fst ++ [(List.getD x0 (Int.toNat (List.getD v4 p.fst ((0 : Int), PUnit.unit)).fst) ({
    data := { toList := [] } }, (0 : Int), (0 : Int), (0 : Int))).fst], PUnit.unit) else none else none else some (p.snd.fst, (0 : Int), PUnit.unit)) ((0 : Nat), [], PUnit.unit) else none
noncomputable def grid_Under (x0 : List (ByteArray × Int × Int × Int)) (x1 : Int) : Option ((List ByteArray) × Int × Unit) := grid_Under_b lpK jnK grid_within grid_Valid x0 x1
noncomputable def c14 : Ctr := ⟨[(.sl T40), i64], [], [], .tup [(.sl .str), i64], fun x _ _ => grid_Under x.1 x.2.1⟩
theorem e14 (lp : Lp) (jn : Jn) (grid_within : (Int) → Option (Bool)) (grid_Valid : (List (ByteArray × Int × Int × Int)) → Option (Bool)) : ∀ (x : TsS c14.as) (F : TsF c14.fs) (y : TsS c14.cs), grid_Under_b lp jn grid_within grid_Valid x.1 x.2.1 = runC lp jn (ctxOf prog shs inls its [(15, ⟨[(.sl T40)], [], [], .one .bool, fun x _ _ => grid_Valid x.1⟩), (46, ⟨[i64], [], [], .one .bool, fun x _ _ => grid_within x.1⟩)] [(37, r37), (29, r29), (88, r88)]) hints 4 14 f14 c14 x F y := fun x F y => by kernel_rfl
theorem l14 : (ctxOf prog shs inls its [(15, c15), (46, c46)] [(37, r37), (29, r29), (88, r88)]).ok := ctxOf_cons (ctxOf_cons (q37) (by kernel_rfl) ok46) (by kernel_rfl) ok15
theorem ok14 : c14.ok prog 14 := Ctr.of_den l14 hmix (hl := hints) (d := 4) func14 rfl (by decide) (e14 lpK jnK grid_within grid_Valid)

/-- slices.Equal[[]string,string] -/
noncomputable def slices_Equal_18_b (lp : Lp) (_ : Jn) (x0 : List ByteArray) (x1 : List ByteArray) : Option Bool :=
  bif !decide ((↑(List.length x0) : Int) = (↑(List.length x1) : Int)) then some false else lp (Int × PUnit) Bool (fun (again : Int × PUnit → Option Bool) (x : Int × PUnit) => bif decide
    (x.fst < (↑(List.length x0) : Int)) then bif inB x.fst (List.length x0) then bif inB x.fst (List.length x1) then bif !List.beq (ByteArray.toList (List.getD x0 (Int.toNat x.fst) { data
    := { toList := [] } })) (ByteArray.toList (List.getD x1 (Int.toNat x.fst) { data := { toList := [] } })) then some false else again (IntKind.wrap IntKind.i64 (x.fst + (1 : Int)),
    PUnit.unit) else none else none else some true) ((0 : Int), PUnit.unit)
noncomputable def slices_Equal_18 (x0 : List ByteArray) (x1 : List ByteArray) : Option Bool := slices_Equal_18_b lpK jnK x0 x1
noncomputable def c18 : Ctr := ⟨[(.sl .str), (.sl .str)], [], [], .one .bool, fun x _ _ => slices_Equal_18 x.1 x.2.1⟩
theorem e18 (lp : Lp) (jn : Jn) : ∀ (x : TsS c18.as) (F : TsF c18.fs) (y : TsS c18.cs), slices_Equal_18_b lp jn x.1 x.2.1 = runC lp jn (ctxOf prog shs inls its [] [(37, r37), (29, r29), (88, r88)]) hints 4 18 f18 c18 x F y := fun x F y => by kernel_rfl
theorem l18 : (ctxOf prog shs inls its [] [(37, r37), (29, r29), (88, r88)]).ok := q37
theorem ok18 : c18.ok prog 18 := Ctr.of_den l18 hmix (hl := hints) (d := 4) func18 rfl (by decide) (e18 lpK jnK)

/-- loftblock loftblocklaw19.GridForms -/
noncomputable def law19_GridForms_b (lp : Lp) (_ : Jn) (grid_Valid : (List (ByteArray × Int × Int × Int)) → Option (Bool)) (law19_awake : Option (Bool)) (law19_few : (List (ByteArray × Int × Int × Int)) → (List (List (Int × Int))) → Option (Bool)) (ref19_Valid : (List (ByteArray × Int × Int × Int)) → Option (Bool)) (law19_given : (List (ByteArray × Int × Int × Int)) → (List (Int × Int)) → (Int) → Option (Int)) (ref19_Is : (ByteArray × Int × Int × Int) → (Int) → Option (Bool)) (grid_Under : (List (ByteArray × Int × Int × Int)) → (Int) → Option ((List ByteArray) × Int × Unit)) (slices_Equal_18 : (List ByteArray) → (List ByteArray) → Option (Bool)) (x0 : List (ByteArray × Int × Int × Int)) (x1 : Int) : Option Bool :=
  obind law19_awake fun (t : Bool) => bif !t then some false else obind (law19_few x0 []) fun (t : Bool) => bif !t then some true else obind (grid_Under x0 x1) fun (t : List ByteArray × Int ×
    PUnit) =>
  let v7 : Bool := decide ((↑(List.length t.fst) : Int) = (0 : Int));
  let v8 : Bool := !v7 || v7; obind (grid_Valid x0) fun (t_1 : Bool) => obind (ref19_Valid x0) fun (t_2 : Bool) => bif !decide (t_1 = t_2) then some false else obind (law19_given x0 [] x1)
    fun (t_3 : Int) => bif !decide (t_3 = (0 : Int)) then bif v8 && v8 then bif v8 then some (bif v7 then decide (t.snd.fst = t_3) else false) else none else none else lp (List ByteArray ×
    Int × PUnit) Bool (fun (again : List ByteArray × Int × PUnit → Option Bool) (x : List ByteArray × Int × PUnit) =>
  let v14 : Int × PUnit := (IntKind.wrap IntKind.i64 (x.snd.fst + (1 : Int)), PUnit.unit);
  let v15 : ByteArray × Int × Int × Int := List.getD x0 (Int.toNat x.snd.fst) ({ data := { toList := [] } }, (0 : Int), (0 : Int), (0 : Int)); bif decide (x.snd.fst < (↑(List.length x0) :
    Int)) then bif inB x.snd.fst (List.length x0) then obind (ref19_Is v15 x1) fun (t : Bool) => bif t then bif fitB (List.length x.fst + (1 : Nat)) (16 : Nat) then again (x.fst ++
    [v15.fst], v14) else none else again (x.fst, v14) else none else obind (slices_Equal_18 t.fst x.fst) fun (t_4 : Bool) =>
  let v17 : Bool := !t_4 || t_4; bif v17 then bif v17 then some (bif t_4 then decide (t.snd.fst = (0 : Int)) else false) else none else none) ([], (0 : Int), PUnit.unit)
noncomputable def law19_GridForms (x0 : List (ByteArray × Int × Int × Int)) (x1 : Int) : Option Bool := law19_GridForms_b lpK jnK grid_Valid law19_awake law19_few ref19_Valid law19_given ref19_Is grid_Under slices_Equal_18 x0 x1
noncomputable def c4 : Ctr := ⟨[(.sl T40), i64], [], [], .one .bool, fun x _ _ => law19_GridForms x.1 x.2.1⟩
theorem e4 (lp : Lp) (jn : Jn) (grid_Valid : (List (ByteArray × Int × Int × Int)) → Option (Bool)) (law19_awake : Option (Bool)) (law19_few : (List (ByteArray × Int × Int × Int)) → (List (List (Int × Int))) → Option (Bool)) (ref19_Valid : (List (ByteArray × Int × Int × Int)) → Option (Bool)) (law19_given : (List (ByteArray × Int × Int × Int)) → (List (Int × Int)) → (Int) → Option (Int)) (ref19_Is : (ByteArray × Int × Int × Int) → (Int) → Option (Bool)) (grid_Under : (List (ByteArray × Int × Int × Int)) → (Int) → Option ((List ByteArray) × Int × Unit)) (slices_Equal_18 : (List ByteArray) → (List ByteArray) → Option (Bool)) : ∀ (x : TsS c4.as) (F : TsF c4.fs) (y : TsS c4.cs), law19_GridForms_b lp jn grid_Valid law19_awake law19_few ref19_Valid law19_given ref19_Is grid_Under slices_Equal_18 x.1 x.2.1 = runC lp jn (ctxOf prog shs inls its [(18, ⟨[(.sl .str), (.sl .str)], [], [], .one .bool, fun x _ _ => slices_Equal_18 x.1 x.2.1⟩), (14, ⟨[(.sl T40), i64], [], [], .tup [(.sl .str), i64], fun x _ _ => grid_Under x.1 x.2.1⟩), (17, ⟨[T40, i64], [], [], .one .bool, fun x _ _ => ref19_Is x.1 x.2.1⟩), (12, ⟨[(.sl T40), (.sl T60), i64], [], [], .one i64, fun x _ _ => law19_given x.1 x.2.1 x.2.2.1⟩), (16, ⟨[(.sl T40)], [], [], .one .bool, fun x _ _ => ref19_Valid x.1⟩), (10, ⟨[(.sl T40), (.sl (.sl T60))], [], [], .one .bool, fun x _ _ => law19_few x.1 x.2.1⟩), (9, ⟨[], [], [], .one .bool, fun _ _ _ => law19_awake⟩), (15, ⟨[(.sl T40)], [], [], .one .bool, fun x _ _ => grid_Valid x.1⟩)] [(37, r37), (29, r29), (88, r88)]) hints 4 4 f4 c4 x F y := fun x F y => by kernel_rfl
theorem l4 : (ctxOf prog shs inls its [(18, c18), (14, c14), (17, c17), (12, c12), (16, c16), (10, c10), (9, c9), (15, c15)] [(37, r37), (29, r29), (88, r88)]).ok := ctxOf_cons (ctxOf_cons (ctxOf_cons (ctxOf_cons (ctxOf_cons (ctxOf_cons (ctxOf_cons (ctxOf_cons (q37) (by kernel_rfl) ok15) (by kernel_rfl) ok9) (by kernel_rfl) ok10) (by kernel_rfl) ok16) (by kernel_rfl) ok12) (by kernel_rfl) ok17) (by kernel_rfl) ok14) (by kernel_rfl) ok18
theorem ok4 : c4.ok prog 4 := Ctr.of_den l4 hmix (hl := hints) (d := 4) func4 rfl (by decide) (e4 lpK jnK grid_Valid law19_awake law19_few ref19_Valid law19_given ref19_Is grid_Under slices_Equal_18)

/-- loftblock grid.Over -/
noncomputable def grid_Over_b (lp : Lp) (_ : Jn) (grid_of : (Int) → Option (Int × Int)) (ratio_Cmp : (Int × Int) → (Int × Int) → Option (Int × Int × Unit)) (grid_Loads : (List (ByteArray × Int × Int × Int)) → (List (Int × Int)) → Option ((List (Int × Int)) × Int × Unit)) (x0 : List (ByteArray × Int × Int × Int)) (x1 : List (Int × Int)) : Option ((List (Int × ByteArray)) × Int × Unit) :=
  obind (grid_Loads x0 x1) fun (t : List (Int × Int) × Int × PUnit) => bif !decide (t.snd.fst = (0 : Int)) then some ([], t.snd.fst, PUnit.unit) else lp (List (Int × ByteArray) × Int × PUnit)
    (List (Int × ByteArray) × Int × PUnit) (fun (again : List (Int × ByteArray) × Int × PUnit → Option (List (Int × ByteArray) × Int × PUnit)) (x : List (Int × ByteArray) × Int × PUnit) =>
  let v7 : Bool := inB x.snd.fst (List.length x0);
  let v8 : Int × PUnit := (IntKind.wrap IntKind.i64 (x.snd.fst + (1 : Int)), PUnit.unit);
  let v9 : ByteArray × Int × Int × Int := List.getD x0 (Int.toNat x.snd.fst) ({ data := { toList := [] } }, (0 : Int), (0 : Int), (0 : Int)); bif decide (x.snd.fst < (↑(List.length t.fst) :
    Int)) then bif inB x.snd.fst (List.length t.fst) then bif v7 then obind (grid_of v9.snd.snd.snd) fun (t_1 : Int × Int) => obind (ratio_Cmp (List.getD t.fst (Int.toNat x.snd.fst) ((0 :
    Int), (0 : Int))) t_1) fun (t : Int × Int × PUnit) => bif decide (t.fst > (0 : Int)) then bif v7 then bif fitB (List.length x.fst + (1 : Nat)) (24 : Nat) then again (x.fst ++ [((1 :
    Int), v9.fst)], v8) else none else none else again (x.fst, v8) else none else none else some (x.fst, (0 : Int), PUnit.unit)) ([], (0 : Int), PUnit.unit)
noncomputable def grid_Over (x0 : List (ByteArray × Int × Int × Int)) (x1 : List (Int × Int)) : Option ((List (Int × ByteArray)) × Int × Unit) := grid_Over_b lpK jnK grid_of ratio_Cmp grid_Loads x0 x1
noncomputable def c20 : Ctr := ⟨[(.sl T40), (.sl T60)], [], [], .tup [(.sl T56), i64], fun x _ _ => grid_Over x.1 x.2.1⟩
theorem e20 (lp : Lp) (jn : Jn) (grid_of : (Int) → Option (Int × Int)) (ratio_Cmp : (Int × Int) → (Int × Int) → Option (Int × Int × Unit)) (grid_Loads : (List (ByteArray × Int × Int × Int)) → (List (Int × Int)) → Option ((List (Int × Int)) × Int × Unit)) : ∀ (x : TsS c20.as) (F : TsF c20.fs) (y : TsS c20.cs), grid_Over_b lp jn grid_of ratio_Cmp grid_Loads x.1 x.2.1 = runC lp jn (ctxOf prog shs inls its [(19, ⟨[(.sl T40), (.sl T60)], [], [], .tup [(.sl T27), i64], fun x _ _ => grid_Loads x.1 x.2.1⟩), (53, ⟨[T27, T27], [], [], .tup [i64, i64], fun x _ _ => ratio_Cmp x.1 x.2.1⟩), (51, ⟨[i64], [], [], .one T27, fun x _ _ => grid_of x.1⟩)] [(37, r37), (29, r29), (88, r88)]) hints 4 20 f20 c20 x F y := fun x F y => by kernel_rfl
theorem l20 : (ctxOf prog shs inls its [(19, c19), (53, c53), (51, c51)] [(37, r37), (29, r29), (88, r88)]).ok := ctxOf_cons (ctxOf_cons (ctxOf_cons (q37) (by kernel_rfl) ok51) (by kernel_rfl) ok53) (by kernel_rfl) ok19
theorem ok20 : c20.ok prog 20 := Ctr.of_den l20 hmix (hl := hints) (d := 4) func20 rfl (by decide) (e20 lpK jnK grid_of ratio_Cmp grid_Loads)

/-- slices.Equal[[]loftblock api.Finding,loftblock api.Finding] -/
noncomputable def slices_Equal_25_b (lp : Lp) (_ : Jn) (x0 : List (Int × ByteArray)) (x1 : List (Int × ByteArray)) : Option Bool :=
  bif !decide ((↑(List.length x0) : Int) = (↑(List.length x1) : Int)) then some false else lp (Int × PUnit) Bool (fun (again : Int × PUnit → Option Bool) (x : Int × PUnit) => bif decide
    (x.fst < (↑(List.length x0) : Int)) then bif inB x.fst (List.length x0) then bif inB x.fst (List.length x1) then bif !(decide ((List.getD x0 (Int.toNat x.fst) ((0 : Int), { data := {
    toList := [] } })).fst = (List.getD x1 (Int.toNat x.fst) ((0 : Int), { data := { toList := [] } })).fst) && ((Array.isEqv (List.getD x0 (Int.toNat x.fst) ((0 : Int), { data := { toList
    := [] } })).snd.data (List.getD x1 (Int.toNat x.fst) ((0 : Int), { data := { toList := [] } })).snd.data fun (a b : UInt8) => decide (a = b)) && true)) then some false else again
    (IntKind.wrap IntKind.i64 (x.fst + (1 : Int)), PUnit.unit) else none else none else some true) ((0 : Int), PUnit.unit)
noncomputable def slices_Equal_25 (x0 : List (Int × ByteArray)) (x1 : List (Int × ByteArray)) : Option Bool := slices_Equal_25_b lpK jnK x0 x1
noncomputable def c25 : Ctr := ⟨[(.sl T56), (.sl T56)], [], [], .one .bool, fun x _ _ => slices_Equal_25 x.1 x.2.1⟩
theorem e25 (lp : Lp) (jn : Jn) : ∀ (x : TsS c25.as) (F : TsF c25.fs) (y : TsS c25.cs), slices_Equal_25_b lp jn x.1 x.2.1 = runC lp jn (ctxOf prog shs inls its [] [(37, r37), (29, r29), (88, r88)]) hints 4 25 f25 c25 x F y := fun x F y => by kernel_rfl
theorem l25 : (ctxOf prog shs inls its [] [(37, r37), (29, r29), (88, r88)]).ok := q37
theorem ok25 : c25.ok prog 25 := Ctr.of_den l25 hmix (hl := hints) (d := 4) func25 rfl (by decide) (e25 lpK jnK)

/-- loftblock loftblocklaw19.GridLoads -/
noncomputable def law19_GridLoads_b (lp : Lp) (_ : Jn) (grid_Loads : (List (ByteArray × Int × Int × Int)) → (List (Int × Int)) → Option ((List (Int × Int)) × Int × Unit)) (slices_Equal_22 : (List (Int × Int)) → (List (Int × Int)) → Option (Bool)) (law19_whole : (Int) → Option (Int × Int)) (law19_awake : Option (Bool)) (law19_few : (List (ByteArray × Int × Int × Int)) → (List (List (Int × Int))) → Option (Bool)) (law19_given : (List (ByteArray × Int × Int × Int)) → (List (Int × Int)) → (Int) → Option (Int)) (ref19_Loads : (List (ByteArray × Int × Int × Int)) → (List (Int × Int)) → Option ((List (Int × Int)) × Int × Unit)) (ref02_Cmp : (Int × Int) → (Int × Int) → Option (Int)) (grid_Over : (List (ByteArray × Int × Int × Int)) → (List (Int × Int)) → Option ((List (Int × ByteArray)) × Int × Unit)) (slices_Equal_25 : (List (Int × ByteArray)) → (List (Int × ByteArray)) → Option (Bool)) (x0 : List (ByteArray × Int × Int × Int)) (x1 : List (Int × Int)) : Option Bool :=
  obind law19_awake fun (t : Bool) => bif !t then some false else obind (law19_few x0 [x1]) fun (t : Bool) => bif !t then some true else obind (grid_Loads x0 x1) fun (t : List (Int × Int) ×
    Int × PUnit) =>
  let v7 : Bool := decide ((↑(List.length t.fst) : Int) = (0 : Int));
  let v8 : Bool := !v7 || v7; obind (grid_Over x0 x1) fun (t_1 : List (Int × ByteArray) × Int × PUnit) => obind (law19_given x0 x1 (0 : Int)) fun (t_2 : Int) =>
  let v11 : Bool := bif v7 then decide (t.snd.fst = t_2) else false;
  let v12 : Bool := !v11 || v11;
  let v13 : Bool := bif v11 then decide ((↑(List.length t_1.fst) : Int) = (0 : Int)) else false;
  let v14 : Bool := !v13 || v13; bif !decide (t_2 = (0 : Int)) then bif v8 && v8 then bif v8 then bif v12 then bif v12 then bif v12 then bif v14 && v14 then bif v14 then some (bif v13 then
    decide (t_1.snd.fst = t_2) else false) else none else none else none else none else none else none else none else obind (ref19_Loads x0 x1) fun (t_3 : List (Int × Int) × Int × PUnit) =>
    obind (slices_Equal_22 t.fst t_3.fst) fun (t_4 : Bool) =>
  let v17 : Bool := !t_4;
  let v18 : Bool := !v17;
  let v19 : Bool := !v18 || v18;
  let v20 : Bool := bif v17 then true else !decide (t.snd.fst = t_3.snd.fst);
  let v21 : Bool := !v20;
  let v22 : Bool := !v21 || v21; bif v19 && v19 then bif v17 || v18 then bif v22 && v22 then bif v20 || v21 then bif bif v20 then true else !decide (t_1.snd.fst = t_3.snd.fst) then some
    false else lp (List (Int × ByteArray) × Int × PUnit) Bool (fun (again : List (Int × ByteArray) × Int × PUnit → Option Bool) (x : List (Int × ByteArray) × Int × PUnit) =>
  let v25 : Bool := inB x.snd.fst (List.length x0);
  let v26 : Int × PUnit := (IntKind.wrap IntKind.i64 (x.snd.fst + (1 : Int)), PUnit.unit);
  let v27 : ByteArray × Int × Int × Int := List.getD x0 (Int.toNat x.snd.fst) ({ data := { toList := [] } }, (0 : Int), (0 : Int), (0 : Int)); bif decide (x.snd.fst < (↑(List.length
    t_3.fst) : Int)) then bif inB x.snd.fst (List.length t_3.fst) then bif v25 then obind (law19_whole v27.snd.snd.snd) fun (t : Int × Int) => obind (ref02_Cmp (List.getD t_3.fst (Int.toNat
    x.snd.fst) ((0 : Int), (0 : Int))) t) fun (t : Int) => bif decide (t > (0 : Int)) then bif v25 then bif fitB (List.length x.fst + (1 : Nat)) (24 : Nat) then again (x.fst ++ [((1 : Int),
    v27.fst)], v26) else none else none else again (x.fst, v26) else none else none else obind (slices_Equal_25 t_1.fst x.fst) fun (t : Bool) => some t) ([], (0 : Int), PUnit.unit) else
    none else none else none else none
noncomputable def law19_GridLoads (x0 : List (ByteArray × Int × Int × Int)) (x1 : List (Int × Int)) : Option Bool := law19_GridLoads_b lpK jnK grid_Loads slices_Equal_22 law19_whole law19_awake law19_few law19_given ref19_Loads ref02_Cmp grid_Over slices_Equal_25 x0 x1
noncomputable def c5 : Ctr := ⟨[(.sl T40), (.sl T60)], [], [], .one .bool, fun x _ _ => law19_GridLoads x.1 x.2.1⟩
theorem e5 (lp : Lp) (jn : Jn) (grid_Loads : (List (ByteArray × Int × Int × Int)) → (List (Int × Int)) → Option ((List (Int × Int)) × Int × Unit)) (slices_Equal_22 : (List (Int × Int)) → (List (Int × Int)) → Option (Bool)) (law19_whole : (Int) → Option (Int × Int)) (law19_awake : Option (Bool)) (law19_few : (List (ByteArray × Int × Int × Int)) → (List (List (Int × Int))) → Option (Bool)) (law19_given : (List (ByteArray × Int × Int × Int)) → (List (Int × Int)) → (Int) → Option (Int)) (ref19_Loads : (List (ByteArray × Int × Int × Int)) → (List (Int × Int)) → Option ((List (Int × Int)) × Int × Unit)) (ref02_Cmp : (Int × Int) → (Int × Int) → Option (Int)) (grid_Over : (List (ByteArray × Int × Int × Int)) → (List (Int × Int)) → Option ((List (Int × ByteArray)) × Int × Unit)) (slices_Equal_25 : (List (Int × ByteArray)) → (List (Int × ByteArray)) → Option (Bool)) : ∀ (x : TsS c5.as) (F : TsF c5.fs) (y : TsS c5.cs), law19_GridLoads_b lp jn grid_Loads slices_Equal_22 law19_whole law19_awake law19_few law19_given ref19_Loads ref02_Cmp grid_Over slices_Equal_25 x.1 x.2.1 = runC lp jn (ctxOf prog shs inls its [(25, ⟨[(.sl T56), (.sl T56)], [], [], .one .bool, fun x _ _ => slices_Equal_25 x.1 x.2.1⟩), (20, ⟨[(.sl T40), (.sl T60)], [], [], .tup [(.sl T56), i64], fun x _ _ => grid_Over x.1 x.2.1⟩), (23, ⟨[T27, T27], [], [], .one i64, fun x _ _ => ref02_Cmp x.1 x.2.1⟩), (21, ⟨[(.sl T40), (.sl T60)], [], [], .tup [(.sl T27), i64], fun x _ _ => ref19_Loads x.1 x.2.1⟩), (12, ⟨[(.sl T40), (.sl T60), i64], [], [], .one i64, fun x _ _ => law19_given x.1 x.2.1 x.2.2.1⟩), (10, ⟨[(.sl T40), (.sl (.sl T60))], [], [], .one .bool, fun x _ _ => law19_few x.1 x.2.1⟩), (9, ⟨[], [], [], .one .bool, fun _ _ _ => law19_awake⟩), (24, ⟨[i64], [], [], .one T27, fun x _ _ => law19_whole x.1⟩), (22, ⟨[(.sl T27), (.sl T27)], [], [], .one .bool, fun x _ _ => slices_Equal_22 x.1 x.2.1⟩), (19, ⟨[(.sl T40), (.sl T60)], [], [], .tup [(.sl T27), i64], fun x _ _ => grid_Loads x.1 x.2.1⟩)] [(37, r37), (29, r29), (88, r88)]) hints 4 5 f5 c5 x F y := fun x F y => by kernel_rfl
theorem l5 : (ctxOf prog shs inls its [(25, c25), (20, c20), (23, c23), (21, c21), (12, c12), (10, c10), (9, c9), (24, c24), (22, c22), (19, c19)] [(37, r37), (29, r29), (88, r88)]).ok := ctxOf_cons (ctxOf_cons (ctxOf_cons (ctxOf_cons (ctxOf_cons (ctxOf_cons (ctxOf_cons (ctxOf_cons (ctxOf_cons (ctxOf_cons (q37) (by kernel_rfl) ok19) (by kernel_rfl) ok22) (by kernel_rfl) ok24) (by kernel_rfl) ok9) (by kernel_rfl) ok10) (by kernel_rfl) ok12) (by kernel_rfl) ok21) (by kernel_rfl) ok23) (by kernel_rfl) ok20) (by kernel_rfl) ok25
theorem ok5 : c5.ok prog 5 := Ctr.of_den l5 hmix (hl := hints) (d := 4) func5 rfl (by decide) (e5 lpK jnK grid_Loads slices_Equal_22 law19_whole law19_awake law19_few law19_given ref19_Loads ref02_Cmp grid_Over slices_Equal_25)

/-- slices.IndexFunc[[]loftblock api.Frac,loftblock api.Frac] -/
noncomputable def slices_IndexFunc_71_b (lp : Lp) (_ : Jn) (x0 : List (Int × Int)) (f0 : (((Int × Int) × Unit) → Option Bool)) : Option Int :=
  lp (Int × PUnit) Int (fun (again : Int × PUnit → Option Int) (x : Int × PUnit) => bif decide (x.fst < (↑(List.length x0) : Int)) then bif inB x.fst (List.length x0) then obind (f0
    (List.getD x0 (Int.toNat x.fst) ((0 : Int), (0 : Int)), PUnit.unit)) fun (t : Bool) => bif t then some x.fst else again (IntKind.wrap IntKind.i64 (x.fst + (1 : Int)), PUnit.unit) else
    none else some (-1 : Int)) ((0 : Int), PUnit.unit)
noncomputable def slices_IndexFunc_71 (x0 : List (Int × Int)) (f0 : (((Int × Int) × Unit) → Option Bool)) : Option Int := slices_IndexFunc_71_b lpK jnK x0 f0
noncomputable def c71 : Ctr := ⟨[(.sl T27)], [([T27], .bool)], [], .one i64, fun x F _ => slices_IndexFunc_71 x.1 F.1⟩
theorem e71 (lp : Lp) (jn : Jn) : ∀ (x : TsS c71.as) (F : TsF c71.fs) (y : TsS c71.cs), slices_IndexFunc_71_b lp jn x.1 F.1 = runC lp jn (ctxOf prog shs inls its [] [(37, r37), (29, r29), (88, r88)]) hints 4 71 f71 c71 x F y := fun x F y => by kernel_rfl
theorem l71 : (ctxOf prog shs inls its [] [(37, r37), (29, r29), (88, r88)]).ok := q37
theorem ok71 : c71.ok prog 71 := Ctr.of_den l71 hmix (hl := hints) (d := 4) func71 rfl (by decide) (e71 lpK jnK)

/-- slices.ContainsFunc[[]loftblock api.Frac,loftblock api.Frac] -/
noncomputable def slices_ContainsFunc_27_b (_ : Lp) (_ : Jn) (slices_IndexFunc_71 : (List (Int × Int)) → ((((Int × Int) × Unit) → Option Bool)) → Option (Int)) (x0 : List (Int × Int)) (f0 : (((Int × Int) × Unit) → Option Bool)) : Option Bool :=
  obind (slices_IndexFunc_71 x0 f0) fun (t : Int) => some (decide (t ≥ (0 : Int)))
noncomputable def slices_ContainsFunc_27 (x0 : List (Int × Int)) (f0 : (((Int × Int) × Unit) → Option Bool)) : Option Bool := slices_ContainsFunc_27_b lpK jnK slices_IndexFunc_71 x0 f0
noncomputable def c27 : Ctr := ⟨[(.sl T27)], [([T27], .bool)], [], .one .bool, fun x F _ => slices_ContainsFunc_27 x.1 F.1⟩
theorem e27 (lp : Lp) (jn : Jn) (slices_IndexFunc_71 : (List (Int × Int)) → ((((Int × Int) × Unit) → Option Bool)) → Option (Int)) : ∀ (x : TsS c27.as) (F : TsF c27.fs) (y : TsS c27.cs), slices_ContainsFunc_27_b lp jn slices_IndexFunc_71 x.1 F.1 = runC lp jn (ctxOf prog shs inls its [(71, ⟨[(.sl T27)], [([T27], .bool)], [], .one i64, fun x F _ => slices_IndexFunc_71 x.1 F.1⟩)] [(37, r37), (29, r29), (88, r88)]) hints 4 27 f27 c27 x F y := fun x F y => by kernel_rfl
theorem l27 : (ctxOf prog shs inls its [(71, c71)] [(37, r37), (29, r29), (88, r88)]).ok := ctxOf_cons (q37) (by kernel_rfl) ok71
theorem ok27 : c27.ok prog 27 := Ctr.of_den l27 hmix (hl := hints) (d := 4) func27 rfl (by decide) (e27 lpK jnK slices_IndexFunc_71)

/-- loftblock ratio.Sum$1 -/
noncomputable def ratio_Sum_1_b (_ : Lp) (_ : Jn) (ratio_Valid : (Int × Int) → Option (Bool)) (x0 : Int × Int) : Option Bool :=
  obind (ratio_Valid x0) fun (t : Bool) => some !t
noncomputable def ratio_Sum_1 (x0 : Int × Int) : Option Bool := ratio_Sum_1_b lpK jnK ratio_Valid x0
noncomputable def c69 : Ctr := ⟨[T27], [], [], .one .bool, fun x _ _ => ratio_Sum_1 x.1⟩
theorem e69 (lp : Lp) (jn : Jn) (ratio_Valid : (Int × Int) → Option (Bool)) : ∀ (x : TsS c69.as) (F : TsF c69.fs) (y : TsS c69.cs), ratio_Sum_1_b lp jn ratio_Valid x.1 = runC lp jn (ctxOf prog shs inls its [(70, ⟨[T27], [], [], .one .bool, fun x _ _ => ratio_Valid x.1⟩)] [(37, r37), (29, r29), (88, r88)]) hints 4 69 f69 c69 x F y := fun x F y => by kernel_rfl
theorem l69 : (ctxOf prog shs inls its [(70, c70)] [(37, r37), (29, r29), (88, r88)]).ok := ctxOf_cons (q37) (by kernel_rfl) ok70
theorem ok69 : c69.ok prog 69 := Ctr.of_den l69 hmix (hl := hints) (d := 4) func69 rfl (by decide) (e69 lpK jnK ratio_Valid)

/-- loftblock ratio.Sum -/
noncomputable def ratio_Sum_b (lp : Lp) (_ : Jn) (ratio_Add : (Int × Int) → (Int × Int) → Option ((Int × Int) × Int × Unit)) (slices_ContainsFunc_27 : (List (Int × Int)) → ((((Int × Int) × Unit) → Option Bool)) → Option (Bool)) (ratio_Sum_1 : (Int × Int) → Option (Bool)) (x0 : List (Int × Int)) : Option ((Int × Int) × Int × Unit) :=
  obind (slices_ContainsFunc_27 x0 fun (x : (Int × Int) × PUnit) => ratio_Sum_1 x.fst) fun (t : Bool) => bif t then some (((0 : Int), (0 : Int)), (1 : Int), PUnit.unit) else bif decide
    ((↑(List.length x0) : Int) > (1000 : Int)) then some (((0 : Int), (0 : Int)), (4 : Int), PUnit.unit) else lp (Int × (Int × Int) × (Int × Int) × PUnit) ((Int × Int) × Int × PUnit) (fun
    (again : Int × (Int × Int) × (Int × Int) × PUnit → Option ((Int × Int) × Int × PUnit)) (x : Int × (Int × Int) × (Int × Int) × PUnit) => bif decide (x.fst < (↑(List.length x0) : Int))
    then bif inB x.fst (List.length x0) then obind (ratio_Add x.snd.snd.fst (List.getD x0 (Int.toNat x.fst) ((0 : Int), (0 : Int)))) fun (t : (Int × Int) × Int × PUnit) => bif !decide
    (t.snd.fst = (0 : Int)) then some (((0 : Int), (0 : Int)), t.snd.fst, PUnit.unit) else again (IntKind.wrap IntKind.i64 (x.fst + (1 : Int)), x.snd.fst, t.fst, PUnit.unit) else none else
    some (x.snd.snd.fst, (0 : Int), PUnit.unit)) ((0 : Int), ((0 : Int), (0 : Int)), ((0 : Int), (1 : Int)), PUnit.unit)
noncomputable def ratio_Sum (x0 : List (Int × Int)) : Option ((Int × Int) × Int × Unit) := ratio_Sum_b lpK jnK ratio_Add slices_ContainsFunc_27 ratio_Sum_1 x0
noncomputable def c26 : Ctr := ⟨[(.sl T27)], [], [], .tup [T27, i64], fun x _ _ => ratio_Sum x.1⟩
theorem e26 (lp : Lp) (jn : Jn) (ratio_Add : (Int × Int) → (Int × Int) → Option ((Int × Int) × Int × Unit)) (slices_ContainsFunc_27 : (List (Int × Int)) → ((((Int × Int) × Unit) → Option Bool)) → Option (Bool)) (ratio_Sum_1 : (Int × Int) → Option (Bool)) : ∀ (x : TsS c26.as) (F : TsF c26.fs) (y : TsS c26.cs), ratio_Sum_b lp jn ratio_Add slices_ContainsFunc_27 ratio_Sum_1 x.1 = runC lp jn (ctxOf prog shs inls its [(69, ⟨[T27], [], [], .one .bool, fun x _ _ => ratio_Sum_1 x.1⟩), (27, ⟨[(.sl T27)], [([T27], .bool)], [], .one .bool, fun x F _ => slices_ContainsFunc_27 x.1 F.1⟩), (30, ⟨[T27, T27], [], [], .tup [T27, i64], fun x _ _ => ratio_Add x.1 x.2.1⟩)] [(37, r37), (29, r29), (88, r88)]) hints 4 26 f26 c26 x F y := fun x F y => by kernel_rfl
theorem l26 : (ctxOf prog shs inls its [(69, c69), (27, c27), (30, c30)] [(37, r37), (29, r29), (88, r88)]).ok := ctxOf_cons (ctxOf_cons (ctxOf_cons (q37) (by kernel_rfl) ok30) (by kernel_rfl) ok27) (by kernel_rfl) ok69
theorem ok26 : c26.ok prog 26 := Ctr.of_den l26 hmix (hl := hints) (d := 4) func26 rfl (by decide) (e26 lpK jnK ratio_Add slices_ContainsFunc_27 ratio_Sum_1)

/-- loftblock loftblocklaw19.GridSums$1 -/
noncomputable def law19_GridSums_1_b (_ : Lp) (_ : Jn) (x0 : Int × Int) : Option Bool :=
  some (decide (x0.fst < (0 : Int)))
noncomputable def law19_GridSums_1 (x0 : Int × Int) : Option Bool := law19_GridSums_1_b lpK jnK x0
noncomputable def c28 : Ctr := ⟨[T27], [], [], .one .bool, fun x _ _ => law19_GridSums_1 x.1⟩
theorem e28 (lp : Lp) (jn : Jn) : ∀ (x : TsS c28.as) (F : TsF c28.fs) (y : TsS c28.cs), law19_GridSums_1_b lp jn x.1 = runC lp jn (ctxOf prog shs inls its [] [(37, r37), (29, r29), (88, r88)]) hints 4 28 f28 c28 x F y := fun x F y => by kernel_rfl
theorem l28 : (ctxOf prog shs inls its [] [(37, r37), (29, r29), (88, r88)]).ok := q37
theorem ok28 : c28.ok prog 28 := Ctr.of_den l28 hmix (hl := hints) (d := 4) func28 rfl (by decide) (e28 lpK jnK)

/-- loftblock loftblocklaw19.GridSums -/
noncomputable def law19_GridSums_b (lp : Lp) (_ : Jn) (grid_Loads : (List (ByteArray × Int × Int × Int)) → (List (Int × Int)) → Option ((List (Int × Int)) × Int × Unit)) (law19_whole : (Int) → Option (Int × Int)) (law19_awake : Option (Bool)) (law19_few : (List (ByteArray × Int × Int × Int)) → (List (List (Int × Int))) → Option (Bool)) (slices_ContainsFunc_27 : (List (Int × Int)) → ((((Int × Int) × Unit) → Option Bool)) → Option (Bool)) (ratio_Sum : (List (Int × Int)) → Option ((Int × Int) × Int × Unit)) (law19_GridSums_1 : (Int × Int) → Option (Bool)) (x0 : List (ByteArray × Int × Int × Int)) (x1 : List (Int × Int)) : Option Bool :=
  obind law19_awake fun (t : Bool) => bif !t then some false else obind (law19_few x0 [x1]) fun (t : Bool) => bif !t then some true else obind (grid_Loads x0 x1) fun (t : List (Int × Int) ×
    Int × PUnit) =>
  let v7 : Bool := decide ((↑(List.length t.fst) : Int) = (↑(List.length x0) : Int));
  let v8 : Bool := !v7 || v7; bif !decide (t.snd.fst = (0 : Int)) then some (decide ((↑(List.length t.fst) : Int) = (0 : Int))) else lp (Int × Int × PUnit) Bool (fun (again : Int × Int ×
    PUnit → Option Bool) (x : Int × Int × PUnit) => bif decide (x.snd.fst < (↑(List.length x1) : Int)) then bif inB x.snd.fst (List.length x1) then again (IntKind.wrap IntKind.i64 (x.fst +
    (List.getD x1 (Int.toNat x.snd.fst) ((0 : Int), (0 : Int))).snd), IntKind.wrap IntKind.i64 (x.snd.fst + (1 : Int)), PUnit.unit) else none else obind (ratio_Sum t.fst) fun (t_1 : (Int ×
    Int) × Int × PUnit) =>
  let v12 : Bool := decide (t_1.snd.fst = (5 : Int));
  let v13 : Bool := decide (t_1.snd.fst = (0 : Int));
  let v14 : Bool := !v12; bif v8 then obind (bif v7 then slices_ContainsFunc_27 t.fst fun (x : (Int × Int) × PUnit) => law19_GridSums_1 x.fst else some false) fun (t : Bool) =>
  let v16 : Bool := bif v7 then !t else false;
  let v17 : Bool := !v16;
  let v18 : Bool := v16 && v14;
  let v19 : Bool := !v18;
  let v20 : Bool := v18 && v13;
  let v21 : Bool := v17 || v16;
  let v22 : Bool := v19 || v18;
  let v23 : Bool := !v20 || v20; bif v8 then bif v8 then bif v21 then bif v21 then bif v22 then bif v22 then bif v23 then obind (bif v20 then law19_whole x.fst else some ((0 : Int), (0 :
    Int))) fun (t : Int × Int) => bif v23 && v23 then bif (v19 || v22) && (v19 || (!v13 || (v19 || v20))) then bif (v17 || v21) && (v17 || (v12 || (v17 || v18))) then bif v21 then some (bif
    v16 then bif v12 then true else bif v13 then decide (t_1.fst.fst = t.fst) && (decide (t_1.fst.snd = t.snd) && true) else false else false) else none else none else none else none else
    none else none else none else none else none else none else none else none) ((0 : Int), (0 : Int), PUnit.unit)
noncomputable def law19_GridSums (x0 : List (ByteArray × Int × Int × Int)) (x1 : List (Int × Int)) : Option Bool := law19_GridSums_b lpK jnK grid_Loads law19_whole law19_awake law19_few slices_ContainsFunc_27 ratio_Sum law19_GridSums_1 x0 x1
noncomputable def c6 : Ctr := ⟨[(.sl T40), (.sl T60)], [], [], .one .bool, fun x _ _ => law19_GridSums x.1 x.2.1⟩
theorem e6 (lp : Lp) (jn : Jn) (grid_Loads : (List (ByteArray × Int × Int × Int)) → (List (Int × Int)) → Option ((List (Int × Int)) × Int × Unit)) (law19_whole : (Int) → Option (Int × Int)) (law19_awake : Option (Bool)) (law19_few : (List (ByteArray × Int × Int × Int)) → (List (List (Int × Int))) → Option (Bool)) (slices_ContainsFunc_27 : (List (Int × Int)) → ((((Int × Int) × Unit) → Option Bool)) → Option (Bool)) (ratio_Sum : (List (Int × Int)) → Option ((Int × Int) × Int × Unit)) (law19_GridSums_1 : (Int × Int) → Option (Bool)) : ∀ (x : TsS c6.as) (F : TsF c6.fs) (y : TsS c6.cs), law19_GridSums_b lp jn grid_Loads law19_whole law19_awake law19_few slices_ContainsFunc_27 ratio_Sum law19_GridSums_1 x.1 x.2.1 = runC lp jn (ctxOf prog shs inls its [(28, ⟨[T27], [], [], .one .bool, fun x _ _ => law19_GridSums_1 x.1⟩), (26, ⟨[(.sl T27)], [], [], .tup [T27, i64], fun x _ _ => ratio_Sum x.1⟩), (27, ⟨[(.sl T27)], [([T27], .bool)], [], .one .bool, fun x F _ => slices_ContainsFunc_27 x.1 F.1⟩), (10, ⟨[(.sl T40), (.sl (.sl T60))], [], [], .one .bool, fun x _ _ => law19_few x.1 x.2.1⟩), (9, ⟨[], [], [], .one .bool, fun _ _ _ => law19_awake⟩), (24, ⟨[i64], [], [], .one T27, fun x _ _ => law19_whole x.1⟩), (19, ⟨[(.sl T40), (.sl T60)], [], [], .tup [(.sl T27), i64], fun x _ _ => grid_Loads x.1 x.2.1⟩)] [(37, r37), (29, r29), (88, r88)]) hints 4 6 f6 c6 x F y := fun x F y => by kernel_rfl
theorem l6 : (ctxOf prog shs inls its [(28, c28), (26, c26), (27, c27), (10, c10), (9, c9), (24, c24), (19, c19)] [(37, r37), (29, r29), (88, r88)]).ok := ctxOf_cons (ctxOf_cons (ctxOf_cons (ctxOf_cons (ctxOf_cons (ctxOf_cons (ctxOf_cons (q37) (by kernel_rfl) ok19) (by kernel_rfl) ok24) (by kernel_rfl) ok9) (by kernel_rfl) ok10) (by kernel_rfl) ok27) (by kernel_rfl) ok26) (by kernel_rfl) ok28
theorem ok6 : c6.ok prog 6 := Ctr.of_den l6 hmix (hl := hints) (d := 4) func6 rfl (by decide) (e6 lpK jnK grid_Loads law19_whole law19_awake law19_few slices_ContainsFunc_27 ratio_Sum law19_GridSums_1)

/-- loftblock loftblocklaw19.GridAdds$1 -/
noncomputable def law19_GridAdds_1_b (_ : Lp) (_ : Jn) (ref19_Is : (ByteArray × Int × Int × Int) → (Int) → Option (Bool)) (x0 : Int × Int) (y0 : List (ByteArray × Int × Int × Int)) (y1 : Int) : Option Bool :=
  bif inB y1 (List.length y0) then obind (ref19_Is (List.getD y0 (Int.toNat y1) ({ data := { toList := [] } }, (0 : Int), (0 : Int), (0 : Int))) x0.fst) fun (t : Bool) => some t else none
noncomputable def law19_GridAdds_1 (x0 : Int × Int) (y0 : List (ByteArray × Int × Int × Int)) (y1 : Int) : Option Bool := law19_GridAdds_1_b lpK jnK ref19_Is x0 y0 y1
noncomputable def c32 : Ctr := ⟨[T60], [], [(.sl T40), i64], .one .bool, fun x _ y => law19_GridAdds_1 x.1 y.1 y.2.1⟩
theorem e32 (lp : Lp) (jn : Jn) (ref19_Is : (ByteArray × Int × Int × Int) → (Int) → Option (Bool)) : ∀ (x : TsS c32.as) (F : TsF c32.fs) (y : TsS c32.cs), law19_GridAdds_1_b lp jn ref19_Is x.1 y.1 y.2.1 = runC lp jn (ctxOf prog shs inls its [(17, ⟨[T40, i64], [], [], .one .bool, fun x _ _ => ref19_Is x.1 x.2.1⟩)] [(37, r37), (29, r29), (88, r88)]) hints 4 32 f32 c32 x F y := fun x F y => by kernel_rfl
theorem l32 : (ctxOf prog shs inls its [(17, c17)] [(37, r37), (29, r29), (88, r88)]).ok := ctxOf_cons (q37) (by kernel_rfl) ok17
theorem ok32 : c32.ok prog 32 := Ctr.of_den l32 hmix (hl := hints) (d := 4) func32 rfl (by decide) (e32 lpK jnK ref19_Is)

/-- loftblock loftblocklaw19.GridAdds -/
noncomputable def law19_GridAdds_b (lp : Lp) (_ : Jn) (slices_ContainsFunc_31 : (List (Int × Int)) → ((((Int × Int) × Unit) → Option Bool)) → Option (Bool)) (ratio_Add : (Int × Int) → (Int × Int) → Option ((Int × Int) × Int × Unit)) (grid_Loads : (List (ByteArray × Int × Int × Int)) → (List (Int × Int)) → Option ((List (Int × Int)) × Int × Unit)) (slices_Equal_22 : (List (Int × Int)) → (List (Int × Int)) → Option (Bool)) (law19_awake : Option (Bool)) (law19_few : (List (ByteArray × Int × Int × Int)) → (List (List (Int × Int))) → Option (Bool)) (law19_GridAdds_1 : (Int × Int) → (List (ByteArray × Int × Int × Int)) → (Int) → Option (Bool)) (slices_Concat_29 : (List (List (Int × Int))) → Option (List (Int × Int))) (x0 : List (ByteArray × Int × Int × Int)) (x1 : List (Int × Int)) (x2 : List (Int × Int)) : Option Bool :=
  
  let v5 : List (List (Int × Int)) := [x1, x2]; obind law19_awake fun (t : Bool) => bif !t then some false else obind (law19_few x0 v5) fun (t : Bool) => bif !t then some true else obind
    (grid_Loads x0 x1) fun (t : List (Int × Int) × Int × PUnit) =>
  let v9 : Bool := decide (t.snd.fst = (0 : Int));
  let v10 : Bool := !v9;
  let v11 : Bool := !v10;
  let v12 : Bool := !decide ((↑(List.length t.fst) : Int) = (↑(List.length x0) : Int));
  let v13 : Bool := !v12;
  let v14 : Bool := v11 || v10;
  let v15 : Bool := bif v9 then true else decide ((↑(List.length t.fst) : Int) = (0 : Int));
  let v16 : Bool := !v15;
  let v17 : Bool := !v13 || v13;
  let v18 : Bool := v16 || v15; obind (grid_Loads x0 x2) fun (t_1 : List (Int × Int) × Int × PUnit) =>
  let v20 : Bool := decide (t_1.snd.fst = (0 : Int));
  let v21 : Bool := !v20;
  let v22 : Bool := v15 && v21;
  let v23 : Bool := bif v10 then true else v21;
  let v24 : Bool := !v23;
  let v25 : Bool := bif v12 then true else !decide ((↑(List.length t_1.fst) : Int) = (↑(List.length x0) : Int));
  let v26 : Bool := !v25;
  let v27 : Bool := !v22 || v22;
  let v28 : Bool := bif v15 then bif v20 then true else decide ((↑(List.length t_1.fst) : Int) = (0 : Int)) else false;
  let v29 : Bool := !v28;
  let v30 : Bool := v28 && v10;
  let v31 : Bool := !v26 || v26;
  let v32 : Bool := v29 || v28; obind (slices_Concat_29 v5) fun (t_2 : List (Int × Int)) => obind (grid_Loads x0 t_2) fun (t_3 : List (Int × Int) × Int × PUnit) =>
  let v35 : Bool := !decide (t_3.snd.fst = (0 : Int));
  let v36 : Bool := bif v23 then true else v35;
  let v37 : Bool := !v36; obind (slices_Concat_29 [x2, x1]) fun (t_4 : List (Int × Int)) => obind (grid_Loads x0 t_4) fun (t_5 : List (Int × Int) × Int × PUnit) => bif !v11 || v11 then bif
    v10 || v11 then bif !v24 || v24 then bif v23 || v24 then bif !v37 || v37 then bif v36 || v37 then bif bif v36 then true else !decide (t_5.snd.fst = (0 : Int)) then bif v14 then bif v14
    then bif v9 || v10 then bif v18 then bif v18 then bif v27 then bif v27 then bif (v16 || v18) && (v16 || (v20 || (v16 || v22))) then bif v18 then bif v32 then bif v32 then bif !v30 ||
    v30 then bif (v29 || v32) && (v29 || (v9 || (v29 || v30))) then bif v32 then some (bif v28 then bif v9 then true else v35 else false) else none else none else none else none else none
    else none else none else none else none else none else none else none else none else none else bif v17 then bif v17 then bif v17 && v17 then bif v12 || v13 then bif v31 && v31 then
    obind (bif v26 then slices_Equal_22 t_3.fst t_5.fst else some false) fun (t_6 : Bool) =>
  let v41 : Bool := bif v25 then true else !t_6;
  let v42 : Bool := !v41;
  let v43 : Bool := !v42 || v42; bif v31 then bif v25 || v26 then bif v43 then bif v43 then bif v43 && v43 then bif v41 || v42 then bif bif v41 then true else !decide ((↑(List.length
    t_3.fst) : Int) = (↑(List.length x0) : Int)) then some false else lp (Int × PUnit) Bool (fun (again : Int × PUnit → Option Bool) (x : Int × PUnit) =>
  let v46 : Bool := inB x.fst (List.length t.fst);
  let v47 : Bool := inB x.fst (List.length t_3.fst);
  let v48 : Int × Int := List.getD t_3.fst (Int.toNat x.fst) ((0 : Int), (0 : Int)); bif decide (x.fst < (↑(List.length x0) : Int)) then bif v46 then bif inB x.fst (List.length t_1.fst)
    then obind (ratio_Add (List.getD t.fst (Int.toNat x.fst) ((0 : Int), (0 : Int))) (List.getD t_1.fst (Int.toNat x.fst) ((0 : Int), (0 : Int)))) fun (t_7 : (Int × Int) × Int × PUnit) =>
  let v50 : Bool := !decide (t_7.snd.fst = (0 : Int));
  let v51 : Bool := !v50;
  let v52 : Bool := !v51;
  let v53 : Bool := v52 || v51; bif v53 && (v53 && (v52 || v47)) then bif v53 then bif v53 && v53 then bif v50 || v51 then bif bif v50 then true else !(decide (t_7.fst.fst = v48.fst) &&
    (decide (t_7.fst.snd = v48.snd) && true)) then some (decide (t_7.snd.fst = (5 : Int))) else obind (slices_ContainsFunc_31 x2 fun (x_1 : (Int × Int) × PUnit) => law19_GridAdds_1 x_1.fst
    x0 x.fst) fun (t_8 : Bool) =>
  let v55 : Bool := !t_8;
  let v56 : Bool := !v55;
  let v57 : Bool := v56 || v55; bif v57 && (v57 && (v56 || v46)) then bif v57 then bif v57 && (v57 && (v56 || v47)) then bif v57 then bif v57 && v57 then bif v57 then bif bif v55 then
    !(decide ((List.getD t.fst (Int.toNat x.fst) ((0 : Int), (0 : Int))).fst = v48.fst) && (decide ((List.getD t.fst (Int.toNat x.fst) ((0 : Int), (0 : Int))).snd = v48.snd) && true)) else
    false then some false else again (IntKind.wrap IntKind.i64 (x.fst + (1 : Int)), PUnit.unit) else none else none else none else none else none else none else none else none else none
    else none else none else none else some true) ((0 : Int), PUnit.unit) else none else none else none else none else none else none else none else none else none else none else none else
    none else none else none else none else none else none
noncomputable def law19_GridAdds (x0 : List (ByteArray × Int × Int × Int)) (x1 : List (Int × Int)) (x2 : List (Int × Int)) : Option Bool := law19_GridAdds_b lpK jnK slices_ContainsFunc_31 ratio_Add grid_Loads slices_Equal_22 law19_awake law19_few law19_GridAdds_1 slices_Concat_29 x0 x1 x2
noncomputable def c7 : Ctr := ⟨[(.sl T40), (.sl T60), (.sl T60)], [], [], .one .bool, fun x _ _ => law19_GridAdds x.1 x.2.1 x.2.2.1⟩
theorem e7 (lp : Lp) (jn : Jn) (slices_ContainsFunc_31 : (List (Int × Int)) → ((((Int × Int) × Unit) → Option Bool)) → Option (Bool)) (ratio_Add : (Int × Int) → (Int × Int) → Option ((Int × Int) × Int × Unit)) (grid_Loads : (List (ByteArray × Int × Int × Int)) → (List (Int × Int)) → Option ((List (Int × Int)) × Int × Unit)) (slices_Equal_22 : (List (Int × Int)) → (List (Int × Int)) → Option (Bool)) (law19_awake : Option (Bool)) (law19_few : (List (ByteArray × Int × Int × Int)) → (List (List (Int × Int))) → Option (Bool)) (law19_GridAdds_1 : (Int × Int) → (List (ByteArray × Int × Int × Int)) → (Int) → Option (Bool)) (slices_Concat_29 : (List (List (Int × Int))) → Option (List (Int × Int))) : ∀ (x : TsS c7.as) (F : TsF c7.fs) (y : TsS c7.cs), law19_GridAdds_b lp jn slices_ContainsFunc_31 ratio_Add grid_Loads slices_Equal_22 law19_awake law19_few law19_GridAdds_1 slices_Concat_29 x.1 x.2.1 x.2.2.1 = runC lp jn (ctxOf prog shs inls its [(32, ⟨[T60], [], [(.sl T40), i64], .one .bool, fun x _ y => law19_GridAdds_1 x.1 y.1 y.2.1⟩), (10, ⟨[(.sl T40), (.sl (.sl T60))], [], [], .one .bool, fun x _ _ => law19_few x.1 x.2.1⟩), (9, ⟨[], [], [], .one .bool, fun _ _ _ => law19_awake⟩), (22, ⟨[(.sl T27), (.sl T27)], [], [], .one .bool, fun x _ _ => slices_Equal_22 x.1 x.2.1⟩), (19, ⟨[(.sl T40), (.sl T60)], [], [], .tup [(.sl T27), i64], fun x _ _ => grid_Loads x.1 x.2.1⟩), (30, ⟨[T27, T27], [], [], .tup [T27, i64], fun x _ _ => ratio_Add x.1 x.2.1⟩), (31, ⟨[(.sl T60)], [([T60], .bool)], [], .one .bool, fun x F _ => slices_ContainsFunc_31 x.1 F.1⟩)] [(37, r37), (29, ⟨[(.sl (.sl T60))], 60, T60, fun x => slices_Concat_29 x.1⟩), (88, r88)]) hints 4 7 f7 c7 x F y := fun x F y => by kernel_rfl
theorem l7 : (ctxOf prog shs inls its [(32, c32), (10, c10), (9, c9), (22, c22), (19, c19), (30, c30), (31, c31)] [(37, r37), (29, r29), (88, r88)]).ok := ctxOf_cons (ctxOf_cons (ctxOf_cons (ctxOf_cons (ctxOf_cons (ctxOf_cons (ctxOf_cons (q37) (by kernel_rfl) ok31) (by kernel_rfl) ok30) (by kernel_rfl) ok19) (by kernel_rfl) ok22) (by kernel_rfl) ok9) (by kernel_rfl) ok10) (by kernel_rfl) ok32
theorem ok7 : c7.ok prog 7 := Ctr.of_den l7 hmix (hl := hints) (d := 4) func7 rfl (by decide) (e7 lpK jnK slices_ContainsFunc_31 ratio_Add grid_Loads slices_Equal_22 law19_awake law19_few law19_GridAdds_1 slices_Concat_29)

/-- loftblock ratio.floor -/
noncomputable def ratio_floor_b (_ : Lp) (_ : Jn) (x0 : Int) (x1 : Int) : Option Int :=
  
  let v4 : Bool := nzB x1;
  let v5 : Int := IntKind.wrap IntKind.i64 (Int.tdiv x0 x1); bif v4 then bif v4 then bif decide (Int.tmod x0 x1 < (0 : Int)) then some (IntKind.wrap IntKind.i64 (v5 - (1 : Int))) else some
    v5 else none else none
noncomputable def ratio_floor (x0 : Int) (x1 : Int) : Option Int := ratio_floor_b lpK jnK x0 x1
noncomputable def c82 : Ctr := ⟨[i64, i64], [], [], .one i64, fun x _ _ => ratio_floor x.1 x.2.1⟩
theorem e82 (lp : Lp) (jn : Jn) : ∀ (x : TsS c82.as) (F : TsF c82.fs) (y : TsS c82.cs), ratio_floor_b lp jn x.1 x.2.1 = runC lp jn (ctxOf prog shs inls its [] [(37, r37), (29, r29), (88, r88)]) hints 4 82 f82 c82 x F y := fun x F y => by kernel_rfl
theorem l82 : (ctxOf prog shs inls its [] [(37, r37), (29, r29), (88, r88)]).ok := q37
theorem ok82 : c82.ok prog 82 := Ctr.of_den l82 hmix (hl := hints) (d := 4) func82 rfl (by decide) (e82 lpK jnK)

/-- loftblock ratio.Floor -/
noncomputable def ratio_Floor_b (_ : Lp) (_ : Jn) (ratio_Valid : (Int × Int) → Option (Bool)) (ratio_floor : (Int) → (Int) → Option (Int)) (x0 : Int × Int) : Option (Int × Int × Unit) :=
  obind (ratio_Valid x0) fun (t : Bool) => bif !t then some ((0 : Int), (1 : Int), PUnit.unit) else obind (ratio_floor x0.fst x0.snd) fun (t : Int) => some (t, (0 : Int), PUnit.unit)
noncomputable def ratio_Floor (x0 : Int × Int) : Option (Int × Int × Unit) := ratio_Floor_b lpK jnK ratio_Valid ratio_floor x0
noncomputable def c33 : Ctr := ⟨[T27], [], [], .tup [i64, i64], fun x _ _ => ratio_Floor x.1⟩
theorem e33 (lp : Lp) (jn : Jn) (ratio_Valid : (Int × Int) → Option (Bool)) (ratio_floor : (Int) → (Int) → Option (Int)) : ∀ (x : TsS c33.as) (F : TsF c33.fs) (y : TsS c33.cs), ratio_Floor_b lp jn ratio_Valid ratio_floor x.1 = runC lp jn (ctxOf prog shs inls its [(82, ⟨[i64, i64], [], [], .one i64, fun x _ _ => ratio_floor x.1 x.2.1⟩), (70, ⟨[T27], [], [], .one .bool, fun x _ _ => ratio_Valid x.1⟩)] [(37, r37), (29, r29), (88, r88)]) hints 4 33 f33 c33 x F y := fun x F y => by kernel_rfl
theorem l33 : (ctxOf prog shs inls its [(82, c82), (70, c70)] [(37, r37), (29, r29), (88, r88)]).ok := ctxOf_cons (ctxOf_cons (q37) (by kernel_rfl) ok70) (by kernel_rfl) ok82
theorem ok33 : c33.ok prog 33 := Ctr.of_den l33 hmix (hl := hints) (d := 4) func33 rfl (by decide) (e33 lpK jnK ratio_Valid ratio_floor)

/-- slices.IndexFunc[[]loftblock api.Finding,loftblock api.Finding] -/
noncomputable def slices_IndexFunc_83_b (lp : Lp) (_ : Jn) (x0 : List (Int × ByteArray)) (f0 : (((Int × ByteArray) × Unit) → Option Bool)) : Option Int :=
  lp (Int × PUnit) Int (fun (again : Int × PUnit → Option Int) (x : Int × PUnit) => bif decide (x.fst < (↑(List.length x0) : Int)) then bif inB x.fst (List.length x0) then obind (f0
    (List.getD x0 (Int.toNat x.fst) ((0 : Int), { data := { toList := [] } }), PUnit.unit)) fun (t : Bool) => bif t then some x.fst else again (IntKind.wrap IntKind.i64 (x.fst + (1 : Int)),
    PUnit.unit) else none else some (-1 : Int)) ((0 : Int), PUnit.unit)
noncomputable def slices_IndexFunc_83 (x0 : List (Int × ByteArray)) (f0 : (((Int × ByteArray) × Unit) → Option Bool)) : Option Int := slices_IndexFunc_83_b lpK jnK x0 f0
noncomputable def c83 : Ctr := ⟨[(.sl T56)], [([T56], .bool)], [], .one i64, fun x F _ => slices_IndexFunc_83 x.1 F.1⟩
theorem e83 (lp : Lp) (jn : Jn) : ∀ (x : TsS c83.as) (F : TsF c83.fs) (y : TsS c83.cs), slices_IndexFunc_83_b lp jn x.1 F.1 = runC lp jn (ctxOf prog shs inls its [] [(37, r37), (29, r29), (88, r88)]) hints 4 83 f83 c83 x F y := fun x F y => by kernel_rfl
theorem l83 : (ctxOf prog shs inls its [] [(37, r37), (29, r29), (88, r88)]).ok := q37
theorem ok83 : c83.ok prog 83 := Ctr.of_den l83 hmix (hl := hints) (d := 4) func83 rfl (by decide) (e83 lpK jnK)

/-- slices.ContainsFunc[[]loftblock api.Finding,loftblock api.Finding] -/
noncomputable def slices_ContainsFunc_34_b (_ : Lp) (_ : Jn) (slices_IndexFunc_83 : (List (Int × ByteArray)) → ((((Int × ByteArray) × Unit) → Option Bool)) → Option (Int)) (x0 : List (Int × ByteArray)) (f0 : (((Int × ByteArray) × Unit) → Option Bool)) : Option Bool :=
  obind (slices_IndexFunc_83 x0 f0) fun (t : Int) => some (decide (t ≥ (0 : Int)))
noncomputable def slices_ContainsFunc_34 (x0 : List (Int × ByteArray)) (f0 : (((Int × ByteArray) × Unit) → Option Bool)) : Option Bool := slices_ContainsFunc_34_b lpK jnK slices_IndexFunc_83 x0 f0
noncomputable def c34 : Ctr := ⟨[(.sl T56)], [([T56], .bool)], [], .one .bool, fun x F _ => slices_ContainsFunc_34 x.1 F.1⟩
theorem e34 (lp : Lp) (jn : Jn) (slices_IndexFunc_83 : (List (Int × ByteArray)) → ((((Int × ByteArray) × Unit) → Option Bool)) → Option (Int)) : ∀ (x : TsS c34.as) (F : TsF c34.fs) (y : TsS c34.cs), slices_ContainsFunc_34_b lp jn slices_IndexFunc_83 x.1 F.1 = runC lp jn (ctxOf prog shs inls its [(83, ⟨[(.sl T56)], [([T56], .bool)], [], .one i64, fun x F _ => slices_IndexFunc_83 x.1 F.1⟩)] [(37, r37), (29, r29), (88, r88)]) hints 4 34 f34 c34 x F y := fun x F y => by kernel_rfl
theorem l34 : (ctxOf prog shs inls its [(83, c83)] [(37, r37), (29, r29), (88, r88)]).ok := ctxOf_cons (q37) (by kernel_rfl) ok83
theorem ok34 : c34.ok prog 34 := Ctr.of_den l34 hmix (hl := hints) (d := 4) func34 rfl (by decide) (e34 lpK jnK slices_IndexFunc_83)

/-- slices.Index[[]string,string] -/
noncomputable def slices_Index_84_b (lp : Lp) (_ : Jn) (x0 : List ByteArray) (x1 : ByteArray) : Option Int :=
  lp (Int × PUnit) Int (fun (again : Int × PUnit → Option Int) (x : Int × PUnit) => bif decide (x.fst < (↑(List.length x0) : Int)) then bif inB x.fst (List.length x0) then bif List.beq
    (ByteArray.toList x1) (ByteArray.toList (List.getD x0 (Int.toNat x.fst) { data := { toList := [] } })) then some x.fst else again (IntKind.wrap IntKind.i64 (x.fst + (1 : Int)),
    PUnit.unit) else none else some (-1 : Int)) ((0 : Int), PUnit.unit)
noncomputable def slices_Index_84 (x0 : List ByteArray) (x1 : ByteArray) : Option Int := slices_Index_84_b lpK jnK x0 x1
noncomputable def c84 : Ctr := ⟨[(.sl .str), .str], [], [], .one i64, fun x _ _ => slices_Index_84 x.1 x.2.1⟩
theorem e84 (lp : Lp) (jn : Jn) : ∀ (x : TsS c84.as) (F : TsF c84.fs) (y : TsS c84.cs), slices_Index_84_b lp jn x.1 x.2.1 = runC lp jn (ctxOf prog shs inls its [] [(37, r37), (29, r29), (88, r88)]) hints 4 84 f84 c84 x F y := fun x F y => by kernel_rfl
theorem l84 : (ctxOf prog shs inls its [] [(37, r37), (29, r29), (88, r88)]).ok := q37
theorem ok84 : c84.ok prog 84 := Ctr.of_den l84 hmix (hl := hints) (d := 4) func84 rfl (by decide) (e84 lpK jnK)

/-- slices.Contains[[]string,string] -/
noncomputable def slices_Contains_36_b (_ : Lp) (_ : Jn) (slices_Index_84 : (List ByteArray) → (ByteArray) → Option (Int)) (x0 : List ByteArray) (x1 : ByteArray) : Option Bool :=
  obind (slices_Index_84 x0 x1) fun (t : Int) => some (decide (t ≥ (0 : Int)))
noncomputable def slices_Contains_36 (x0 : List ByteArray) (x1 : ByteArray) : Option Bool := slices_Contains_36_b lpK jnK slices_Index_84 x0 x1
noncomputable def c36 : Ctr := ⟨[(.sl .str), .str], [], [], .one .bool, fun x _ _ => slices_Contains_36 x.1 x.2.1⟩
theorem e36 (lp : Lp) (jn : Jn) (slices_Index_84 : (List ByteArray) → (ByteArray) → Option (Int)) : ∀ (x : TsS c36.as) (F : TsF c36.fs) (y : TsS c36.cs), slices_Contains_36_b lp jn slices_Index_84 x.1 x.2.1 = runC lp jn (ctxOf prog shs inls its [(84, ⟨[(.sl .str), .str], [], [], .one i64, fun x _ _ => slices_Index_84 x.1 x.2.1⟩)] [(37, r37), (29, r29), (88, r88)]) hints 4 36 f36 c36 x F y := fun x F y => by kernel_rfl
theorem l36 : (ctxOf prog shs inls its [(84, c84)] [(37, r37), (29, r29), (88, r88)]).ok := ctxOf_cons (q37) (by kernel_rfl) ok84
theorem ok36 : c36.ok prog 36 := Ctr.of_den l36 hmix (hl := hints) (d := 4) func36 rfl (by decide) (e36 lpK jnK slices_Index_84)

/-- loftblock loftblocklaw19.GridBears$1 -/
noncomputable def law19_GridBears_1_b (_ : Lp) (_ : Jn) (slices_Contains_36 : (List ByteArray) → (ByteArray) → Option (Bool)) (x0 : Int × ByteArray) (y0 : List ByteArray) : Option Bool :=
  obind (slices_Contains_36 y0 x0.snd) fun (t : Bool) => some t
noncomputable def law19_GridBears_1 (x0 : Int × ByteArray) (y0 : List ByteArray) : Option Bool := law19_GridBears_1_b lpK jnK slices_Contains_36 x0 y0
noncomputable def c35 : Ctr := ⟨[T56], [], [(.sl .str)], .one .bool, fun x _ y => law19_GridBears_1 x.1 y.1⟩
theorem e35 (lp : Lp) (jn : Jn) (slices_Contains_36 : (List ByteArray) → (ByteArray) → Option (Bool)) : ∀ (x : TsS c35.as) (F : TsF c35.fs) (y : TsS c35.cs), law19_GridBears_1_b lp jn slices_Contains_36 x.1 y.1 = runC lp jn (ctxOf prog shs inls its [(36, ⟨[(.sl .str), .str], [], [], .one .bool, fun x _ _ => slices_Contains_36 x.1 x.2.1⟩)] [(37, r37), (29, r29), (88, r88)]) hints 4 35 f35 c35 x F y := fun x F y => by kernel_rfl
theorem l35 : (ctxOf prog shs inls its [(36, c36)] [(37, r37), (29, r29), (88, r88)]).ok := ctxOf_cons (q37) (by kernel_rfl) ok36
theorem ok35 : c35.ok prog 35 := Ctr.of_den l35 hmix (hl := hints) (d := 4) func35 rfl (by decide) (e35 lpK jnK slices_Contains_36)

/-- loftblock loftblocklaw19.GridBears$2 -/
noncomputable def law19_GridBears_2_b (_ : Lp) (_ : Jn) (slices_Contains_36 : (List ByteArray) → (ByteArray) → Option (Bool)) (x0 : Int × ByteArray) (y0 : List ByteArray) : Option Bool :=
  obind (slices_Contains_36 y0 x0.snd) fun (t : Bool) => some t
noncomputable def law19_GridBears_2 (x0 : Int × ByteArray) (y0 : List ByteArray) : Option Bool := law19_GridBears_2_b lpK jnK slices_Contains_36 x0 y0
noncomputable def c38 : Ctr := ⟨[T56], [], [(.sl .str)], .one .bool, fun x _ y => law19_GridBears_2 x.1 y.1⟩
theorem e38 (lp : Lp) (jn : Jn) (slices_Contains_36 : (List ByteArray) → (ByteArray) → Option (Bool)) : ∀ (x : TsS c38.as) (F : TsF c38.fs) (y : TsS c38.cs), law19_GridBears_2_b lp jn slices_Contains_36 x.1 y.1 = runC lp jn (ctxOf prog shs inls its [(36, ⟨[(.sl .str), .str], [], [], .one .bool, fun x _ _ => slices_Contains_36 x.1 x.2.1⟩)] [(37, r37), (29, r29), (88, r88)]) hints 4 38 f38 c38 x F y := fun x F y => by kernel_rfl
theorem l38 : (ctxOf prog shs inls its [(36, c36)] [(37, r37), (29, r29), (88, r88)]).ok := ctxOf_cons (q37) (by kernel_rfl) ok36
theorem ok38 : c38.ok prog 38 := Ctr.of_den l38 hmix (hl := hints) (d := 4) func38 rfl (by decide) (e38 lpK jnK slices_Contains_36)

/-- loftblock loftblocklaw19.GridBears$3 -/
noncomputable def law19_GridBears_3_b (_ : Lp) (_ : Jn) (slices_Contains_36 : (List ByteArray) → (ByteArray) → Option (Bool)) (x0 : Int × ByteArray) (y0 : List ByteArray) : Option Bool :=
  obind (slices_Contains_36 y0 x0.snd) fun (t : Bool) => some t
noncomputable def law19_GridBears_3 (x0 : Int × ByteArray) (y0 : List ByteArray) : Option Bool := law19_GridBears_3_b lpK jnK slices_Contains_36 x0 y0
noncomputable def c39 : Ctr := ⟨[T56], [], [(.sl .str)], .one .bool, fun x _ y => law19_GridBears_3 x.1 y.1⟩
theorem e39 (lp : Lp) (jn : Jn) (slices_Contains_36 : (List ByteArray) → (ByteArray) → Option (Bool)) : ∀ (x : TsS c39.as) (F : TsF c39.fs) (y : TsS c39.cs), law19_GridBears_3_b lp jn slices_Contains_36 x.1 y.1 = runC lp jn (ctxOf prog shs inls its [(36, ⟨[(.sl .str), .str], [], [], .one .bool, fun x _ _ => slices_Contains_36 x.1 x.2.1⟩)] [(37, r37), (29, r29), (88, r88)]) hints 4 39 f39 c39 x F y := fun x F y => by kernel_rfl
theorem l39 : (ctxOf prog shs inls its [(36, c36)] [(37, r37), (29, r29), (88, r88)]).ok := ctxOf_cons (q37) (by kernel_rfl) ok36
theorem ok39 : c39.ok prog 39 := Ctr.of_den l39 hmix (hl := hints) (d := 4) func39 rfl (by decide) (e39 lpK jnK slices_Contains_36)

/-- loftblock loftblocklaw19.GridBears -/
noncomputable def law19_GridBears_b (_ : Lp) (_ : Jn) (grid_Spare : (List (ByteArray × Int × Int × Int)) → (List (Int × Int)) → (Int) → Option ((Int × Int) × Int × Unit)) (law19_awake : Option (Bool)) (law19_few : (List (ByteArray × Int × Int × Int)) → (List (List (Int × Int))) → Option (Bool)) (grid_Under : (List (ByteArray × Int × Int × Int)) → (Int) → Option ((List ByteArray) × Int × Unit)) (grid_Over : (List (ByteArray × Int × Int × Int)) → (List (Int × Int)) → Option ((List (Int × ByteArray)) × Int × Unit)) (slices_Equal_25 : (List (Int × ByteArray)) → (List (Int × ByteArray)) → Option (Bool)) (ratio_Floor : (Int × Int) → Option (Int × Int × Unit)) (slices_ContainsFunc_34 : (List (Int × ByteArray)) → ((((Int × ByteArray) × Unit) → Option Bool)) → Option (Bool)) (law19_GridBears_1 : (Int × ByteArray) → (List ByteArray) → Option (Bool)) (law19_GridBears_2 : (Int × ByteArray) → (List ByteArray) → Option (Bool)) (law19_GridBears_3 : (Int × ByteArray) → (List ByteArray) → Option (Bool)) (slices_Clone_37 : (List (Int × Int)) → Option (List (Int × Int))) (x0 : List (ByteArray × Int × Int × Int)) (x1 : List (Int × Int)) (x2 : Int) : Option Bool :=
  obind law19_awake fun (t : Bool) => bif !t then some false else obind (law19_few x0 [x1]) fun (t : Bool) =>
  let v7 : Bool := !t;
  let v8 : Bool := !v7;
  let v9 : Bool := !v8 || v8; bif v9 then bif v9 then bif v7 || v8 then bif bif v7 then true else decide ((↑(List.length x1) : Int) > (29 : Int)) then some true else obind (grid_Spare x0 x1
    x2) fun (t : (Int × Int) × Int × PUnit) => bif !decide (t.snd.fst = (0 : Int)) then some (decide (t.fst.fst = (0 : Int)) && (decide (t.fst.snd = (0 : Int)) && true)) else obind
    (grid_Over x0 x1) fun (t_1 : List (Int × ByteArray) × Int × PUnit) =>
  let v12 : Bool := !decide (t_1.snd.fst = (0 : Int));
  let v13 : Bool := !v12; obind (grid_Under x0 x2) fun (t_2 : List ByteArray × Int × PUnit) =>
  let v15 : Bool := bif v12 then true else !decide (t_2.snd.fst = (0 : Int));
  let v16 : Bool := !v15;
  let v17 : Bool := !v16 || v16; bif !v13 || v13 then bif v12 || v13 then bif v17 then bif v17 then bif v15 || v16 then bif bif v15 then true else decide ((↑(List.length t_2.fst) : Int) =
    (0 : Int)) then some false else obind (ratio_Floor t.fst) fun (t : Int × Int × PUnit) =>
  let v19 : Bool := decide (t.snd.fst = (0 : Int));
  let v20 : Bool := !v19;
  let v21 : Bool := !v20; bif !v21 || v21 then bif v20 || v21 then bif bif v20 then true else decide (t.fst ≥ (67108864 : Int)) then some v19 else bif decide (t.fst < (0 : Int)) then obind
    (slices_ContainsFunc_34 t_1.fst fun (x : (Int × ByteArray) × PUnit) => law19_GridBears_1 x.fst t_2.fst) fun (t : Bool) => some t else obind (slices_Clone_37 x1) fun (t_3 : List (Int ×
    Int)) => bif fitB (List.length t_3 + (1 : Nat)) (16 : Nat) then obind (grid_Over x0 (t_3 ++ [(x2, t.fst)])) fun (t_4 : List (Int × ByteArray) × Int × PUnit) =>
  let v24 : Bool := decide (t_4.snd.fst = (5 : Int));
  let v25 : Bool := !decide (t_4.snd.fst = (0 : Int));
  let v26 : Bool := !v24;
  let v27 : Bool := !v25; obind (slices_Clone_37 x1) fun (t_5 : List (Int × Int)) => bif fitB (List.length t_5 + (1 : Nat)) (16 : Nat) then obind (grid_Over x0 (t_5 ++ [(x2, IntKind.wrap
    IntKind.i64 (t.fst + (1 : Int)))])) fun (t : List (Int × ByteArray) × Int × PUnit) => bif !v27 || v27 then bif v25 || v27 then bif bif v25 then true else !decide (t.snd.fst = (0 : Int))
    then bif !v26 || v26 then bif v24 || v26 then some (bif v24 then true else decide (t.snd.fst = (5 : Int))) else none else none else obind (slices_Equal_25 t_4.fst t_1.fst) fun (t_6 :
    Bool) =>
  let v31 : Bool := !t_6 || t_6; bif v31 && v31 then obind (bif t_6 then slices_ContainsFunc_34 t_4.fst fun (x : (Int × ByteArray) × PUnit) => law19_GridBears_2 x.fst t_2.fst else some
    false) fun (t_7 : Bool) =>
  let v33 : Bool := bif t_6 then !t_7 else false;
  let v34 : Bool := !v33 || v33; bif v31 then bif v31 then bif v34 && v34 then obind (bif v33 then slices_ContainsFunc_34 t.fst fun (x : (Int × ByteArray) × PUnit) => law19_GridBears_3
    x.fst t_2.fst else some false) fun (t : Bool) => bif v34 then some (bif v33 then t else false) else none else none else none else none else none else none else none else none else none
    else none else none else none else none else none else none else none else none else none else none
noncomputable def law19_GridBears (x0 : List (ByteArray × Int × Int × Int)) (x1 : List (Int × Int)) (x2 : Int) : Option Bool := law19_GridBears_b lpK jnK grid_Spare law19_awake law19_few grid_Under grid_Over slices_Equal_25 ratio_Floor slices_ContainsFunc_34 law19_GridBears_1 law19_GridBears_2 law19_GridBears_3 slices_Clone_37 x0 x1 x2
noncomputable def c8 : Ctr := ⟨[(.sl T40), (.sl T60), i64], [], [], .one .bool, fun x _ _ => law19_GridBears x.1 x.2.1 x.2.2.1⟩
theorem e8 (lp : Lp) (jn : Jn) (grid_Spare : (List (ByteArray × Int × Int × Int)) → (List (Int × Int)) → (Int) → Option ((Int × Int) × Int × Unit)) (law19_awake : Option (Bool)) (law19_few : (List (ByteArray × Int × Int × Int)) → (List (List (Int × Int))) → Option (Bool)) (grid_Under : (List (ByteArray × Int × Int × Int)) → (Int) → Option ((List ByteArray) × Int × Unit)) (grid_Over : (List (ByteArray × Int × Int × Int)) → (List (Int × Int)) → Option ((List (Int × ByteArray)) × Int × Unit)) (slices_Equal_25 : (List (Int × ByteArray)) → (List (Int × ByteArray)) → Option (Bool)) (ratio_Floor : (Int × Int) → Option (Int × Int × Unit)) (slices_ContainsFunc_34 : (List (Int × ByteArray)) → ((((Int × ByteArray) × Unit) → Option Bool)) → Option (Bool)) (law19_GridBears_1 : (Int × ByteArray) → (List ByteArray) → Option (Bool)) (law19_GridBears_2 : (Int × ByteArray) → (List ByteArray) → Option (Bool)) (law19_GridBears_3 : (Int × ByteArray) → (List ByteArray) → Option (Bool)) (slices_Clone_37 : (List (Int × Int)) → Option (List (Int × Int))) : ∀ (x : TsS c8.as) (F : TsF c8.fs) (y : TsS c8.cs), law19_GridBears_b lp jn grid_Spare law19_awake law19_few grid_Under grid_Over slices_Equal_25 ratio_Floor slices_ContainsFunc_34 law19_GridBears_1 law19_GridBears_2 law19_GridBears_3 slices_Clone_37 x.1 x.2.1 x.2.2.1 = runC lp jn (ctxOf prog shs inls its [(39, ⟨[T56], [], [(.sl .str)], .one .bool, fun x _ y => law19_GridBears_3 x.1 y.1⟩), (38, ⟨[T56], [], [(.sl .str)], .one .bool, fun x _ y => law19_GridBears_2 x.1 y.1⟩), (35, ⟨[T56], [], [(.sl .str)], .one .bool, fun x _ y => law19_GridBears_1 x.1 y.1⟩), (34, ⟨[(.sl T56)], [([T56], .bool)], [], .one .bool, fun x F _ => slices_ContainsFunc_34 x.1 F.1⟩), (33, ⟨[T27], [], [], .tup [i64, i64], fun x _ _ => ratio_Floor x.1⟩), (25, ⟨[(.sl T56), (.sl T56)], [], [], .one .bool, fun x _ _ => slices_Equal_25 x.1 x.2.1⟩), (20, ⟨[(.sl T40), (.sl T60)], [], [], .tup [(.sl T56), i64], fun x _ _ => grid_Over x.1 x.2.1⟩), (14, ⟨[(.sl T40), i64], [], [], .tup [(.sl .str), i64], fun x _ _ => grid_Under x.1 x.2.1⟩), (10, ⟨[(.sl T40), (.sl (.sl T60))], [], [], .one .bool, fun x _ _ => law19_few x.1 x.2.1⟩), (9, ⟨[], [], [], .one .bool, fun _ _ _ => law19_awake⟩), (11, ⟨[(.sl T40), (.sl T60), i64], [], [], .tup [T27, i64], fun x _ _ => grid_Spare x.1 x.2.1 x.2.2.1⟩)] [(37, ⟨[(.sl T60)], 60, T60, fun x => slices_Clone_37 x.1⟩), (29, r29), (88, r88)]) hints 4 8 f8 c8 x F y := fun x F y => by kernel_rfl
theorem l8 : (ctxOf prog shs inls its [(39, c39), (38, c38), (35, c35), (34, c34), (33, c33), (25, c25), (20, c20), (14, c14), (10, c10), (9, c9), (11, c11)] [(37, r37), (29, r29), (88, r88)]).ok := ctxOf_cons (ctxOf_cons (ctxOf_cons (ctxOf_cons (ctxOf_cons (ctxOf_cons (ctxOf_cons (ctxOf_cons (ctxOf_cons (ctxOf_cons (ctxOf_cons (q37) (by kernel_rfl) ok11) (by kernel_rfl) ok9) (by kernel_rfl) ok10) (by kernel_rfl) ok14) (by kernel_rfl) ok20) (by kernel_rfl) ok25) (by kernel_rfl) ok33) (by kernel_rfl) ok34) (by kernel_rfl) ok35) (by kernel_rfl) ok38) (by kernel_rfl) ok39
theorem ok8 : c8.ok prog 8 := Ctr.of_den l8 hmix (hl := hints) (d := 4) func8 rfl (by decide) (e8 lpK jnK grid_Spare law19_awake law19_few grid_Under grid_Over slices_Equal_25 ratio_Floor slices_ContainsFunc_34 law19_GridBears_1 law19_GridBears_2 law19_GridBears_3 slices_Clone_37)

end Go.Proofs.Ytpkphcnebkfjdaa

namespace Go.Proofs.Ytpkphcnebkfjdaa
namespace Dn

section
variable {T R α σ : Type}

theorem obind_some' {t : T} {k : T → Option R} : obind (some t) k = k t := rfl
theorem obind_none' {k : T → Option R} : obind none k = none := rfl

/-- The loop answers 'g', where every round does, given that it answers so wherever the measure is less. -/
theorem loopF_eq {F : (α → Option R) → α → Option R} {g : α → Option R} (I : α → Prop) (μ : α → Nat)
    (h : ∀ x rec, I x → (∀ y, I y → μ y < μ x → rec y = g y) → F rec x = g x) : ∀ {n : Nat} {x : α}, I x → μ x < n → loopF F n x = g x
  | 0, x, _, hn => by omega
  | n + 1, x, hx, hn => by
    rw [loopF_succ]
    exact h x _ hx fun y hy hlt => loopF_eq I μ h hy (by omega)

theorem lpK_loop {F : (α → Option R) → α → Option R} {g : α → Option R} (I : α → Prop) (μ : α → Nat)
    (h : ∀ x rec, I x → (∀ y, I y → μ y < μ x → rec y = g y) → F rec x = g x) {x : α} (hx : I x) (hn : μ x < 1180591620717411303424) : lpK α R F x = g x := loopF_eq I μ h hx hn
theorem jnK_eq' {j : α → Option R} {f : (α → Option R) → Option R} : jnK α R j f = f j := rfl

theorem wrap_id {x : Int} (h1 : -9223372036854775808 ≤ x) (h2 : x < 9223372036854775808) : IntKind.wrap .i64 x = x := by
  rw [IntKind.wrap_i64]; omega

/-- What a loop over 0..n-1 answers: a round may answer, or go on with another state. -/
def upF (b : Nat → σ → (σ → Option R) → Option R) (f : σ → Option R) : Nat → Nat → σ → Option R
  | 0, _, s => f s
  | k + 1, i, s => b i s (upF b f k (i + 1))

theorem loopF_up {F : (α → Option R) → α → Option R} (n : Nat) (hn : n ≤ 1180591620717411303423) (enc : Nat → σ → α) (b : Nat → σ → (σ → Option R) → Option R) (f : σ → Option R)
    (hb : ∀ again (i : Nat) s, i < n → F again (enc i s) = b i s (fun s' => again (enc (i + 1) s'))) (hf : ∀ again s, F again (enc n s) = f s) (s : σ) :
    loopF F K0 (enc 0 s) = upF b f n 0 s := by
  have key : ∀ (k : Nat) (i : Nat) (m : Nat) (s : σ), i + k = n → k < m → loopF F m (enc i s) = upF b f k i s := by
    intro k
    induction k with
    | zero =>
      intro i m s h1 h2
      obtain ⟨m, rfl⟩ : ∃ m', m = m' + 1 := ⟨m - 1, by omega⟩
      have : i = n := by omega
      subst this
      simp only [loopF_succ, hf, upF]
    | succ k ih =>
      intro i m s h1 h2
      obtain ⟨m, rfl⟩ : ∃ m', m = m' + 1 := ⟨m - 1, by omega⟩
      simp only [loopF_succ, upF]
      rw [hb _ _ _ (by omega)]
      congr 1
      funext s'
      exact ih (i + 1) m s' (by omega) (by omega)
  exact key n 0 K0 s (by omega) (by unfold K0; omega)
theorem loopF_K0 {F : (α → Option R) → α → Option R} {x : α} : loopF F K0 x = F (loopF F 1180591620717411303423) x := rfl
theorem loopF_K1 {F : (α → Option R) → α → Option R} {x : α} : loopF F 1180591620717411303423 x = F (loopF F 1180591620717411303422) x := rfl
theorem loopF_K2 {F : (α → Option R) → α → Option R} {x : α} : loopF F 1180591620717411303422 x = F (loopF F 1180591620717411303421) x := rfl
theorem loopF_K3 {F : (α → Option R) → α → Option R} {x : α} : loopF F 1180591620717411303421 x = F (loopF F 1180591620717411303420) x := rfl

theorem joinF_eq {j : α → Option R} {f : (α → Option R) → Option R} {r : Option R} (g : α → Option R) (h : ∀ x, j x = g x) (hf : f g = r) : joinF j f = r := by
  rw [show j = g from funext h]
  exact hf

theorem inB_nat {i n : Nat} : inB (i : Int) n = decide (i < n) := by
  rw [Bool.eq_iff_iff, inB_iff, decide_eq_true_iff]; omega
theorem inB_of {i : Int} {n : Nat} (h1 : 0 ≤ i) (h2 : i < n) : inB i n = true := inB_iff.2 ⟨h1, h2⟩
theorem nzB_of {n : Int} (h : n ≠ 0) : nzB n = true := nzB_iff.2 h
theorem slB_of {lo hi : Int} {n : Nat} (h1 : 0 ≤ lo) (h2 : lo ≤ hi) (h3 : hi ≤ n) : slB lo hi n = true := slB_iff.2 ⟨h1, h2, h3⟩
theorem fitB_of {n k : Nat} (h : n * k ≤ 140737488355328) : fitB n k = true := fitB_iff.2 h

theorem ble_of {n m : Nat} (h : n ≤ m) : Nat.ble n m = true := by rw [Nat.ble_eq]; exact h
/-- As 'cond_true', 'cond_false', but not by computation: for rewriting under loops. -/
theorem cT0 {α : Sort _} {c : Bool} (h : c = true) (a b : α) : cond c a b = a := by subst h; rfl
theorem cT {α : Sort _} (a b : α) : cond true a b = a := cT0 (Eq.trans rfl rfl) a b
theorem cF0 {α : Sort _} {c : Bool} (h : c = false) (a b : α) : cond c a b = b := by subst h; rfl
theorem cF {α : Sort _} (a b : α) : cond false a b = b := cF0 (Eq.trans rfl rfl) a b
theorem or_self_not {b : Bool} : (b || !b) = true := by cases b <;> rfl
theorem not_or_self' {b : Bool} : (!b || b) = true := by cases b <;> rfl
theorem bif_false' {b : Bool} {c : Bool} : (bif b then c else false) = (b && c) := by cases b <;> rfl
theorem bif_true' {b : Bool} {c : Bool} : (bif b then true else c) = (b || c) := by cases b <;> rfl

theorem ite_max {a b : Int} : (if b > a then b else a) = max a b := by omega
theorem ite_min {a b : Int} : (if b < a then b else a) = min a b := by omega
theorem getD_nat {l : List α} {d : α} {i : Nat} (h : i < l.length) : l.getD i d = l[i] := by simp [List.getD, h]

theorem lget_set_self {l : List α} {d a : α} {i : Nat} (h : i < l.length) : (l.set i a).getD i d = a := by simp [List.getD, h]
theorem lget_set_ne {l : List α} {d a : α} {i j : Nat} (h : i ≠ j) : (l.set i a).getD j d = l.getD j d := by simp [List.getD, List.getElem?_set_ne h]

/-- A search through a list: the first place that a round answers at. -/
theorem upF_find {b : Nat → σ → (σ → Option R) → Option R} {f : σ → Option R} {p : Nat → Bool} {r : Nat → Option R} {s : σ} (hb : ∀ i (k : σ → Option R), b i s k = bif p i then r i else k s) :
    ∀ (k i : Nat), upF b f k i s = match (List.range' i k).find? p with | some j => r j | none => f s
  | 0, i => rfl
  | k + 1, i => by
    simp only [upF, hb, List.range'_succ, List.find?_cons]
    cases hp : p i with
    | true => rfl
    | false => exact upF_find hb k (i + 1)

end

/-- As 'upF_find', for the rounds within the bound only. -/
theorem upF_findR {R σ : Type} {b : Nat → σ → (σ → Option R) → Option R} {f : σ → Option R} {p : Nat → Bool} {r : Nat → Option R} {s : σ} (n : Nat) (hb : ∀ i (k : σ → Option R), i < n → b i s k = bif p i then r i else k s) :
    ∀ (k i : Nat), i + k ≤ n → upF b f k i s = match (List.range' i k).find? p with | some j => r j | none => f s
  | 0, i, _ => rfl
  | k + 1, i, h => by
    simp only [upF, hb i _ (by omega), List.range'_succ, List.find?_cons]
    cases hp : p i with
    | true => rfl
    | false => exact upF_findR n hb k (i + 1) (by omega)

end Dn
end Go.Proofs.Ytpkphcnebkfjdaa

namespace Go.Proofs.Ytpkphcnebkfjdaa
open Try Dn Dn.Sh

theorem str_beq (a b : ByteArray) : List.beq (ByteArray.toList a) (ByteArray.toList b) = decide (a = b) := by
  show (a.toList == b.toList) = _
  rw [ByteArray.toList_eq, ByteArray.toList_eq, Bool.eq_iff_iff, decide_eq_true_iff, beq_iff_eq]
  exact ⟨fun h => ByteArray.ext (Array.toList_inj.mp h), fun h => by rw [h]⟩

theorem lpK_some {α R : Type} {F : (α → Option R) → α → Option R} (I : α → Prop) (μ : α → Nat) (h : ∀ x rec, I x → (∀ y, I y → μ y < μ x → (rec y).isSome = true) → (F rec x).isSome = true) {x : α} (hx : I x) (hn : μ x < 1180591620717411303424) : (lpK α R F x).isSome = true := by
  have key : ∀ n x, I x → μ x < n → (loopF F n x).isSome = true := by
    intro n
    induction n with
    | zero => intro x _ h; omega
    | succ n ih =>
      intro x hx hn
      rw [loopF_succ]
      exact h x _ hx fun y hy hlt => ih y hy (by omega)
  exact key _ x hx hn

theorem letter_same : decimal_letter = ref01_Letter := by
  funext c
  rfl
theorem digit_same : decimal_digit = ref01_Digit := by
  funext c
  rfl
theorem letter_some (c : Int) : ∃ b, decimal_letter c = some b := by
  simp only [decimal_letter, decimal_letter_b, not_or_self', or_self_not, cond_true]
  cases decide (c ≥ 97) <;> cases decide (c ≤ 122) <;> cases decide (c ≥ 65) <;> exact ⟨_, rfl⟩
theorem digit_some (c : Int) : ∃ b, decimal_digit c = some b := by
  simp only [decimal_digit, decimal_digit_b, not_or_self', cond_true]
  exact ⟨_, rfl⟩

theorem word_some {s : ByteArray} (h : s.size ≤ 1000000) : ∃ n, decimal_word s = some n := by
  rw [← Option.isSome_iff_exists]
  simp only [decimal_word, decimal_word_b]
  refine lpK_some (I := fun (x : Int × PUnit) => 0 ≤ x.1 ∧ x.1 ≤ s.size) (μ := fun (x : Int × PUnit) => ((s.size : Int) - x.1).toNat) (x := ((0 : Int), PUnit.unit)) ?_ ⟨Int.le_refl _, by simp only; omega⟩ (by simp only; omega)
  rintro ⟨i, _⟩ rec ⟨h0, h1⟩ hrec
  simp only at h0 h1 ⊢
  by_cases hi : i < s.size
  · rw [inB_of h0 hi, decide_eq_true hi]
    obtain ⟨b, hb⟩ := letter_some (byteAt s i.toNat)
    obtain ⟨c, hc⟩ := digit_some (byteAt s i.toNat)
    have hw : IntKind.wrap .i64 (i + 1) = i + 1 := wrap_id (by omega) (by omega)
    have hr := hrec (i + 1, PUnit.unit) ⟨by simp only; omega, by simp only; omega⟩ (by simp only; omega)
    simp only [hb, hc, hw]
    cases b <;> cases c <;> cases decide (byteAt s i.toNat = 95) <;> simp [obind_some', hr]
  · rw [decide_eq_false hi]
    simp [obind_some']

theorem word_same (s : ByteArray) : ref01_word s 0 = decimal_word s := by
  simp only [ref01_word, ref01_word_b, decimal_word, decimal_word_b, letter_same, digit_same]

/-- Whether a string is a name. -/
noncomputable def nameB (s : ByteArray) : Bool := decide (0 < s.size) && (decide (s.size ≤ 20) && ((decimal_letter (byteAt s 0)).getD false && decide ((decimal_word s).getD 0 = (s.size : Int))))

theorem empty_iff (s : ByteArray) : s = { data := #[] } ↔ s.size = 0 := by
  constructor
  · intro h; rw [h]; rfl
  · intro h
    apply ByteArray.ext
    exact Array.eq_empty_of_size_eq_zero h

theorem isName_ok (s : ByteArray) : decimal_IsName s = some (nameB s) := by
  simp only [decimal_IsName, decimal_IsName_b, str_beq, not_or_self', Bool.and_self, cond_true]
  unfold nameB
  by_cases h0 : s.size = 0
  · have e : decide (s = { data := #[] }) = true := decide_eq_true ((empty_iff s).2 h0)
    simp [e, h0, obind_some']
  · have e : decide (s = { data := #[] }) = false := decide_eq_false fun h => h0 ((empty_iff s).1 h)
    by_cases h1 : s.size ≤ 20
    · obtain ⟨b, hb⟩ := letter_some (byteAt s 0)
      obtain ⟨n, hn⟩ := word_some (s := s) (by omega)
      have h2 : decide ((s.size : Int) ≤ 20) = true := decide_eq_true (by omega)
      rw [inB_of (show (0 : Int) ≤ 0 by omega) (show (0 : Int) < s.size by omega)]
      simp only [e, h2, hb, hn]
      cases b <;> simp [obind_some', h1, show 0 < s.size by omega]
    · have h2 : decide ((s.size : Int) ≤ 20) = false := decide_eq_false (by omega)
      simp [e, h2, h1, obind_some']

theorem refIsName_ok (s : ByteArray) : ref01_IsName s = some (nameB s) := by
  simp only [ref01_IsName, ref01_IsName_b, not_or_self', or_self_not, cond_true]
  unfold nameB
  by_cases h0 : s.size = 0
  · simp [h0, obind_some']
  · have e : decide ((s.size : Int) = 0) = false := decide_eq_false (by omega)
    by_cases h1 : s.size ≤ 20
    · obtain ⟨b, hb⟩ := letter_some (byteAt s 0)
      obtain ⟨n, hn⟩ := word_some (s := s) (by omega)
      have h2 : decide ((s.size : Int) > 20) = false := decide_eq_false (by omega)
      rw [inB_of (show (0 : Int) ≤ 0 by omega) (show (0 : Int) < s.size by omega), word_same]
      simp only [e, h2, ← letter_same, hb, hn]
      cases b <;> simp [obind_some', h1, show 0 < s.size by omega]
    · have h2 : decide ((s.size : Int) > 20) = true := decide_eq_true (by omega)
      simp [e, h2, h1, obind_some']

end Go.Proofs.Ytpkphcnebkfjdaa
