/- r30m: the iterators' contracts: what the iterator over beams hands to the rounds. r30m: what its functions answer (printed by a program), and that they do. r30m: what its functions answer (printed by a program), and that they do; part 2. Plain lemmas for what functions answer: loops, machine numbers, lists. Names: both programs know the same ones. Loops over lists: searches and tests of all elements. Loops over the elements of a list, as recursions over it. Line sets: both programs know the same valid items and bricks. Line sets: bricks, lines, and valid sets. -/
import Derived.RangeFuncBox
import Derived.RangeFuncLeaves
import Derived.Shelf.Abstract
import Derived.TacticsInMore
import Derived.LoopNIn
import Derived.LoopIn
import Derived.Laws.StructEq
import Derived.Test.YtmoiiokmfanlgaaGreatMgM

namespace Go.Proofs.YtmoiiokmfanlgaaGreat
open Tryz Dn Dn.Sh Go.RowKit
attribute [local go_sem] Oper.semAt_some
def overG (d:Int):List (ByteArray×Int×Int×Int)→Int→List (Int×Unit)
 | [],_=>[]
 | b ::r,i=>bif decide (b.2.1≤d)&&decide (d≤b.2.2.1) then (i,()) ::overG d r (i+1) else overG d r (i+1)
def overL (l:List (ByteArray×Int×Int×Int)) (d:Int):List (Int×Unit):=overG d l 0
def overP (l:List (ByteArray×Int×Int×Int)):Bool:=Nat.ble l.length 4398046511104
def overIt:ICtr:=⟨[.sl T96,i64],[i64],fun x=>overP x.1,fun x=>overL x.1 x.2.1⟩
def its:List (Nat×ICtr):=[(154,overIt)]
theorem overG_cons {d:Int} {bs:List (ByteArray×Int×Int×Int)} {k:Nat} {b:ByteArray×Int×Int×Int} (h:bs[k]?=some b) :
  overG d (bs.drop k) k=(bif decide (b.2.1≤d)&&decide (d≤b.2.2.1) then [((k:Int),())] else [])++overG d (bs.drop (k+1)) (k+1:Nat):=by
 have hk:=(List.getElem?_eq_some_iff.1 h).1
 rw[List.drop_eq_getElem_cons hk,(List.getElem?_eq_some_iff.1 h).2]
 simp only[overG]
 cases decide (b.2.1≤d)&&decide (d≤b.2.2.1)<;>simp
theorem load_in {n:Nat} {P:Program} {o:Oper} {a:Act} {t:TypeId} {x:Operand} {ad:Addr} {v:Value} {w:World} {next:Act→World→Prop} {Q:Exit→Act→World→Prop} (ho:o.op=.load t x) (hx:a.eval x=.pointer (some ad)) (hl:(loadVar t ad).run P w=.ok v w) (hn:next (a.put o.dst v) w):o.wpIn Fence.wide n P a w next Q:=by
 refine ⟨fun _ _=>trivial,?_⟩
 have:(o.semAt Fence.wide.round a.eval).run P w=.ok (.value v) w:=by
  simp[Oper.semAt,execOp,ho,hx,Instr.loadAt,Instr.sureAddr,hl]
 rw[this]
 exact hn
theorem list_skip {n:Nat} {P:Program} {ops:Array Oper} {o:Oper} {rest:List Oper} {a:Act} {w:World} {Q:Exit→Act→World→Prop} (h:Region.wanted o (yielded ops a.tmps)=false) (hn:wpListIn Fence.wide n P ops Q rest (a.put o.dst undef) w):wpListIn Fence.wide n P ops Q (o ::rest) a w:=by
 rw[wpListIn,h]
 exact ⟨fun _ _=>trivial,hn⟩
theorem ad0 (ad:Addr):ad.add 0=ad:=by rcases ad with ⟨b,o,_ | s⟩<;>rfl
set_option maxRecDepth 100000 in
set_option maxHeartbeats 8000000 in
theorem overIt_ok:ICtr.ok overIt Tryz.prog 154:=by
 unfold ICtr.ok
 rintro l ⟨bs,d,⟨⟩⟩ ads J Jx W hp hJ hX hC hH hY h0
 obtain ⟨Z,hcaps,hH⟩:=hH
 obtain ⟨ad1,ads1,rfl,⟨cs1,hd1,hc1⟩,ad2,ads2,rfl,⟨cs2,hd2,hc2⟩,rfl⟩:=hcaps
 have hreach:bs.length*8≤140737488351232:=by
  have hb:Nat.ble bs.length 4398046511104=true:=hp
  have:=Nat.le_of_ble_eq_true hb
  omega
 refine callsIn_of_wp Tryz.func154 rfl trivial ?_
 simp only[Tryz.ntmps154,List.map_cons,List.map_nil,List.size_toArray,List.length_cons,List.length_nil,Nat.reduceAdd,Nat.reduceSub,Array.replicate_succ,Array.replicate_zero,List.push_toArray,List.append_toArray,List.nil_append,List.cons_append]
 have hdat:=fun k W' hj=>hH (.sl T96) bs cs1 hd1 k W' hj
 obtain ⟨A,c,rfl,hlc,hA,hel⟩:=hd1
 have hcs:=hc1 0 _ rfl
 rw[ad0] at hcs
 gi_wp2
 gi_loopw [8] (fun i wr=>∃k:Nat,k≤bs.length∧i=.int .i64 k∧∃pre:List (Int×Unit),overL bs d=pre++overG d (bs.drop k) k∧J pre.length wr) (fun i _=>bs.length - (intOf i).toNat)
 case atStart=>exact ⟨0,Nat.zero_le _,rfl,[],rfl,h0⟩
 case round =>
  obtain ⟨k,hk,rfl,pre,hpre,hj⟩:=hrel
  by_cases hlt:k<bs.length
  ·have hbk:bs[k]?=some bs[k]:=List.getElem?_eq_getElem hlt
   generalize hbe:bs[k]=b at hbk
   obtain ⟨Z1,A1,c1,e1,q1,q2,q3⟩:=hdat _ _ hj
   simp only[List.cons.injEq,Value.slice.injEq,and_true] at e1
   obtain ⟨rfl,-,rfl⟩:=e1
   obtain ⟨ad,rfl,-,q4⟩:=q3 (by omega)
   obtain ⟨ecs,q5,q6⟩:=q4 k b hbk
   obtain ⟨name,fr,to,mo⟩:=b
   simp only[Dat] at q5
   obtain ⟨_,_,rfl,rfl,_,_,rfl,rfl,_,_,rfl,rfl,rfl⟩:=q5
   have r0:=q6 0 _ rfl
   have r1:=q6 1 _ rfl
   have r2:=q6 2 _ rfl
   have r3:=q6 3 _ rfl
   simp only[Sh.size,Nat.reduceAdd] at r0 r1 r2 r3
   have hld:(loadVar 96 (ad.add (k*4))).run prog wr=.ok (.agg #[.string name,.int .i64 fr,.int .i64 to,.int .i64 mo]) wr :=
    run_loadVar_of (ag:=true) (cs:=[.string name,.int .i64 fr,.int .i64 to,.int .i64 mo]) (by kernel_rfl) (by kernel_rfl) (fun h=>by cases h) wr fun j v hv=>by
     rw[add_add]
     exact q6 j v hv
   have hj2:=hJ _ _ _ hj (Turned.alloc wr.heap.size wr (Obj.cells #[.string name,.int .i64 fr,.int .i64 to,.int .i64 mo] 96))
   obtain ⟨Z2,g1⟩:=hC _ _ hj2
   obtain ⟨_,_,g2,-,_,_,g3,⟨cs3,g4,g5⟩,-⟩:=g1
   injection g2 with g2a g2
   subst g2a
   subst g2
   injection g3 with g3 g3b
   subst g3
   subst g3b
   simp only[Dat] at g4
   subst g4
   have hcd:=g5 0 _ rfl
   rw[ad0] at hcd
   have hov0:=overG_cons (d:=d) hbk
   dsimp only at hov0
   clear g5 hC hdat q3 q4 q6 hel
   have fin:∀pre2,overL bs d=pre2++overG d (bs.drop (k+1)) (k+1:Nat)→∀W3,J pre2.length W3→∃k2:Nat,k2≤bs.length∧Value.int .i64 ((k:Int)+1)=.int .i64 k2∧∃pre:List (Int×Unit),overL bs d=pre++overG d (bs.drop k2) k2∧J pre.length W3 :=
    fun pre2 h W3 hj3=>⟨k+1,by omega,rfl,pre2,h,hj3⟩
   by_cases h1:fr≤d
   ·by_cases h2:d≤to
    ·have hov:overL bs d=(pre++[((k:Int),())])++overG d (bs.drop (k+1)) (k+1:Nat):=by rw[hpre,hov0];simp[h1,h2]
     have fin2:∀W3,J (pre.length+1) W3→_:=fun W3 hJ3=>fin (pre++[((k:Int),())]) hov W3 (by rw[List.length_append];exact hJ3)
     obtain ⟨fn,tmps,assign,body,hy,hR⟩:=hY pre.length ((k:Int),()) [.int .i64 k] _ (by show (overL bs d)[pre.length]?=_;rw[hov];simp;rfl) hj2 (fun Z=>⟨_,_,rfl,⟨_,rfl,rfl,fun _=>rfl⟩,rfl⟩)
     clear hov hov0 hpre fin
     gi_wp2_with (refine load_in (t:=96) rfl rfl hld ?_)
     refine ⟨rfl,hR.mono ?_⟩
     rintro e W3 (⟨rfl,hJ3⟩ | ⟨rfl,hJx3⟩)
     ·gi_wp2
      go_roundw
      case rel =>
       exact fin2 W3 hJ3
      case measure=>simp[intOf];omega
     ·gi_wp2
      refine bodyPost_ret (results_none rfl _ _ _) rfl ?_
      exact ⟨⟨_,rfl⟩,.inr hJx3⟩
    ·have hov:overL bs d=pre++overG d (bs.drop (k+1)) (k+1:Nat):=by rw[hpre,hov0];simp[h1,h2]
     have fin2:=fin pre hov _ hj2
     clear hov hov0 hpre fin
     gi_wp2_with (first | refine load_in (t:=96) rfl rfl hld ?_ | (refine list_skip rfl ?_;go_simp))
     exact ⟨⟨_,_,_,fin2,rfl,rfl,rfl⟩,by simp[intOf];omega⟩
   ·have hov:overL bs d=pre++overG d (bs.drop (k+1)) (k+1:Nat):=by rw[hpre,hov0];simp[h1]
    have fin2:=fin pre hov _ hj2
    clear hov hov0 hpre fin
    gi_wp2_with (first | refine load_in (t:=96) rfl rfl hld ?_ | (refine list_skip rfl ?_;go_simp))
    exact ⟨⟨_,_,_,fin2,rfl,rfl,rfl⟩,by simp[intOf];omega⟩
  ·obtain rfl:k=bs.length:=by omega
   gi_wp2
   go_end0
   refine ⟨⟨_,rfl⟩,.inl ?_⟩
   show J (overL bs d).length _
   rw[hpre,List.drop_length]
   simpa [overG] using hj
theorem itsOk:ItsOk Tryz.prog its:=itsOk_cons (by kernel_rfl) overIt_ok itsOk_nil
end Go.Proofs.YtmoiiokmfanlgaaGreat

namespace Go.Proofs.YtmoiiokmfanlgaaGreat
open Tryz Dn Dn.Sh
set_option maxRecDepth 100000
theorem hmix:prog.follows .mixedOrders=true:=by kernel_rfl
theorem inlsOk:inlOk prog inls=true:=by kernel_rfl
theorem q0:(ctxOf prog shs inls its [] []).ok:=ctxOf_nil inlsOk itsOk
noncomputable def bits_Mul64_b (_:Lp) (_:Jn) (x0:Int) (x1:Int):Option (Int×Int×Unit) :=
 
 let v4:Int:=(2:Int) ^ (32:Nat);
 let v5:Int:=Int.fdiv x0 v4;
 let v6:Int:=Int.fdiv x1 v4;
 let v7:Bool:=decide ((0:Int)≤(32:Int));
 let v8:Int:=IntKind.wrap .u64 (↑(Nat.land (Int.toNat (x1 % Int.ofNat (18446744073709551616:Nat))) (Int.toNat ((4294967295:Int) % Int.ofNat (18446744073709551616:Nat)))) :
  Int);
 let v9:Int:=IntKind.wrap .u64 (↑(Nat.land (Int.toNat (x0 % Int.ofNat (18446744073709551616:Nat))) (Int.toNat ((4294967295:Int) % Int.ofNat (18446744073709551616:Nat)))) :
  Int);
 let v10:Int:=IntKind.wrap .u64 (IntKind.wrap .u64 (v5*v8)+Int.fdiv (IntKind.wrap .u64 (v9*v8)) v4);bif v7 then bif v7 then bif v7 then bif v7 then bif v7
  then some (IntKind.wrap .u64 (IntKind.wrap .u64 (IntKind.wrap .u64 (v5*v6)+Int.fdiv v10 v4)+Int.fdiv (IntKind.wrap .u64 (IntKind.wrap .u64
  (↑(Nat.land (Int.toNat (v10 % Int.ofNat (18446744073709551616:Nat))) (Int.toNat ((4294967295:Int) % Int.ofNat (18446744073709551616:Nat)))):Int)+IntKind.wrap .u64 (v9 *
  v6))) v4),IntKind.wrap .u64 (x0*x1),PUnit.unit) else none else none else none else none else none
noncomputable def bits_Mul64 (x0:Int) (x1:Int):Option (Int×Int×Unit):=bits_Mul64_b lpK jnK x0 x1
noncomputable def c136:Ctr:=⟨[(.int .u64),(.int .u64)],[],[],.tup [(.int .u64),(.int .u64)],fun x _ _=>bits_Mul64 x.1 x.2.1⟩
theorem e136 (lp:Lp) (jn:Jn):∀(x:TsS c136.as) (F:TsF c136.fs) (y:TsS c136.cs),bits_Mul64_b lp jn x.1 x.2.1=runC lp jn (ctxOf prog shs inls its [] []) hints 4 136 f136 c136 x F y:=fun x F y=>by kernel_rfl
theorem l136:(ctxOf prog shs inls its [] []).ok:=q0
theorem ok136:c136.ok prog 136:=Ctr.of_den l136 hmix (hl:=hints) (d:=4) func136 rfl (by decide) (e136 lpK jnK)
noncomputable def bits_Mul32_b (_:Lp) (_:Jn) (x0:Int) (x1:Int):Option (Int×Int×Unit) :=
 
 let v4:Int:=IntKind.wrap .u64 (IntKind.wrap .u64 x0*IntKind.wrap .u64 x1);bif decide ((0:Int)≤(32:Int)) then some (IntKind.wrap IntKind.u32 (Int.fdiv v4
  ((2:Int) ^ (32:Nat))),IntKind.wrap IntKind.u32 v4,PUnit.unit) else none
noncomputable def bits_Mul32 (x0:Int) (x1:Int):Option (Int×Int×Unit):=bits_Mul32_b lpK jnK x0 x1
noncomputable def c160:Ctr:=⟨[(.int .u32),(.int .u32)],[],[],.tup [(.int .u32),(.int .u32)],fun x _ _=>bits_Mul32 x.1 x.2.1⟩
theorem e160 (lp:Lp) (jn:Jn):∀(x:TsS c160.as) (F:TsF c160.fs) (y:TsS c160.cs),bits_Mul32_b lp jn x.1 x.2.1=runC lp jn (ctxOf prog shs inls its [] []) hints 4 160 f160 c160 x F y:=fun x F y=>by kernel_rfl
theorem l160:(ctxOf prog shs inls its [] []).ok:=q0
theorem ok160:c160.ok prog 160:=Ctr.of_den l160 hmix (hl:=hints) (d:=4) func160 rfl (by decide) (e160 lpK jnK)
noncomputable def bits_Mul_b (_:Lp) (_:Jn) (bits_Mul64:(Int)→(Int)→Option (Int×Int×Unit)) (_:(Int)→(Int)→Option (Int×Int×Unit)) (x0:Int) (x1:Int):Option (Int×Int×Unit) :=
 obind (bits_Mul64 x0 x1) fun (t:Int×Int×PUnit)=>some (t.1,t.2.1,PUnit.unit)
noncomputable def bits_Mul (x0:Int) (x1:Int):Option (Int×Int×Unit):=bits_Mul_b lpK jnK bits_Mul64 bits_Mul32 x0 x1
noncomputable def c153:Ctr:=⟨[(.int .u64),(.int .u64)],[],[],.tup [(.int .u64),(.int .u64)],fun x _ _=>bits_Mul x.1 x.2.1⟩
theorem e153 (lp:Lp) (jn:Jn) (bits_Mul64:(Int)→(Int)→Option (Int×Int×Unit)) (bits_Mul32:(Int)→(Int)→Option (Int×Int×Unit)):∀(x:TsS c153.as) (F:TsF c153.fs) (y:TsS c153.cs),bits_Mul_b lp jn bits_Mul64 bits_Mul32 x.1 x.2.1=runC lp jn (ctxOf prog shs inls its [(160,⟨[(.int .u32),(.int .u32)],[],[],.tup [(.int .u32),(.int .u32)],fun x _ _=>bits_Mul32 x.1 x.2.1⟩),(136,⟨[(.int .u64),(.int .u64)],[],[],.tup [(.int .u64),(.int .u64)],fun x _ _=>bits_Mul64 x.1 x.2.1⟩)] []) hints 4 153 f153 c153 x F y:=fun x F y=>by kernel_rfl
theorem l153:(ctxOf prog shs inls its [(160,c160),(136,c136)] []).ok:=ctxOf_cons (ctxOf_cons (q0) (by kernel_rfl) ok136) (by kernel_rfl) ok160
theorem ok153:c153.ok prog 153:=Ctr.of_den l153 hmix (hl:=hints) (d:=4) func153 rfl (by decide) (e153 lpK jnK bits_Mul64 bits_Mul32)
noncomputable def slices_Repeat_119_b (lp:Lp) (jn:Jn) (bits_Mul:(Int)→(Int)→Option (Int×Int×Unit)) (x0:List (Int×Int)) (x1:Int):Option (List (Int×Int)) :=
 jn PUnit (List (Int×Int)) (fun (_:PUnit)=>obind (bits_Mul (IntKind.wrap .u64 (↑(List.length x0):Int)) (IntKind.wrap .u64 x1)) fun (t:Int×Int×PUnit) =>
 let v6:List (Int×Int):=List.take (Int.toNat (IntKind.wrap .i64 t.2.1)) x0;
 let v7:Bool:=decide (t.1>(0:Int));
 let v8:Bool:=!v7;
 let v9:List (Int×Int):=List.replicate (Int.toNat (IntKind.wrap .i64 t.2.1)) ((0:Int),(0:Int));bif !v8||v8 then bif v7||v8 then jn PUnit (List (Int×Int)) (fun
  (_:PUnit)=>bif decide ((0:Int)≤IntKind.wrap .i64 t.2.1)&&fitB (Int.toNat (IntKind.wrap .i64 t.2.1)) (16:Nat) then lp (Int×List (Int×Int)×PUnit)
  (List (Int×Int)) (fun (again:Int×List (Int×Int)×PUnit→Option (List (Int×Int))) (x:Int×List (Int×Int)×PUnit) =>
 let v13:List (Int×Int):=List.take (Int.toNat x.1) x.2.1;
 let v14:List (Int×Int):=List.take (Int.toNat (↑(List.length x.2.1):Int) - Int.toNat x.1) (List.drop (0:Nat) v13);bif decide (x.1<(↑(List.length x.2.1):Int))
  then bif slB x.1 (↑(List.length x.2.1):Int) (List.length x.2.1) then bif slB (0:Int) x.1 (List.length x.2.1) then bif Nat.ble (Int.toNat x.1) (Int.toNat
  (↑(List.length x.2.1):Int))&&(Nat.ble (Int.toNat (↑(List.length x.2.1):Int)) (List.length x.2.1)&&Nat.ble (Int.toNat x.1) (List.length x.2.1)) then again
  (IntKind.wrap .i64 (x.1+(↑(List.length v14):Int)),v13++v14++List.drop (Int.toNat x.1+List.length v14) x.2.1,PUnit.unit) else none else none else none else
  some x.2.1) ((↑(List.length v6):Int),List.take (0:Nat) v9++v6++List.drop ((0:Nat)+List.length v6) v9,PUnit.unit) else none) fun (j:PUnit→Option (List (Int×Int)))
  =>bif bif v7 then true else decide (t.2.1>(9223372036854775807:Int)) then none else j PUnit.unit else none else none) fun (j:PUnit→Option (List (Int×Int)))=>bif decide
  (x1<(0:Int)) then none else j PUnit.unit
noncomputable def slices_Repeat_119 (x0:List (Int×Int)) (x1:Int):Option (List (Int×Int)):=slices_Repeat_119_b lpK jnK bits_Mul x0 x1
theorem l119:(ctxOf prog shs inls its [(153,c153)] []).ok:=ctxOf_cons (q0) (by kernel_rfl) ok153
noncomputable def r119:RCtr:=⟨[(.sl T36),i64],36,T36,fun x=>slices_Repeat_119 x.1 x.2.1⟩
theorem e119 (lp:Lp) (jn:Jn) (bits_Mul:(Int)→(Int)→Option (Int×Int×Unit)):∀x:TsS r119.as,slices_Repeat_119_b lp jn bits_Mul x.1 x.2.1=runR lp jn (ctxOf prog shs inls its [(153,⟨[(.int .u64),(.int .u64)],[],[],.tup [(.int .u64),(.int .u64)],fun x _ _=>bits_Mul x.1 x.2.1⟩)] []) hints 4 119 f119 r119.t r119.e (initS r119.as x 0):=fun x=>by kernel_rfl
theorem okr119:r119.ok prog 119:=RCtr.of_den (c:=r119) l119 hmix (hl:=hints) (d:=4) func119 rfl (by decide) (e119 lpK jnK bits_Mul)
theorem q119:(ctxOf prog shs inls its [] [(119,r119)]).ok:=ctxOf_row q0 (by kernel_rfl) okr119
noncomputable def decimal_letter_b (_:Lp) (_:Jn) (x0:Int):Option Bool :=
 
 let v3:Bool:=decide (x0≥(97:Int));
 let v4:Bool:=decide (x0≥(65:Int));
 let v5:Bool:=!v3||v3;
 let v6:Bool:=bif v3 then decide (x0≤(122:Int)) else false;
 let v7:Bool:=!v6;
 let v8:Bool:=!v7;
 let v9:Bool:=v7&&v4;
 let v10:Bool:=v8||v7;bif v5 then bif v5 then bif v10 then bif v10 then bif !v9||v9 then bif (v8||v10)&&(v8||(!v4||(v8||v9))) then bif v6||v7 then some (bif v6 then
  true else bif v4 then decide (x0≤(90:Int)) else false) else none else none else none else none else none else none else none
noncomputable def decimal_letter (x0:Int):Option Bool:=decimal_letter_b lpK jnK x0
noncomputable def c106:Ctr:=⟨[(.int .u8)],[],[],.one .bool,fun x _ _=>decimal_letter x.1⟩
theorem e106 (lp:Lp) (jn:Jn):∀(x:TsS c106.as) (F:TsF c106.fs) (y:TsS c106.cs),decimal_letter_b lp jn x.1=runC lp jn (ctxOf prog shs inls its [] [(119,r119)]) hints 4 106 f106 c106 x F y:=fun x F y=>by kernel_rfl
theorem l106:(ctxOf prog shs inls its [] [(119,r119)]).ok:=q119
theorem ok106:c106.ok prog 106:=Ctr.of_den l106 hmix (hl:=hints) (d:=4) func106 rfl (by decide) (e106 lpK jnK)
noncomputable def decimal_digit_b (_:Lp) (_:Jn) (x0:Int):Option Bool :=
 
 let v3:Bool:=decide (x0≥(48:Int));
 let v4:Bool:=!v3||v3;bif v4 then bif v4 then some (bif v3 then decide (x0≤(57:Int)) else false) else none else none
noncomputable def decimal_digit (x0:Int):Option Bool:=decimal_digit_b lpK jnK x0
noncomputable def c150:Ctr:=⟨[(.int .u8)],[],[],.one .bool,fun x _ _=>decimal_digit x.1⟩
theorem e150 (lp:Lp) (jn:Jn):∀(x:TsS c150.as) (F:TsF c150.fs) (y:TsS c150.cs),decimal_digit_b lp jn x.1=runC lp jn (ctxOf prog shs inls its [] [(119,r119)]) hints 4 150 f150 c150 x F y:=fun x F y=>by kernel_rfl
theorem l150:(ctxOf prog shs inls its [] [(119,r119)]).ok:=q119
theorem ok150:c150.ok prog 150:=Ctr.of_den l150 hmix (hl:=hints) (d:=4) func150 rfl (by decide) (e150 lpK jnK)
noncomputable def decimal_word_b (lp:Lp) (_:Jn) (decimal_letter:(Int)→Option (Bool)) (decimal_digit:(Int)→Option (Bool)) (x0:ByteArray):Option Int :=
 lp (Int×PUnit) Int (fun (again:Int×PUnit→Option Int) (x:Int×PUnit) =>
 let v5:Bool:=inB x.1 (ByteArray.size x0);
 let v6:Int:=byteAt x0 (Int.toNat x.1);
 let v7:Bool:=decide (x.1<(↑(ByteArray.size x0):Int));
 let v8:Bool:=!v7;
 let v9:Bool:=v8||v7;
 let v10:Bool:=v8||v9;bif v9&&(v9&&(v8||v5)) then bif v9 then obind (bif v7 then decimal_letter v6 else some false) fun (t:Bool) =>
 let v12:Bool:=v7&&!t;
 let v13:Bool:=!v12;
 let v14:Bool:=v13||v12;bif v9 then bif v14&&(v14&&(v13||v5)) then bif v14 then obind (bif v12 then decimal_digit v6 else some false) fun (t_1:Bool) =>
 let v16:Bool:=bif t then true else t_1;
 let v17:Bool:=v7&&!v16;
 let v18:Bool:=!v17;
 let v19:Bool:=v18||v17;bif v10&&(v8||(t||(v8||v12))) then bif v9 then bif v19&&(v19&&(v18||v5)) then bif v19 then bif v10&&(v8||(v16||(v8||v17))) then bif v9
  then bif bif v7 then bif v16 then true else decide (v6=(95:Int)) else false then again (IntKind.wrap .i64 (x.1+(1:Int)),PUnit.unit) else some x.1 else none else none
  else none else none else none else none else none else none else none else none else none) ((0:Int),PUnit.unit)
noncomputable def decimal_word (x0:ByteArray):Option Int:=decimal_word_b lpK jnK decimal_letter decimal_digit x0
noncomputable def c107:Ctr:=⟨[.str],[],[],.one i64,fun x _ _=>decimal_word x.1⟩
theorem e107 (lp:Lp) (jn:Jn) (decimal_letter:(Int)→Option (Bool)) (decimal_digit:(Int)→Option (Bool)):∀(x:TsS c107.as) (F:TsF c107.fs) (y:TsS c107.cs),decimal_word_b lp jn decimal_letter decimal_digit x.1=runC lp jn (ctxOf prog shs inls its [(150,⟨[(.int .u8)],[],[],.one .bool,fun x _ _=>decimal_digit x.1⟩),(106,⟨[(.int .u8)],[],[],.one .bool,fun x _ _=>decimal_letter x.1⟩)] [(119,r119)]) hints 4 107 f107 c107 x F y:=fun x F y=>by kernel_rfl
theorem l107:(ctxOf prog shs inls its [(150,c150),(106,c106)] [(119,r119)]).ok:=ctxOf_cons (ctxOf_cons (q119) (by kernel_rfl) ok106) (by kernel_rfl) ok150
theorem ok107:c107.ok prog 107:=Ctr.of_den l107 hmix (hl:=hints) (d:=4) func107 rfl (by decide) (e107 lpK jnK decimal_letter decimal_digit)
noncomputable def decimal_IsName_b (_:Lp) (_:Jn) (decimal_letter:(Int)→Option (Bool)) (decimal_word:(ByteArray)→Option (Int)) (x0:ByteArray):Option Bool :=
 
 let v3:Bool:=!List.beq (ByteArray.toList x0) (ByteArray.toList { data:=#[] });
 let v4:Bool:=!v3||v3;
 let v5:Bool:=bif v3 then decide ((↑(ByteArray.size x0):Int)≤(20:Int)) else false;
 let v6:Bool:=!v5;
 let v7:Bool:=v6||v5;bif v4 then bif v4 then bif v4 then bif v7&&(v6||inB (0:Int) (ByteArray.size x0)) then bif v7 then obind (bif v5 then decimal_letter (byteAt x0 (0:Nat))
  else some false) fun (t:Bool) =>
 let v9:Bool:=bif v5 then t else false;
 let v10:Bool:=!v9||v9;bif v7 then bif v10 then obind (bif v9 then decimal_word x0 else some (0:Int)) fun (t:Int)=>bif v10 then bif v10&&v10 then bif v10 then some (bif v9
  then decide (t=(↑(ByteArray.size x0):Int)) else false) else none else none else none else none else none else none else none else none else none else none
noncomputable def decimal_IsName (x0:ByteArray):Option Bool:=decimal_IsName_b lpK jnK decimal_letter decimal_word x0
noncomputable def c64:Ctr:=⟨[.str],[],[],.one .bool,fun x _ _=>decimal_IsName x.1⟩
theorem e64 (lp:Lp) (jn:Jn) (decimal_letter:(Int)→Option (Bool)) (decimal_word:(ByteArray)→Option (Int)):∀(x:TsS c64.as) (F:TsF c64.fs) (y:TsS c64.cs),decimal_IsName_b lp jn decimal_letter decimal_word x.1=runC lp jn (ctxOf prog shs inls its [(107,⟨[.str],[],[],.one i64,fun x _ _=>decimal_word x.1⟩),(106,⟨[(.int .u8)],[],[],.one .bool,fun x _ _=>decimal_letter x.1⟩)] [(119,r119)]) hints 4 64 f64 c64 x F y:=fun x F y=>by kernel_rfl
theorem l64:(ctxOf prog shs inls its [(107,c107),(106,c106)] [(119,r119)]).ok:=ctxOf_cons (ctxOf_cons (q119) (by kernel_rfl) ok106) (by kernel_rfl) ok107
theorem ok64:c64.ok prog 64:=Ctr.of_den l64 hmix (hl:=hints) (d:=4) func64 rfl (by decide) (e64 lpK jnK decimal_letter decimal_word)
noncomputable def batten_between_b (_:Lp) (_:Jn) (x0:Int) (x1:Int) (x2:Int):Option Bool :=
 
 let v5:Bool:=decide (x0≥x1);
 let v6:Bool:=!v5||v5;bif v6&&v6 then bif v6 then some (bif v5 then decide (x0≤x2) else false) else none else none
noncomputable def batten_between (x0:Int) (x1:Int) (x2:Int):Option Bool:=batten_between_b lpK jnK x0 x1 x2
noncomputable def c99:Ctr:=⟨[i64,i64,i64],[],[],.one .bool,fun x _ _=>batten_between x.1 x.2.1 x.2.2.1⟩
theorem e99 (lp:Lp) (jn:Jn):∀(x:TsS c99.as) (F:TsF c99.fs) (y:TsS c99.cs),batten_between_b lp jn x.1 x.2.1 x.2.2.1=runC lp jn (ctxOf prog shs inls its [] [(119,r119)]) hints 4 99 f99 c99 x F y:=fun x F y=>by kernel_rfl
theorem l99:(ctxOf prog shs inls its [] [(119,r119)]).ok:=q119
theorem ok99:c99.ok prog 99:=Ctr.of_den l99 hmix (hl:=hints) (d:=4) func99 rfl (by decide) (e99 lpK jnK)
noncomputable def batten_lines_b (lp:Lp) (_:Jn) (batten_between:(Int)→(Int)→(Int)→Option (Bool)) (x0:List Int) (x1:Int):Option Bool :=
 obind (batten_between (↑(List.length x0):Int) (2:Int) (10:Int)) fun (t:Bool) =>
 let v5:Bool:=!t;
 let v6:Bool:=!v5;
 let v7:Bool:=!v6;
 let v8:Bool:=v7||v6;
 let v9:Bool:=bif v5 then true else decide (List.getD x0 (0:Nat) (0:Int)<(0:Int));
 let v10:Bool:=!v9;
 let v11:Bool:=!v10;
 let v12:Bool:=v11||v10;bif v8&&(v7||inB (0:Int) (List.length x0)) then bif v8 then bif v8 then bif v5||v6 then bif v12 then bif v12 then bif v12&&(v12&&(v11||inB
  (IntKind.wrap .i64 ((↑(List.length x0):Int) - (1:Int))) (List.length x0))) then bif v12 then bif v12&&v12 then bif v9||v10 then bif bif v9 then true else decide
  (List.getD x0 (Int.toNat (IntKind.wrap .i64 ((↑(List.length x0):Int) - (1:Int)))) (0:Int)>x1) then some false else lp (Int×PUnit) Bool (fun (again:Int×PUnit →
  Option Bool) (x:Int×PUnit)=>bif decide (x.1<(↑(List.length x0):Int)) then bif inB x.1 (List.length x0) then bif inB (IntKind.wrap .i64 (x.1 - (1:Int)))
  (List.length x0) then bif decide (List.getD x0 (Int.toNat x.1) (0:Int)≤List.getD x0 (Int.toNat (IntKind.wrap .i64 (x.1 - (1:Int)))) (0:Int)) then some false else
  again (IntKind.wrap .i64 (x.1+(1:Int)),PUnit.unit) else none else none else some true) ((1:Int),PUnit.unit) else none else none else none else none else none else none
  else none else none else none else none
noncomputable def batten_lines (x0:List Int) (x1:Int):Option Bool:=batten_lines_b lpK jnK batten_between x0 x1
noncomputable def c100:Ctr:=⟨[(.sl i64),i64],[],[],.one .bool,fun x _ _=>batten_lines x.1 x.2.1⟩
theorem e100 (lp:Lp) (jn:Jn) (batten_between:(Int)→(Int)→(Int)→Option (Bool)):∀(x:TsS c100.as) (F:TsF c100.fs) (y:TsS c100.cs),batten_lines_b lp jn batten_between x.1 x.2.1=runC lp jn (ctxOf prog shs inls its [(99,⟨[i64,i64,i64],[],[],.one .bool,fun x _ _=>batten_between x.1 x.2.1 x.2.2.1⟩)] [(119,r119)]) hints 4 100 f100 c100 x F y:=fun x F y=>by kernel_rfl
theorem l100:(ctxOf prog shs inls its [(99,c99)] [(119,r119)]).ok:=ctxOf_cons (q119) (by kernel_rfl) ok99
theorem ok100:c100.ok prog 100:=Ctr.of_den l100 hmix (hl:=hints) (d:=4) func100 rfl (by decide) (e100 lpK jnK batten_between)
noncomputable def batten_twice_140_b (lp:Lp) (_:Jn) (x0:List (ByteArray×Int×Int×Int×Int×Int×Int)) (f0:(((ByteArray×Int×Int×Int×Int×Int×Int)×Unit)→Option ByteArray)):Option Bool :=
 lp (Int×List ByteArray×PUnit) Bool (fun (again:Int×List ByteArray×PUnit→Option Bool) (x:Int×List ByteArray×PUnit)=>bif decide (x.1<(↑(List.length x0):Int)) then
  bif inB x.1 (List.length x0) then obind (f0 (List.getD x0 (Int.toNat x.1) ({ data:={ toList:=[] } },(0:Int),(0:Int),(0:Int),(0:Int),(0:Int),(0:Int)),
  PUnit.unit)) fun (t:ByteArray)=>again (IntKind.wrap .i64 (x.1+(1:Int)),addK str t x.2.1,PUnit.unit) else none else some (decide ((↑(List.length x.2.1):Int)
  < (↑(List.length x0):Int)))) ((0:Int),[],PUnit.unit)
noncomputable def batten_twice_140 (x0:List (ByteArray×Int×Int×Int×Int×Int×Int)) (f0:(((ByteArray×Int×Int×Int×Int×Int×Int)×Unit)→Option ByteArray)):Option Bool:=batten_twice_140_b lpK jnK x0 f0
noncomputable def c140:Ctr:=⟨[(.sl T48)],[([T48],.str)],[],.one .bool,fun x F _=>batten_twice_140 x.1 F.1⟩
theorem e140 (lp:Lp) (jn:Jn):∀(x:TsS c140.as) (F:TsF c140.fs) (y:TsS c140.cs),batten_twice_140_b lp jn x.1 F.1=runC lp jn (ctxOf prog shs inls its [] [(119,r119)]) hints 4 140 f140 c140 x F y:=fun x F y=>by kernel_rfl
theorem l140:(ctxOf prog shs inls its [] [(119,r119)]).ok:=q119
theorem ok140:c140.ok prog 140:=Ctr.of_den l140 hmix (hl:=hints) (d:=4) func140 rfl (by decide) (e140 lpK jnK)
noncomputable def batten_items_1_b (_:Lp) (_:Jn) (x0:ByteArray×Int×Int×Int×Int×Int×Int):Option ByteArray :=
 some x0.1
noncomputable def batten_items_1 (x0:ByteArray×Int×Int×Int×Int×Int×Int):Option ByteArray:=batten_items_1_b lpK jnK x0
noncomputable def c141:Ctr:=⟨[T48],[],[],.one .str,fun x _ _=>batten_items_1 x.1⟩
theorem e141 (lp:Lp) (jn:Jn):∀(x:TsS c141.as) (F:TsF c141.fs) (y:TsS c141.cs),batten_items_1_b lp jn x.1=runC lp jn (ctxOf prog shs inls its [] [(119,r119)]) hints 4 141 f141 c141 x F y:=fun x F y=>by kernel_rfl
theorem l141:(ctxOf prog shs inls its [] [(119,r119)]).ok:=q119
theorem ok141:c141.ok prog 141:=Ctr.of_den l141 hmix (hl:=hints) (d:=4) func141 rfl (by decide) (e141 lpK jnK)
noncomputable def batten_alone_b (_:Lp) (_:Jn) (decimal_IsName:(ByteArray)→Option (Bool)) (batten_between:(Int)→(Int)→(Int)→Option (Bool)) (x0:ByteArray×Int×Int×Int×Int×Int×Int):Option Bool :=
 obind (decimal_IsName x0.1) fun (t:Bool) =>
 let v4:Bool:=!t||t;bif v4 then bif v4 then obind (bif t then batten_between x0.2.2.2.1 (0:Int) (1048576:Int) else some false) fun (t_1:Bool) =>
 let v6:Bool:=bif t then t_1 else false;
 let v7:Bool:=!v6||v6;bif v4 then bif v7 then bif v7 then obind (bif v6 then batten_between x0.2.2.2.2.1 (0:Int) (1048576:Int) else some false) fun (t:Bool) =>
 let v9:Bool:=bif v6 then t else false;
 let v10:Bool:=!v9||v9;bif v7 then bif v10 then bif v10 then obind (bif v9 then batten_between x0.2.2.2.2.2.1 (0:Int) (1048576:Int) else some false) fun (t:Bool) =>
 let v12:Bool:=bif v9 then t else false;
 let v13:Bool:=!v12||v12;bif v10 then bif v13 then bif v13 then obind (bif v12 then batten_between x0.2.2.2.2.2.2 (0:Int) (1048576:Int) else some false) fun (t :
  Bool)=>bif v13 then some (bif v12 then t else false) else none else none else none else none else none else none else none else none else none else none else none else none
noncomputable def batten_alone (x0:ByteArray×Int×Int×Int×Int×Int×Int):Option Bool:=batten_alone_b lpK jnK decimal_IsName batten_between x0
noncomputable def c142:Ctr:=⟨[T48],[],[],.one .bool,fun x _ _=>batten_alone x.1⟩
theorem e142 (lp:Lp) (jn:Jn) (decimal_IsName:(ByteArray)→Option (Bool)) (batten_between:(Int)→(Int)→(Int)→Option (Bool)):∀(x:TsS c142.as) (F:TsF c142.fs) (y:TsS c142.cs),batten_alone_b lp jn decimal_IsName batten_between x.1=runC lp jn (ctxOf prog shs inls its [(99,⟨[i64,i64,i64],[],[],.one .bool,fun x _ _=>batten_between x.1 x.2.1 x.2.2.1⟩),(64,⟨[.str],[],[],.one .bool,fun x _ _=>decimal_IsName x.1⟩)] [(119,r119)]) hints 4 142 f142 c142 x F y:=fun x F y=>by kernel_rfl
theorem l142:(ctxOf prog shs inls its [(99,c99),(64,c64)] [(119,r119)]).ok:=ctxOf_cons (ctxOf_cons (q119) (by kernel_rfl) ok64) (by kernel_rfl) ok99
theorem ok142:c142.ok prog 142:=Ctr.of_den l142 hmix (hl:=hints) (d:=4) func142 rfl (by decide) (e142 lpK jnK decimal_IsName batten_between)
noncomputable def batten_inside_b (_:Lp) (_:Jn) (batten_between:(Int)→(Int)→(Int)→Option (Bool)) (x0:ByteArray×Int×Int×Int×Int×Int×Int) (x1:Int):Option Bool :=
 
 let v4:Bool:=decide (x0.2.1≥(0:Int));
 let v5:Bool:=!v4||v4;bif v5 then bif v5 then obind (bif v4 then batten_between x0.2.2.1 (1:Int) (1048576:Int) else some false) fun (t:Bool) =>
 let v7:Bool:=bif v4 then t else false;
 let v8:Bool:=!v7||v7;
 let v9:Bool:=v8&&v8;bif v5 then bif v8 then bif v8 then bif v9 then bif v9 then bif v8 then some (bif v7 then decide (x0.2.1≤IntKind.wrap .i64 (x1 - x0.2.2.1))
  else false) else none else none else none else none else none else none else none else none
noncomputable def batten_inside (x0:ByteArray×Int×Int×Int×Int×Int×Int) (x1:Int):Option Bool:=batten_inside_b lpK jnK batten_between x0 x1
noncomputable def c143:Ctr:=⟨[T48,i64],[],[],.one .bool,fun x _ _=>batten_inside x.1 x.2.1⟩
theorem e143 (lp:Lp) (jn:Jn) (batten_between:(Int)→(Int)→(Int)→Option (Bool)):∀(x:TsS c143.as) (F:TsF c143.fs) (y:TsS c143.cs),batten_inside_b lp jn batten_between x.1 x.2.1=runC lp jn (ctxOf prog shs inls its [(99,⟨[i64,i64,i64],[],[],.one .bool,fun x _ _=>batten_between x.1 x.2.1 x.2.2.1⟩)] [(119,r119)]) hints 4 143 f143 c143 x F y:=fun x F y=>by kernel_rfl
theorem l143:(ctxOf prog shs inls its [(99,c99)] [(119,r119)]).ok:=ctxOf_cons (q119) (by kernel_rfl) ok99
theorem ok143:c143.ok prog 143:=Ctr.of_den l143 hmix (hl:=hints) (d:=4) func143 rfl (by decide) (e143 lpK jnK batten_between)
noncomputable def slices_IndexFunc_159_b (lp:Lp) (_:Jn) (x0:List (ByteArray×Int×Int×Int×Int×Int×Int)) (f0:(((ByteArray×Int×Int×Int×Int×Int×Int)×Unit)→Option Bool)):Option Int :=
 lp (Int×PUnit) Int (fun (again:Int×PUnit→Option Int) (x:Int×PUnit)=>bif decide (x.1<(↑(List.length x0):Int)) then bif inB x.1 (List.length x0) then obind (f0
  (List.getD x0 (Int.toNat x.1) ({ data:={ toList:=[] } },(0:Int),(0:Int),(0:Int),(0:Int),(0:Int),(0:Int)),PUnit.unit)) fun (t:Bool)=>bif t then some x.1
  else again (IntKind.wrap .i64 (x.1+(1:Int)),PUnit.unit) else none else some (-1:Int)) ((0:Int),PUnit.unit)
noncomputable def slices_IndexFunc_159 (x0:List (ByteArray×Int×Int×Int×Int×Int×Int)) (f0:(((ByteArray×Int×Int×Int×Int×Int×Int)×Unit)→Option Bool)):Option Int:=slices_IndexFunc_159_b lpK jnK x0 f0
noncomputable def c159:Ctr:=⟨[(.sl T48)],[([T48],.bool)],[],.one i64,fun x F _=>slices_IndexFunc_159 x.1 F.1⟩
theorem e159 (lp:Lp) (jn:Jn):∀(x:TsS c159.as) (F:TsF c159.fs) (y:TsS c159.cs),slices_IndexFunc_159_b lp jn x.1 F.1=runC lp jn (ctxOf prog shs inls its [] [(119,r119)]) hints 4 159 f159 c159 x F y:=fun x F y=>by kernel_rfl
theorem l159:(ctxOf prog shs inls its [] [(119,r119)]).ok:=q119
theorem ok159:c159.ok prog 159:=Ctr.of_den l159 hmix (hl:=hints) (d:=4) func159 rfl (by decide) (e159 lpK jnK)
noncomputable def slices_ContainsFunc_144_b (_:Lp) (_:Jn) (slices_IndexFunc_159:(List (ByteArray×Int×Int×Int×Int×Int×Int))→((((ByteArray×Int×Int×Int×Int×Int×Int)×Unit)→Option Bool))→Option (Int)) (x0:List (ByteArray×Int×Int×Int×Int×Int×Int)) (f0:(((ByteArray×Int×Int×Int×Int×Int×Int)×Unit)→Option Bool)):Option Bool :=
 obind (slices_IndexFunc_159 x0 f0) fun (t:Int)=>some (decide (t≥(0:Int)))
noncomputable def slices_ContainsFunc_144 (x0:List (ByteArray×Int×Int×Int×Int×Int×Int)) (f0:(((ByteArray×Int×Int×Int×Int×Int×Int)×Unit)→Option Bool)):Option Bool:=slices_ContainsFunc_144_b lpK jnK slices_IndexFunc_159 x0 f0
noncomputable def c144:Ctr:=⟨[(.sl T48)],[([T48],.bool)],[],.one .bool,fun x F _=>slices_ContainsFunc_144 x.1 F.1⟩
theorem e144 (lp:Lp) (jn:Jn) (slices_IndexFunc_159:(List (ByteArray×Int×Int×Int×Int×Int×Int))→((((ByteArray×Int×Int×Int×Int×Int×Int)×Unit)→Option Bool))→Option (Int)):∀(x:TsS c144.as) (F:TsF c144.fs) (y:TsS c144.cs),slices_ContainsFunc_144_b lp jn slices_IndexFunc_159 x.1 F.1=runC lp jn (ctxOf prog shs inls its [(159,⟨[(.sl T48)],[([T48],.bool)],[],.one i64,fun x F _=>slices_IndexFunc_159 x.1 F.1⟩)] [(119,r119)]) hints 4 144 f144 c144 x F y:=fun x F y=>by kernel_rfl
theorem l144:(ctxOf prog shs inls its [(159,c159)] [(119,r119)]).ok:=ctxOf_cons (q119) (by kernel_rfl) ok159
theorem ok144:c144.ok prog 144:=Ctr.of_den l144 hmix (hl:=hints) (d:=4) func144 rfl (by decide) (e144 lpK jnK slices_IndexFunc_159)
noncomputable def batten_apart_b (_:Lp) (_:Jn) (x0:ByteArray×Int×Int×Int×Int×Int×Int) (x1:ByteArray×Int×Int×Int×Int×Int×Int):Option Bool :=
 
 let v4:Bool:=decide (IntKind.wrap .i64 (x0.2.1+x0.2.2.1)≤x1.2.1);
 let v5:Bool:=!v4;
 let v6:Bool:=!v5||v5;
 let v7:Bool:=v6&&v6;bif v6 then bif v6 then bif v7 then bif v6 then bif v7 then bif v4||v5 then some (bif v4 then true else decide (IntKind.wrap .i64 (x1.2.1 +
  x1.2.2.1)≤x0.2.1)) else none else none else none else none else none else none
noncomputable def batten_apart (x0:ByteArray×Int×Int×Int×Int×Int×Int) (x1:ByteArray×Int×Int×Int×Int×Int×Int):Option Bool:=batten_apart_b lpK jnK x0 x1
noncomputable def c146:Ctr:=⟨[T48,T48],[],[],.one .bool,fun x _ _=>batten_apart x.1 x.2.1⟩
theorem e146 (lp:Lp) (jn:Jn):∀(x:TsS c146.as) (F:TsF c146.fs) (y:TsS c146.cs),batten_apart_b lp jn x.1 x.2.1=runC lp jn (ctxOf prog shs inls its [] [(119,r119)]) hints 4 146 f146 c146 x F y:=fun x F y=>by kernel_rfl
theorem l146:(ctxOf prog shs inls its [] [(119,r119)]).ok:=q119
theorem ok146:c146.ok prog 146:=Ctr.of_den l146 hmix (hl:=hints) (d:=4) func146 rfl (by decide) (e146 lpK jnK)
noncomputable def batten_items_2_b (_:Lp) (_:Jn) (batten_apart:(ByteArray×Int×Int×Int×Int×Int×Int)→(ByteArray×Int×Int×Int×Int×Int×Int)→Option (Bool)) (x0:ByteArray×Int×Int×Int×Int×Int×Int) (y0:ByteArray×Int×Int×Int×Int×Int×Int):Option Bool :=
 obind (batten_apart y0 x0) fun (t:Bool)=>some !t
noncomputable def batten_items_2 (x0:ByteArray×Int×Int×Int×Int×Int×Int) (y0:ByteArray×Int×Int×Int×Int×Int×Int):Option Bool:=batten_items_2_b lpK jnK batten_apart x0 y0
noncomputable def c145:Ctr:=⟨[T48],[],[T48],.one .bool,fun x _ y=>batten_items_2 x.1 y.1⟩
theorem e145 (lp:Lp) (jn:Jn) (batten_apart:(ByteArray×Int×Int×Int×Int×Int×Int)→(ByteArray×Int×Int×Int×Int×Int×Int)→Option (Bool)):∀(x:TsS c145.as) (F:TsF c145.fs) (y:TsS c145.cs),batten_items_2_b lp jn batten_apart x.1 y.1=runC lp jn (ctxOf prog shs inls its [(146,⟨[T48,T48],[],[],.one .bool,fun x _ _=>batten_apart x.1 x.2.1⟩)] [(119,r119)]) hints 4 145 f145 c145 x F y:=fun x F y=>by kernel_rfl
theorem l145:(ctxOf prog shs inls its [(146,c146)] [(119,r119)]).ok:=ctxOf_cons (q119) (by kernel_rfl) ok146
theorem ok145:c145.ok prog 145:=Ctr.of_den l145 hmix (hl:=hints) (d:=4) func145 rfl (by decide) (e145 lpK jnK batten_apart)
noncomputable def batten_items_b (lp:Lp) (_:Jn) (batten_twice_140:(List (ByteArray×Int×Int×Int×Int×Int×Int))→((((ByteArray×Int×Int×Int×Int×Int×Int)×Unit)→Option ByteArray))→Option (Bool)) (batten_items_1:(ByteArray×Int×Int×Int×Int×Int×Int)→Option (ByteArray)) (batten_alone:(ByteArray×Int×Int×Int×Int×Int×Int)→Option (Bool)) (batten_inside:(ByteArray×Int×Int×Int×Int×Int×Int)→(Int)→Option (Bool)) (slices_ContainsFunc_144:(List (ByteArray×Int×Int×Int×Int×Int×Int))→((((ByteArray×Int×Int×Int×Int×Int×Int)×Unit)→Option Bool))→Option (Bool)) (batten_items_2:(ByteArray×Int×Int×Int×Int×Int×Int)→(ByteArray×Int×Int×Int×Int×Int×Int)→Option (Bool)) (x0:List (ByteArray×Int×Int×Int×Int×Int×Int)) (x1:Int):Option Bool :=
 
 let v4:Bool:=decide ((↑(List.length x0):Int)>(40:Int));
 let v5:Bool:=!v4;bif !v5||v5 then obind (bif v5 then batten_twice_140 x0 fun (x:(ByteArray×Int×Int×Int×Int×Int×Int)×PUnit)=>batten_items_1 x.1 else some false)
  fun (t:Bool)=>bif v4||v5 then bif bif v4 then true else t then some false else lp (Int×PUnit) Bool (fun (again:Int×PUnit→Option Bool) (x:Int×PUnit) =>
 let v9:ByteArray×Int×Int×Int×Int×Int×Int:=List.getD x0 (Int.toNat x.1) ({ data:={ toList:=[] } },(0:Int),(0:Int),(0:Int),(0:Int),(0:Int),(0:Int));
  bif decide (x.1<(↑(List.length x0):Int)) then bif inB x.1 (List.length x0) then obind (batten_alone v9) fun (t:Bool) =>
 let v11:Bool:=!t;
 let v12:Bool:=!v11;
 let v13:Bool:=!v12||v12;bif v13&&v13 then obind (bif v12 then batten_inside v9 x1 else some false) fun (t:Bool) =>
 let v15:Bool:=bif v11 then true else !t;
 let v16:Bool:=!v15;
 let v17:Bool:=!v16;
 let v18:Bool:=v17||v16;bif v13 then bif v11||v12 then bif v18&&(v18&&(v17||slB (0:Int) x.1 (List.length x0))) then bif v18&&v18 then obind (bif v16 then
  slices_ContainsFunc_144 (List.drop (0:Nat) (List.take (Int.toNat x.1) x0)) fun (x:(ByteArray×Int×Int×Int×Int×Int×Int)×PUnit)=>batten_items_2 x.1 v9 else some
  false) fun (t:Bool)=>bif v15||v16 then bif bif v15 then true else t then some false else again (IntKind.wrap .i64 (x.1+(1:Int)),PUnit.unit) else none else none else
  none else none else none else none else none else some true) ((0:Int),PUnit.unit) else none else none
noncomputable def batten_items (x0:List (ByteArray×Int×Int×Int×Int×Int×Int)) (x1:Int):Option Bool:=batten_items_b lpK jnK batten_twice_140 batten_items_1 batten_alone batten_inside slices_ContainsFunc_144 batten_items_2 x0 x1
noncomputable def c101:Ctr:=⟨[(.sl T48),i64],[],[],.one .bool,fun x _ _=>batten_items x.1 x.2.1⟩
theorem e101 (lp:Lp) (jn:Jn) (batten_twice_140:(List (ByteArray×Int×Int×Int×Int×Int×Int))→((((ByteArray×Int×Int×Int×Int×Int×Int)×Unit)→Option ByteArray))→Option (Bool)) (batten_items_1:(ByteArray×Int×Int×Int×Int×Int×Int)→Option (ByteArray)) (batten_alone:(ByteArray×Int×Int×Int×Int×Int×Int)→Option (Bool)) (batten_inside:(ByteArray×Int×Int×Int×Int×Int×Int)→(Int)→Option (Bool)) (slices_ContainsFunc_144:(List (ByteArray×Int×Int×Int×Int×Int×Int))→((((ByteArray×Int×Int×Int×Int×Int×Int)×Unit)→Option Bool))→Option (Bool)) (batten_items_2:(ByteArray×Int×Int×Int×Int×Int×Int)→(ByteArray×Int×Int×Int×Int×Int×Int)→Option (Bool)):∀(x:TsS c101.as) (F:TsF c101.fs) (y:TsS c101.cs),batten_items_b lp jn batten_twice_140 batten_items_1 batten_alone batten_inside slices_ContainsFunc_144 batten_items_2 x.1 x.2.1=runC lp jn (ctxOf prog shs inls its [(145,⟨[T48],[],[T48],.one .bool,fun x _ y=>batten_items_2 x.1 y.1⟩),(144,⟨[(.sl T48)],[([T48],.bool)],[],.one .bool,fun x F _=>slices_ContainsFunc_144 x.1 F.1⟩),(143,⟨[T48,i64],[],[],.one .bool,fun x _ _=>batten_inside x.1 x.2.1⟩),(142,⟨[T48],[],[],.one .bool,fun x _ _=>batten_alone x.1⟩),(141,⟨[T48],[],[],.one .str,fun x _ _=>batten_items_1 x.1⟩),(140,⟨[(.sl T48)],[([T48],.str)],[],.one .bool,fun x F _=>batten_twice_140 x.1 F.1⟩)] [(119,r119)]) hints 4 101 f101 c101 x F y:=fun x F y=>by kernel_rfl
theorem l101:(ctxOf prog shs inls its [(145,c145),(144,c144),(143,c143),(142,c142),(141,c141),(140,c140)] [(119,r119)]).ok:=ctxOf_cons (ctxOf_cons (ctxOf_cons (ctxOf_cons (ctxOf_cons (ctxOf_cons (q119) (by kernel_rfl) ok140) (by kernel_rfl) ok141) (by kernel_rfl) ok142) (by kernel_rfl) ok143) (by kernel_rfl) ok144) (by kernel_rfl) ok145
theorem ok101:c101.ok prog 101:=Ctr.of_den l101 hmix (hl:=hints) (d:=4) func101 rfl (by decide) (e101 lpK jnK batten_twice_140 batten_items_1 batten_alone batten_inside slices_ContainsFunc_144 batten_items_2)
noncomputable def batten_twice_147_b (lp:Lp) (_:Jn) (x0:List (ByteArray×Int×Int)) (f0:(((ByteArray×Int×Int)×Unit)→Option ByteArray)):Option Bool :=
 lp (Int×List ByteArray×PUnit) Bool (fun (again:Int×List ByteArray×PUnit→Option Bool) (x:Int×List ByteArray×PUnit)=>bif decide (x.1<(↑(List.length x0):Int)) then
  bif inB x.1 (List.length x0) then obind (f0 (List.getD x0 (Int.toNat x.1) ({ data:={ toList:=[] } },(0:Int),(0:Int)),PUnit.unit)) fun (t:ByteArray)=>again
  (IntKind.wrap .i64 (x.1+(1:Int)),addK str t x.2.1,PUnit.unit) else none else some (decide ((↑(List.length x.2.1):Int)<(↑(List.length x0):Int)))) ((0:Int),
  [],PUnit.unit)
noncomputable def batten_twice_147 (x0:List (ByteArray×Int×Int)) (f0:(((ByteArray×Int×Int)×Unit)→Option ByteArray)):Option Bool:=batten_twice_147_b lpK jnK x0 f0
noncomputable def c147:Ctr:=⟨[(.sl T64)],[([T64],.str)],[],.one .bool,fun x F _=>batten_twice_147 x.1 F.1⟩
theorem e147 (lp:Lp) (jn:Jn):∀(x:TsS c147.as) (F:TsF c147.fs) (y:TsS c147.cs),batten_twice_147_b lp jn x.1 F.1=runC lp jn (ctxOf prog shs inls its [] [(119,r119)]) hints 4 147 f147 c147 x F y:=fun x F y=>by kernel_rfl
theorem l147:(ctxOf prog shs inls its [] [(119,r119)]).ok:=q119
theorem ok147:c147.ok prog 147:=Ctr.of_den l147 hmix (hl:=hints) (d:=4) func147 rfl (by decide) (e147 lpK jnK)
noncomputable def batten_bricks_1_b (_:Lp) (_:Jn) (x0:ByteArray×Int×Int):Option ByteArray :=
 some x0.1
noncomputable def batten_bricks_1 (x0:ByteArray×Int×Int):Option ByteArray:=batten_bricks_1_b lpK jnK x0
noncomputable def c148:Ctr:=⟨[T64],[],[],.one .str,fun x _ _=>batten_bricks_1 x.1⟩
theorem e148 (lp:Lp) (jn:Jn):∀(x:TsS c148.as) (F:TsF c148.fs) (y:TsS c148.cs),batten_bricks_1_b lp jn x.1=runC lp jn (ctxOf prog shs inls its [] [(119,r119)]) hints 4 148 f148 c148 x F y:=fun x F y=>by kernel_rfl
theorem l148:(ctxOf prog shs inls its [] [(119,r119)]).ok:=q119
theorem ok148:c148.ok prog 148:=Ctr.of_den l148 hmix (hl:=hints) (d:=4) func148 rfl (by decide) (e148 lpK jnK)
noncomputable def batten_bricks_b (lp:Lp) (_:Jn) (decimal_IsName:(ByteArray)→Option (Bool)) (batten_between:(Int)→(Int)→(Int)→Option (Bool)) (batten_twice_147:(List (ByteArray×Int×Int))→((((ByteArray×Int×Int)×Unit)→Option ByteArray))→Option (Bool)) (batten_bricks_1:(ByteArray×Int×Int)→Option (ByteArray)) (x0:List (ByteArray×Int×Int)):Option Bool :=
 
 let v3:Bool:=decide ((↑(List.length x0):Int)>(8:Int));
 let v4:Bool:=!v3;bif !v4||v4 then obind (bif v4 then batten_twice_147 x0 fun (x:(ByteArray×Int×Int)×PUnit)=>batten_bricks_1 x.1 else some false) fun (t:Bool)=>bif
  v3||v4 then bif bif v3 then true else t then some false else lp (Int×Int×PUnit) Bool (fun (again:Int×Int×PUnit→Option Bool) (x:Int×Int×PUnit) =>
 let v8:ByteArray×Int×Int:=List.getD x0 (Int.toNat x.2.1) ({ data:={ toList:=[] } },(0:Int),(0:Int));bif decide (x.2.1<(↑(List.length x0):Int)) then bif inB
  x.2.1 (List.length x0) then obind (decimal_IsName v8.1) fun (t:Bool) =>
 let v10:Bool:=!t;
 let v11:Bool:=!v10;
 let v12:Bool:=!v11||v11;bif v12 then bif v12 then obind (bif v11 then batten_between v8.2.1 (1:Int) (1048576:Int) else some false) fun (t:Bool) =>
 let v14:Bool:=bif v10 then true else !t;
 let v15:Bool:=!v14;
 let v16:Bool:=!v15||v15;bif v12 then bif v10||v11 then bif v16 then bif v16 then obind (bif v15 then batten_between v8.2.2 (0:Int) (60:Int) else some false) fun (t :
  Bool)=>bif v16 then bif v14||v15 then bif bif v14 then true else !t then some false else again (IntKind.wrap .i64 (x.1+v8.2.2),IntKind.wrap .i64 (x.2.1 +
  (1:Int)),PUnit.unit) else none else none else none else none else none else none else none else none else none else some (decide (x.1≤(60:Int)))) ((0:Int),(0:Int),
  PUnit.unit) else none else none
noncomputable def batten_bricks (x0:List (ByteArray×Int×Int)):Option Bool:=batten_bricks_b lpK jnK decimal_IsName batten_between batten_twice_147 batten_bricks_1 x0
noncomputable def c102:Ctr:=⟨[(.sl T64)],[],[],.one .bool,fun x _ _=>batten_bricks x.1⟩
theorem e102 (lp:Lp) (jn:Jn) (decimal_IsName:(ByteArray)→Option (Bool)) (batten_between:(Int)→(Int)→(Int)→Option (Bool)) (batten_twice_147:(List (ByteArray×Int×Int))→((((ByteArray×Int×Int)×Unit)→Option ByteArray))→Option (Bool)) (batten_bricks_1:(ByteArray×Int×Int)→Option (ByteArray)):∀(x:TsS c102.as) (F:TsF c102.fs) (y:TsS c102.cs),batten_bricks_b lp jn decimal_IsName batten_between batten_twice_147 batten_bricks_1 x.1=runC lp jn (ctxOf prog shs inls its [(148,⟨[T64],[],[],.one .str,fun x _ _=>batten_bricks_1 x.1⟩),(147,⟨[(.sl T64)],[([T64],.str)],[],.one .bool,fun x F _=>batten_twice_147 x.1 F.1⟩),(99,⟨[i64,i64,i64],[],[],.one .bool,fun x _ _=>batten_between x.1 x.2.1 x.2.2.1⟩),(64,⟨[.str],[],[],.one .bool,fun x _ _=>decimal_IsName x.1⟩)] [(119,r119)]) hints 4 102 f102 c102 x F y:=fun x F y=>by kernel_rfl
theorem l102:(ctxOf prog shs inls its [(148,c148),(147,c147),(99,c99),(64,c64)] [(119,r119)]).ok:=ctxOf_cons (ctxOf_cons (ctxOf_cons (ctxOf_cons (q119) (by kernel_rfl) ok64) (by kernel_rfl) ok99) (by kernel_rfl) ok147) (by kernel_rfl) ok148
theorem ok102:c102.ok prog 102:=Ctr.of_den l102 hmix (hl:=hints) (d:=4) func102 rfl (by decide) (e102 lpK jnK decimal_IsName batten_between batten_twice_147 batten_bricks_1)
noncomputable def batten_Valid_b (_:Lp) (_:Jn) (decimal_IsName:(ByteArray)→Option (Bool)) (batten_between:(Int)→(Int)→(Int)→Option (Bool)) (batten_lines:(List Int)→(Int)→Option (Bool)) (batten_items:(List (ByteArray×Int×Int×Int×Int×Int×Int))→(Int)→Option (Bool)) (batten_bricks:(List (ByteArray×Int×Int))→Option (Bool)) (x0:ByteArray×Int×Int×Int×Int×(List Int)×Int×Int×Int×Int×Int×(List (ByteArray×Int×Int×Int×Int×Int×Int))×List (ByteArray×Int×Int)):Option Bool :=
 
 let v3:Bool:=decide ((0:Int)≤x0.2.2.1);
 let v4:Bool:=decide (x0.2.2.2.1≤(1048576:Int));
 let v5:Bool:=decide (Int.tmod x0.2.2.2.2.1 (1000:Int)=(0:Int));
 let v6:Bool:=decide (x0.2.2.1≤x0.2.2.2.1);obind (decimal_IsName x0.1) fun (t:Bool) =>
 let v8:Bool:=!t||t;bif v8 then bif v8 then obind (bif t then batten_between x0.2.1 (0:Int) (1048576:Int) else some false) fun (t_1:Bool) =>
 let v10:Bool:=bif t then t_1 else false;
 let v11:Bool:=bif v10 then v3 else false;
 let v12:Bool:=!v10||v10;
 let v13:Bool:=bif v11 then v6 else false;
 let v14:Bool:=bif v13 then v4 else false;
 let v15:Bool:=!v11||v11;
 let v16:Bool:=!v13||v13;
 let v17:Bool:=!v14||v14;bif v8 then bif v12 then bif v12 then bif v12 then bif v15 then bif v15 then bif v15&&v15 then bif v15 then bif v16 then bif v16 then bif v16 then bif v17
  then bif v17 then obind (bif v14 then batten_between x0.2.2.2.2.1 (1000:Int) (1048576:Int) else some false) fun (t:Bool) =>
 let v19:Bool:=bif v14 then t else false;
 let v20:Bool:=!v19;
 let v21:Bool:=bif v19 then v5 else false;
 let v22:Bool:=v20||v19;
 let v23:Bool:=!v21||v21;bif v17 then bif v22 then bif v22&&(v20||true) then bif v22 then bif v22 then bif v23 then bif v23 then bif v23&&v23 then obind (bif v21 then
  batten_lines x0.2.2.2.2.2.1 x0.2.2.2.2.1 else some false) fun (t:Bool) =>
 let v25:Bool:=bif v21 then t else false;
 let v26:Bool:=!v25||v25;bif v23 then bif v26 then bif v26 then obind (bif v25 then batten_between x0.2.2.2.2.2.2.1 (0:Int) (1048576:Int) else some false) fun (t :
  Bool) =>
 let v28:Bool:=bif v25 then t else false;
 let v29:Bool:=!v28||v28;bif v26 then bif v29 then bif v29 then obind (bif v28 then batten_between x0.2.2.2.2.2.2.2.1 (0:Int) (1048576:Int) else some false) fun
  (t:Bool) =>
 let v31:Bool:=bif v28 then t else false;
 let v32:Bool:=!v31||v31;bif v29 then bif v32 then bif v32 then obind (bif v31 then batten_between x0.2.2.2.2.2.2.2.2.1 (1:Int) (2:Int) else some false) fun (t
  : Bool) =>
 let v34:Bool:=bif v31 then t else false;
 let v35:Bool:=!v34||v34;bif v32 then bif v35 then bif v35 then obind (bif v34 then batten_between x0.2.2.2.2.2.2.2.2.2.1 (1:Int) (67108864:Int) else some
  false) fun (t:Bool) =>
 let v37:Bool:=bif v34 then t else false;
 let v38:Bool:=!v37||v37;bif v35 then bif v38 then bif v38 then obind (bif v37 then batten_between x0.2.2.2.2.2.2.2.2.2.2.1 (0:Int) (67108864:Int) else
  some false) fun (t:Bool) =>
 let v40:Bool:=bif v37 then t else false;
 let v41:Bool:=!v40||v40;bif v38 then bif v41 then bif v41 then bif v41&&v41 then obind (bif v40 then batten_items x0.2.2.2.2.2.2.2.2.2.2.2.1
  x0.2.2.2.2.1 else some false) fun (t:Bool) =>
 let v43:Bool:=bif v40 then t else false;
 let v44:Bool:=!v43||v43;bif v41 then bif v44 then bif v44 then obind (bif v43 then batten_bricks x0.2.2.2.2.2.2.2.2.2.2.2.2 else some false) fun (t:Bool)
  =>bif v44 then some (bif v43 then t else false) else none else none else none else none else none else none else none else none else none else none else none else none else none else
  none else none else none else none else none else none else none else none else none else none else none else none else none else none else none else none else none else none else none
  else none else none else none else none else none else none else none else none else none else none else none else none else none else none
noncomputable def batten_Valid (x0:ByteArray×Int×Int×Int×Int×(List Int)×Int×Int×Int×Int×Int×(List (ByteArray×Int×Int×Int×Int×Int×Int))×List (ByteArray×Int×Int)):Option Bool:=batten_Valid_b lpK jnK decimal_IsName batten_between batten_lines batten_items batten_bricks x0
noncomputable def c61:Ctr:=⟨[T44],[],[],.one .bool,fun x _ _=>batten_Valid x.1⟩
theorem e61 (lp:Lp) (jn:Jn) (decimal_IsName:(ByteArray)→Option (Bool)) (batten_between:(Int)→(Int)→(Int)→Option (Bool)) (batten_lines:(List Int)→(Int)→Option (Bool)) (batten_items:(List (ByteArray×Int×Int×Int×Int×Int×Int))→(Int)→Option (Bool)) (batten_bricks:(List (ByteArray×Int×Int))→Option (Bool)):∀(x:TsS c61.as) (F:TsF c61.fs) (y:TsS c61.cs),batten_Valid_b lp jn decimal_IsName batten_between batten_lines batten_items batten_bricks x.1=runC lp jn (ctxOf prog shs inls its [(102,⟨[(.sl T64)],[],[],.one .bool,fun x _ _=>batten_bricks x.1⟩),(101,⟨[(.sl T48),i64],[],[],.one .bool,fun x _ _=>batten_items x.1 x.2.1⟩),(100,⟨[(.sl i64),i64],[],[],.one .bool,fun x _ _=>batten_lines x.1 x.2.1⟩),(99,⟨[i64,i64,i64],[],[],.one .bool,fun x _ _=>batten_between x.1 x.2.1 x.2.2.1⟩),(64,⟨[.str],[],[],.one .bool,fun x _ _=>decimal_IsName x.1⟩)] [(119,r119)]) hints 4 61 f61 c61 x F y:=fun x F y=>by kernel_rfl
theorem l61:(ctxOf prog shs inls its [(102,c102),(101,c101),(100,c100),(99,c99),(64,c64)] [(119,r119)]).ok:=ctxOf_cons (ctxOf_cons (ctxOf_cons (ctxOf_cons (ctxOf_cons (q119) (by kernel_rfl) ok64) (by kernel_rfl) ok99) (by kernel_rfl) ok100) (by kernel_rfl) ok101) (by kernel_rfl) ok102
theorem ok61:c61.ok prog 61:=Ctr.of_den l61 hmix (hl:=hints) (d:=4) func61 rfl (by decide) (e61 lpK jnK decimal_IsName batten_between batten_lines batten_items batten_bricks)
noncomputable def batten_pipe_b (_:Lp) (_:Jn) (x0:ByteArray×Int×Int×Int×Int×(List Int)×Int×Int×Int×Int×Int×(List (ByteArray×Int×Int×Int×Int×Int×Int))×List (ByteArray×Int×Int)):Option Int :=
 some (IntKind.wrap .i64 (x0.2.2.2.2.2.2.1*IntKind.wrap .i64 (Int.tdiv x0.2.2.2.2.1 (1000:Int))))
noncomputable def batten_pipe (x0:ByteArray×Int×Int×Int×Int×(List Int)×Int×Int×Int×Int×Int×(List (ByteArray×Int×Int×Int×Int×Int×Int))×List (ByteArray×Int×Int)):Option Int:=batten_pipe_b lpK jnK x0
noncomputable def c103:Ctr:=⟨[T44],[],[],.one i64,fun x _ _=>batten_pipe x.1⟩
theorem e103 (lp:Lp) (jn:Jn):∀(x:TsS c103.as) (F:TsF c103.fs) (y:TsS c103.cs),batten_pipe_b lp jn x.1=runC lp jn (ctxOf prog shs inls its [] [(119,r119)]) hints 4 103 f103 c103 x F y:=fun x F y=>by kernel_rfl
theorem l103:(ctxOf prog shs inls its [] [(119,r119)]).ok:=q119
theorem ok103:c103.ok prog 103:=Ctr.of_den l103 hmix (hl:=hints) (d:=4) func103 rfl (by decide) (e103 lpK jnK)
noncomputable def batten_weight_b (lp:Lp) (_:Jn) (batten_pipe:(ByteArray×Int×Int×Int×Int×(List Int)×Int×Int×Int×Int×Int×(List (ByteArray×Int×Int×Int×Int×Int×Int))×List (ByteArray×Int×Int))→Option (Int)) (x0:ByteArray×Int×Int×Int×Int×(List Int)×Int×Int×Int×Int×Int×(List (ByteArray×Int×Int×Int×Int×Int×Int))×List (ByteArray×Int×Int)):Option Int :=
 obind (batten_pipe x0) fun (t:Int)=>lp (Int×Int×PUnit) Int (fun (again:Int×Int×PUnit→Option Int) (x:Int×Int×PUnit)=>bif decide (x.2.1<(↑(List.length
  x0.2.2.2.2.2.2.2.2.2.2.2.1):Int)) then bif inB x.2.1 (List.length x0.2.2.2.2.2.2.2.2.2.2.2.1) then again (IntKind.wrap .i64
  (x.1+(List.getD x0.2.2.2.2.2.2.2.2.2.2.2.1 (Int.toNat x.2.1) ({ data:={ toList:=[] } },(0:Int),(0:Int),(0:Int),(0:Int),(0:Int),(0 :
  Int))).2.2.2.1),IntKind.wrap .i64 (x.2.1+(1:Int)),PUnit.unit) else none else some x.1) (t,(0:Int),PUnit.unit)
noncomputable def batten_weight (x0:ByteArray×Int×Int×Int×Int×(List Int)×Int×Int×Int×Int×Int×(List (ByteArray×Int×Int×Int×Int×Int×Int))×List (ByteArray×Int×Int)):Option Int:=batten_weight_b lpK jnK batten_pipe x0
noncomputable def c62:Ctr:=⟨[T44],[],[],.one i64,fun x _ _=>batten_weight x.1⟩
theorem e62 (lp:Lp) (jn:Jn) (batten_pipe:(ByteArray×Int×Int×Int×Int×(List Int)×Int×Int×Int×Int×Int×(List (ByteArray×Int×Int×Int×Int×Int×Int))×List (ByteArray×Int×Int))→Option (Int)):∀(x:TsS c62.as) (F:TsF c62.fs) (y:TsS c62.cs),batten_weight_b lp jn batten_pipe x.1=runC lp jn (ctxOf prog shs inls its [(103,⟨[T44],[],[],.one i64,fun x _ _=>batten_pipe x.1⟩)] [(119,r119)]) hints 4 62 f62 c62 x F y:=fun x F y=>by kernel_rfl
theorem l62:(ctxOf prog shs inls its [(103,c103)] [(119,r119)]).ok:=ctxOf_cons (q119) (by kernel_rfl) ok103
theorem ok62:c62.ok prog 62:=Ctr.of_den l62 hmix (hl:=hints) (d:=4) func62 rfl (by decide) (e62 lpK jnK batten_pipe)
noncomputable def batten_Weight_b (_:Lp) (_:Jn) (batten_Valid:(ByteArray×Int×Int×Int×Int×(List Int)×Int×Int×Int×Int×Int×(List (ByteArray×Int×Int×Int×Int×Int×Int))×List (ByteArray×Int×Int))→Option (Bool)) (batten_weight:(ByteArray×Int×Int×Int×Int×(List Int)×Int×Int×Int×Int×Int×(List (ByteArray×Int×Int×Int×Int×Int×Int))×List (ByteArray×Int×Int))→Option (Int)) (x0:ByteArray×Int×Int×Int×Int×(List Int)×Int×Int×Int×Int×Int×(List (ByteArray×Int×Int×Int×Int×Int×Int))×List (ByteArray×Int×Int)):Option (Int×Int×Unit) :=
 obind (batten_Valid x0) fun (t:Bool)=>bif !t then some ((0:Int),(1:Int),PUnit.unit) else obind (batten_weight x0) fun (t:Int)=>some (t,(0:Int),PUnit.unit)
noncomputable def batten_Weight (x0:ByteArray×Int×Int×Int×Int×(List Int)×Int×Int×Int×Int×Int×(List (ByteArray×Int×Int×Int×Int×Int×Int))×List (ByteArray×Int×Int)):Option (Int×Int×Unit):=batten_Weight_b lpK jnK batten_Valid batten_weight x0
noncomputable def c30:Ctr:=⟨[T44],[],[],.tup [i64,i64],fun x _ _=>batten_Weight x.1⟩
theorem e30 (lp:Lp) (jn:Jn) (batten_Valid:(ByteArray×Int×Int×Int×Int×(List Int)×Int×Int×Int×Int×Int×(List (ByteArray×Int×Int×Int×Int×Int×Int))×List (ByteArray×Int×Int))→Option (Bool)) (batten_weight:(ByteArray×Int×Int×Int×Int×(List Int)×Int×Int×Int×Int×Int×(List (ByteArray×Int×Int×Int×Int×Int×Int))×List (ByteArray×Int×Int))→Option (Int)):∀(x:TsS c30.as) (F:TsF c30.fs) (y:TsS c30.cs),batten_Weight_b lp jn batten_Valid batten_weight x.1=runC lp jn (ctxOf prog shs inls its [(62,⟨[T44],[],[],.one i64,fun x _ _=>batten_weight x.1⟩),(61,⟨[T44],[],[],.one .bool,fun x _ _=>batten_Valid x.1⟩)] [(119,r119)]) hints 4 30 f30 c30 x F y:=fun x F y=>by kernel_rfl
theorem l30:(ctxOf prog shs inls its [(62,c62),(61,c61)] [(119,r119)]).ok:=ctxOf_cons (ctxOf_cons (q119) (by kernel_rfl) ok61) (by kernel_rfl) ok62
theorem ok30:c30.ok prog 30:=Ctr.of_den l30 hmix (hl:=hints) (d:=4) func30 rfl (by decide) (e30 lpK jnK batten_Valid batten_weight)
noncomputable def slices_IndexFunc_149_b (lp:Lp) (_:Jn) (x0:List (ByteArray×Int×Int)) (f0:(((ByteArray×Int×Int)×Unit)→Option Bool)):Option Int :=
 lp (Int×PUnit) Int (fun (again:Int×PUnit→Option Int) (x:Int×PUnit)=>bif decide (x.1<(↑(List.length x0):Int)) then bif inB x.1 (List.length x0) then obind (f0
  (List.getD x0 (Int.toNat x.1) ({ data:={ toList:=[] } },(0:Int),(0:Int)),PUnit.unit)) fun (t:Bool)=>bif t then some x.1 else again (IntKind.wrap .i64 (x.1 +
  (1:Int)),PUnit.unit) else none else some (-1:Int)) ((0:Int),PUnit.unit)
noncomputable def slices_IndexFunc_149 (x0:List (ByteArray×Int×Int)) (f0:(((ByteArray×Int×Int)×Unit)→Option Bool)):Option Int:=slices_IndexFunc_149_b lpK jnK x0 f0
noncomputable def c149:Ctr:=⟨[(.sl T64)],[([T64],.bool)],[],.one i64,fun x F _=>slices_IndexFunc_149 x.1 F.1⟩
theorem e149 (lp:Lp) (jn:Jn):∀(x:TsS c149.as) (F:TsF c149.fs) (y:TsS c149.cs),slices_IndexFunc_149_b lp jn x.1 F.1=runC lp jn (ctxOf prog shs inls its [] [(119,r119)]) hints 4 149 f149 c149 x F y:=fun x F y=>by kernel_rfl
theorem l149:(ctxOf prog shs inls its [] [(119,r119)]).ok:=q119
theorem ok149:c149.ok prog 149:=Ctr.of_den l149 hmix (hl:=hints) (d:=4) func149 rfl (by decide) (e149 lpK jnK)
noncomputable def slices_ContainsFunc_104_b (_:Lp) (_:Jn) (slices_IndexFunc_149:(List (ByteArray×Int×Int))→((((ByteArray×Int×Int)×Unit)→Option Bool))→Option (Int)) (x0:List (ByteArray×Int×Int)) (f0:(((ByteArray×Int×Int)×Unit)→Option Bool)):Option Bool :=
 obind (slices_IndexFunc_149 x0 f0) fun (t:Int)=>some (decide (t≥(0:Int)))
noncomputable def slices_ContainsFunc_104 (x0:List (ByteArray×Int×Int)) (f0:(((ByteArray×Int×Int)×Unit)→Option Bool)):Option Bool:=slices_ContainsFunc_104_b lpK jnK slices_IndexFunc_149 x0 f0
noncomputable def c104:Ctr:=⟨[(.sl T64)],[([T64],.bool)],[],.one .bool,fun x F _=>slices_ContainsFunc_104 x.1 F.1⟩
theorem e104 (lp:Lp) (jn:Jn) (slices_IndexFunc_149:(List (ByteArray×Int×Int))→((((ByteArray×Int×Int)×Unit)→Option Bool))→Option (Int)):∀(x:TsS c104.as) (F:TsF c104.fs) (y:TsS c104.cs),slices_ContainsFunc_104_b lp jn slices_IndexFunc_149 x.1 F.1=runC lp jn (ctxOf prog shs inls its [(149,⟨[(.sl T64)],[([T64],.bool)],[],.one i64,fun x F _=>slices_IndexFunc_149 x.1 F.1⟩)] [(119,r119)]) hints 4 104 f104 c104 x F y:=fun x F y=>by kernel_rfl
theorem l104:(ctxOf prog shs inls its [(149,c149)] [(119,r119)]).ok:=ctxOf_cons (q119) (by kernel_rfl) ok149
theorem ok104:c104.ok prog 104:=Ctr.of_den l104 hmix (hl:=hints) (d:=4) func104 rfl (by decide) (e104 lpK jnK slices_IndexFunc_149)
noncomputable def arbor_Valid_1_b (_:Lp) (_:Jn) (x0:ByteArray×Int×Int) (y0:ByteArray×Int×Int):Option Bool :=
 some (List.beq (ByteArray.toList x0.1) (ByteArray.toList y0.1))
noncomputable def arbor_Valid_1 (x0:ByteArray×Int×Int) (y0:ByteArray×Int×Int):Option Bool:=arbor_Valid_1_b lpK jnK x0 y0
noncomputable def c105:Ctr:=⟨[T64],[],[T64],.one .bool,fun x _ y=>arbor_Valid_1 x.1 y.1⟩
theorem e105 (lp:Lp) (jn:Jn):∀(x:TsS c105.as) (F:TsF c105.fs) (y:TsS c105.cs),arbor_Valid_1_b lp jn x.1 y.1=runC lp jn (ctxOf prog shs inls its [] [(119,r119)]) hints 4 105 f105 c105 x F y:=fun x F y=>by kernel_rfl
theorem l105:(ctxOf prog shs inls its [] [(119,r119)]).ok:=q119
theorem ok105:c105.ok prog 105:=Ctr.of_den l105 hmix (hl:=hints) (d:=4) func105 rfl (by decide) (e105 lpK jnK)
noncomputable def arbor_Valid_b (lp:Lp) (_:Jn) (decimal_IsName:(ByteArray)→Option (Bool)) (slices_ContainsFunc_104:(List (ByteArray×Int×Int))→((((ByteArray×Int×Int)×Unit)→Option Bool))→Option (Bool)) (arbor_Valid_1:(ByteArray×Int×Int)→(ByteArray×Int×Int)→Option (Bool)) (x0:List (ByteArray×Int×Int)):Option Bool :=
 bif decide ((↑(List.length x0):Int)>(8:Int)) then some false else lp (Int×Int×PUnit) Bool (fun (again:Int×Int×PUnit→Option Bool) (x:Int×Int×PUnit) =>
 let v5:ByteArray×Int×Int:=List.getD x0 (Int.toNat x.2.1) ({ data:={ toList:=[] } },(0:Int),(0:Int));bif decide (x.2.1<(↑(List.length x0):Int)) then bif inB
  x.2.1 (List.length x0) then obind (decimal_IsName v5.1) fun (t:Bool) =>
 let v7:Bool:=!t;
 let v8:Bool:=!v7;
 let v9:Bool:=!v8||v8;
 let v10:Bool:=bif v7 then true else decide (v5.2.1<(1:Int));
 let v11:Bool:=!v10;
 let v12:Bool:=bif v10 then true else decide (v5.2.1>(1048576:Int));
 let v13:Bool:=!v12;
 let v14:Bool:=!v11||v11;
 let v15:Bool:=bif v12 then true else decide (v5.2.2<(0:Int));
 let v16:Bool:=!v15;
 let v17:Bool:=!v13||v13;
 let v18:Bool:=!v16||v16;bif v9 then bif v9 then bif v7||v8 then bif v14 then bif v14 then bif v10||v11 then bif v17 then bif v17 then bif v12||v13 then bif v18 then bif v18
  then bif v15||v16 then bif bif v15 then true else decide (v5.2.2>(60:Int)) then some false else bif slB (0:Int) x.2.1 (List.length x0) then obind
  (slices_ContainsFunc_104 (List.drop (0:Nat) (List.take (Int.toNat x.2.1) x0)) fun (x:(ByteArray×Int×Int)×PUnit)=>arbor_Valid_1 x.1 v5) fun (t:Bool)=>bif t then
  some false else again (IntKind.wrap .i64 (x.1+v5.2.2),IntKind.wrap .i64 (x.2.1+(1:Int)),PUnit.unit) else none else none else none else none else none
  else none else none else none else none else none else none else none else none else none else some (decide (x.1≤(60:Int)))) ((0:Int),(0:Int),PUnit.unit)
noncomputable def arbor_Valid (x0:List (ByteArray×Int×Int)):Option Bool:=arbor_Valid_b lpK jnK decimal_IsName slices_ContainsFunc_104 arbor_Valid_1 x0
noncomputable def c63:Ctr:=⟨[(.sl T64)],[],[],.one .bool,fun x _ _=>arbor_Valid x.1⟩
theorem e63 (lp:Lp) (jn:Jn) (decimal_IsName:(ByteArray)→Option (Bool)) (slices_ContainsFunc_104:(List (ByteArray×Int×Int))→((((ByteArray×Int×Int)×Unit)→Option Bool))→Option (Bool)) (arbor_Valid_1:(ByteArray×Int×Int)→(ByteArray×Int×Int)→Option (Bool)):∀(x:TsS c63.as) (F:TsF c63.fs) (y:TsS c63.cs),arbor_Valid_b lp jn decimal_IsName slices_ContainsFunc_104 arbor_Valid_1 x.1=runC lp jn (ctxOf prog shs inls its [(105,⟨[T64],[],[T64],.one .bool,fun x _ y=>arbor_Valid_1 x.1 y.1⟩),(104,⟨[(.sl T64)],[([T64],.bool)],[],.one .bool,fun x F _=>slices_ContainsFunc_104 x.1 F.1⟩),(64,⟨[.str],[],[],.one .bool,fun x _ _=>decimal_IsName x.1⟩)] [(119,r119)]) hints 4 63 f63 c63 x F y:=fun x F y=>by kernel_rfl
theorem l63:(ctxOf prog shs inls its [(105,c105),(104,c104),(64,c64)] [(119,r119)]).ok:=ctxOf_cons (ctxOf_cons (ctxOf_cons (q119) (by kernel_rfl) ok64) (by kernel_rfl) ok104) (by kernel_rfl) ok105
theorem ok63:c63.ok prog 63:=Ctr.of_den l63 hmix (hl:=hints) (d:=4) func63 rfl (by decide) (e63 lpK jnK decimal_IsName slices_ContainsFunc_104 arbor_Valid_1)
noncomputable def arbor_Weight_b (lp:Lp) (_:Jn) (arbor_Valid:(List (ByteArray×Int×Int))→Option (Bool)) (x0:List (ByteArray×Int×Int)) (x1:List Int):Option (Int×Int×Unit) :=
 obind (arbor_Valid x0) fun (t:Bool)=>bif !t then some ((0:Int),(1:Int),PUnit.unit) else bif !decide ((↑(List.length x1):Int)=(↑(List.length x0):Int)) then some ((0:Int),
  (3:Int),PUnit.unit) else lp (Int×Int×PUnit) (Int×Int×PUnit) (fun (again:Int×Int×PUnit→Option (Int×Int×PUnit)) (x:Int×Int×PUnit) =>
 let v7:Bool:=inB x.2.1 (List.length x0);
 let v8:Bool:=decide (List.getD x1 (Int.toNat x.2.1) (0:Int)<(0:Int));
 let v9:Bool:=!v8;
 let v10:Bool:=!v9;
 let v11:Bool:=v10||v9;bif decide (x.2.1<(↑(List.length x1):Int)) then bif inB x.2.1 (List.length x1) then bif v11&&(v11&&(v10||v7)) then bif v11 then bif v11 then
  bif v11&&v11 then bif v8||v9 then bif bif v8 then true else decide (List.getD x1 (Int.toNat x.2.1) (0:Int)>(List.getD x0 (Int.toNat x.2.1) ({ data:={ toList:=[] } },
  (0:Int),(0:Int))).2.2) then some ((0:Int),(2:Int),PUnit.unit) else bif v7 then again (IntKind.wrap .i64 (x.1+IntKind.wrap .i64 (List.getD x1 (Int.toNat
  x.2.1) (0:Int)*(List.getD x0 (Int.toNat x.2.1) ({ data:={ toList:=[] } },(0:Int),(0:Int))).2.1)),IntKind.wrap .i64 (x.2.1+(1:Int)),PUnit.unit)
  else none else none else none else none else none else none else none else some (x.1,(0:Int),PUnit.unit)) ((0:Int),(0:Int),PUnit.unit)
noncomputable def arbor_Weight (x0:List (ByteArray×Int×Int)) (x1:List Int):Option (Int×Int×Unit):=arbor_Weight_b lpK jnK arbor_Valid x0 x1
noncomputable def c31:Ctr:=⟨[(.sl T64),(.sl i64)],[],[],.tup [i64,i64],fun x _ _=>arbor_Weight x.1 x.2.1⟩
theorem e31 (lp:Lp) (jn:Jn) (arbor_Valid:(List (ByteArray×Int×Int))→Option (Bool)):∀(x:TsS c31.as) (F:TsF c31.fs) (y:TsS c31.cs),arbor_Weight_b lp jn arbor_Valid x.1 x.2.1=runC lp jn (ctxOf prog shs inls its [(63,⟨[(.sl T64)],[],[],.one .bool,fun x _ _=>arbor_Valid x.1⟩)] [(119,r119)]) hints 4 31 f31 c31 x F y:=fun x F y=>by kernel_rfl
theorem l31:(ctxOf prog shs inls its [(63,c63)] [(119,r119)]).ok:=ctxOf_cons (q119) (by kernel_rfl) ok63
theorem ok31:c31.ok prog 31:=Ctr.of_den l31 hmix (hl:=hints) (d:=4) func31 rfl (by decide) (e31 lpK jnK arbor_Valid)
noncomputable def slices_IndexFunc_50_b (lp:Lp) (_:Jn) (x0:List (ByteArray×Int×Int×Int×Int×(List Int)×Int×Int×Int×Int×Int×(List (ByteArray×Int×Int×Int×Int×Int×Int))×List (ByteArray×Int×Int))) (f0:(((ByteArray×Int×Int×Int×Int×(List Int)×Int×Int×Int×Int×Int×(List (ByteArray×Int×Int×Int×Int×Int×Int))×List (ByteArray×Int×Int))×Unit)→Option Bool)):Option Int :=
 lp (Int×PUnit) Int (fun (again:Int×PUnit→Option Int) (x:Int×PUnit)=>bif decide (x.1<(↑(List.length x0):Int)) then bif inB x.1 (List.length x0) then obind (f0
  (List.getD x0 (Int.toNat x.1) ({ data:={ toList:=[] } },(0:Int),(0:Int),(0:Int),(0:Int),[],(0:Int),(0:Int),(0:Int),(0:Int),(0:Int),[],[]),
  PUnit.unit)) fun (t:Bool)=>bif t then some x.1 else again (IntKind.wrap .i64 (x.1+(1:Int)),PUnit.unit) else none else some (-1:Int)) ((0:Int),PUnit.unit)
noncomputable def slices_IndexFunc_50 (x0:List (ByteArray×Int×Int×Int×Int×(List Int)×Int×Int×Int×Int×Int×(List (ByteArray×Int×Int×Int×Int×Int×Int))×List (ByteArray×Int×Int))) (f0:(((ByteArray×Int×Int×Int×Int×(List Int)×Int×Int×Int×Int×Int×(List (ByteArray×Int×Int×Int×Int×Int×Int))×List (ByteArray×Int×Int))×Unit)→Option Bool)):Option Int:=slices_IndexFunc_50_b lpK jnK x0 f0
noncomputable def c50:Ctr:=⟨[(.sl T44)],[([T44],.bool)],[],.one i64,fun x F _=>slices_IndexFunc_50 x.1 F.1⟩
theorem e50 (lp:Lp) (jn:Jn):∀(x:TsS c50.as) (F:TsF c50.fs) (y:TsS c50.cs),slices_IndexFunc_50_b lp jn x.1 F.1=runC lp jn (ctxOf prog shs inls its [] [(119,r119)]) hints 4 50 f50 c50 x F y:=fun x F y=>by kernel_rfl
theorem l50:(ctxOf prog shs inls its [] [(119,r119)]).ok:=q119
theorem ok50:c50.ok prog 50:=Ctr.of_den l50 hmix (hl:=hints) (d:=4) func50 rfl (by decide) (e50 lpK jnK)
noncomputable def house_find_1_b (_:Lp) (_:Jn) (x0:ByteArray×Int×Int×Int×Int×(List Int)×Int×Int×Int×Int×Int×(List (ByteArray×Int×Int×Int×Int×Int×Int))×List (ByteArray×Int×Int)) (y0:ByteArray):Option Bool :=
 some (List.beq (ByteArray.toList x0.1) (ByteArray.toList y0))
noncomputable def house_find_1 (x0:ByteArray×Int×Int×Int×Int×(List Int)×Int×Int×Int×Int×Int×(List (ByteArray×Int×Int×Int×Int×Int×Int))×List (ByteArray×Int×Int)) (y0:ByteArray):Option Bool:=house_find_1_b lpK jnK x0 y0
noncomputable def c83:Ctr:=⟨[T44],[],[.str],.one .bool,fun x _ y=>house_find_1 x.1 y.1⟩
theorem e83 (lp:Lp) (jn:Jn):∀(x:TsS c83.as) (F:TsF c83.fs) (y:TsS c83.cs),house_find_1_b lp jn x.1 y.1=runC lp jn (ctxOf prog shs inls its [] [(119,r119)]) hints 4 83 f83 c83 x F y:=fun x F y=>by kernel_rfl
theorem l83:(ctxOf prog shs inls its [] [(119,r119)]).ok:=q119
theorem ok83:c83.ok prog 83:=Ctr.of_den l83 hmix (hl:=hints) (d:=4) func83 rfl (by decide) (e83 lpK jnK)
noncomputable def house_find_b (_:Lp) (_:Jn) (slices_IndexFunc_50:(List (ByteArray×Int×Int×Int×Int×(List Int)×Int×Int×Int×Int×Int×(List (ByteArray×Int×Int×Int×Int×Int×Int))×List (ByteArray×Int×Int)))→((((ByteArray×Int×Int×Int×Int×(List Int)×Int×Int×Int×Int×Int×(List (ByteArray×Int×Int×Int×Int×Int×Int))×List (ByteArray×Int×Int))×Unit)→Option Bool))→Option (Int)) (house_find_1:(ByteArray×Int×Int×Int×Int×(List Int)×Int×Int×Int×Int×Int×(List (ByteArray×Int×Int×Int×Int×Int×Int))×List (ByteArray×Int×Int))→(ByteArray)→Option (Bool)) (x0:ByteArray×Int×(List (ByteArray×Int×Int×Int×Int×(List Int)×Int×Int×Int×Int×Int×(List (ByteArray×Int×Int×Int×Int×Int×Int))×List (ByteArray×Int×Int)))×List (ByteArray×Int×Int×Int)) (x1:ByteArray):Option Int :=
 obind (slices_IndexFunc_50 x0.2.2.1 fun (x:(ByteArray×Int×Int×Int×Int×List Int×Int×Int×Int×Int×Int×List (ByteArray×Int×Int×Int×Int×Int×Int)×List
  (ByteArray×Int×Int))×PUnit)=>house_find_1 x.1 x1) fun (t:Int)=>some t
noncomputable def house_find (x0:ByteArray×Int×(List (ByteArray×Int×Int×Int×Int×(List Int)×Int×Int×Int×Int×Int×(List (ByteArray×Int×Int×Int×Int×Int×Int))×List (ByteArray×Int×Int)))×List (ByteArray×Int×Int×Int)) (x1:ByteArray):Option Int:=house_find_b lpK jnK slices_IndexFunc_50 house_find_1 x0 x1
noncomputable def c47:Ctr:=⟨[T25,.str],[],[],.one i64,fun x _ _=>house_find x.1 x.2.1⟩
theorem e47 (lp:Lp) (jn:Jn) (slices_IndexFunc_50:(List (ByteArray×Int×Int×Int×Int×(List Int)×Int×Int×Int×Int×Int×(List (ByteArray×Int×Int×Int×Int×Int×Int))×List (ByteArray×Int×Int)))→((((ByteArray×Int×Int×Int×Int×(List Int)×Int×Int×Int×Int×Int×(List (ByteArray×Int×Int×Int×Int×Int×Int))×List (ByteArray×Int×Int))×Unit)→Option Bool))→Option (Int)) (house_find_1:(ByteArray×Int×Int×Int×Int×(List Int)×Int×Int×Int×Int×Int×(List (ByteArray×Int×Int×Int×Int×Int×Int))×List (ByteArray×Int×Int))→(ByteArray)→Option (Bool)):∀(x:TsS c47.as) (F:TsF c47.fs) (y:TsS c47.cs),house_find_b lp jn slices_IndexFunc_50 house_find_1 x.1 x.2.1=runC lp jn (ctxOf prog shs inls its [(83,⟨[T44],[],[.str],.one .bool,fun x _ y=>house_find_1 x.1 y.1⟩),(50,⟨[(.sl T44)],[([T44],.bool)],[],.one i64,fun x F _=>slices_IndexFunc_50 x.1 F.1⟩)] [(119,r119)]) hints 4 47 f47 c47 x F y:=fun x F y=>by kernel_rfl
theorem l47:(ctxOf prog shs inls its [(83,c83),(50,c50)] [(119,r119)]).ok:=ctxOf_cons (ctxOf_cons (q119) (by kernel_rfl) ok50) (by kernel_rfl) ok83
theorem ok47:c47.ok prog 47:=Ctr.of_den l47 hmix (hl:=hints) (d:=4) func47 rfl (by decide) (e47 lpK jnK slices_IndexFunc_50 house_find_1)
noncomputable def grid_isName_b (_:Lp) (_:Jn) (decimal_IsName:(ByteArray)→Option (Bool)) (x0:ByteArray):Option Bool :=
 obind (decimal_IsName x0) fun (t:Bool)=>some t
noncomputable def grid_isName (x0:ByteArray):Option Bool:=grid_isName_b lpK jnK decimal_IsName x0
noncomputable def c108:Ctr:=⟨[.str],[],[],.one .bool,fun x _ _=>grid_isName x.1⟩
theorem e108 (lp:Lp) (jn:Jn) (decimal_IsName:(ByteArray)→Option (Bool)):∀(x:TsS c108.as) (F:TsF c108.fs) (y:TsS c108.cs),grid_isName_b lp jn decimal_IsName x.1=runC lp jn (ctxOf prog shs inls its [(64,⟨[.str],[],[],.one .bool,fun x _ _=>decimal_IsName x.1⟩)] [(119,r119)]) hints 4 108 f108 c108 x F y:=fun x F y=>by kernel_rfl
theorem l108:(ctxOf prog shs inls its [(64,c64)] [(119,r119)]).ok:=ctxOf_cons (q119) (by kernel_rfl) ok64
theorem ok108:c108.ok prog 108:=Ctr.of_den l108 hmix (hl:=hints) (d:=4) func108 rfl (by decide) (e108 lpK jnK decimal_IsName)
noncomputable def grid_within_b (_:Lp) (_:Jn) (x0:Int):Option Bool :=
 
 let v3:Bool:=decide (x0≥(0:Int));
 let v4:Bool:=!v3||v3;bif v4 then bif v4 then some (bif v3 then decide (x0≤(1048576:Int)) else false) else none else none
noncomputable def grid_within (x0:Int):Option Bool:=grid_within_b lpK jnK x0
noncomputable def c109:Ctr:=⟨[i64],[],[],.one .bool,fun x _ _=>grid_within x.1⟩
theorem e109 (lp:Lp) (jn:Jn):∀(x:TsS c109.as) (F:TsF c109.fs) (y:TsS c109.cs),grid_within_b lp jn x.1=runC lp jn (ctxOf prog shs inls its [] [(119,r119)]) hints 4 109 f109 c109 x F y:=fun x F y=>by kernel_rfl
theorem l109:(ctxOf prog shs inls its [] [(119,r119)]).ok:=q119
theorem ok109:c109.ok prog 109:=Ctr.of_den l109 hmix (hl:=hints) (d:=4) func109 rfl (by decide) (e109 lpK jnK)
noncomputable def slices_IndexFunc_151_b (lp:Lp) (_:Jn) (x0:List (ByteArray×Int×Int×Int)) (f0:(((ByteArray×Int×Int×Int)×Unit)→Option Bool)):Option Int :=
 lp (Int×PUnit) Int (fun (again:Int×PUnit→Option Int) (x:Int×PUnit)=>bif decide (x.1<(↑(List.length x0):Int)) then bif inB x.1 (List.length x0) then obind (f0
  (List.getD x0 (Int.toNat x.1) ({ data:={ toList:=[] } },(0:Int),(0:Int),(0:Int)),PUnit.unit)) fun (t:Bool)=>bif t then some x.1 else again (IntKind.wrap
  IntKind.i64 (x.1+(1:Int)),PUnit.unit) else none else some (-1:Int)) ((0:Int),PUnit.unit)
noncomputable def slices_IndexFunc_151 (x0:List (ByteArray×Int×Int×Int)) (f0:(((ByteArray×Int×Int×Int)×Unit)→Option Bool)):Option Int:=slices_IndexFunc_151_b lpK jnK x0 f0
noncomputable def c151:Ctr:=⟨[(.sl T96)],[([T96],.bool)],[],.one i64,fun x F _=>slices_IndexFunc_151 x.1 F.1⟩
theorem e151 (lp:Lp) (jn:Jn):∀(x:TsS c151.as) (F:TsF c151.fs) (y:TsS c151.cs),slices_IndexFunc_151_b lp jn x.1 F.1=runC lp jn (ctxOf prog shs inls its [] [(119,r119)]) hints 4 151 f151 c151 x F y:=fun x F y=>by kernel_rfl
theorem l151:(ctxOf prog shs inls its [] [(119,r119)]).ok:=q119
theorem ok151:c151.ok prog 151:=Ctr.of_den l151 hmix (hl:=hints) (d:=4) func151 rfl (by decide) (e151 lpK jnK)
noncomputable def slices_ContainsFunc_110_b (_:Lp) (_:Jn) (slices_IndexFunc_151:(List (ByteArray×Int×Int×Int))→((((ByteArray×Int×Int×Int)×Unit)→Option Bool))→Option (Int)) (x0:List (ByteArray×Int×Int×Int)) (f0:(((ByteArray×Int×Int×Int)×Unit)→Option Bool)):Option Bool :=
 obind (slices_IndexFunc_151 x0 f0) fun (t:Int)=>some (decide (t≥(0:Int)))
noncomputable def slices_ContainsFunc_110 (x0:List (ByteArray×Int×Int×Int)) (f0:(((ByteArray×Int×Int×Int)×Unit)→Option Bool)):Option Bool:=slices_ContainsFunc_110_b lpK jnK slices_IndexFunc_151 x0 f0
noncomputable def c110:Ctr:=⟨[(.sl T96)],[([T96],.bool)],[],.one .bool,fun x F _=>slices_ContainsFunc_110 x.1 F.1⟩
theorem e110 (lp:Lp) (jn:Jn) (slices_IndexFunc_151:(List (ByteArray×Int×Int×Int))→((((ByteArray×Int×Int×Int)×Unit)→Option Bool))→Option (Int)):∀(x:TsS c110.as) (F:TsF c110.fs) (y:TsS c110.cs),slices_ContainsFunc_110_b lp jn slices_IndexFunc_151 x.1 F.1=runC lp jn (ctxOf prog shs inls its [(151,⟨[(.sl T96)],[([T96],.bool)],[],.one i64,fun x F _=>slices_IndexFunc_151 x.1 F.1⟩)] [(119,r119)]) hints 4 110 f110 c110 x F y:=fun x F y=>by kernel_rfl
theorem l110:(ctxOf prog shs inls its [(151,c151)] [(119,r119)]).ok:=ctxOf_cons (q119) (by kernel_rfl) ok151
theorem ok110:c110.ok prog 110:=Ctr.of_den l110 hmix (hl:=hints) (d:=4) func110 rfl (by decide) (e110 lpK jnK slices_IndexFunc_151)
noncomputable def grid_Valid_1_b (_:Lp) (_:Jn) (x0:ByteArray×Int×Int×Int) (y0:ByteArray×Int×Int×Int):Option Bool :=
 some (List.beq (ByteArray.toList x0.1) (ByteArray.toList y0.1))
noncomputable def grid_Valid_1 (x0:ByteArray×Int×Int×Int) (y0:ByteArray×Int×Int×Int):Option Bool:=grid_Valid_1_b lpK jnK x0 y0
noncomputable def c111:Ctr:=⟨[T96],[],[T96],.one .bool,fun x _ y=>grid_Valid_1 x.1 y.1⟩
theorem e111 (lp:Lp) (jn:Jn):∀(x:TsS c111.as) (F:TsF c111.fs) (y:TsS c111.cs),grid_Valid_1_b lp jn x.1 y.1=runC lp jn (ctxOf prog shs inls its [] [(119,r119)]) hints 4 111 f111 c111 x F y:=fun x F y=>by kernel_rfl
theorem l111:(ctxOf prog shs inls its [] [(119,r119)]).ok:=q119
theorem ok111:c111.ok prog 111:=Ctr.of_den l111 hmix (hl:=hints) (d:=4) func111 rfl (by decide) (e111 lpK jnK)
noncomputable def grid_Valid_b (lp:Lp) (_:Jn) (grid_isName:(ByteArray)→Option (Bool)) (grid_within:(Int)→Option (Bool)) (slices_ContainsFunc_110:(List (ByteArray×Int×Int×Int))→((((ByteArray×Int×Int×Int)×Unit)→Option Bool))→Option (Bool)) (grid_Valid_1:(ByteArray×Int×Int×Int)→(ByteArray×Int×Int×Int)→Option (Bool)) (x0:List (ByteArray×Int×Int×Int)):Option Bool :=
 bif decide ((↑(List.length x0):Int)>(20:Int)) then some false else lp (Int×PUnit) Bool (fun (again:Int×PUnit→Option Bool) (x:Int×PUnit) =>
 let v5:ByteArray×Int×Int×Int:=List.getD x0 (Int.toNat x.1) ({ data:={ toList:=[] } },(0:Int),(0:Int),(0:Int));bif decide (x.1<(↑(List.length x0):Int)) then
  bif inB x.1 (List.length x0) then obind (grid_isName v5.1) fun (t:Bool) =>
 let v7:Bool:=!t;
 let v8:Bool:=!v7;
 let v9:Bool:=!v8||v8;bif v9 then bif v9 then obind (bif v8 then grid_within v5.2.1 else some false) fun (t:Bool) =>
 let v11:Bool:=bif v7 then true else !t;
 let v12:Bool:=!v11;
 let v13:Bool:=!v12||v12;bif v9 then bif v7||v8 then bif v13 then bif v13 then obind (bif v12 then grid_within v5.2.2.1 else some false) fun (t:Bool) =>
 let v15:Bool:=bif v11 then true else !t;
 let v16:Bool:=!v15;
 let v17:Bool:=!v16||v16;
 let v18:Bool:=bif v15 then true else decide (v5.2.1>v5.2.2.1);
 let v19:Bool:=!v18;
 let v20:Bool:=bif v18 then true else decide (v5.2.2.2<(0:Int));
 let v21:Bool:=!v20;
 let v22:Bool:=!v19||v19;
 let v23:Bool:=!v21||v21;bif v13 then bif v11||v12 then bif v17 then bif v17 then bif v17&&v17 then bif v15||v16 then bif v22 then bif v22 then bif v18||v19 then bif v23
  then bif v23 then bif v20||v21 then bif bif v20 then true else decide (v5.2.2.2>(67108864:Int)) then some false else bif slB (0:Int) x.1 (List.length x0) then obind
  (slices_ContainsFunc_110 (List.drop (0:Nat) (List.take (Int.toNat x.1) x0)) fun (x:(ByteArray×Int×Int×Int)×PUnit)=>grid_Valid_1 x.1 v5) fun (t:Bool)=>bif t then
  some false else again (IntKind.wrap .i64 (x.1+(1:Int)),PUnit.unit) else none else none else none else none else none else none else none else none else none else none else
  none else none else none else none else none else none else none else none else none else none else some true) ((0:Int),PUnit.unit)
noncomputable def grid_Valid (x0:List (ByteArray×Int×Int×Int)):Option Bool:=grid_Valid_b lpK jnK grid_isName grid_within slices_ContainsFunc_110 grid_Valid_1 x0
noncomputable def c65:Ctr:=⟨[(.sl T96)],[],[],.one .bool,fun x _ _=>grid_Valid x.1⟩
theorem e65 (lp:Lp) (jn:Jn) (grid_isName:(ByteArray)→Option (Bool)) (grid_within:(Int)→Option (Bool)) (slices_ContainsFunc_110:(List (ByteArray×Int×Int×Int))→((((ByteArray×Int×Int×Int)×Unit)→Option Bool))→Option (Bool)) (grid_Valid_1:(ByteArray×Int×Int×Int)→(ByteArray×Int×Int×Int)→Option (Bool)):∀(x:TsS c65.as) (F:TsF c65.fs) (y:TsS c65.cs),grid_Valid_b lp jn grid_isName grid_within slices_ContainsFunc_110 grid_Valid_1 x.1=runC lp jn (ctxOf prog shs inls its [(111,⟨[T96],[],[T96],.one .bool,fun x _ y=>grid_Valid_1 x.1 y.1⟩),(110,⟨[(.sl T96)],[([T96],.bool)],[],.one .bool,fun x F _=>slices_ContainsFunc_110 x.1 F.1⟩),(109,⟨[i64],[],[],.one .bool,fun x _ _=>grid_within x.1⟩),(108,⟨[.str],[],[],.one .bool,fun x _ _=>grid_isName x.1⟩)] [(119,r119)]) hints 4 65 f65 c65 x F y:=fun x F y=>by kernel_rfl
theorem l65:(ctxOf prog shs inls its [(111,c111),(110,c110),(109,c109),(108,c108)] [(119,r119)]).ok:=ctxOf_cons (ctxOf_cons (ctxOf_cons (ctxOf_cons (q119) (by kernel_rfl) ok108) (by kernel_rfl) ok109) (by kernel_rfl) ok110) (by kernel_rfl) ok111
theorem ok65:c65.ok prog 65:=Ctr.of_den l65 hmix (hl:=hints) (d:=4) func65 rfl (by decide) (e65 lpK jnK grid_isName grid_within slices_ContainsFunc_110 grid_Valid_1)
noncomputable def house_Valid_b (lp:Lp) (_:Jn) (decimal_IsName:(ByteArray)→Option (Bool)) (batten_Valid:(ByteArray×Int×Int×Int×Int×(List Int)×Int×Int×Int×Int×Int×(List (ByteArray×Int×Int×Int×Int×Int×Int))×List (ByteArray×Int×Int))→Option (Bool)) (house_find:(ByteArray×Int×(List (ByteArray×Int×Int×Int×Int×(List Int)×Int×Int×Int×Int×Int×(List (ByteArray×Int×Int×Int×Int×Int×Int))×List (ByteArray×Int×Int)))×List (ByteArray×Int×Int×Int))→(ByteArray)→Option (Int)) (grid_Valid:(List (ByteArray×Int×Int×Int))→Option (Bool)) (x0:ByteArray×Int×(List (ByteArray×Int×Int×Int×Int×(List Int)×Int×Int×Int×Int×Int×(List (ByteArray×Int×Int×Int×Int×Int×Int))×List (ByteArray×Int×Int)))×List (ByteArray×Int×Int×Int)):Option Bool :=
 
 let v3:Bool:=decide (x0.2.1<(1:Int));
 let v4:Bool:=decide (x0.2.1>(1048576:Int));
 let v5:Bool:=decide ((↑(List.length x0.2.2.1):Int)>(60:Int));obind (decimal_IsName x0.1) fun (t:Bool) =>
 let v7:Bool:=!t;
 let v8:Bool:=!v7;
 let v9:Bool:=bif v7 then true else v3;
 let v10:Bool:=!v9;
 let v11:Bool:=!v8||v8;
 let v12:Bool:=bif v9 then true else v4;
 let v13:Bool:=!v12;
 let v14:Bool:=bif v12 then true else v5;
 let v15:Bool:=!v14;
 let v16:Bool:=!v10||v10;
 let v17:Bool:=!v13||v13;
 let v18:Bool:=!v15||v15;bif v11 then bif v11 then bif v7||v8 then bif v16 then bif v16 then bif v9||v10 then bif v17 then bif v17 then bif v17 then bif v12||v13 then bif v18
  then bif v18 then obind (bif v15 then grid_Valid x0.2.2.2 else some false) fun (t:Bool)=>bif v18 then bif v14||v15 then bif bif v14 then true else !t then some false else lp
  (Int×PUnit) Bool (fun (again:Int×PUnit→Option Bool) (x:Int×PUnit) =>
 let v22:ByteArray×Int×Int×Int×Int×List Int×Int×Int×Int×Int×Int×List (ByteArray×Int×Int×Int×Int×Int×Int)×List (ByteArray×Int×Int):=List.getD
  x0.2.2.1 (Int.toNat x.1) ({ data:={ toList:=[] } },(0:Int),(0:Int),(0:Int),(0:Int),[],(0:Int),(0:Int),(0:Int),(0:Int),(0:Int),[],[]);
 let v23:Bool:=decide (v22.2.2.2.1>x0.2.1);bif decide (x.1<(↑(List.length x0.2.2.1):Int)) then bif inB x.1 (List.length x0.2.2.1) then obind
  (batten_Valid v22) fun (t:Bool) =>
 let v25:Bool:=!t;
 let v26:Bool:=!v25;
 let v27:Bool:=bif v25 then true else v23;
 let v28:Bool:=!v27;
 let v29:Bool:=!v26||v26;
 let v30:Bool:=!v28||v28;
 let v31:Bool:=v30&&v30;bif v29 then bif v29 then bif v29&&v29 then bif v25||v26 then bif v30 then bif v31 then obind (bif v28 then house_find x0 v22.1 else some (0:Int))
  fun (t:Int)=>bif v31 then bif v27||v28 then bif bif v27 then true else !decide (t=x.1) then some false else again (IntKind.wrap .i64 (x.1+(1:Int)),PUnit.unit)
  else none else none else none else none else none else none else none else none else none else some true) ((0:Int),PUnit.unit) else none else none else none else none else none else
  none else none else none else none else none else none else none else none else none
noncomputable def house_Valid (x0:ByteArray×Int×(List (ByteArray×Int×Int×Int×Int×(List Int)×Int×Int×Int×Int×Int×(List (ByteArray×Int×Int×Int×Int×Int×Int))×List (ByteArray×Int×Int)))×List (ByteArray×Int×Int×Int)):Option Bool:=house_Valid_b lpK jnK decimal_IsName batten_Valid house_find grid_Valid x0
noncomputable def c32:Ctr:=⟨[T25],[],[],.one .bool,fun x _ _=>house_Valid x.1⟩
theorem e32 (lp:Lp) (jn:Jn) (decimal_IsName:(ByteArray)→Option (Bool)) (batten_Valid:(ByteArray×Int×Int×Int×Int×(List Int)×Int×Int×Int×Int×Int×(List (ByteArray×Int×Int×Int×Int×Int×Int))×List (ByteArray×Int×Int))→Option (Bool)) (house_find:(ByteArray×Int×(List (ByteArray×Int×Int×Int×Int×(List Int)×Int×Int×Int×Int×Int×(List (ByteArray×Int×Int×Int×Int×Int×Int))×List (ByteArray×Int×Int)))×List (ByteArray×Int×Int×Int))→(ByteArray)→Option (Int)) (grid_Valid:(List (ByteArray×Int×Int×Int))→Option (Bool)):∀(x:TsS c32.as) (F:TsF c32.fs) (y:TsS c32.cs),house_Valid_b lp jn decimal_IsName batten_Valid house_find grid_Valid x.1=runC lp jn (ctxOf prog shs inls its [(65,⟨[(.sl T96)],[],[],.one .bool,fun x _ _=>grid_Valid x.1⟩),(47,⟨[T25,.str],[],[],.one i64,fun x _ _=>house_find x.1 x.2.1⟩),(61,⟨[T44],[],[],.one .bool,fun x _ _=>batten_Valid x.1⟩),(64,⟨[.str],[],[],.one .bool,fun x _ _=>decimal_IsName x.1⟩)] [(119,r119)]) hints 4 32 f32 c32 x F y:=fun x F y=>by kernel_rfl
theorem l32:(ctxOf prog shs inls its [(65,c65),(47,c47),(61,c61),(64,c64)] [(119,r119)]).ok:=ctxOf_cons (ctxOf_cons (ctxOf_cons (ctxOf_cons (q119) (by kernel_rfl) ok64) (by kernel_rfl) ok61) (by kernel_rfl) ok47) (by kernel_rfl) ok65
theorem ok32:c32.ok prog 32:=Ctr.of_den l32 hmix (hl:=hints) (d:=4) func32 rfl (by decide) (e32 lpK jnK decimal_IsName batten_Valid house_find grid_Valid)
noncomputable def slices_IndexFunc_152_b (lp:Lp) (_:Jn) (x0:List (Int×Int)) (f0:(((Int×Int)×Unit)→Option Bool)):Option Int :=
 lp (Int×PUnit) Int (fun (again:Int×PUnit→Option Int) (x:Int×PUnit)=>bif decide (x.1<(↑(List.length x0):Int)) then bif inB x.1 (List.length x0) then obind (f0
  (List.getD x0 (Int.toNat x.1) ((0:Int),(0:Int)),PUnit.unit)) fun (t:Bool)=>bif t then some x.1 else again (IntKind.wrap .i64 (x.1+(1:Int)),PUnit.unit) else
  none else some (-1:Int)) ((0:Int),PUnit.unit)
noncomputable def slices_IndexFunc_152 (x0:List (Int×Int)) (f0:(((Int×Int)×Unit)→Option Bool)):Option Int:=slices_IndexFunc_152_b lpK jnK x0 f0
noncomputable def c152:Ctr:=⟨[(.sl T78)],[([T78],.bool)],[],.one i64,fun x F _=>slices_IndexFunc_152 x.1 F.1⟩
theorem e152 (lp:Lp) (jn:Jn):∀(x:TsS c152.as) (F:TsF c152.fs) (y:TsS c152.cs),slices_IndexFunc_152_b lp jn x.1 F.1=runC lp jn (ctxOf prog shs inls its [] [(119,r119)]) hints 4 152 f152 c152 x F y:=fun x F y=>by kernel_rfl
theorem l152:(ctxOf prog shs inls its [] [(119,r119)]).ok:=q119
theorem ok152:c152.ok prog 152:=Ctr.of_den l152 hmix (hl:=hints) (d:=4) func152 rfl (by decide) (e152 lpK jnK)
noncomputable def slices_ContainsFunc_117_b (_:Lp) (_:Jn) (slices_IndexFunc_152:(List (Int×Int))→((((Int×Int)×Unit)→Option Bool))→Option (Int)) (x0:List (Int×Int)) (f0:(((Int×Int)×Unit)→Option Bool)):Option Bool :=
 obind (slices_IndexFunc_152 x0 f0) fun (t:Int)=>some (decide (t≥(0:Int)))
noncomputable def slices_ContainsFunc_117 (x0:List (Int×Int)) (f0:(((Int×Int)×Unit)→Option Bool)):Option Bool:=slices_ContainsFunc_117_b lpK jnK slices_IndexFunc_152 x0 f0
noncomputable def c117:Ctr:=⟨[(.sl T78)],[([T78],.bool)],[],.one .bool,fun x F _=>slices_ContainsFunc_117 x.1 F.1⟩
theorem e117 (lp:Lp) (jn:Jn) (slices_IndexFunc_152:(List (Int×Int))→((((Int×Int)×Unit)→Option Bool))→Option (Int)):∀(x:TsS c117.as) (F:TsF c117.fs) (y:TsS c117.cs),slices_ContainsFunc_117_b lp jn slices_IndexFunc_152 x.1 F.1=runC lp jn (ctxOf prog shs inls its [(152,⟨[(.sl T78)],[([T78],.bool)],[],.one i64,fun x F _=>slices_IndexFunc_152 x.1 F.1⟩)] [(119,r119)]) hints 4 117 f117 c117 x F y:=fun x F y=>by kernel_rfl
theorem l117:(ctxOf prog shs inls its [(152,c152)] [(119,r119)]).ok:=ctxOf_cons (q119) (by kernel_rfl) ok152
theorem ok117:c117.ok prog 117:=Ctr.of_den l117 hmix (hl:=hints) (d:=4) func117 rfl (by decide) (e117 lpK jnK slices_IndexFunc_152)
noncomputable def grid_given_1_b (_:Lp) (_:Jn) (grid_within:(Int)→Option (Bool)) (x0:Int×Int):Option Bool :=
 obind (grid_within x0.1) fun (t:Bool) =>
 let v4:Bool:=!t;
 let v5:Bool:=!v4;
 let v6:Bool:=!v5||v5;
 let v7:Bool:=bif v4 then true else decide (x0.2<(0:Int));
 let v8:Bool:=!v7;
 let v9:Bool:=!v8||v8;bif v6 then bif v6 then bif v4||v5 then bif v9 then bif v9 then bif v7||v8 then some (bif v7 then true else decide (x0.2>(67108864:Int))) else none
  else none else none else none else none else none
noncomputable def grid_given_1 (x0:Int×Int):Option Bool:=grid_given_1_b lpK jnK grid_within x0
noncomputable def c118:Ctr:=⟨[T78],[],[],.one .bool,fun x _ _=>grid_given_1 x.1⟩
theorem e118 (lp:Lp) (jn:Jn) (grid_within:(Int)→Option (Bool)):∀(x:TsS c118.as) (F:TsF c118.fs) (y:TsS c118.cs),grid_given_1_b lp jn grid_within x.1=runC lp jn (ctxOf prog shs inls its [(109,⟨[i64],[],[],.one .bool,fun x _ _=>grid_within x.1⟩)] [(119,r119)]) hints 4 118 f118 c118 x F y:=fun x F y=>by kernel_rfl
theorem l118:(ctxOf prog shs inls its [(109,c109)] [(119,r119)]).ok:=ctxOf_cons (q119) (by kernel_rfl) ok109
theorem ok118:c118.ok prog 118:=Ctr.of_den l118 hmix (hl:=hints) (d:=4) func118 rfl (by decide) (e118 lpK jnK grid_within)
noncomputable def grid_given_b (_:Lp) (_:Jn) (grid_Valid:(List (ByteArray×Int×Int×Int))→Option (Bool)) (slices_ContainsFunc_117:(List (Int×Int))→((((Int×Int)×Unit)→Option Bool))→Option (Bool)) (grid_given_1:(Int×Int)→Option (Bool)) (x0:List (ByteArray×Int×Int×Int)) (x1:List (Int×Int)):Option Int :=
 
 let v4:Bool:=decide ((↑(List.length x1):Int)>(1000:Int));obind (grid_Valid x0) fun (t:Bool) =>
 let v6:Bool:=!t;
 let v7:Bool:=!v6;
 let v8:Bool:=bif v6 then true else v4;
 let v9:Bool:=!v8;
 let v10:Bool:=!v7||v7;bif v10 then bif v10 then bif v6||v7 then bif !v9||v9 then obind (bif v9 then slices_ContainsFunc_117 x1 fun (x:(Int×Int)×PUnit)=>grid_given_1
  x.1 else some false) fun (t:Bool)=>bif v8||v9 then bif bif v8 then true else t then some (1:Int) else some (0:Int) else none else none else none else none else none
noncomputable def grid_given (x0:List (ByteArray×Int×Int×Int)) (x1:List (Int×Int)):Option Int:=grid_given_b lpK jnK grid_Valid slices_ContainsFunc_117 grid_given_1 x0 x1
noncomputable def c72:Ctr:=⟨[(.sl T96),(.sl T78)],[],[],.one i64,fun x _ _=>grid_given x.1 x.2.1⟩
theorem e72 (lp:Lp) (jn:Jn) (grid_Valid:(List (ByteArray×Int×Int×Int))→Option (Bool)) (slices_ContainsFunc_117:(List (Int×Int))→((((Int×Int)×Unit)→Option Bool))→Option (Bool)) (grid_given_1:(Int×Int)→Option (Bool)):∀(x:TsS c72.as) (F:TsF c72.fs) (y:TsS c72.cs),grid_given_b lp jn grid_Valid slices_ContainsFunc_117 grid_given_1 x.1 x.2.1=runC lp jn (ctxOf prog shs inls its [(118,⟨[T78],[],[],.one .bool,fun x _ _=>grid_given_1 x.1⟩),(117,⟨[(.sl T78)],[([T78],.bool)],[],.one .bool,fun x F _=>slices_ContainsFunc_117 x.1 F.1⟩),(65,⟨[(.sl T96)],[],[],.one .bool,fun x _ _=>grid_Valid x.1⟩)] [(119,r119)]) hints 4 72 f72 c72 x F y:=fun x F y=>by kernel_rfl
theorem l72:(ctxOf prog shs inls its [(118,c118),(117,c117),(65,c65)] [(119,r119)]).ok:=ctxOf_cons (ctxOf_cons (ctxOf_cons (q119) (by kernel_rfl) ok65) (by kernel_rfl) ok117) (by kernel_rfl) ok118
theorem ok72:c72.ok prog 72:=Ctr.of_den l72 hmix (hl:=hints) (d:=4) func72 rfl (by decide) (e72 lpK jnK grid_Valid slices_ContainsFunc_117 grid_given_1)
noncomputable def ratio_gcd_b (lp:Lp) (_:Jn) (x0:Int) (x1:Int):Option Int :=
 lp (Int×Int×PUnit) Int (fun (again:Int×Int×PUnit→Option Int) (x:Int×Int×PUnit)=>bif !decide (x.2.1=(0:Int)) then bif nzB x.2.1 then again (x.2.1,
  Int.tmod x.1 x.2.1,PUnit.unit) else none else some x.1) (x0,x1,PUnit.unit)
noncomputable def ratio_gcd (x0:Int) (x1:Int):Option Int:=ratio_gcd_b lpK jnK x0 x1
noncomputable def c91:Ctr:=⟨[(.int .u64),(.int .u64)],[],[],.one (.int .u64),fun x _ _=>ratio_gcd x.1 x.2.1⟩
theorem e91 (lp:Lp) (jn:Jn):∀(x:TsS c91.as) (F:TsF c91.fs) (y:TsS c91.cs),ratio_gcd_b lp jn x.1 x.2.1=runC lp jn (ctxOf prog shs inls its [] [(119,r119)]) hints 4 91 f91 c91 x F y:=fun x F y=>by kernel_rfl
theorem l91:(ctxOf prog shs inls its [] [(119,r119)]).ok:=q119
theorem ok91:c91.ok prog 91:=Ctr.of_den l91 hmix (hl:=hints) (d:=4) func91 rfl (by decide) (e91 lpK jnK)
noncomputable def ratio_size_b (_:Lp) (_:Jn) (x0:Int):Option Int :=
 
 let v3:Int:=IntKind.wrap .u64 x0;bif decide (x0<(0:Int)) then some (IntKind.wrap .u64 ((0:Int) - v3)) else some v3
noncomputable def ratio_size (x0:Int):Option Int:=ratio_size_b lpK jnK x0
noncomputable def c92:Ctr:=⟨[i64],[],[],.one (.int .u64),fun x _ _=>ratio_size x.1⟩
theorem e92 (lp:Lp) (jn:Jn):∀(x:TsS c92.as) (F:TsF c92.fs) (y:TsS c92.cs),ratio_size_b lp jn x.1=runC lp jn (ctxOf prog shs inls its [] [(119,r119)]) hints 4 92 f92 c92 x F y:=fun x F y=>by kernel_rfl
theorem l92:(ctxOf prog shs inls its [] [(119,r119)]).ok:=q119
theorem ok92:c92.ok prog 92:=Ctr.of_den l92 hmix (hl:=hints) (d:=4) func92 rfl (by decide) (e92 lpK jnK)
noncomputable def ratio_Valid_b (_:Lp) (_:Jn) (ratio_gcd:(Int)→(Int)→Option (Int)) (ratio_size:(Int)→Option (Int)) (x0:Int×Int):Option Bool :=
 
 let v3:Bool:=decide (x0.2≥(1:Int));
 let v4:Bool:=!v3||v3;
 let v5:Bool:=bif v3 then decide (x0.2≤(1152921504606846976:Int)) else false;
 let v6:Bool:=bif v5 then decide (x0.1≥(-1152921504606846976:Int)) else false;
 let v7:Bool:=!v5||v5;
 let v8:Bool:=bif v6 then decide (x0.1≤(1152921504606846976:Int)) else false;
 let v9:Bool:=!v6||v6;
 let v10:Bool:=!v8||v8;bif v4 then bif v4 then bif v4 then bif v7 then bif v7 then bif v7 then bif v9 then bif v9 then bif v9 then bif v10 then bif v10 then obind (bif v8 then
  ratio_size x0.1 else some (0:Int)) fun (t:Int)=>bif v10 then bif v10 then bif v10&&v10 then obind (bif v8 then ratio_gcd t (IntKind.wrap .u64 x0.2) else some (0 :
  Int)) fun (t:Int)=>bif v10 then bif v10 then some (bif v8 then decide (t=(1:Int)) else false) else none else none else none else none else none else none else none else none
  else none else none else none else none else none else none else none else none
noncomputable def ratio_Valid (x0:Int×Int):Option Bool:=ratio_Valid_b lpK jnK ratio_gcd ratio_size x0
noncomputable def c59:Ctr:=⟨[T36],[],[],.one .bool,fun x _ _=>ratio_Valid x.1⟩
theorem e59 (lp:Lp) (jn:Jn) (ratio_gcd:(Int)→(Int)→Option (Int)) (ratio_size:(Int)→Option (Int)):∀(x:TsS c59.as) (F:TsF c59.fs) (y:TsS c59.cs),ratio_Valid_b lp jn ratio_gcd ratio_size x.1=runC lp jn (ctxOf prog shs inls its [(92,⟨[i64],[],[],.one (.int .u64),fun x _ _=>ratio_size x.1⟩),(91,⟨[(.int .u64),(.int .u64)],[],[],.one (.int .u64),fun x _ _=>ratio_gcd x.1 x.2.1⟩)] [(119,r119)]) hints 4 59 f59 c59 x F y:=fun x F y=>by kernel_rfl
theorem l59:(ctxOf prog shs inls its [(92,c92),(91,c91)] [(119,r119)]).ok:=ctxOf_cons (ctxOf_cons (q119) (by kernel_rfl) ok91) (by kernel_rfl) ok92
theorem ok59:c59.ok prog 59:=Ctr.of_den l59 hmix (hl:=hints) (d:=4) func59 rfl (by decide) (e59 lpK jnK ratio_gcd ratio_size)
noncomputable def ratio_product_b (_:Lp) (_:Jn) (bits_Mul64:(Int)→(Int)→Option (Int×Int×Unit)) (x0:Int) (x1:Int):Option (Int×Int) :=
 obind (bits_Mul64 x0 x1) fun (t:Int×Int×PUnit)=>some (t.1,t.2.1)
noncomputable def ratio_product (x0:Int) (x1:Int):Option (Int×Int):=ratio_product_b lpK jnK bits_Mul64 x0 x1
noncomputable def c93:Ctr:=⟨[(.int .u64),(.int .u64)],[],[],.one T118,fun x _ _=>ratio_product x.1 x.2.1⟩
theorem e93 (lp:Lp) (jn:Jn) (bits_Mul64:(Int)→(Int)→Option (Int×Int×Unit)):∀(x:TsS c93.as) (F:TsF c93.fs) (y:TsS c93.cs),ratio_product_b lp jn bits_Mul64 x.1 x.2.1=runC lp jn (ctxOf prog shs inls its [(136,⟨[(.int .u64),(.int .u64)],[],[],.tup [(.int .u64),(.int .u64)],fun x _ _=>bits_Mul64 x.1 x.2.1⟩)] [(119,r119)]) hints 4 93 f93 c93 x F y:=fun x F y=>by kernel_rfl
theorem l93:(ctxOf prog shs inls its [(136,c136)] [(119,r119)]).ok:=ctxOf_cons (q119) (by kernel_rfl) ok136
theorem ok93:c93.ok prog 93:=Ctr.of_den l93 hmix (hl:=hints) (d:=4) func93 rfl (by decide) (e93 lpK jnK bits_Mul64)
noncomputable def ratio_plus_b (_:Lp) (_:Jn) (x0:Int×Int) (x1:Int×Int):Option (Int×Int) :=
 bif decide ((0:Int)≤(0:Int))&&decide ((0:Int)≤(1:Int)) then bif decide ((0:Int)≤addC x0.2 x1.2 (0:Int))&&decide (addC x0.2 x1.2 (0:Int)≤(1:Int)) then
  some (addO x0.1 x1.1 (addC x0.2 x1.2 (0:Int)),addO x0.2 x1.2 (0:Int)) else none else none
noncomputable def ratio_plus (x0:Int×Int) (x1:Int×Int):Option (Int×Int):=ratio_plus_b lpK jnK x0 x1
noncomputable def c94:Ctr:=⟨[T118,T118],[],[],.one T118,fun x _ _=>ratio_plus x.1 x.2.1⟩
theorem e94 (lp:Lp) (jn:Jn):∀(x:TsS c94.as) (F:TsF c94.fs) (y:TsS c94.cs),ratio_plus_b lp jn x.1 x.2.1=runC lp jn (ctxOf prog shs inls its [] [(119,r119)]) hints 4 94 f94 c94 x F y:=fun x F y=>by kernel_rfl
theorem l94:(ctxOf prog shs inls its [] [(119,r119)]).ok:=q119
theorem ok94:c94.ok prog 94:=Ctr.of_den l94 hmix (hl:=hints) (d:=4) func94 rfl (by decide) (e94 lpK jnK)
noncomputable def ratio_less_b (_:Lp) (_:Jn) (x0:Int×Int) (x1:Int×Int):Option Bool :=
 
 let v4:Bool:=decide (x0.1=x1.1);
 let v5:Bool:=decide (x0.1<x1.1);
 let v6:Bool:=!v5;
 let v7:Bool:=!v6;
 let v8:Bool:=v6&&v4;
 let v9:Bool:=v7||v6;
 let v10:Bool:=!v8||v8;bif v9 then bif v9 then bif v9&&v9 then bif v9 then bif v10 then bif v10 then bif v10&&v10 then bif (v7||v9)&&(v7||(!v4||(v7||v8))) then bif v5
  || v6 then some (bif v5 then true else bif v4 then decide (x0.2<x1.2) else false) else none else none else none else none else none else none else none else none else none
noncomputable def ratio_less (x0:Int×Int) (x1:Int×Int):Option Bool:=ratio_less_b lpK jnK x0 x1
noncomputable def c95:Ctr:=⟨[T118,T118],[],[],.one .bool,fun x _ _=>ratio_less x.1 x.2.1⟩
theorem e95 (lp:Lp) (jn:Jn):∀(x:TsS c95.as) (F:TsF c95.fs) (y:TsS c95.cs),ratio_less_b lp jn x.1 x.2.1=runC lp jn (ctxOf prog shs inls its [] [(119,r119)]) hints 4 95 f95 c95 x F y:=fun x F y=>by kernel_rfl
theorem l95:(ctxOf prog shs inls its [] [(119,r119)]).ok:=q119
theorem ok95:c95.ok prog 95:=Ctr.of_den l95 hmix (hl:=hints) (d:=4) func95 rfl (by decide) (e95 lpK jnK)
noncomputable def ratio_minus_b (_:Lp) (_:Jn) (x0:Int×Int) (x1:Int×Int):Option (Int×Int) :=
 bif decide ((0:Int)≤(0:Int))&&decide ((0:Int)≤(1:Int)) then bif decide ((0:Int)≤subC x0.2 x1.2 (0:Int))&&decide (subC x0.2 x1.2 (0:Int)≤(1:Int)) then
  some (subO x0.1 x1.1 (subC x0.2 x1.2 (0:Int)),subO x0.2 x1.2 (0:Int)) else none else none
noncomputable def ratio_minus (x0:Int×Int) (x1:Int×Int):Option (Int×Int):=ratio_minus_b lpK jnK x0 x1
noncomputable def c96:Ctr:=⟨[T118,T118],[],[],.one T118,fun x _ _=>ratio_minus x.1 x.2.1⟩
theorem e96 (lp:Lp) (jn:Jn):∀(x:TsS c96.as) (F:TsF c96.fs) (y:TsS c96.cs),ratio_minus_b lp jn x.1 x.2.1=runC lp jn (ctxOf prog shs inls its [] [(119,r119)]) hints 4 96 f96 c96 x F y:=fun x F y=>by kernel_rfl
theorem l96:(ctxOf prog shs inls its [] [(119,r119)]).ok:=q119
theorem ok96:c96.ok prog 96:=Ctr.of_den l96 hmix (hl:=hints) (d:=4) func96 rfl (by decide) (e96 lpK jnK)
noncomputable def bits_Len64_b (_:Lp) (jn:Jn) (x0:Int):Option Int :=
 jn (Int×Int×PUnit) Int (fun (x:Int×Int×PUnit)=>jn (Int×Int×PUnit) Int (fun (x:Int×Int×PUnit) =>
 let v5:Int:=IntKind.wrap IntKind.u8 x.1;
 let v6:Int:=IntKind.wrap IntKind.u8 (Int.fdiv x.1 ((2:Int) ^ (8:Nat)));bif decide (x.1≥(256:Int)) then bif decide ((0:Int)≤(8:Int)) then bif inB v6 (256:Nat) then
  some (IntKind.wrap .i64 (IntKind.wrap .i64 (x.2.1+(8:Int))+IntKind.wrap .i64 (byteAt { data:=List.toArray (List.append (List.append [(0:UInt8),(1 :
  UInt8),(2:UInt8),(2:UInt8),(3:UInt8),(3:UInt8),(3:UInt8),(3:UInt8),(4:UInt8),(4:UInt8),(4:UInt8),(4:UInt8),(4:UInt8),(4:UInt8),(4:UInt8),(4 :
  UInt8),(5:UInt8),(5:UInt8),(5:UInt8),(5:UInt8),(5:UInt8),(5:UInt8),(5:UInt8),(5:UInt8),(5:UInt8),(5:UInt8),(5:UInt8),(5:UInt8),(5:UInt8),(5 :
  UInt8),(5:UInt8),(5:UInt8),(6:UInt8),(6:UInt8),(6:UInt8),(6:UInt8),(6:UInt8),(6:UInt8),(6:UInt8),(6:UInt8),(6:UInt8),(6:UInt8),(6:UInt8),(6 :
  UInt8),(6:UInt8),(6:UInt8),(6:UInt8),(6:UInt8),(6:UInt8),(6:UInt8),(6:UInt8),(6:UInt8),(6:UInt8),(6:UInt8),(6:UInt8),(6:UInt8),(6:UInt8),(6 :
  UInt8),(6:UInt8),(6:UInt8),(6:UInt8),(6:UInt8),(6:UInt8),(6:UInt8)] [(7:UInt8),(7:UInt8),(7:UInt8),(7:UInt8),(7:UInt8),(7:UInt8),(7:UInt8),(7 :
  UInt8),(7:UInt8),(7:UInt8),(7:UInt8),(7:UInt8),(7:UInt8),(7:UInt8),(7:UInt8),(7:UInt8),(7:UInt8),(7:UInt8),(7:UInt8),(7:UInt8),(7:UInt8),(7 :
  UInt8),(7:UInt8),(7:UInt8),(7:UInt8),(7:UInt8),(7:UInt8),(7:UInt8),(7:UInt8),(7:UInt8),(7:UInt8),(7:UInt8),(7:UInt8),(7:UInt8),(7:UInt8),(7 :
  UInt8),(7:UInt8),(7:UInt8),(7:UInt8),(7:UInt8),(7:UInt8),(7:UInt8),(7:UInt8),(7:UInt8),(7:UInt8),(7:UInt8),(7:UInt8),(7:UInt8),(7:UInt8),(7 :
  UInt8),(7:UInt8),(7:UInt8),(7:UInt8),(7:UInt8),(7:UInt8),(7:UInt8),(7:UInt8),(7:UInt8),(7:UInt8),(7:UInt8),(7:UInt8),(7:UInt8),(7:UInt8),(7 :
  UInt8)]) (List.append [(8:UInt8),(8:UInt8),(8:UInt8),(8:UInt8),(8:UInt8),(8:UInt8),(8:UInt8),(8:UInt8),(8:UInt8),(8:UInt8),(8:UInt8),(8:UInt8),(8 :
  UInt8),(8:UInt8),(8:UInt8),(8:UInt8),(8:UInt8),(8:UInt8),(8:UInt8),(8:UInt8),(8:UInt8),(8:UInt8),(8:UInt8),(8:UInt8),(8:UInt8),(8:UInt8),(8 :
  UInt8),(8:UInt8),(8:UInt8),(8:UInt8),(8:UInt8),(8:UInt8),(8:UInt8),(8:UInt8),(8:UInt8),(8:UInt8),(8:UInt8),(8:UInt8),(8:UInt8),(8:UInt8),(8 :
  UInt8),(8:UInt8),(8:UInt8),(8:UInt8),(8:UInt8),(8:UInt8),(8:UInt8),(8:UInt8),(8:UInt8),(8:UInt8),(8:UInt8),(8:UInt8),(8:UInt8),(8:UInt8),(8 :
  UInt8),(8:UInt8),(8:UInt8),(8:UInt8),(8:UInt8),(8:UInt8),(8:UInt8),(8:UInt8),(8:UInt8),(8:UInt8)] [(8:UInt8),(8:UInt8),(8:UInt8),(8:UInt8),(8 :
  UInt8),(8:UInt8),(8:UInt8),(8:UInt8),(8:UInt8),(8:UInt8),(8:UInt8),(8:UInt8),(8:UInt8),(8:UInt8),(8:UInt8),(8:UInt8),(8:UInt8),(8:UInt8),(8 :
  UInt8),(8:UInt8),(8:UInt8),(8:UInt8),(8:UInt8),(8:UInt8),(8:UInt8),(8:UInt8),(8:UInt8),(8:UInt8),(8:UInt8),(8:UInt8),(8:UInt8),(8:UInt8),(8 :
  UInt8),(8:UInt8),(8:UInt8),(8:UInt8),(8:UInt8),(8:UInt8),(8:UInt8),(8:UInt8),(8:UInt8),(8:UInt8),(8:UInt8),(8:UInt8),(8:UInt8),(8:UInt8),(8 :
  UInt8),(8:UInt8),(8:UInt8),(8:UInt8),(8:UInt8),(8:UInt8),(8:UInt8),(8:UInt8),(8:UInt8),(8:UInt8),(8:UInt8),(8:UInt8),(8:UInt8),(8:UInt8),(8 :
  UInt8),(8:UInt8),(8:UInt8),(8:UInt8)])) } (Int.toNat v6)))) else none else none else bif inB v5 (256:Nat) then some (IntKind.wrap .i64 (x.2.1+IntKind.wrap
  IntKind.i64 (byteAt { data:=List.toArray (List.append (List.append [(0:UInt8),(1:UInt8),(2:UInt8),(2:UInt8),(3:UInt8),(3:UInt8),(3:UInt8),(3:UInt8),(4 :
  UInt8),(4:UInt8),(4:UInt8),(4:UInt8),(4:UInt8),(4:UInt8),(4:UInt8),(4:UInt8),(5:UInt8),(5:UInt8),(5:UInt8),(5:UInt8),(5:UInt8),(5:UInt8),(5 :
  UInt8),(5:UInt8),(5:UInt8),(5:UInt8),(5:UInt8),(5:UInt8),(5:UInt8),(5:UInt8),(5:UInt8),(5:UInt8),(6:UInt8),(6:UInt8),(6:UInt8),(6:UInt8),(6 :
  UInt8),(6:UInt8),(6:UInt8),(6:UInt8),(6:UInt8),(6:UInt8),(6:UInt8),(6:UInt8),(6:UInt8),(6:UInt8),(6:UInt8),(6:UInt8),(6:UInt8),(6:UInt8),(6 :
  UInt8),(6:UInt8),(6:UInt8),(6:UInt8),(6:UInt8),(6:UInt8),(6:UInt8),(6:UInt8),(6:UInt8),(6:UInt8),(6:UInt8),(6:UInt8),(6:UInt8),(6:UInt8)] [(7 :
  UInt8),(7:UInt8),(7:UInt8),(7:UInt8),(7:UInt8),(7:UInt8),(7:UInt8),(7:UInt8),(7:UInt8),(7:UInt8),(7:UInt8),(7:UInt8),(7:UInt8),(7:UInt8),(7 :
  UInt8),(7:UInt8),(7:UInt8),(7:UInt8),(7:UInt8),(7:UInt8),(7:UInt8),(7:UInt8),(7:UInt8),(7:UInt8),(7:UInt8),(7:UInt8),(7:UInt8),(7:UInt8),(7 :
  UInt8),(7:UInt8),(7:UInt8),(7:UInt8),(7:UInt8),(7:UInt8),(7:UInt8),(7:UInt8),(7:UInt8),(7:UInt8),(7:UInt8),(7:UInt8),(7:UInt8),(7:UInt8),(7 :
  UInt8),(7:UInt8),(7:UInt8),(7:UInt8),(7:UInt8),(7:UInt8),(7:UInt8),(7:UInt8),(7:UInt8),(7:UInt8),(7:UInt8),(7:UInt8),(7:UInt8),(7:UInt8),(7 :
  UInt8),(7:UInt8),(7:UInt8),(7:UInt8),(7:UInt8),(7:UInt8),(7:UInt8),(7:UInt8)]) (List.append [(8:UInt8),(8:UInt8),(8:UInt8),(8:UInt8),(8:UInt8),(8 :
  UInt8),(8:UInt8),(8:UInt8),(8:UInt8),(8:UInt8),(8:UInt8),(8:UInt8),(8:UInt8),(8:UInt8),(8:UInt8),(8:UInt8),(8:UInt8),(8:UInt8),(8:UInt8),(8 :
  UInt8),(8:UInt8),(8:UInt8),(8:UInt8),(8:UInt8),(8:UInt8),(8:UInt8),(8:UInt8),(8:UInt8),(8:UInt8),(8:UInt8),(8:UInt8),(8:UInt8),(8:UInt8),(8 :
  UInt8),(8:UInt8),(8:UInt8),(8:UInt8),(8:UInt8),(8:UInt8),(8:UInt8),(8:UInt8),(8:UInt8),(8:UInt8),(8:UInt8),(8:UInt8),(8:UInt8),(8:UInt8),(8 :
  UInt8),(8:UInt8),(8:UInt8),(8:UInt8),(8:UInt8),(8:UInt8),(8:UInt8),(8:UInt8),(8:UInt8),(8:UInt8),(8:UInt8),(8:UInt8),(8:UInt8),(8:UInt8),(8 :
  UInt8),(8:UInt8),(8:UInt8)] [(8:UInt8),(8:UInt8),(8:UInt8),(8:UInt8),(8:UInt8),(8:UInt8),(8:UInt8),(8:UInt8),(8:UInt8),(8:UInt8),(8:UInt8),(8 :
  UInt8),(8:UInt8),(8:UInt8),(8:UInt8),(8:UInt8),(8:UInt8),(8:UInt8),(8:UInt8),(8:UInt8),(8:UInt8),(8:UInt8),(8:UInt8),(8:UInt8),(8:UInt8),(8 :
  UInt8),(8:UInt8),(8:UInt8),(8:UInt8),(8:UInt8),(8:UInt8),(8:UInt8),(8:UInt8),(8:UInt8),(8:UInt8),(8:UInt8),(8:UInt8),(8:UInt8),(8:UInt8),(8 :
  UInt8),(8:UInt8),(8:UInt8),(8:UInt8),(8:UInt8),(8:UInt8),(8:UInt8),(8:UInt8),(8:UInt8),(8:UInt8),(8:UInt8),(8:UInt8),(8:UInt8),(8:UInt8),(8 :
  UInt8),(8:UInt8),(8:UInt8),(8:UInt8),(8:UInt8),(8:UInt8),(8:UInt8),(8:UInt8),(8:UInt8),(8:UInt8),(8:UInt8)])) } (Int.toNat v5)))) else none) fun (j:Int ×
  Int×PUnit→Option Int)=>bif decide (x.1≥(65536:Int)) then bif decide ((0:Int)≤(16:Int)) then j (Int.fdiv x.1 ((2:Int) ^ (16:Nat)),IntKind.wrap .i64
  (x.2.1+(16:Int)),PUnit.unit) else none else j (x.1,x.2.1,PUnit.unit)) fun (j:Int×Int×PUnit→Option Int)=>bif decide (x0≥(4294967296:Int)) then bif decide
  ((0:Int)≤(32:Int)) then j (Int.fdiv x0 ((2:Int) ^ (32:Nat)),(32:Int),PUnit.unit) else none else j (x0,(0:Int),PUnit.unit)
noncomputable def bits_Len64 (x0:Int):Option Int:=bits_Len64_b lpK jnK x0
noncomputable def c163:Ctr:=⟨[(.int .u64)],[],[],.one i64,fun x _ _=>bits_Len64 x.1⟩
theorem e163 (lp:Lp) (jn:Jn):∀(x:TsS c163.as) (F:TsF c163.fs) (y:TsS c163.cs),bits_Len64_b lp jn x.1=runC lp jn (ctxOf prog shs inls its [] [(119,r119)]) hints 4 163 f163 c163 x F y:=fun x F y=>by kernel_rfl
theorem l163:(ctxOf prog shs inls its [] [(119,r119)]).ok:=q119
theorem ok163:c163.ok prog 163:=Ctr.of_den l163 hmix (hl:=hints) (d:=4) func163 rfl (by decide) (e163 lpK jnK)
noncomputable def bits_LeadingZeros64_b (_:Lp) (_:Jn) (bits_Len64:(Int)→Option (Int)) (x0:Int):Option Int :=
 obind (bits_Len64 x0) fun (t:Int)=>some (IntKind.wrap .i64 ((64:Int) - t))
noncomputable def bits_LeadingZeros64 (x0:Int):Option Int:=bits_LeadingZeros64_b lpK jnK bits_Len64 x0
noncomputable def c158:Ctr:=⟨[(.int .u64)],[],[],.one i64,fun x _ _=>bits_LeadingZeros64 x.1⟩
theorem e158 (lp:Lp) (jn:Jn) (bits_Len64:(Int)→Option (Int)):∀(x:TsS c158.as) (F:TsF c158.fs) (y:TsS c158.cs),bits_LeadingZeros64_b lp jn bits_Len64 x.1=runC lp jn (ctxOf prog shs inls its [(163,⟨[(.int .u64)],[],[],.one i64,fun x _ _=>bits_Len64 x.1⟩)] [(119,r119)]) hints 4 158 f158 c158 x F y:=fun x F y=>by kernel_rfl
theorem l158:(ctxOf prog shs inls its [(163,c163)] [(119,r119)]).ok:=ctxOf_cons (q119) (by kernel_rfl) ok163
theorem ok158:c158.ok prog 158:=Ctr.of_den l158 hmix (hl:=hints) (d:=4) func158 rfl (by decide) (e158 lpK jnK bits_Len64)
noncomputable def bits_Div64_b (lp:Lp) (jn:Jn) (bits_LeadingZeros64:(Int)→Option (Int)) (x0:Int) (x1:Int) (x2:Int):Option (Int×Int×Unit) :=
 
 let v5:Bool:=nzB x2;
 let v6:Int:=(2:Int) ^ (32:Nat);
 let v7:Bool:=decide ((0:Int)≤(32:Int));jn PUnit (Int×Int×PUnit) (fun (_:PUnit)=>jn PUnit (Int×Int×PUnit) (fun (_:PUnit)=>bif decide (x0=(0:Int)) then bif v5
  then bif v5 then some (IntKind.wrap .u64 (Int.tdiv x1 x2),Int.tmod x1 x2,PUnit.unit) else none else none else obind (bits_LeadingZeros64 x2) fun (t:Int) =>
 let v11:Int:=IntKind.wrap .u64 t;
 let v12:Bool:=decide ((0:Int)≤v11);
 let v13:Int:=(2:Int) ^ min (Int.toNat v11) (64:Nat);
 let v14:Int:=IntKind.wrap .u64 (x2*v13);
 let v15:Int:=IntKind.wrap .u64 (x1*v13);
 let v16:Int:=Int.fdiv v14 v6;
 let v17:Int:=Int.fdiv v15 v6;
 let v18:Bool:=nzB v16;
 let v19:Int:=IntKind.wrap .u64 (↑(Nat.land (Int.toNat (v15 % Int.ofNat (18446744073709551616:Nat))) (Int.toNat ((4294967295:Int) % Int.ofNat (18446744073709551616:Nat))))
  : Int);
 let v20:Int:=IntKind.wrap .u64 (↑(Nat.land (Int.toNat (v14 % Int.ofNat (18446744073709551616:Nat))) (Int.toNat ((4294967295:Int) % Int.ofNat (18446744073709551616:Nat))))
  : Int);
 let v21:Int:=IntKind.wrap .u64 (↑(Nat.lor (Int.toNat (IntKind.wrap .u64 (x0*v13) % Int.ofNat (18446744073709551616:Nat))) (Int.toNat (Int.fdiv x1 ((2:Int) ^ min
  (Int.toNat (IntKind.wrap .u64 ((64:Int) - v11))) (64:Nat)) % Int.ofNat (18446744073709551616:Nat)))):Int);
 let v22:Int:=IntKind.wrap .u64 (Int.tdiv v21 v16);bif v12 then bif v7 then bif v12 then bif decide ((0:Int)≤IntKind.wrap .u64 ((64:Int) - v11)) then bif v12 then
  bif v7 then bif v18 then jn (Int×PUnit) (Int×Int×PUnit) (fun (x:Int×PUnit) =>
 let v24:Int:=IntKind.wrap .u64 (IntKind.wrap .u64 (IntKind.wrap .u64 (v21*(4294967296:Int))+v17) - IntKind.wrap .u64 (x.1*v14));
 let v25:Int:=IntKind.wrap .u64 (Int.tdiv v24 v16);bif v18 then jn (Int×PUnit) (Int×Int×PUnit) (fun (x_1:Int×PUnit)=>bif v12 then some (IntKind.wrap .u64
  (IntKind.wrap .u64 (x.1*(4294967296:Int))+x_1.1),Int.fdiv (IntKind.wrap .u64 (IntKind.wrap .u64 (IntKind.wrap .u64 (v24*(4294967296:Int)) +
  v19) - IntKind.wrap .u64 (x_1.1*v14))) v13,PUnit.unit) else none) fun (j:Int×PUnit→Option (Int×Int×PUnit))=>lp (Int×Int×PUnit) (Int×Int×PUnit) (fun
  (again:Int×Int×PUnit→Option (Int×Int×PUnit)) (x:Int×Int×PUnit) =>
 let v29:Int×PUnit:=(IntKind.wrap .u64 (x.2.1 - (1:Int)),PUnit.unit);
 let v30:Bool:=decide (x.2.1≥(4294967296:Int));
 let v31:Bool:=!v30;
 let v32:Bool:=!v31||v31;
 let v33:Bool:=v32&&v32;bif v33 then bif v32 then bif v33 then bif v33 then bif v30||v31 then bif bif v30 then true else decide (IntKind.wrap .u64 (x.2.1*v20) >
  IntKind.wrap .u64 (IntKind.wrap .u64 ((4294967296:Int)*x.1)+v19)) then bif decide (IntKind.wrap .u64 (x.1+v16)≥(4294967296:Int)) then j v29 else
  again (IntKind.wrap .u64 (x.1+v16),v29) else j (x.2.1,PUnit.unit) else none else none else none else none else none) (IntKind.wrap .u64 (v24 - IntKind.wrap
  IntKind.u64 (v25*v16)),v25,PUnit.unit) else none) fun (j:Int×PUnit→Option (Int×Int×PUnit))=>lp (Int×Int×PUnit) (Int×Int×PUnit) (fun (again:Int×Int×PUnit →
  Option (Int×Int×PUnit)) (x:Int×Int×PUnit) =>
 let v26:Int:=IntKind.wrap .u64 (x.1 - (1:Int));
 let v27:Bool:=decide (x.1≥(4294967296:Int));
 let v28:Bool:=!v27;
 let v29:Bool:=!v28||v28;
 let v30:Bool:=v29&&v29;bif v30 then bif v29 then bif v30 then bif v30 then bif v27||v28 then bif bif v27 then true else decide (IntKind.wrap .u64 (x.1*v20) >
  IntKind.wrap .u64 (IntKind.wrap .u64 ((4294967296:Int)*x.2.1)+v17)) then bif decide (IntKind.wrap .u64 (x.2.1+v16)≥(4294967296:Int)) then j
  (v26,PUnit.unit) else again (v26,IntKind.wrap .u64 (x.2.1+v16),PUnit.unit) else j (x.1,PUnit.unit) else none else none else none else none else none) (v22,
  IntKind.wrap .u64 (v21 - IntKind.wrap .u64 (v22*v16)),PUnit.unit) else none else none else none else none else none else none else none) fun (j:PUnit→Option (Int ×
  Int×PUnit))=>bif decide (x2≤x0) then none else j PUnit.unit) fun (j:PUnit→Option (Int×Int×PUnit))=>bif decide (x2=(0:Int)) then none else j PUnit.unit
noncomputable def bits_Div64 (x0:Int) (x1:Int) (x2:Int):Option (Int×Int×Unit):=bits_Div64_b lpK jnK bits_LeadingZeros64 x0 x1 x2
noncomputable def c139:Ctr:=⟨[(.int .u64),(.int .u64),(.int .u64)],[],[],.tup [(.int .u64),(.int .u64)],fun x _ _=>bits_Div64 x.1 x.2.1 x.2.2.1⟩
theorem e139 (lp:Lp) (jn:Jn) (bits_LeadingZeros64:(Int)→Option (Int)):∀(x:TsS c139.as) (F:TsF c139.fs) (y:TsS c139.cs),bits_Div64_b lp jn bits_LeadingZeros64 x.1 x.2.1 x.2.2.1=runC lp jn (ctxOf prog shs inls its [(158,⟨[(.int .u64)],[],[],.one i64,fun x _ _=>bits_LeadingZeros64 x.1⟩)] [(119,r119)]) hints 4 139 f139 c139 x F y:=fun x F y=>by kernel_rfl
theorem l139:(ctxOf prog shs inls its [(158,c158)] [(119,r119)]).ok:=ctxOf_cons (q119) (by kernel_rfl) ok158
theorem ok139:c139.ok prog 139:=Ctr.of_den l139 hmix (hl:=hints) (d:=4) func139 rfl (by decide) (e139 lpK jnK bits_LeadingZeros64)
noncomputable def ratio_over_b (_:Lp) (_:Jn) (bits_Div64:(Int)→(Int)→(Int)→Option (Int×Int×Unit)) (x0:Int×Int) (x1:Int):Option ((Int×Int)×Int×Unit) :=
 
 let v4:Bool:=nzB x1;bif v4 then obind (bits_Div64 (Int.tmod x0.1 x1) x0.2 x1) fun (t:Int×Int×PUnit)=>bif v4 then some ((IntKind.wrap .u64 (Int.tdiv x0.1 x1),
  t.1),t.2.1,PUnit.unit) else none else none
noncomputable def ratio_over (x0:Int×Int) (x1:Int):Option ((Int×Int)×Int×Unit):=ratio_over_b lpK jnK bits_Div64 x0 x1
noncomputable def c97:Ctr:=⟨[T118,(.int .u64)],[],[],.tup [T118,(.int .u64)],fun x _ _=>ratio_over x.1 x.2.1⟩
theorem e97 (lp:Lp) (jn:Jn) (bits_Div64:(Int)→(Int)→(Int)→Option (Int×Int×Unit)):∀(x:TsS c97.as) (F:TsF c97.fs) (y:TsS c97.cs),ratio_over_b lp jn bits_Div64 x.1 x.2.1=runC lp jn (ctxOf prog shs inls its [(139,⟨[(.int .u64),(.int .u64),(.int .u64)],[],[],.tup [(.int .u64),(.int .u64)],fun x _ _=>bits_Div64 x.1 x.2.1 x.2.2.1⟩)] [(119,r119)]) hints 4 97 f97 c97 x F y:=fun x F y=>by kernel_rfl
theorem l97:(ctxOf prog shs inls its [(139,c139)] [(119,r119)]).ok:=ctxOf_cons (q119) (by kernel_rfl) ok139
theorem ok97:c97.ok prog 97:=Ctr.of_den l97 hmix (hl:=hints) (d:=4) func97 rfl (by decide) (e97 lpK jnK bits_Div64)
noncomputable def ratio_signed_b (_:Lp) (_:Jn) (x0:Bool) (x1:Int) (x2:Int):Option ((Int×Int)×Int×Unit) :=
 
 let v5:Int:=IntKind.wrap .i64 x1;
 let v6:Int:=IntKind.wrap .i64 x2;
 let v7:Bool:=decide (x1>(1152921504606846976:Int));
 let v8:Bool:=!v7;bif !v8||v8 then bif v7||v8 then bif bif v7 then true else decide (x2>(1152921504606846976:Int)) then some (((0:Int),(0:Int)),(5:Int),PUnit.unit)
  else bif x0 then some ((IntKind.wrap .i64 ((0:Int) - v5),v6),(0:Int),PUnit.unit) else some ((v5,v6),(0:Int),PUnit.unit) else none else none
noncomputable def ratio_signed (x0:Bool) (x1:Int) (x2:Int):Option ((Int×Int)×Int×Unit):=ratio_signed_b lpK jnK x0 x1 x2
noncomputable def c98:Ctr:=⟨[.bool,(.int .u64),(.int .u64)],[],[],.tup [T36,i64],fun x _ _=>ratio_signed x.1 x.2.1 x.2.2.1⟩
theorem e98 (lp:Lp) (jn:Jn):∀(x:TsS c98.as) (F:TsF c98.fs) (y:TsS c98.cs),ratio_signed_b lp jn x.1 x.2.1 x.2.2.1=runC lp jn (ctxOf prog shs inls its [] [(119,r119)]) hints 4 98 f98 c98 x F y:=fun x F y=>by kernel_rfl
theorem l98:(ctxOf prog shs inls its [] [(119,r119)]).ok:=q119
theorem ok98:c98.ok prog 98:=Ctr.of_den l98 hmix (hl:=hints) (d:=4) func98 rfl (by decide) (e98 lpK jnK)
noncomputable def ratio_Add_b (_:Lp) (jn:Jn) (ratio_gcd:(Int)→(Int)→Option (Int)) (ratio_size:(Int)→Option (Int)) (ratio_Valid:(Int×Int)→Option (Bool)) (ratio_product:(Int)→(Int)→Option (Int×Int)) (ratio_plus:(Int×Int)→(Int×Int)→Option (Int×Int)) (ratio_less:(Int×Int)→(Int×Int)→Option (Bool)) (ratio_minus:(Int×Int)→(Int×Int)→Option (Int×Int)) (ratio_over:(Int×Int)→(Int)→Option ((Int×Int)×Int×Unit)) (ratio_signed:(Bool)→(Int)→(Int)→Option ((Int×Int)×Int×Unit)) (x0:Int×Int) (x1:Int×Int):Option ((Int×Int)×Int×Unit) :=
 
 let v4:Int:=IntKind.wrap .u64 x0.2;
 let v5:Int:=IntKind.wrap .u64 x1.2;
 let v6:Bool:=decide (x0.1<(0:Int));obind (ratio_Valid x0) fun (t:Bool) =>
 let v8:Bool:=!t;
 let v9:Bool:=!v8;
 let v10:Bool:=!v9||v9;bif v10 then obind (bif v9 then ratio_Valid x1 else some false) fun (t:Bool)=>bif v10 then bif v8||v9 then bif bif v8 then true else !t then some (((0 :
  Int),(0:Int)),(1:Int),PUnit.unit) else obind (ratio_gcd v4 v5) fun (t:Int) =>
 let v13:Bool:=nzB t;
 let v14:Int:=IntKind.wrap .u64 (Int.tdiv v4 t);obind (ratio_size x0.1) fun (t_1:Int)=>bif v13 then obind (ratio_product t_1 (IntKind.wrap .u64 (Int.tdiv v5 t)))
  fun (t_2:Int×Int)=>obind (ratio_size x1.1) fun (t_3:Int)=>bif v13 then obind (ratio_product t_3 v14) fun (t_4:Int×Int)=>jn (Bool×(Int×Int)×PUnit) ((Int×Int) ×
  Int×PUnit) (fun (x:Bool×(Int×Int)×PUnit)=>bif decide (x.2.1.1=(0:Int))&&(decide (x.2.1.2=(0:Int))&&true) then some (((0:Int),(1:Int)),(0 :
  Int),PUnit.unit) else obind (ratio_over x.2.1 t) fun (t_5:(Int×Int)×Int×PUnit)=>obind (ratio_gcd t t_5.2.1) fun (t:Int)=>obind (ratio_over x.2.1 t) fun (t_6 :
  (Int×Int)×Int×PUnit) =>
 let v23:Bool:=decide (t_6.1.1>(0:Int));
 let v24:Bool:=!v23;
 let v25:Bool:=!v24||v24;bif v13 then bif nzB t then obind (ratio_product v14 (IntKind.wrap .u64 (Int.tdiv v5 t))) fun (t:Int×Int)=>bif v25 then bif v25 then bif v23 ||
  v24 then bif bif v23 then true else decide (t.1>(0:Int)) then some (((0:Int),(0:Int)),(5:Int),PUnit.unit) else obind (ratio_signed x.1 t_6.1.2 t.2) fun (t:(Int
  × Int)×Int×PUnit)=>some (t.1,t.2.1,PUnit.unit) else none else none else none else none else none) fun (j:Bool×(Int×Int)×PUnit→Option ((Int×Int)×Int×PUnit))
  =>bif decide (v6=decide (x1.1<(0:Int))) then obind (ratio_plus t_2 t_4) fun (t:Int×Int)=>j (v6,t,PUnit.unit) else obind (ratio_less t_2 t_4) fun (t:Bool)=>jn (Bool
  × (Int×Int)×PUnit) ((Int×Int)×Int×PUnit) (fun (x:Bool×(Int×Int)×PUnit)=>j (x.1,x.2.1,PUnit.unit)) fun (j:Bool×(Int×Int)×PUnit→Option ((Int×Int) ×
  Int×PUnit))=>bif t then obind (ratio_minus t_4 t_2) fun (t:Int×Int)=>j (!v6,t,PUnit.unit) else obind (ratio_minus t_2 t_4) fun (t:Int×Int)=>j (v6,t,PUnit.unit) else
  none else none else none else none else none
noncomputable def ratio_Add (x0:Int×Int) (x1:Int×Int):Option ((Int×Int)×Int×Unit):=ratio_Add_b lpK jnK ratio_gcd ratio_size ratio_Valid ratio_product ratio_plus ratio_less ratio_minus ratio_over ratio_signed x0 x1
noncomputable def c60:Ctr:=⟨[T36,T36],[],[],.tup [T36,i64],fun x _ _=>ratio_Add x.1 x.2.1⟩
theorem e60 (lp:Lp) (jn:Jn) (ratio_gcd:(Int)→(Int)→Option (Int)) (ratio_size:(Int)→Option (Int)) (ratio_Valid:(Int×Int)→Option (Bool)) (ratio_product:(Int)→(Int)→Option (Int×Int)) (ratio_plus:(Int×Int)→(Int×Int)→Option (Int×Int)) (ratio_less:(Int×Int)→(Int×Int)→Option (Bool)) (ratio_minus:(Int×Int)→(Int×Int)→Option (Int×Int)) (ratio_over:(Int×Int)→(Int)→Option ((Int×Int)×Int×Unit)) (ratio_signed:(Bool)→(Int)→(Int)→Option ((Int×Int)×Int×Unit)):∀(x:TsS c60.as) (F:TsF c60.fs) (y:TsS c60.cs),ratio_Add_b lp jn ratio_gcd ratio_size ratio_Valid ratio_product ratio_plus ratio_less ratio_minus ratio_over ratio_signed x.1 x.2.1=runC lp jn (ctxOf prog shs inls its [(98,⟨[.bool,(.int .u64),(.int .u64)],[],[],.tup [T36,i64],fun x _ _=>ratio_signed x.1 x.2.1 x.2.2.1⟩),(97,⟨[T118,(.int .u64)],[],[],.tup [T118,(.int .u64)],fun x _ _=>ratio_over x.1 x.2.1⟩),(96,⟨[T118,T118],[],[],.one T118,fun x _ _=>ratio_minus x.1 x.2.1⟩),(95,⟨[T118,T118],[],[],.one .bool,fun x _ _=>ratio_less x.1 x.2.1⟩),(94,⟨[T118,T118],[],[],.one T118,fun x _ _=>ratio_plus x.1 x.2.1⟩),(93,⟨[(.int .u64),(.int .u64)],[],[],.one T118,fun x _ _=>ratio_product x.1 x.2.1⟩),(59,⟨[T36],[],[],.one .bool,fun x _ _=>ratio_Valid x.1⟩),(92,⟨[i64],[],[],.one (.int .u64),fun x _ _=>ratio_size x.1⟩),(91,⟨[(.int .u64),(.int .u64)],[],[],.one (.int .u64),fun x _ _=>ratio_gcd x.1 x.2.1⟩)] [(119,r119)]) hints 4 60 f60 c60 x F y:=fun x F y=>by kernel_rfl
theorem l60:(ctxOf prog shs inls its [(98,c98),(97,c97),(96,c96),(95,c95),(94,c94),(93,c93),(59,c59),(92,c92),(91,c91)] [(119,r119)]).ok:=ctxOf_cons (ctxOf_cons (ctxOf_cons (ctxOf_cons (ctxOf_cons (ctxOf_cons (ctxOf_cons (ctxOf_cons (ctxOf_cons (q119) (by kernel_rfl) ok91) (by kernel_rfl) ok92) (by kernel_rfl) ok59) (by kernel_rfl) ok93) (by kernel_rfl) ok94) (by kernel_rfl) ok95) (by kernel_rfl) ok96) (by kernel_rfl) ok97) (by kernel_rfl) ok98
theorem ok60:c60.ok prog 60:=Ctr.of_den l60 hmix (hl:=hints) (d:=4) func60 rfl (by decide) (e60 lpK jnK ratio_gcd ratio_size ratio_Valid ratio_product ratio_plus ratio_less ratio_minus ratio_over ratio_signed)
noncomputable def grid_of_b (_:Lp) (_:Jn) (x0:Int):Option (Int×Int) :=
 some (x0,(1:Int))
noncomputable def grid_of (x0:Int):Option (Int×Int):=grid_of_b lpK jnK x0
noncomputable def c120:Ctr:=⟨[i64],[],[],.one T36,fun x _ _=>grid_of x.1⟩
theorem e120 (lp:Lp) (jn:Jn):∀(x:TsS c120.as) (F:TsF c120.fs) (y:TsS c120.cs),grid_of_b lp jn x.1=runC lp jn (ctxOf prog shs inls its [] [(119,r119)]) hints 4 120 f120 c120 x F y:=fun x F y=>by kernel_rfl
theorem l120:(ctxOf prog shs inls its [] [(119,r119)]).ok:=q119
theorem ok120:c120.ok prog 120:=Ctr.of_den l120 hmix (hl:=hints) (d:=4) func120 rfl (by decide) (e120 lpK jnK)
noncomputable def grid_beams_count_b (lp:Lp) (_:Jn) (x0:List (ByteArray×Int×Int×Int)) (x1:Int):Option Int :=
 bif overP x0 then lp (Nat×Int×PUnit) Int (fun (again:Nat×Int×PUnit→Option Int) (p:Nat×Int×PUnit)=>bif Nat.ble (Nat.succ p.1) (List.length (overL x0 x1)) then again
  (Nat.succ p.1,IntKind.wrap .i64 (p.2.1+(1:Int)),PUnit.unit) else some p.2.1) ((0:Nat),(0:Int),PUnit.unit) else none
noncomputable def grid_beams_count (x0:List (ByteArray×Int×Int×Int)) (x1:Int):Option Int:=grid_beams_count_b lpK jnK x0 x1
noncomputable def c121:Ctr:=⟨[(.sl T96),i64],[],[],.one i64,fun x _ _=>grid_beams_count x.1 x.2.1⟩
theorem e121 (lp:Lp) (jn:Jn):∀(x:TsS c121.as) (F:TsF c121.fs) (y:TsS c121.cs),grid_beams_count_b lp jn x.1 x.2.1=runC lp jn (ctxOf prog shs inls its [] [(119,r119)]) hints 4 121 f121 c121 x F y:=fun x F y=>by kernel_rfl
theorem l121:(ctxOf prog shs inls its [] [(119,r119)]).ok:=q119
theorem ok121:c121.ok prog 121:=Ctr.of_den l121 hmix (hl:=hints) (d:=4) func121 rfl (by decide) (e121 lpK jnK)
noncomputable def ratio_Make_b (_:Lp) (_:Jn) (ratio_gcd:(Int)→(Int)→Option (Int)) (ratio_size:(Int)→Option (Int)) (ratio_signed:(Bool)→(Int)→(Int)→Option ((Int×Int)×Int×Unit)) (x0:Int) (x1:Int):Option ((Int×Int)×Int×Unit) :=
 
 let v4:Bool:=!decide (x0=(0:Int));
 let v5:Bool:=!v4||v4;bif decide (x1=(0:Int)) then some (((0:Int),(0:Int)),(16:Int),PUnit.unit) else obind (ratio_size x0) fun (t:Int)=>obind (ratio_size x1) fun
  (t_1:Int)=>obind (ratio_gcd t t_1) fun (t_2:Int) =>
 let v9:Bool:=nzB t_2;bif v5 then bif v5 then bif v5&&v5 then bif v5 then bif v9 then bif v9 then obind (ratio_signed (bif v4 then !decide (decide (x0<(0:Int))=decide (x1<(0
  : Int))) else false) (IntKind.wrap .u64 (Int.tdiv t t_2)) (IntKind.wrap .u64 (Int.tdiv t_1 t_2))) fun (t:(Int×Int)×Int×PUnit)=>some (t.1,t.2.1,
  PUnit.unit) else none else none else none else none else none else none
noncomputable def ratio_Make (x0:Int) (x1:Int):Option ((Int×Int)×Int×Unit):=ratio_Make_b lpK jnK ratio_gcd ratio_size ratio_signed x0 x1
noncomputable def c122:Ctr:=⟨[i64,i64],[],[],.tup [T36,i64],fun x _ _=>ratio_Make x.1 x.2.1⟩
theorem e122 (lp:Lp) (jn:Jn) (ratio_gcd:(Int)→(Int)→Option (Int)) (ratio_size:(Int)→Option (Int)) (ratio_signed:(Bool)→(Int)→(Int)→Option ((Int×Int)×Int×Unit)):∀(x:TsS c122.as) (F:TsF c122.fs) (y:TsS c122.cs),ratio_Make_b lp jn ratio_gcd ratio_size ratio_signed x.1 x.2.1=runC lp jn (ctxOf prog shs inls its [(98,⟨[.bool,(.int .u64),(.int .u64)],[],[],.tup [T36,i64],fun x _ _=>ratio_signed x.1 x.2.1 x.2.2.1⟩),(92,⟨[i64],[],[],.one (.int .u64),fun x _ _=>ratio_size x.1⟩),(91,⟨[(.int .u64),(.int .u64)],[],[],.one (.int .u64),fun x _ _=>ratio_gcd x.1 x.2.1⟩)] [(119,r119)]) hints 4 122 f122 c122 x F y:=fun x F y=>by kernel_rfl
theorem l122:(ctxOf prog shs inls its [(98,c98),(92,c92),(91,c91)] [(119,r119)]).ok:=ctxOf_cons (ctxOf_cons (ctxOf_cons (q119) (by kernel_rfl) ok91) (by kernel_rfl) ok92) (by kernel_rfl) ok98
theorem ok122:c122.ok prog 122:=Ctr.of_den l122 hmix (hl:=hints) (d:=4) func122 rfl (by decide) (e122 lpK jnK ratio_gcd ratio_size ratio_signed)
noncomputable def grid_borne_b (lp:Lp) (_:Jn) (ratio_Add:(Int×Int)→(Int×Int)→Option ((Int×Int)×Int×Unit)) (grid_of:(Int)→Option (Int×Int)) (grid_beams_count:(List (ByteArray×Int×Int×Int))→(Int)→Option (Int)) (ratio_Make:(Int)→(Int)→Option ((Int×Int)×Int×Unit)) (slices_Repeat_119:(List (Int×Int))→(Int)→Option (List (Int×Int))) (x0:List (ByteArray×Int×Int×Int)) (x1:List (Int×Int)):Option ((List (Int×Int))×Int×Unit) :=
 obind (grid_of (0:Int)) fun (t:Int×Int)=>obind (slices_Repeat_119 [t] (↑(List.length x0):Int)) fun (t:List (Int×Int))=>lp (Int×List (Int×Int)×Int×PUnit) (List (Int ×
  Int)×Int×PUnit) (fun (again:Int×List (Int×Int)×Int×PUnit→Option (List (Int×Int)×Int×PUnit)) (x:Int×List (Int×Int)×Int×PUnit)=>bif decide (x.1 <
  (↑(List.length x1):Int)) then bif inB x.1 (List.length x1) then obind (grid_beams_count x0 (List.getD x1 (Int.toNat x.1) ((0:Int),(0:Int))).1) fun (t:Int)=>bif decide
  (t=(0:Int)) then some ([],(12:Int),PUnit.unit) else again (IntKind.wrap .i64 (x.1+(1:Int)),x.2.1,x.2.2.1,PUnit.unit) else none else lp (Int×List (Int
  × Int)×Int×List (Int×Int)×PUnit) (List (Int×Int)×Int×PUnit) (fun (again:Int×List (Int×Int)×Int×List (Int×Int)×PUnit→Option (List (Int×Int)×Int ×
  PUnit)) (x:Int×List (Int×Int)×Int×List (Int×Int)×PUnit) =>
 let v10:Int×Int:=List.getD x1 (Int.toNat x.1) ((0:Int),(0:Int));
 let v11:List (Int×Unit):=overL x0 v10.1;bif decide (x.1<(↑(List.length x1):Int)) then bif inB x.1 (List.length x1) then obind (grid_beams_count x0 v10.1) fun (t:Int)
  =>obind (ratio_Make v10.2 t) fun (t:(Int×Int)×Int×PUnit)=>bif !decide (t.2.1=(0:Int)) then some ([],t.2.1,PUnit.unit) else bif overP x0 then lp (Nat×List
  (Int×Int)×Int×Int×List (Int×Int)×PUnit) (List (Int×Int)×Int×PUnit) (fun (again_1:Nat×List (Int×Int)×Int×Int×List (Int×Int)×PUnit→Option (List (Int ×
  Int)×Int×PUnit)) (p:Nat×List (Int×Int)×Int×Int×List (Int×Int)×PUnit) =>
 let v16:Bool:=inB (List.getD v11 p.1 ((0:Int),PUnit.unit)).1 (List.length p.2.2.2.2.1);
 let v17:Bool:=Nat.ble (Nat.succ (Int.toNat (List.getD v11 p.1 ((0:Int),PUnit.unit)).1)) (List.length p.2.2.2.2.1);bif Nat.ble (Nat.succ p.1) (List.length v11) then
  bif v16 then bif v17 then obind (ratio_Add (List.getD p.2.2.2.2.1 (Int.toNat (List.getD v11 p.1 ((0:Int),PUnit.unit)).1) ((0:Int),(0:Int))) t.1) fun (t:(Int ×
  Int)×Int×PUnit)=>bif v16 then bif v17 then bif !decide (t.2.1=(0:Int)) then some ([],t.2.1,PUnit.unit) else again_1 (Nat.succ p.1,p.2.1,p.2.2.1,
  t.2.1,List.set p.2.2.2.2.1 (Int.toNat (List.getD v11 p.1 ((0:Int),PUnit.unit)).1) t.1,PUnit.unit) else none else none else none else none else again
  (IntKind.wrap .i64 (x.1+(1:Int)),p.2.1,p.2.2.1,p.2.2.2.2.1,PUnit.unit)) ((0:Nat),x.2.1,x.2.2.1,t.2.1,x.2.2.2.1,
  PUnit.unit) else none else none else some (x.2.2.2.1,(0:Int),PUnit.unit)) ((0:Int),x.2.1,x.2.2.1,t,PUnit.unit)) ((0:Int),[],(0:Int),PUnit.unit)
noncomputable def grid_borne (x0:List (ByteArray×Int×Int×Int)) (x1:List (Int×Int)):Option ((List (Int×Int))×Int×Unit):=grid_borne_b lpK jnK ratio_Add grid_of grid_beams_count ratio_Make slices_Repeat_119 x0 x1
noncomputable def c73:Ctr:=⟨[(.sl T96),(.sl T78)],[],[],.tup [(.sl T36),i64],fun x _ _=>grid_borne x.1 x.2.1⟩
theorem e73 (lp:Lp) (jn:Jn) (ratio_Add:(Int×Int)→(Int×Int)→Option ((Int×Int)×Int×Unit)) (grid_of:(Int)→Option (Int×Int)) (grid_beams_count:(List (ByteArray×Int×Int×Int))→(Int)→Option (Int)) (ratio_Make:(Int)→(Int)→Option ((Int×Int)×Int×Unit)) (slices_Repeat_119:(List (Int×Int))→(Int)→Option (List (Int×Int))):∀(x:TsS c73.as) (F:TsF c73.fs) (y:TsS c73.cs),grid_borne_b lp jn ratio_Add grid_of grid_beams_count ratio_Make slices_Repeat_119 x.1 x.2.1=runC lp jn (ctxOf prog shs inls its [(122,⟨[i64,i64],[],[],.tup [T36,i64],fun x _ _=>ratio_Make x.1 x.2.1⟩),(121,⟨[(.sl T96),i64],[],[],.one i64,fun x _ _=>grid_beams_count x.1 x.2.1⟩),(120,⟨[i64],[],[],.one T36,fun x _ _=>grid_of x.1⟩),(60,⟨[T36,T36],[],[],.tup [T36,i64],fun x _ _=>ratio_Add x.1 x.2.1⟩)] [(119,⟨[(.sl T36),i64],36,T36,fun x=>slices_Repeat_119 x.1 x.2.1⟩)]) hints 4 73 f73 c73 x F y:=fun x F y=>by kernel_rfl
theorem l73:(ctxOf prog shs inls its [(122,c122),(121,c121),(120,c120),(60,c60)] [(119,r119)]).ok:=ctxOf_cons (ctxOf_cons (ctxOf_cons (ctxOf_cons (q119) (by kernel_rfl) ok60) (by kernel_rfl) ok120) (by kernel_rfl) ok121) (by kernel_rfl) ok122
theorem ok73:c73.ok prog 73:=Ctr.of_den l73 hmix (hl:=hints) (d:=4) func73 rfl (by decide) (e73 lpK jnK ratio_Add grid_of grid_beams_count ratio_Make slices_Repeat_119)
noncomputable def grid_Loads_b (_:Lp) (_:Jn) (grid_given:(List (ByteArray×Int×Int×Int))→(List (Int×Int))→Option (Int)) (grid_borne:(List (ByteArray×Int×Int×Int))→(List (Int×Int))→Option ((List (Int×Int))×Int×Unit)) (x0:List (ByteArray×Int×Int×Int)) (x1:List (Int×Int)):Option ((List (Int×Int))×Int×Unit) :=
 obind (grid_given x0 x1) fun (t:Int)=>bif !decide (t=(0:Int)) then some ([],t,PUnit.unit) else obind (grid_borne x0 x1) fun (t:List (Int×Int)×Int×PUnit)=>some (t.1,
  t.2.1,PUnit.unit)
noncomputable def grid_Loads (x0:List (ByteArray×Int×Int×Int)) (x1:List (Int×Int)):Option ((List (Int×Int))×Int×Unit):=grid_Loads_b lpK jnK grid_given grid_borne x0 x1
noncomputable def c41:Ctr:=⟨[(.sl T96),(.sl T78)],[],[],.tup [(.sl T36),i64],fun x _ _=>grid_Loads x.1 x.2.1⟩
theorem e41 (lp:Lp) (jn:Jn) (grid_given:(List (ByteArray×Int×Int×Int))→(List (Int×Int))→Option (Int)) (grid_borne:(List (ByteArray×Int×Int×Int))→(List (Int×Int))→Option ((List (Int×Int))×Int×Unit)):∀(x:TsS c41.as) (F:TsF c41.fs) (y:TsS c41.cs),grid_Loads_b lp jn grid_given grid_borne x.1 x.2.1=runC lp jn (ctxOf prog shs inls its [(73,⟨[(.sl T96),(.sl T78)],[],[],.tup [(.sl T36),i64],fun x _ _=>grid_borne x.1 x.2.1⟩),(72,⟨[(.sl T96),(.sl T78)],[],[],.one i64,fun x _ _=>grid_given x.1 x.2.1⟩)] [(119,r119)]) hints 4 41 f41 c41 x F y:=fun x F y=>by kernel_rfl
theorem l41:(ctxOf prog shs inls its [(73,c73),(72,c72)] [(119,r119)]).ok:=ctxOf_cons (ctxOf_cons (q119) (by kernel_rfl) ok72) (by kernel_rfl) ok73
theorem ok41:c41.ok prog 41:=Ctr.of_den l41 hmix (hl:=hints) (d:=4) func41 rfl (by decide) (e41 lpK jnK grid_given grid_borne)
noncomputable def house_Loads_b (lp:Lp) (_:Jn) (batten_Weight:(ByteArray×Int×Int×Int×Int×(List Int)×Int×Int×Int×Int×Int×(List (ByteArray×Int×Int×Int×Int×Int×Int))×List (ByteArray×Int×Int))→Option (Int×Int×Unit)) (arbor_Weight:(List (ByteArray×Int×Int))→(List Int)→Option (Int×Int×Unit)) (house_Valid:(ByteArray×Int×(List (ByteArray×Int×Int×Int×Int×(List Int)×Int×Int×Int×Int×Int×(List (ByteArray×Int×Int×Int×Int×Int×Int))×List (ByteArray×Int×Int)))×List (ByteArray×Int×Int×Int))→Option (Bool)) (grid_Loads:(List (ByteArray×Int×Int×Int))→(List (Int×Int))→Option ((List (Int×Int))×Int×Unit)) (x0:ByteArray×Int×(List (ByteArray×Int×Int×Int×Int×(List Int)×Int×Int×Int×Int×Int×(List (ByteArray×Int×Int×Int×Int×Int×Int))×List (ByteArray×Int×Int)))×List (ByteArray×Int×Int×Int)):Option ((List (Int×Int))×Int×Unit) :=
 obind (house_Valid x0) fun (t:Bool)=>bif !t then some ([],(1:Int),PUnit.unit) else lp (List (Int×Int)×Int×PUnit) (List (Int×Int)×Int×PUnit) (fun (again:List (Int ×
  Int)×Int×PUnit→Option (List (Int×Int)×Int×PUnit)) (x:List (Int×Int)×Int×PUnit) =>
 let v6:ByteArray×Int×Int×Int×Int×List Int×Int×Int×Int×Int×Int×List (ByteArray×Int×Int×Int×Int×Int×Int)×List (ByteArray×Int×Int):=List.getD
  x0.2.2.1 (Int.toNat x.2.1) ({ data:={ toList:=[] } },(0:Int),(0:Int),(0:Int),(0:Int),[],(0:Int),(0:Int),(0:Int),(0:Int),(0:Int),[],[]);bif
  decide (x.2.1<(↑(List.length x0.2.2.1):Int)) then bif inB x.2.1 (List.length x0.2.2.1) then obind (batten_Weight v6) fun (t:Int×Int×PUnit)=>bif !decide
  (t.2.1=(0:Int)) then some ([],t.2.1,PUnit.unit) else lp (List Int×Int×PUnit) (List (Int×Int)×Int×PUnit) (fun (again_1:List Int×Int×PUnit→Option (List
  (Int×Int)×Int×PUnit)) (x_1:List Int×Int×PUnit)=>bif decide (x_1.2.1<(↑(List.length v6.2.2.2.2.2.2.2.2.2.2.2.2):Int)) then bif inB
  x_1.2.1 (List.length v6.2.2.2.2.2.2.2.2.2.2.2.2) then bif fitB (List.length x_1.1+(1:Nat)) (8:Nat) then again_1 (x_1.1++[(List.getD
  v6.2.2.2.2.2.2.2.2.2.2.2.2 (Int.toNat x_1.2.1) ({ data:={ toList:=[] } },(0:Int),(0:Int))).2.2],IntKind.wrap .i64 (x_1.2.1+(1 :
  Int)),PUnit.unit) else none else none else obind (arbor_Weight v6.2.2.2.2.2.2.2.2.2.2.2.2 x_1.1) fun (t_1:Int×Int×PUnit)=>bif !decide (t_1.2.1 =
  (0:Int)) then some ([],t_1.2.1,PUnit.unit) else bif decide (IntKind.wrap .i64 (IntKind.wrap .i64 (t.1+v6.2.2.2.2.2.2.2.1)+t_1.1) >
  (67108864:Int)) then some ([],(5:Int),PUnit.unit) else bif fitB (List.length x.1+(1:Nat)) (16:Nat) then again (x.1++[(v6.2.1,IntKind.wrap .i64
  (IntKind.wrap .i64 (t.1+v6.2.2.2.2.2.2.2.1)+t_1.1))],IntKind.wrap .i64 (x.2.1+(1:Int)),PUnit.unit) else none) ([],(0:Int),PUnit.unit)
  else none else obind (grid_Loads x0.2.2.2 x.1) fun (t:List (Int×Int)×Int×PUnit)=>some (t.1,t.2.1,PUnit.unit)) ([],(0:Int),PUnit.unit)
noncomputable def house_Loads (x0:ByteArray×Int×(List (ByteArray×Int×Int×Int×Int×(List Int)×Int×Int×Int×Int×Int×(List (ByteArray×Int×Int×Int×Int×Int×Int))×List (ByteArray×Int×Int)))×List (ByteArray×Int×Int×Int)):Option ((List (Int×Int))×Int×Unit):=house_Loads_b lpK jnK batten_Weight arbor_Weight house_Valid grid_Loads x0
noncomputable def c12:Ctr:=⟨[T25],[],[],.tup [(.sl T36),i64],fun x _ _=>house_Loads x.1⟩
theorem e12 (lp:Lp) (jn:Jn) (batten_Weight:(ByteArray×Int×Int×Int×Int×(List Int)×Int×Int×Int×Int×Int×(List (ByteArray×Int×Int×Int×Int×Int×Int))×List (ByteArray×Int×Int))→Option (Int×Int×Unit)) (arbor_Weight:(List (ByteArray×Int×Int))→(List Int)→Option (Int×Int×Unit)) (house_Valid:(ByteArray×Int×(List (ByteArray×Int×Int×Int×Int×(List Int)×Int×Int×Int×Int×Int×(List (ByteArray×Int×Int×Int×Int×Int×Int))×List (ByteArray×Int×Int)))×List (ByteArray×Int×Int×Int))→Option (Bool)) (grid_Loads:(List (ByteArray×Int×Int×Int))→(List (Int×Int))→Option ((List (Int×Int))×Int×Unit)):∀(x:TsS c12.as) (F:TsF c12.fs) (y:TsS c12.cs),house_Loads_b lp jn batten_Weight arbor_Weight house_Valid grid_Loads x.1=runC lp jn (ctxOf prog shs inls its [(41,⟨[(.sl T96),(.sl T78)],[],[],.tup [(.sl T36),i64],fun x _ _=>grid_Loads x.1 x.2.1⟩),(32,⟨[T25],[],[],.one .bool,fun x _ _=>house_Valid x.1⟩),(31,⟨[(.sl T64),(.sl i64)],[],[],.tup [i64,i64],fun x _ _=>arbor_Weight x.1 x.2.1⟩),(30,⟨[T44],[],[],.tup [i64,i64],fun x _ _=>batten_Weight x.1⟩)] [(119,r119)]) hints 4 12 f12 c12 x F y:=fun x F y=>by kernel_rfl
theorem l12:(ctxOf prog shs inls its [(41,c41),(32,c32),(31,c31),(30,c30)] [(119,r119)]).ok:=ctxOf_cons (ctxOf_cons (ctxOf_cons (ctxOf_cons (q119) (by kernel_rfl) ok30) (by kernel_rfl) ok31) (by kernel_rfl) ok32) (by kernel_rfl) ok41
theorem ok12:c12.ok prog 12:=Ctr.of_den l12 hmix (hl:=hints) (d:=4) func12 rfl (by decide) (e12 lpK jnK batten_Weight arbor_Weight house_Valid grid_Loads)
noncomputable def slices_Equal_14_b (lp:Lp) (_:Jn) (x0:List (Int×Int)) (x1:List (Int×Int)):Option Bool :=
 bif !decide ((↑(List.length x0):Int)=(↑(List.length x1):Int)) then some false else lp (Int×PUnit) Bool (fun (again:Int×PUnit→Option Bool) (x:Int×PUnit)=>bif decide
  (x.1<(↑(List.length x0):Int)) then bif inB x.1 (List.length x0) then bif inB x.1 (List.length x1) then bif !(decide ((List.getD x0 (Int.toNat x.1) ((0:Int),(0 :
  Int))).1=(List.getD x1 (Int.toNat x.1) ((0:Int),(0:Int))).1)&&(decide ((List.getD x0 (Int.toNat x.1) ((0:Int),(0:Int))).2=(List.getD x1 (Int.toNat x.1) ((0 :
  Int),(0:Int))).2)&&true)) then some false else again (IntKind.wrap .i64 (x.1+(1:Int)),PUnit.unit) else none else none else some true) ((0:Int),PUnit.unit)
noncomputable def slices_Equal_14 (x0:List (Int×Int)) (x1:List (Int×Int)):Option Bool:=slices_Equal_14_b lpK jnK x0 x1
noncomputable def c14:Ctr:=⟨[(.sl T36),(.sl T36)],[],[],.one .bool,fun x _ _=>slices_Equal_14 x.1 x.2.1⟩
theorem e14 (lp:Lp) (jn:Jn):∀(x:TsS c14.as) (F:TsF c14.fs) (y:TsS c14.cs),slices_Equal_14_b lp jn x.1 x.2.1=runC lp jn (ctxOf prog shs inls its [] [(119,r119)]) hints 4 14 f14 c14 x F y:=fun x F y=>by kernel_rfl
theorem l14:(ctxOf prog shs inls its [] [(119,r119)]).ok:=q119
theorem ok14:c14.ok prog 14:=Ctr.of_den l14 hmix (hl:=hints) (d:=4) func14 rfl (by decide) (e14 lpK jnK)
noncomputable def house_Order_1_b (_:Lp) (_:Jn) (x0:Int) (x1:Int) (y0:ByteArray×Int×(List (ByteArray×Int×Int×Int×Int×(List Int)×Int×Int×Int×Int×Int×(List (ByteArray×Int×Int×Int×Int×Int×Int))×List (ByteArray×Int×Int)))×List (ByteArray×Int×Int×Int)):Option Int :=
 bif inB x0 (List.length y0.2.2.1) then bif inB x1 (List.length y0.2.2.1) then some (IntKind.wrap .i64 ((List.getD y0.2.2.1 (Int.toNat x0) ({ data:={ toList:=[]
  } },(0:Int),(0:Int),(0:Int),(0:Int),[],(0:Int),(0:Int),(0:Int),(0:Int),(0:Int),[],[])).2.1 - (List.getD y0.2.2.1 (Int.toNat x1) ({ data:={
  toList:=[] } },(0:Int),(0:Int),(0:Int),(0:Int),[],(0:Int),(0:Int),(0:Int),(0:Int),(0:Int),[],[])).2.1)) else none else none
noncomputable def house_Order_1 (x0:Int) (x1:Int) (y0:ByteArray×Int×(List (ByteArray×Int×Int×Int×Int×(List Int)×Int×Int×Int×Int×Int×(List (ByteArray×Int×Int×Int×Int×Int×Int))×List (ByteArray×Int×Int)))×List (ByteArray×Int×Int×Int)):Option Int:=house_Order_1_b lpK jnK x0 x1 y0
noncomputable def c45:Ctr:=⟨[i64,i64],[],[T25],.one i64,fun x _ y=>house_Order_1 x.1 x.2.1 y.1⟩
theorem e45 (lp:Lp) (jn:Jn):∀(x:TsS c45.as) (F:TsF c45.fs) (y:TsS c45.cs),house_Order_1_b lp jn x.1 x.2.1 y.1=runC lp jn (ctxOf prog shs inls its [] [(119,r119)]) hints 4 45 f45 c45 x F y:=fun x F y=>by kernel_rfl
theorem l45:(ctxOf prog shs inls its [] [(119,r119)]).ok:=q119
theorem ok45:c45.ok prog 45:=Ctr.of_den l45 hmix (hl:=hints) (d:=4) func45 rfl (by decide) (e45 lpK jnK)
noncomputable def house_Order_b (lp:Lp) (_:Jn) (house_Valid:(ByteArray×Int×(List (ByteArray×Int×Int×Int×Int×(List Int)×Int×Int×Int×Int×Int×(List (ByteArray×Int×Int×Int×Int×Int×Int))×List (ByteArray×Int×Int)))×List (ByteArray×Int×Int×Int))→Option (Bool)) (house_Order_1:(Int)→(Int)→(ByteArray×Int×(List (ByteArray×Int×Int×Int×Int×(List Int)×Int×Int×Int×Int×Int×(List (ByteArray×Int×Int×Int×Int×Int×Int))×List (ByteArray×Int×Int)))×List (ByteArray×Int×Int×Int))→Option (Int)) (x0:ByteArray×Int×(List (ByteArray×Int×Int×Int×Int×(List Int)×Int×Int×Int×Int×Int×(List (ByteArray×Int×Int×Int×Int×Int×Int))×List (ByteArray×Int×Int)))×List (ByteArray×Int×Int×Int)):Option ((List Int)×Int×Unit) :=
 obind (house_Valid x0) fun (t:Bool)=>bif !t then some ([],(1:Int),PUnit.unit) else lp (List Int×Int×PUnit) (List Int×Int×PUnit) (fun (again:List Int×Int×PUnit→Option
  (List Int×Int×PUnit)) (x:List Int×Int×PUnit)=>bif decide (x.2.1<(↑(List.length x0.2.2.1):Int)) then bif fitB (List.length x.1+(1:Nat)) (8:Nat) then
  again (x.1++[x.2.1],IntKind.wrap .i64 (x.2.1+(1:Int)),PUnit.unit) else none else lp (Int×Int×List Int×PUnit) (List Int×Int×PUnit) (fun (again:Int ×
  Int×List Int×PUnit→Option (List Int×Int×PUnit)) (x_1:Int×Int×List Int×PUnit) =>
 let v8:Int×List Int×PUnit:=(IntKind.wrap .i64 (x_1.1+(1:Int)),x_1.2.2.1,PUnit.unit);bif decide (x_1.2.1≤(↑(List.length x.1):Int)) then lp (Int ×
  List Int×PUnit) (List Int×Int×PUnit) (fun (again_1:Int×List Int×PUnit→Option (List Int×Int×PUnit)) (x:Int×List Int×PUnit) =>
 let v11:List Int×PUnit:=(x.2.1,PUnit.unit);bif decide (x.1<x_1.2.1) then lp (Int×List Int×PUnit) (List Int×Int×PUnit) (fun (again:Int×List Int×PUnit →
  Option (List Int×Int×PUnit)) (x_2:Int×List Int×PUnit) =>
 let v14:Bool:=inB x_2.1 (List.length x_2.2.1);
 let v15:Int:=IntKind.wrap .i64 (x_2.1 - (1:Int));
 let v16:Bool:=Nat.ble (Nat.succ (Int.toNat x_2.1)) (List.length x_2.2.1);
 let v17:Int:=List.getD x_2.2.1 (Int.toNat x_2.1) (0:Int);
 let v18:Bool:=inB v15 (List.length x_2.2.1);
 let v19:Bool:=decide (x_2.1>x_1.1);
 let v20:Bool:=Nat.ble (Nat.succ (Int.toNat v15)) (List.length x_2.2.1);
 let v21:Bool:=!v19;
 let v22:Int:=List.getD x_2.2.1 (Int.toNat v15) (0:Int);
 let v23:Bool:=v21||v19;bif v23&&(v23&&(v21||v14)) then bif v23&&(v21||v16) then bif v23 then bif v23&&(v23&&(v21||v18)) then bif v23&&(v21||v20) then bif v23 &&
  (v23&&v23) then obind (bif v19 then house_Order_1 v17 v22 x0 else some (0:Int)) fun (t:Int)=>bif v23 then bif v23 then bif bif v19 then decide (t<(0:Int)) else false then
  bif v18 then bif v20 then bif v14 then bif v16 then bif v14 then bif v16 then bif v18 then bif v20 then again (v15,List.set (List.set x_2.2.1 (Int.toNat x_2.1) v22) (Int.toNat
  v15) v17,PUnit.unit) else none else none else none else none else none else none else none else none else again_1 (IntKind.wrap .i64 (x.1+(1:Int)),x_2.2.1,
  PUnit.unit) else none else none else none else none else none else none else none else none) (x.1,v11) else again (x_1.2.1,IntKind.wrap .i64 (x_1.2.1+(20:Int)),
  v11)) v8 else lp (Int×List Int×PUnit) (List Int×Int×PUnit) (fun (again:Int×List Int×PUnit→Option (List Int×Int×PUnit)) (x_2:Int×List Int×PUnit)=>bif decide
  (x_2.1<(↑(List.length x.1):Int)) then lp (Int×List Int×PUnit) (List Int×Int×PUnit) (fun (again_1:Int×List Int×PUnit→Option (List Int×Int×PUnit)) (x:Int ×
  List Int×PUnit) =>
 let v13:Bool:=inB x.1 (List.length x.2.1);
 let v14:Int:=IntKind.wrap .i64 (x.1 - (1:Int));
 let v15:Bool:=Nat.ble (Nat.succ (Int.toNat x.1)) (List.length x.2.1);
 let v16:Int:=List.getD x.2.1 (Int.toNat x.1) (0:Int);
 let v17:Bool:=inB v14 (List.length x.2.1);
 let v18:Bool:=decide (x.1>x_1.1);
 let v19:Bool:=Nat.ble (Nat.succ (Int.toNat v14)) (List.length x.2.1);
 let v20:Bool:=!v18;
 let v21:Int:=List.getD x.2.1 (Int.toNat v14) (0:Int);
 let v22:Bool:=v20||v18;bif v22&&(v22&&(v20||v13)) then bif v22&&(v20||v15) then bif v22 then bif v22&&(v22&&(v20||v17)) then bif v22&&(v20||v19) then bif v22 &&
  (v22&&v22) then obind (bif v18 then house_Order_1 v16 v21 x0 else some (0:Int)) fun (t:Int)=>bif v22 then bif v22 then bif bif v18 then decide (t<(0:Int)) else false then
  bif v17 then bif v19 then bif v13 then bif v15 then bif v13 then bif v15 then bif v17 then bif v19 then again_1 (v14,List.set (List.set x.2.1 (Int.toNat x.1) v21) (Int.toNat v14)
  v16,PUnit.unit) else none else none else none else none else none else none else none else none else again (IntKind.wrap .i64 (x_2.1+(1:Int)),x.2.1,PUnit.unit) else
  none else none else none else none else none else none else none else none) (x_2.1,x_2.2.1,PUnit.unit) else lp (Int×PUnit) (List Int×Int×PUnit) (fun (again:Int×PUnit →
  Option (List Int×Int×PUnit)) (x_3:Int×PUnit)=>bif decide (x_3.1<(↑(List.length x.1):Int)) then lp (Int×Int×PUnit) (List Int×Int×PUnit) (fun (again_1:Int ×
  Int×PUnit→Option (List Int×Int×PUnit)) (x_4:Int×Int×PUnit)=>bif decide (x_4.2.1≤(↑(List.length x.1):Int)) then none else bif decide (IntKind.wrap .i64
  (x_4.1+x_3.1)<(↑(List.length x.1):Int)) then none else again (IntKind.wrap .i64 (x_3.1*(2:Int)),PUnit.unit)) ((0:Int),IntKind.wrap .i64 ((2:Int) *
  x_3.1),PUnit.unit) else some (x_2.2.1,(0:Int),PUnit.unit)) ((20:Int),PUnit.unit)) v8) ((0:Int),(20:Int),x.1,PUnit.unit)) ([],(0:Int),PUnit.unit)
noncomputable def house_Order (x0:ByteArray×Int×(List (ByteArray×Int×Int×Int×Int×(List Int)×Int×Int×Int×Int×Int×(List (ByteArray×Int×Int×Int×Int×Int×Int))×List (ByteArray×Int×Int)))×List (ByteArray×Int×Int×Int)):Option ((List Int)×Int×Unit):=house_Order_b lpK jnK house_Valid house_Order_1 x0
noncomputable def c16:Ctr:=⟨[T25],[],[],.tup [(.sl i64),i64],fun x _ _=>house_Order x.1⟩
theorem e16 (lp:Lp) (jn:Jn) (house_Valid:(ByteArray×Int×(List (ByteArray×Int×Int×Int×Int×(List Int)×Int×Int×Int×Int×Int×(List (ByteArray×Int×Int×Int×Int×Int×Int))×List (ByteArray×Int×Int)))×List (ByteArray×Int×Int×Int))→Option (Bool)) (house_Order_1:(Int)→(Int)→(ByteArray×Int×(List (ByteArray×Int×Int×Int×Int×(List Int)×Int×Int×Int×Int×Int×(List (ByteArray×Int×Int×Int×Int×Int×Int))×List (ByteArray×Int×Int)))×List (ByteArray×Int×Int×Int))→Option (Int)):∀(x:TsS c16.as) (F:TsF c16.fs) (y:TsS c16.cs),house_Order_b lp jn house_Valid house_Order_1 x.1=runC lp jn (ctxOf prog shs inls its [(45,⟨[i64,i64],[],[T25],.one i64,fun x _ y=>house_Order_1 x.1 x.2.1 y.1⟩),(32,⟨[T25],[],[],.one .bool,fun x _ _=>house_Valid x.1⟩)] [(119,r119)]) hints 4 16 f16 c16 x F y:=fun x F y=>by kernel_rfl
theorem l16:(ctxOf prog shs inls its [(45,c45),(32,c32)] [(119,r119)]).ok:=ctxOf_cons (ctxOf_cons (q119) (by kernel_rfl) ok32) (by kernel_rfl) ok45
theorem ok16:c16.ok prog 16:=Ctr.of_den l16 hmix (hl:=hints) (d:=4) func16 rfl (by decide) (e16 lpK jnK house_Valid house_Order_1)
end Go.Proofs.YtmoiiokmfanlgaaGreat

namespace Go.Proofs.YtmoiiokmfanlgaaGreat
open Tryz Dn Dn.Sh
set_option maxRecDepth 100000
noncomputable def slices_Index_46_b (lp:Lp) (_:Jn) (x0:List Int) (x1:Int):Option Int :=
 lp (Int×PUnit) Int (fun (again:Int×PUnit→Option Int) (x:Int×PUnit)=>bif decide (x.1<(↑(List.length x0):Int)) then bif inB x.1 (List.length x0) then bif decide (x1 =
  List.getD x0 (Int.toNat x.1) (0:Int)) then some x.1 else again (IntKind.wrap .i64 (x.1+(1:Int)),PUnit.unit) else none else some (-1:Int)) ((0:Int),PUnit.unit)
noncomputable def slices_Index_46 (x0:List Int) (x1:Int):Option Int:=slices_Index_46_b lpK jnK x0 x1
noncomputable def c46:Ctr:=⟨[(.sl i64),i64],[],[],.one i64,fun x _ _=>slices_Index_46 x.1 x.2.1⟩
theorem e46 (lp:Lp) (jn:Jn):∀(x:TsS c46.as) (F:TsF c46.fs) (y:TsS c46.cs),slices_Index_46_b lp jn x.1 x.2.1=runC lp jn (ctxOf prog shs inls its [] [(119,r119)]) hints 4 46 f46 c46 x F y:=fun x F y=>by kernel_rfl
theorem l46:(ctxOf prog shs inls its [] [(119,r119)]).ok:=q119
theorem ok46:c46.ok prog 46:=Ctr.of_den l46 hmix (hl:=hints) (d:=4) func46 rfl (by decide) (e46 lpK jnK)
noncomputable def house_back_b (lp:Lp) (_:Jn) (x0:ByteArray×Int×Int×Int×Int×(List Int)×Int×Int×Int×Int×Int×(List (ByteArray×Int×Int×Int×Int×Int×Int))×List (ByteArray×Int×Int)):Option Int :=
 lp (Int×Int×PUnit) Int (fun (again:Int×Int×PUnit→Option Int) (x:Int×Int×PUnit)=>bif decide (x.2.1<(↑(List.length
  x0.2.2.2.2.2.2.2.2.2.2.2.1):Int)) then bif inB x.2.1 (List.length x0.2.2.2.2.2.2.2.2.2.2.2.1) then again (if (List.getD
  x0.2.2.2.2.2.2.2.2.2.2.2.1 (Int.toNat x.2.1) ({ data:={ toList:=[] } },(0:Int),(0:Int),(0:Int),(0:Int),(0:Int),(0 :
  Int))).2.2.2.2.2.2>x.1 then (List.getD x0.2.2.2.2.2.2.2.2.2.2.2.1 (Int.toNat x.2.1) ({ data:={ toList:=[] } },(0:Int),(0:Int),(0 :
  Int),(0:Int),(0:Int),(0:Int))).2.2.2.2.2.2 else x.1,IntKind.wrap .i64 (x.2.1+(1:Int)),PUnit.unit) else none else some (IntKind.wrap .i64
  (x0.2.1 - x.1))) ((0:Int),(0:Int),PUnit.unit)
noncomputable def house_back (x0:ByteArray×Int×Int×Int×Int×(List Int)×Int×Int×Int×Int×Int×(List (ByteArray×Int×Int×Int×Int×Int×Int))×List (ByteArray×Int×Int)):Option Int:=house_back_b lpK jnK x0
noncomputable def c48:Ctr:=⟨[T44],[],[],.one i64,fun x _ _=>house_back x.1⟩
theorem e48 (lp:Lp) (jn:Jn):∀(x:TsS c48.as) (F:TsF c48.fs) (y:TsS c48.cs),house_back_b lp jn x.1=runC lp jn (ctxOf prog shs inls its [] [(119,r119)]) hints 4 48 f48 c48 x F y:=fun x F y=>by kernel_rfl
theorem l48:(ctxOf prog shs inls its [] [(119,r119)]).ok:=q119
theorem ok48:c48.ok prog 48:=Ctr.of_den l48 hmix (hl:=hints) (d:=4) func48 rfl (by decide) (e48 lpK jnK)
noncomputable def house_front_b (lp:Lp) (_:Jn) (x0:ByteArray×Int×Int×Int×Int×(List Int)×Int×Int×Int×Int×Int×(List (ByteArray×Int×Int×Int×Int×Int×Int))×List (ByteArray×Int×Int)):Option Int :=
 lp (Int×Int×PUnit) Int (fun (again:Int×Int×PUnit→Option Int) (x:Int×Int×PUnit)=>bif decide (x.2.1<(↑(List.length
  x0.2.2.2.2.2.2.2.2.2.2.2.1):Int)) then bif inB x.2.1 (List.length x0.2.2.2.2.2.2.2.2.2.2.2.1) then again (if (List.getD
  x0.2.2.2.2.2.2.2.2.2.2.2.1 (Int.toNat x.2.1) ({ data:={ toList:=[] } },(0:Int),(0:Int),(0:Int),(0:Int),(0:Int),(0 :
  Int))).2.2.2.2.2.1>x.1 then (List.getD x0.2.2.2.2.2.2.2.2.2.2.2.1 (Int.toNat x.2.1) ({ data:={ toList:=[] } },(0:Int),(0:Int),(0 :
  Int),(0:Int),(0:Int),(0:Int))).2.2.2.2.2.1 else x.1,IntKind.wrap .i64 (x.2.1+(1:Int)),PUnit.unit) else none else some (IntKind.wrap .i64
  (x0.2.1+x.1))) ((0:Int),(0:Int),PUnit.unit)
noncomputable def house_front (x0:ByteArray×Int×Int×Int×Int×(List Int)×Int×Int×Int×Int×Int×(List (ByteArray×Int×Int×Int×Int×Int×Int))×List (ByteArray×Int×Int)):Option Int:=house_front_b lpK jnK x0
noncomputable def c49:Ctr:=⟨[T44],[],[],.one i64,fun x _ _=>house_front x.1⟩
theorem e49 (lp:Lp) (jn:Jn):∀(x:TsS c49.as) (F:TsF c49.fs) (y:TsS c49.cs),house_front_b lp jn x.1=runC lp jn (ctxOf prog shs inls its [] [(119,r119)]) hints 4 49 f49 c49 x F y:=fun x F y=>by kernel_rfl
theorem l49:(ctxOf prog shs inls its [] [(119,r119)]).ok:=q119
theorem ok49:c49.ok prog 49:=Ctr.of_den l49 hmix (hl:=hints) (d:=4) func49 rfl (by decide) (e49 lpK jnK)
noncomputable def house_Gap_b (_:Lp) (_:Jn) (house_find:(ByteArray×Int×(List (ByteArray×Int×Int×Int×Int×(List Int)×Int×Int×Int×Int×Int×(List (ByteArray×Int×Int×Int×Int×Int×Int))×List (ByteArray×Int×Int)))×List (ByteArray×Int×Int×Int))→(ByteArray)→Option (Int)) (house_Order:(ByteArray×Int×(List (ByteArray×Int×Int×Int×Int×(List Int)×Int×Int×Int×Int×Int×(List (ByteArray×Int×Int×Int×Int×Int×Int))×List (ByteArray×Int×Int)))×List (ByteArray×Int×Int×Int))→Option ((List Int)×Int×Unit)) (slices_Index_46:(List Int)→(Int)→Option (Int)) (house_back:(ByteArray×Int×Int×Int×Int×(List Int)×Int×Int×Int×Int×Int×(List (ByteArray×Int×Int×Int×Int×Int×Int))×List (ByteArray×Int×Int))→Option (Int)) (house_front:(ByteArray×Int×Int×Int×Int×(List Int)×Int×Int×Int×Int×Int×(List (ByteArray×Int×Int×Int×Int×Int×Int))×List (ByteArray×Int×Int))→Option (Int)) (x0:ByteArray×Int×(List (ByteArray×Int×Int×Int×Int×(List Int)×Int×Int×Int×Int×Int×(List (ByteArray×Int×Int×Int×Int×Int×Int))×List (ByteArray×Int×Int)))×List (ByteArray×Int×Int×Int)) (x1:ByteArray) (x2:ByteArray):Option (Int×Int×Unit) :=
 obind (house_Order x0) fun (t:List Int×Int×PUnit)=>bif !decide (t.2.1=(0:Int)) then some ((0:Int),t.2.1,PUnit.unit) else obind (house_find x0 x1) fun (t_1:Int) =>
 let v7:Bool:=decide (t_1<(0:Int));
 let v8:Bool:=!v7;
 let v9:ByteArray×Int×Int×Int×Int×List Int×Int×Int×Int×Int×Int×List (ByteArray×Int×Int×Int×Int×Int×Int)×List (ByteArray×Int×Int):=List.getD
  x0.2.2.1 (Int.toNat t_1) ({ data:={ toList:=[] } },(0:Int),(0:Int),(0:Int),(0:Int),[],(0:Int),(0:Int),(0:Int),(0:Int),(0:Int),[],[]);obind
  (house_find x0 x2) fun (t_2:Int) =>
 let v11:ByteArray×Int×Int×Int×Int×List Int×Int×Int×Int×Int×Int×List (ByteArray×Int×Int×Int×Int×Int×Int)×List (ByteArray×Int×Int):=List.getD
  x0.2.2.1 (Int.toNat t_2) ({ data:={ toList:=[] } },(0:Int),(0:Int),(0:Int),(0:Int),[],(0:Int),(0:Int),(0:Int),(0:Int),(0:Int),[],[]);bif !v8 ||
  v8 then bif v7||v8 then bif bif v7 then true else decide (t_2<(0:Int)) then some ((0:Int),(9:Int),PUnit.unit) else bif decide (t_1=t_2) then some ((0:Int),(10:Int),
  PUnit.unit) else bif inB t_1 (List.length x0.2.2.1) then bif inB t_2 (List.length x0.2.2.1) then obind (slices_Index_46 t.1 t_1) fun (t_3:Int)=>obind (slices_Index_46
  t.1 t_2) fun (t:Int)=>bif decide (t_3>t) then obind (house_back v9) fun (t:Int)=>obind (house_front v11) fun (t_4:Int)=>some (IntKind.wrap .i64 (t - t_4),(0 :
  Int),PUnit.unit) else obind (house_back v11) fun (t:Int)=>obind (house_front v9) fun (t_4:Int)=>some (IntKind.wrap .i64 (t - t_4),(0:Int),PUnit.unit) else none else
  none else none else none
noncomputable def house_Gap (x0:ByteArray×Int×(List (ByteArray×Int×Int×Int×Int×(List Int)×Int×Int×Int×Int×Int×(List (ByteArray×Int×Int×Int×Int×Int×Int))×List (ByteArray×Int×Int)))×List (ByteArray×Int×Int×Int)) (x1:ByteArray) (x2:ByteArray):Option (Int×Int×Unit):=house_Gap_b lpK jnK house_find house_Order slices_Index_46 house_back house_front x0 x1 x2
noncomputable def c18:Ctr:=⟨[T25,.str,.str],[],[],.tup [i64,i64],fun x _ _=>house_Gap x.1 x.2.1 x.2.2.1⟩
theorem e18 (lp:Lp) (jn:Jn) (house_find:(ByteArray×Int×(List (ByteArray×Int×Int×Int×Int×(List Int)×Int×Int×Int×Int×Int×(List (ByteArray×Int×Int×Int×Int×Int×Int))×List (ByteArray×Int×Int)))×List (ByteArray×Int×Int×Int))→(ByteArray)→Option (Int)) (house_Order:(ByteArray×Int×(List (ByteArray×Int×Int×Int×Int×(List Int)×Int×Int×Int×Int×Int×(List (ByteArray×Int×Int×Int×Int×Int×Int))×List (ByteArray×Int×Int)))×List (ByteArray×Int×Int×Int))→Option ((List Int)×Int×Unit)) (slices_Index_46:(List Int)→(Int)→Option (Int)) (house_back:(ByteArray×Int×Int×Int×Int×(List Int)×Int×Int×Int×Int×Int×(List (ByteArray×Int×Int×Int×Int×Int×Int))×List (ByteArray×Int×Int))→Option (Int)) (house_front:(ByteArray×Int×Int×Int×Int×(List Int)×Int×Int×Int×Int×Int×(List (ByteArray×Int×Int×Int×Int×Int×Int))×List (ByteArray×Int×Int))→Option (Int)):∀(x:TsS c18.as) (F:TsF c18.fs) (y:TsS c18.cs),house_Gap_b lp jn house_find house_Order slices_Index_46 house_back house_front x.1 x.2.1 x.2.2.1=runC lp jn (ctxOf prog shs inls its [(49,⟨[T44],[],[],.one i64,fun x _ _=>house_front x.1⟩),(48,⟨[T44],[],[],.one i64,fun x _ _=>house_back x.1⟩),(46,⟨[(.sl i64),i64],[],[],.one i64,fun x _ _=>slices_Index_46 x.1 x.2.1⟩),(16,⟨[T25],[],[],.tup [(.sl i64),i64],fun x _ _=>house_Order x.1⟩),(47,⟨[T25,.str],[],[],.one i64,fun x _ _=>house_find x.1 x.2.1⟩)] [(119,r119)]) hints 4 18 f18 c18 x F y:=fun x F y=>by kernel_rfl
theorem l18:(ctxOf prog shs inls its [(49,c49),(48,c48),(46,c46),(16,c16),(47,c47)] [(119,r119)]).ok:=ctxOf_cons (ctxOf_cons (ctxOf_cons (ctxOf_cons (ctxOf_cons (q119) (by kernel_rfl) ok47) (by kernel_rfl) ok16) (by kernel_rfl) ok46) (by kernel_rfl) ok48) (by kernel_rfl) ok49
theorem ok18:c18.ok prog 18:=Ctr.of_den l18 hmix (hl:=hints) (d:=4) func18 rfl (by decide) (e18 lpK jnK house_find house_Order slices_Index_46 house_back house_front)
noncomputable def slices_Equal_26_b (lp:Lp) (_:Jn) (x0:List Int) (x1:List Int):Option Bool :=
 bif !decide ((↑(List.length x0):Int)=(↑(List.length x1):Int)) then some false else lp (Int×PUnit) Bool (fun (again:Int×PUnit→Option Bool) (x:Int×PUnit)=>bif decide
  (x.1<(↑(List.length x0):Int)) then bif inB x.1 (List.length x0) then bif inB x.1 (List.length x1) then bif !decide (List.getD x0 (Int.toNat x.1) (0:Int)=List.getD x1
  (Int.toNat x.1) (0:Int)) then some false else again (IntKind.wrap .i64 (x.1+(1:Int)),PUnit.unit) else none else none else some true) ((0:Int),PUnit.unit)
noncomputable def slices_Equal_26 (x0:List Int) (x1:List Int):Option Bool:=slices_Equal_26_b lpK jnK x0 x1
noncomputable def c26:Ctr:=⟨[(.sl i64),(.sl i64)],[],[],.one .bool,fun x _ _=>slices_Equal_26 x.1 x.2.1⟩
theorem e26 (lp:Lp) (jn:Jn):∀(x:TsS c26.as) (F:TsF c26.fs) (y:TsS c26.cs),slices_Equal_26_b lp jn x.1 x.2.1=runC lp jn (ctxOf prog shs inls its [] [(119,r119)]) hints 4 26 f26 c26 x F y:=fun x F y=>by kernel_rfl
theorem l26:(ctxOf prog shs inls its [] [(119,r119)]).ok:=q119
theorem ok26:c26.ok prog 26:=Ctr.of_den l26 hmix (hl:=hints) (d:=4) func26 rfl (by decide) (e26 lpK jnK)
noncomputable def law30_example_1_b (_:Lp) (_:Jn) (x0:ByteArray) (x1:Int) (x2:Int) (x3:Int):Option (ByteArray×Int×Int×Int×Int×(List Int)×Int×Int×Int×Int×Int×(List (ByteArray×Int×Int×Int×Int×Int×Int))×List (ByteArray×Int×Int)) :=
 some (x0,x1,(0:Int),(5000:Int),(2000:Int),[(0:Int),(2000:Int)],(0:Int),(0:Int),(1:Int),(1:Int),(0:Int),[({ data:=#[(100:UInt8),(114:UInt8),(111 :
  UInt8),(112:UInt8)] },(0:Int),(2000:Int),(700:Int),(0:Int),x2,x3)],[])
noncomputable def law30_example_1 (x0:ByteArray) (x1:Int) (x2:Int) (x3:Int):Option (ByteArray×Int×Int×Int×Int×(List Int)×Int×Int×Int×Int×Int×(List (ByteArray×Int×Int×Int×Int×Int×Int))×List (ByteArray×Int×Int)):=law30_example_1_b lpK jnK x0 x1 x2 x3
noncomputable def c71:Ctr:=⟨[.str,i64,i64,i64],[],[],.one T44,fun x _ _=>law30_example_1 x.1 x.2.1 x.2.2.1 x.2.2.2.1⟩
theorem e71 (lp:Lp) (jn:Jn):∀(x:TsS c71.as) (F:TsF c71.fs) (y:TsS c71.cs),law30_example_1_b lp jn x.1 x.2.1 x.2.2.1 x.2.2.2.1=runC lp jn (ctxOf prog shs inls its [] [(119,r119)]) hints 4 71 f71 c71 x F y:=fun x F y=>by kernel_rfl
theorem l71:(ctxOf prog shs inls its [] [(119,r119)]).ok:=q119
theorem ok71:c71.ok prog 71:=Ctr.of_den l71 hmix (hl:=hints) (d:=4) func71 rfl (by decide) (e71 lpK jnK)
noncomputable def law30_example_b (_:Lp) (_:Jn) (law30_example_1:(ByteArray)→(Int)→(Int)→(Int)→Option (ByteArray×Int×Int×Int×Int×(List Int)×Int×Int×Int×Int×Int×(List (ByteArray×Int×Int×Int×Int×Int×Int))×List (ByteArray×Int×Int))):Option (ByteArray×Int×(List (ByteArray×Int×Int×Int×Int×(List Int)×Int×Int×Int×Int×Int×(List (ByteArray×Int×Int×Int×Int×Int×Int))×List (ByteArray×Int×Int)))×List (ByteArray×Int×Int×Int)) :=
 obind (law30_example_1 { data:={ toList:=[{ toBitVec:={ toFin:=⟨(102:Nat),Nat.mod_lt (102:Nat) (BitVec.ofNat._proof_1 (8:Nat))⟩ } },{ toBitVec:={ toFin:=⟨(97:Nat),
  Nat.mod_lt (97:Nat) (BitVec.ofNat._proof_1 (8:Nat))⟩ } },{ toBitVec:={ toFin:=⟨(114:Nat),Nat.mod_lt (114:Nat) (BitVec.ofNat._proof_1 (8:Nat))⟩ } }] } } (500:Int) (0 :
  Int) (60:Int)) fun (t:ByteArray×Int×Int×Int×Int×List Int×Int×Int×Int×Int×Int×List (ByteArray×Int×Int×Int×Int×Int×Int)×List (ByteArray×Int ×
  Int))=>obind (law30_example_1 { data:={ toList:=[{ toBitVec:={ toFin:=⟨(110:Nat),Nat.mod_lt (110:Nat) (BitVec.ofNat._proof_1 (8:Nat))⟩ } },{ toBitVec:={ toFin :=
  ⟨(101:Nat),Nat.mod_lt (101:Nat) (BitVec.ofNat._proof_1 (8:Nat))⟩ } },{ toBitVec:={ toFin:=⟨(97:Nat),Nat.mod_lt (97:Nat) (BitVec.ofNat._proof_1 (8:Nat))⟩ } },{
  toBitVec:={ toFin:=⟨(114:Nat),Nat.mod_lt (114:Nat) (BitVec.ofNat._proof_1 (8:Nat))⟩ } }] } } (300:Int) (40:Int) (0:Int)) fun (t_1:ByteArray×Int×Int×Int×Int ×
  List Int×Int×Int×Int×Int×Int×List (ByteArray×Int×Int×Int×Int×Int×Int)×List (ByteArray×Int×Int))=>some ({ data:=#[(104:UInt8)] },(5000:Int),[t,
  t_1],[({ data:=#[(114:UInt8)] },(0:Int),(400:Int),(1:Int)),({ data:=#[(113:UInt8)] },(0:Int),(1000:Int),(1:Int))])
noncomputable def law30_example:Option (ByteArray×Int×(List (ByteArray×Int×Int×Int×Int×(List Int)×Int×Int×Int×Int×Int×(List (ByteArray×Int×Int×Int×Int×Int×Int))×List (ByteArray×Int×Int)))×List (ByteArray×Int×Int×Int)):=law30_example_b lpK jnK law30_example_1
noncomputable def c39:Ctr:=⟨[],[],[],.one T25,fun _ _ _=>law30_example⟩
theorem e39 (lp:Lp) (jn:Jn) (law30_example_1:(ByteArray)→(Int)→(Int)→(Int)→Option (ByteArray×Int×Int×Int×Int×(List Int)×Int×Int×Int×Int×Int×(List (ByteArray×Int×Int×Int×Int×Int×Int))×List (ByteArray×Int×Int))):∀(x:TsS c39.as) (F:TsF c39.fs) (y:TsS c39.cs),law30_example_b lp jn law30_example_1=runC lp jn (ctxOf prog shs inls its [(71,⟨[.str,i64,i64,i64],[],[],.one T44,fun x _ _=>law30_example_1 x.1 x.2.1 x.2.2.1 x.2.2.2.1⟩)] [(119,r119)]) hints 4 39 f39 c39 x F y:=fun x F y=>by kernel_rfl
theorem l39:(ctxOf prog shs inls its [(71,c71)] [(119,r119)]).ok:=ctxOf_cons (q119) (by kernel_rfl) ok71
theorem ok39:c39.ok prog 39:=Ctr.of_den l39 hmix (hl:=hints) (d:=4) func39 rfl (by decide) (e39 lpK jnK law30_example_1)
noncomputable def law30_awake_b (_:Lp) (_:Jn) (house_Valid:(ByteArray×Int×(List (ByteArray×Int×Int×Int×Int×(List Int)×Int×Int×Int×Int×Int×(List (ByteArray×Int×Int×Int×Int×Int×Int))×List (ByteArray×Int×Int)))×List (ByteArray×Int×Int×Int))→Option (Bool)) (house_Loads:(ByteArray×Int×(List (ByteArray×Int×Int×Int×Int×(List Int)×Int×Int×Int×Int×Int×(List (ByteArray×Int×Int×Int×Int×Int×Int))×List (ByteArray×Int×Int)))×List (ByteArray×Int×Int×Int))→Option ((List (Int×Int))×Int×Unit)) (slices_Equal_14:(List (Int×Int))→(List (Int×Int))→Option (Bool)) (house_Order:(ByteArray×Int×(List (ByteArray×Int×Int×Int×Int×(List Int)×Int×Int×Int×Int×Int×(List (ByteArray×Int×Int×Int×Int×Int×Int))×List (ByteArray×Int×Int)))×List (ByteArray×Int×Int×Int))→Option ((List Int)×Int×Unit)) (house_Gap:(ByteArray×Int×(List (ByteArray×Int×Int×Int×Int×(List Int)×Int×Int×Int×Int×Int×(List (ByteArray×Int×Int×Int×Int×Int×Int))×List (ByteArray×Int×Int)))×List (ByteArray×Int×Int×Int))→(ByteArray)→(ByteArray)→Option (Int×Int×Unit)) (slices_Equal_26:(List Int)→(List Int)→Option (Bool)) (law30_example:Option (ByteArray×Int×(List (ByteArray×Int×Int×Int×Int×(List Int)×Int×Int×Int×Int×Int×(List (ByteArray×Int×Int×Int×Int×Int×Int))×List (ByteArray×Int×Int)))×List (ByteArray×Int×Int×Int))):Option Bool :=
 obind law30_example fun (t:ByteArray×Int×List (ByteArray×Int×Int×Int×Int×List Int×Int×Int×Int×Int×Int×List (ByteArray×Int×Int×Int×Int×Int×Int)×List
  (ByteArray×Int×Int))×List (ByteArray×Int×Int×Int))=>obind (house_Gap t { data:={ toList:=[{ toBitVec:={ toFin:=⟨(110:Nat),Nat.mod_lt (110:Nat)
  (BitVec.ofNat._proof_1 (8:Nat))⟩ } },{ toBitVec:={ toFin:=⟨(101:Nat),Nat.mod_lt (101:Nat) (BitVec.ofNat._proof_1 (8:Nat))⟩ } },{ toBitVec:={ toFin:=⟨(97:Nat),
  Nat.mod_lt (97:Nat) (BitVec.ofNat._proof_1 (8:Nat))⟩ } },{ toBitVec:={ toFin:=⟨(114:Nat),Nat.mod_lt (114:Nat) (BitVec.ofNat._proof_1 (8:Nat))⟩ } }] } } { data:={
  toList:=[{ toBitVec:={ toFin:=⟨(102:Nat),Nat.mod_lt (102:Nat) (BitVec.ofNat._proof_1 (8:Nat))⟩ } },{ toBitVec:={ toFin:=⟨(97:Nat),Nat.mod_lt (97:Nat)
  (BitVec.ofNat._proof_1 (8:Nat))⟩ } },{ toBitVec:={ toFin:=⟨(114:Nat),Nat.mod_lt (114:Nat) (BitVec.ofNat._proof_1 (8:Nat))⟩ } }] } }) fun (t:Int×Int×PUnit) =>
 let v4:Bool:=decide (t.1=(100:Int));
 let v5:Bool:=decide (t.2.1=(0:Int));obind law30_example fun (t:ByteArray×Int×List (ByteArray×Int×Int×Int×Int×List Int×Int×Int×Int×Int×Int×List
  (ByteArray×Int×Int×Int×Int×Int×Int)×List (ByteArray×Int×Int))×List (ByteArray×Int×Int×Int))=>obind (house_Order t) fun (t:List Int×Int×PUnit) =>
 let v8:Bool:=decide (t.2.1=(0:Int));obind law30_example fun (t_1:ByteArray×Int×List (ByteArray×Int×Int×Int×Int×List Int×Int×Int×Int×Int×Int×List
  (ByteArray×Int×Int×Int×Int×Int×Int)×List (ByteArray×Int×Int))×List (ByteArray×Int×Int×Int))=>obind (house_Loads t_1) fun (t_2:List (Int×Int)×Int ×
  PUnit) =>
 let v11:Bool:=decide (t_2.2.1=(0:Int));obind law30_example fun (t_3:ByteArray×Int×List (ByteArray×Int×Int×Int×Int×List Int×Int×Int×Int×Int×Int ×
  List (ByteArray×Int×Int×Int×Int×Int×Int)×List (ByteArray×Int×Int))×List (ByteArray×Int×Int×Int))=>obind (house_Valid t_3) fun (t_4:Bool) =>
 let v14:Bool:=!t_4||t_4;
 let v15:Bool:=bif t_4 then v5 else false;
 let v16:Bool:=bif v15 then v4 else false;
 let v17:Bool:=!v15||v15;
 let v18:Bool:=bif v16 then v8 else false;
 let v19:Bool:=!v16||v16;
 let v20:Bool:=!v18||v18;bif v14 then bif v14 then bif v17 then bif v17 then bif v19 then bif v19 then bif v20&&v20 then obind (bif v18 then slices_Equal_26 t.1 [(1:Int),(0 :
  Int)] else some false) fun (t:Bool) =>
 let v22:Bool:=bif v18 then t else false;
 let v23:Bool:=bif v22 then v11 else false;
 let v24:Bool:=!v22||v22;
 let v25:Bool:=!v23||v23;
 let v26:Bool:=v25&&v25;bif v20 then bif v24 then bif v24 then bif v26 then bif v26 then obind (bif v23 then slices_Equal_14 t_2.1 [((350:Int),(1:Int)),((1050:Int),(1 :
  Int))] else some false) fun (t:Bool)=>bif v25 then some (bif v23 then t else false) else none else none else none else none else none else none else none else none else none else
  none else none else none else none
noncomputable def law30_awake:Option Bool:=law30_awake_b lpK jnK house_Valid house_Loads slices_Equal_14 house_Order house_Gap slices_Equal_26 law30_example
noncomputable def c10:Ctr:=⟨[],[],[],.one .bool,fun _ _ _=>law30_awake⟩
theorem e10 (lp:Lp) (jn:Jn) (house_Valid:(ByteArray×Int×(List (ByteArray×Int×Int×Int×Int×(List Int)×Int×Int×Int×Int×Int×(List (ByteArray×Int×Int×Int×Int×Int×Int))×List (ByteArray×Int×Int)))×List (ByteArray×Int×Int×Int))→Option (Bool)) (house_Loads:(ByteArray×Int×(List (ByteArray×Int×Int×Int×Int×(List Int)×Int×Int×Int×Int×Int×(List (ByteArray×Int×Int×Int×Int×Int×Int))×List (ByteArray×Int×Int)))×List (ByteArray×Int×Int×Int))→Option ((List (Int×Int))×Int×Unit)) (slices_Equal_14:(List (Int×Int))→(List (Int×Int))→Option (Bool)) (house_Order:(ByteArray×Int×(List (ByteArray×Int×Int×Int×Int×(List Int)×Int×Int×Int×Int×Int×(List (ByteArray×Int×Int×Int×Int×Int×Int))×List (ByteArray×Int×Int)))×List (ByteArray×Int×Int×Int))→Option ((List Int)×Int×Unit)) (house_Gap:(ByteArray×Int×(List (ByteArray×Int×Int×Int×Int×(List Int)×Int×Int×Int×Int×Int×(List (ByteArray×Int×Int×Int×Int×Int×Int))×List (ByteArray×Int×Int)))×List (ByteArray×Int×Int×Int))→(ByteArray)→(ByteArray)→Option (Int×Int×Unit)) (slices_Equal_26:(List Int)→(List Int)→Option (Bool)) (law30_example:Option (ByteArray×Int×(List (ByteArray×Int×Int×Int×Int×(List Int)×Int×Int×Int×Int×Int×(List (ByteArray×Int×Int×Int×Int×Int×Int))×List (ByteArray×Int×Int)))×List (ByteArray×Int×Int×Int))):∀(x:TsS c10.as) (F:TsF c10.fs) (y:TsS c10.cs),law30_awake_b lp jn house_Valid house_Loads slices_Equal_14 house_Order house_Gap slices_Equal_26 law30_example=runC lp jn (ctxOf prog shs inls its [(39,⟨[],[],[],.one T25,fun _ _ _=>law30_example⟩),(26,⟨[(.sl i64),(.sl i64)],[],[],.one .bool,fun x _ _=>slices_Equal_26 x.1 x.2.1⟩),(18,⟨[T25,.str,.str],[],[],.tup [i64,i64],fun x _ _=>house_Gap x.1 x.2.1 x.2.2.1⟩),(16,⟨[T25],[],[],.tup [(.sl i64),i64],fun x _ _=>house_Order x.1⟩),(14,⟨[(.sl T36),(.sl T36)],[],[],.one .bool,fun x _ _=>slices_Equal_14 x.1 x.2.1⟩),(12,⟨[T25],[],[],.tup [(.sl T36),i64],fun x _ _=>house_Loads x.1⟩),(32,⟨[T25],[],[],.one .bool,fun x _ _=>house_Valid x.1⟩)] [(119,r119)]) hints 4 10 f10 c10 x F y:=fun x F y=>by kernel_rfl
theorem l10:(ctxOf prog shs inls its [(39,c39),(26,c26),(18,c18),(16,c16),(14,c14),(12,c12),(32,c32)] [(119,r119)]).ok:=ctxOf_cons (ctxOf_cons (ctxOf_cons (ctxOf_cons (ctxOf_cons (ctxOf_cons (ctxOf_cons (q119) (by kernel_rfl) ok32) (by kernel_rfl) ok12) (by kernel_rfl) ok14) (by kernel_rfl) ok16) (by kernel_rfl) ok18) (by kernel_rfl) ok26) (by kernel_rfl) ok39
theorem ok10:c10.ok prog 10:=Ctr.of_den l10 hmix (hl:=hints) (d:=4) func10 rfl (by decide) (e10 lpK jnK house_Valid house_Loads slices_Equal_14 house_Order house_Gap slices_Equal_26 law30_example)
noncomputable def ref21_Small_b (lp:Lp) (_:Jn) (x0:ByteArray×Int×Int×Int×Int×(List Int)×Int×Int×Int×Int×Int×(List (ByteArray×Int×Int×Int×Int×Int×Int))×List (ByteArray×Int×Int)) (x1:Int):Option Bool :=
 
 let v4:Bool:=decide ((↑(ByteArray.size x0.1):Int)>(60:Int));
 let v5:Bool:=!v4;
 let v6:Bool:=!v5||v5;
 let v7:Bool:=bif v4 then true else decide ((↑(List.length x0.2.2.2.2.2.1):Int)>(12:Int));
 let v8:Bool:=!v7;
 let v9:Bool:=!v8;
 let v10:Bool:=decide ((↑(List.length x0.2.2.2.2.2.2.2.2.2.2.2.1):Int)>x1);
 let v11:Bool:=v9||v8;
 let v12:Bool:=v8&&v10;
 let v13:Bool:=bif v7 then true else bif v10 then decide ((↑(List.length x0.2.2.2.2.2.2.2.2.2.2.2.1):Int)≤(40:Int)) else false;
 let v14:Bool:=!v13;
 let v15:Bool:=!v12||v12;
 let v16:Bool:=bif v13 then true else decide ((↑(List.length x0.2.2.2.2.2.2.2.2.2.2.2.1):Int)>(45:Int));
 let v17:Bool:=!v16;
 let v18:Bool:=!v14||v14;
 let v19:Bool:=!v17||v17;bif v6 then bif v6 then bif v6 then bif v4||v5 then bif v11 then bif v11 then bif v11&&v11 then bif v11 then bif v15 then bif v15 then bif v15 then bif
  (v9||v11)&&(v9||(!v10||(v9||v12))) then bif v7||v8 then bif v18 then bif v18 then bif v18 then bif v13||v14 then bif v19 then bif v19 then bif v19 then bif v16||v17 then
  bif bif v16 then true else decide ((↑(List.length x0.2.2.2.2.2.2.2.2.2.2.2.2):Int)>(10:Int)) then some false else lp (Int×PUnit) Bool (fun (again:Int ×
  PUnit→Option Bool) (x:Int×PUnit)=>bif decide (x.1<(↑(List.length x0.2.2.2.2.2.2.2.2.2.2.2.1):Int)) then bif inB x.1 (List.length
  x0.2.2.2.2.2.2.2.2.2.2.2.1) then bif decide ((↑(ByteArray.size (List.getD x0.2.2.2.2.2.2.2.2.2.2.2.1 (Int.toNat x.1) ({ data:={
  toList:=[] } },(0:Int),(0:Int),(0:Int),(0:Int),(0:Int),(0:Int))).1):Int)>(60:Int)) then some false else again (IntKind.wrap .i64 (x.1+(1:Int)),
  PUnit.unit) else none else lp (Int×PUnit) Bool (fun (again:Int×PUnit→Option Bool) (x:Int×PUnit)=>bif decide (x.1<(↑(List.length
  x0.2.2.2.2.2.2.2.2.2.2.2.2):Int)) then bif inB x.1 (List.length x0.2.2.2.2.2.2.2.2.2.2.2.2) then bif decide ((↑(ByteArray.size
  (List.getD x0.2.2.2.2.2.2.2.2.2.2.2.2 (Int.toNat x.1) ({ data:={ toList:=[] } },(0:Int),(0:Int))).1):Int)>(60:Int)) then some false else
  again (IntKind.wrap .i64 (x.1+(1:Int)),PUnit.unit) else none else some true) ((0:Int),PUnit.unit)) ((0:Int),PUnit.unit) else none else none else none else none else
  none else none else none else none else none else none else none else none else none else none else none else none else none else none else none else none else none
noncomputable def ref21_Small (x0:ByteArray×Int×Int×Int×Int×(List Int)×Int×Int×Int×Int×Int×(List (ByteArray×Int×Int×Int×Int×Int×Int))×List (ByteArray×Int×Int)) (x1:Int):Option Bool:=ref21_Small_b lpK jnK x0 x1
noncomputable def c35:Ctr:=⟨[T44,i64],[],[],.one .bool,fun x _ _=>ref21_Small x.1 x.2.1⟩
theorem e35 (lp:Lp) (jn:Jn):∀(x:TsS c35.as) (F:TsF c35.fs) (y:TsS c35.cs),ref21_Small_b lp jn x.1 x.2.1=runC lp jn (ctxOf prog shs inls its [] [(119,r119)]) hints 4 35 f35 c35 x F y:=fun x F y=>by kernel_rfl
theorem l35:(ctxOf prog shs inls its [] [(119,r119)]).ok:=q119
theorem ok35:c35.ok prog 35:=Ctr.of_den l35 hmix (hl:=hints) (d:=4) func35 rfl (by decide) (e35 lpK jnK)
noncomputable def ref30_Small_b (lp:Lp) (_:Jn) (ref21_Small:(ByteArray×Int×Int×Int×Int×(List Int)×Int×Int×Int×Int×Int×(List (ByteArray×Int×Int×Int×Int×Int×Int))×List (ByteArray×Int×Int))→(Int)→Option (Bool)) (x0:ByteArray×Int×(List (ByteArray×Int×Int×Int×Int×(List Int)×Int×Int×Int×Int×Int×(List (ByteArray×Int×Int×Int×Int×Int×Int))×List (ByteArray×Int×Int)))×List (ByteArray×Int×Int×Int)) (x1:Int):Option Bool :=
 
 let v4:Bool:=decide ((↑(List.length x0.2.2.1):Int)>x1);
 let v5:Bool:=!v4;
 let v6:Bool:=bif v4 then true else decide ((↑(List.length x0.2.2.2):Int)>IntKind.wrap .i64 (x1+(10:Int)));
 let v7:Bool:=!v6;
 let v8:Bool:=!v5||v5;
 let v9:Bool:=!v7||v7;bif v8 then bif v8 then bif v8 then bif v8&&v8 then bif v4||v5 then bif v9 then bif v9 then bif v9 then bif v6||v7 then bif bif v6 then true else decide
  ((↑(ByteArray.size x0.1):Int)>(60:Int)) then some false else lp (Int×PUnit) Bool (fun (again:Int×PUnit→Option Bool) (x:Int×PUnit)=>bif decide (x.1 <
  (↑(List.length x0.2.2.1):Int)) then bif inB x.1 (List.length x0.2.2.1) then obind (ref21_Small (List.getD x0.2.2.1 (Int.toNat x.1) ({ data:={ toList:=[] } },
  (0:Int),(0:Int),(0:Int),(0:Int),[],(0:Int),(0:Int),(0:Int),(0:Int),(0:Int),[],[])) (8:Int)) fun (t:Bool)=>bif !t then some false else again
  (IntKind.wrap .i64 (x.1+(1:Int)),PUnit.unit) else none else lp (Int×PUnit) Bool (fun (again:Int×PUnit→Option Bool) (x:Int×PUnit)=>bif decide (x.1 <
  (↑(List.length x0.2.2.2):Int)) then bif inB x.1 (List.length x0.2.2.2) then bif decide ((↑(ByteArray.size (List.getD x0.2.2.2 (Int.toNat x.1) ({ data:={ toList
  :=[] } },(0:Int),(0:Int),(0:Int))).1):Int)>(60:Int)) then some false else again (IntKind.wrap .i64 (x.1+(1:Int)),PUnit.unit) else none else some true)
  ((0:Int),PUnit.unit)) ((0:Int),PUnit.unit) else none else none else none else none else none else none else none else none else none
noncomputable def ref30_Small (x0:ByteArray×Int×(List (ByteArray×Int×Int×Int×Int×(List Int)×Int×Int×Int×Int×Int×(List (ByteArray×Int×Int×Int×Int×Int×Int))×List (ByteArray×Int×Int)))×List (ByteArray×Int×Int×Int)) (x1:Int):Option Bool:=ref30_Small_b lpK jnK ref21_Small x0 x1
noncomputable def c40:Ctr:=⟨[T25,i64],[],[],.one .bool,fun x _ _=>ref30_Small x.1 x.2.1⟩
theorem e40 (lp:Lp) (jn:Jn) (ref21_Small:(ByteArray×Int×Int×Int×Int×(List Int)×Int×Int×Int×Int×Int×(List (ByteArray×Int×Int×Int×Int×Int×Int))×List (ByteArray×Int×Int))→(Int)→Option (Bool)):∀(x:TsS c40.as) (F:TsF c40.fs) (y:TsS c40.cs),ref30_Small_b lp jn ref21_Small x.1 x.2.1=runC lp jn (ctxOf prog shs inls its [(35,⟨[T44,i64],[],[],.one .bool,fun x _ _=>ref21_Small x.1 x.2.1⟩)] [(119,r119)]) hints 4 40 f40 c40 x F y:=fun x F y=>by kernel_rfl
theorem l40:(ctxOf prog shs inls its [(35,c35)] [(119,r119)]).ok:=ctxOf_cons (q119) (by kernel_rfl) ok35
theorem ok40:c40.ok prog 40:=Ctr.of_den l40 hmix (hl:=hints) (d:=4) func40 rfl (by decide) (e40 lpK jnK ref21_Small)
noncomputable def law30_small_b (_:Lp) (_:Jn) (ref30_Small:(ByteArray×Int×(List (ByteArray×Int×Int×Int×Int×(List Int)×Int×Int×Int×Int×Int×(List (ByteArray×Int×Int×Int×Int×Int×Int))×List (ByteArray×Int×Int)))×List (ByteArray×Int×Int×Int))→(Int)→Option (Bool)) (x0:ByteArray×Int×(List (ByteArray×Int×Int×Int×Int×(List Int)×Int×Int×Int×Int×Int×(List (ByteArray×Int×Int×Int×Int×Int×Int))×List (ByteArray×Int×Int)))×List (ByteArray×Int×Int×Int)):Option Bool :=
 obind (ref30_Small x0 (6:Int)) fun (t:Bool)=>some t
noncomputable def law30_small (x0:ByteArray×Int×(List (ByteArray×Int×Int×Int×Int×(List Int)×Int×Int×Int×Int×Int×(List (ByteArray×Int×Int×Int×Int×Int×Int))×List (ByteArray×Int×Int)))×List (ByteArray×Int×Int×Int)):Option Bool:=law30_small_b lpK jnK ref30_Small x0
noncomputable def c11:Ctr:=⟨[T25],[],[],.one .bool,fun x _ _=>law30_small x.1⟩
theorem e11 (lp:Lp) (jn:Jn) (ref30_Small:(ByteArray×Int×(List (ByteArray×Int×Int×Int×Int×(List Int)×Int×Int×Int×Int×Int×(List (ByteArray×Int×Int×Int×Int×Int×Int))×List (ByteArray×Int×Int)))×List (ByteArray×Int×Int×Int))→(Int)→Option (Bool)):∀(x:TsS c11.as) (F:TsF c11.fs) (y:TsS c11.cs),law30_small_b lp jn ref30_Small x.1=runC lp jn (ctxOf prog shs inls its [(40,⟨[T25,i64],[],[],.one .bool,fun x _ _=>ref30_Small x.1 x.2.1⟩)] [(119,r119)]) hints 4 11 f11 c11 x F y:=fun x F y=>by kernel_rfl
theorem l11:(ctxOf prog shs inls its [(40,c40)] [(119,r119)]).ok:=ctxOf_cons (q119) (by kernel_rfl) ok40
theorem ok11:c11.ok prog 11:=Ctr.of_den l11 hmix (hl:=hints) (d:=4) func11 rfl (by decide) (e11 lpK jnK ref30_Small)
noncomputable def ref30_FindSet_b (lp:Lp) (_:Jn) (x0:ByteArray×Int×(List (ByteArray×Int×Int×Int×Int×(List Int)×Int×Int×Int×Int×Int×(List (ByteArray×Int×Int×Int×Int×Int×Int))×List (ByteArray×Int×Int)))×List (ByteArray×Int×Int×Int)) (x1:ByteArray):Option Int :=
 lp (Int×PUnit) Int (fun (again:Int×PUnit→Option Int) (x:Int×PUnit)=>bif decide (x.1<(↑(List.length x0.2.2.1):Int)) then bif inB x.1 (List.length x0.2.2.1)
  then bif List.beq (ByteArray.toList (List.getD x0.2.2.1 (Int.toNat x.1) ({ data:={ toList:=[] } },(0:Int),(0:Int),(0:Int),(0:Int),[],(0:Int),(0:Int),(0 :
  Int),(0:Int),(0:Int),[],[])).1) (ByteArray.toList x1) then some x.1 else again (IntKind.wrap .i64 (x.1+(1:Int)),PUnit.unit) else none else some (-1:Int)) ((0
  : Int),PUnit.unit)
noncomputable def ref30_FindSet (x0:ByteArray×Int×(List (ByteArray×Int×Int×Int×Int×(List Int)×Int×Int×Int×Int×Int×(List (ByteArray×Int×Int×Int×Int×Int×Int))×List (ByteArray×Int×Int)))×List (ByteArray×Int×Int×Int)) (x1:ByteArray):Option Int:=ref30_FindSet_b lpK jnK x0 x1
noncomputable def c28:Ctr:=⟨[T25,.str],[],[],.one i64,fun x _ _=>ref30_FindSet x.1 x.2.1⟩
theorem e28 (lp:Lp) (jn:Jn):∀(x:TsS c28.as) (F:TsF c28.fs) (y:TsS c28.cs),ref30_FindSet_b lp jn x.1 x.2.1=runC lp jn (ctxOf prog shs inls its [] [(119,r119)]) hints 4 28 f28 c28 x F y:=fun x F y=>by kernel_rfl
theorem l28:(ctxOf prog shs inls its [] [(119,r119)]).ok:=q119
theorem ok28:c28.ok prog 28:=Ctr.of_den l28 hmix (hl:=hints) (d:=4) func28 rfl (by decide) (e28 lpK jnK)
noncomputable def ref01_Letter_b (_:Lp) (_:Jn) (x0:Int):Option Bool :=
 
 let v3:Bool:=decide (x0≥(97:Int));
 let v4:Bool:=decide (x0≥(65:Int));
 let v5:Bool:=!v3||v3;
 let v6:Bool:=bif v3 then decide (x0≤(122:Int)) else false;
 let v7:Bool:=!v6;
 let v8:Bool:=!v7;
 let v9:Bool:=v7&&v4;
 let v10:Bool:=v8||v7;bif v5 then bif v5 then bif v10 then bif v10 then bif !v9||v9 then bif (v8||v10)&&(v8||(!v4||(v8||v9))) then bif v6||v7 then some (bif v6 then
  true else bif v4 then decide (x0≤(90:Int)) else false) else none else none else none else none else none else none else none
noncomputable def ref01_Letter (x0:Int):Option Bool:=ref01_Letter_b lpK jnK x0
noncomputable def c84:Ctr:=⟨[(.int .u8)],[],[],.one .bool,fun x _ _=>ref01_Letter x.1⟩
theorem e84 (lp:Lp) (jn:Jn):∀(x:TsS c84.as) (F:TsF c84.fs) (y:TsS c84.cs),ref01_Letter_b lp jn x.1=runC lp jn (ctxOf prog shs inls its [] [(119,r119)]) hints 4 84 f84 c84 x F y:=fun x F y=>by kernel_rfl
theorem l84:(ctxOf prog shs inls its [] [(119,r119)]).ok:=q119
theorem ok84:c84.ok prog 84:=Ctr.of_den l84 hmix (hl:=hints) (d:=4) func84 rfl (by decide) (e84 lpK jnK)
noncomputable def ref01_Digit_b (_:Lp) (_:Jn) (x0:Int):Option Bool :=
 
 let v3:Bool:=decide (x0≥(48:Int));
 let v4:Bool:=!v3||v3;bif v4 then bif v4 then some (bif v3 then decide (x0≤(57:Int)) else false) else none else none
noncomputable def ref01_Digit (x0:Int):Option Bool:=ref01_Digit_b lpK jnK x0
noncomputable def c133:Ctr:=⟨[(.int .u8)],[],[],.one .bool,fun x _ _=>ref01_Digit x.1⟩
theorem e133 (lp:Lp) (jn:Jn):∀(x:TsS c133.as) (F:TsF c133.fs) (y:TsS c133.cs),ref01_Digit_b lp jn x.1=runC lp jn (ctxOf prog shs inls its [] [(119,r119)]) hints 4 133 f133 c133 x F y:=fun x F y=>by kernel_rfl
theorem l133:(ctxOf prog shs inls its [] [(119,r119)]).ok:=q119
theorem ok133:c133.ok prog 133:=Ctr.of_den l133 hmix (hl:=hints) (d:=4) func133 rfl (by decide) (e133 lpK jnK)
noncomputable def ref01_word_b (lp:Lp) (_:Jn) (ref01_Letter:(Int)→Option (Bool)) (ref01_Digit:(Int)→Option (Bool)) (x0:ByteArray) (x1:Int):Option Int :=
 lp (Int×PUnit) Int (fun (again:Int×PUnit→Option Int) (x:Int×PUnit) =>
 let v6:Bool:=inB x.1 (ByteArray.size x0);
 let v7:Int:=byteAt x0 (Int.toNat x.1);
 let v8:Bool:=decide (x.1<(↑(ByteArray.size x0):Int));
 let v9:Bool:=!v8;
 let v10:Bool:=v9||v8;
 let v11:Bool:=v9||v10;bif v10&&(v10&&(v9||v6)) then bif v10 then obind (bif v8 then ref01_Letter v7 else some false) fun (t:Bool) =>
 let v13:Bool:=v8&&!t;
 let v14:Bool:=!v13;
 let v15:Bool:=v14||v13;bif v10 then bif v15&&(v15&&(v14||v6)) then bif v15 then obind (bif v13 then ref01_Digit v7 else some false) fun (t_1:Bool) =>
 let v17:Bool:=bif t then true else t_1;
 let v18:Bool:=v8&&!v17;
 let v19:Bool:=!v18;
 let v20:Bool:=v19||v18;bif v11&&(v9||(t||(v9||v13))) then bif v10 then bif v20&&(v20&&(v19||v6)) then bif v20 then bif v11&&(v9||(v17||(v9||v18))) then bif
  v10 then bif bif v8 then bif v17 then true else decide (v7=(95:Int)) else false then again (IntKind.wrap .i64 (x.1+(1:Int)),PUnit.unit) else some x.1 else none else
  none else none else none else none else none else none else none else none else none else none) (x1,PUnit.unit)
noncomputable def ref01_word (x0:ByteArray) (x1:Int):Option Int:=ref01_word_b lpK jnK ref01_Letter ref01_Digit x0 x1
noncomputable def c85:Ctr:=⟨[.str,i64],[],[],.one i64,fun x _ _=>ref01_word x.1 x.2.1⟩
theorem e85 (lp:Lp) (jn:Jn) (ref01_Letter:(Int)→Option (Bool)) (ref01_Digit:(Int)→Option (Bool)):∀(x:TsS c85.as) (F:TsF c85.fs) (y:TsS c85.cs),ref01_word_b lp jn ref01_Letter ref01_Digit x.1 x.2.1=runC lp jn (ctxOf prog shs inls its [(133,⟨[(.int .u8)],[],[],.one .bool,fun x _ _=>ref01_Digit x.1⟩),(84,⟨[(.int .u8)],[],[],.one .bool,fun x _ _=>ref01_Letter x.1⟩)] [(119,r119)]) hints 4 85 f85 c85 x F y:=fun x F y=>by kernel_rfl
theorem l85:(ctxOf prog shs inls its [(133,c133),(84,c84)] [(119,r119)]).ok:=ctxOf_cons (ctxOf_cons (q119) (by kernel_rfl) ok84) (by kernel_rfl) ok133
theorem ok85:c85.ok prog 85:=Ctr.of_den l85 hmix (hl:=hints) (d:=4) func85 rfl (by decide) (e85 lpK jnK ref01_Letter ref01_Digit)
noncomputable def ref01_IsName_b (_:Lp) (_:Jn) (ref01_Letter:(Int)→Option (Bool)) (ref01_word:(ByteArray)→(Int)→Option (Int)) (x0:ByteArray):Option Bool :=
 
 let v3:Bool:=decide ((↑(ByteArray.size x0):Int)=(0:Int));
 let v4:Bool:=!v3;
 let v5:Bool:=!v4||v4;
 let v6:Bool:=bif v3 then true else decide ((↑(ByteArray.size x0):Int)>(20:Int));
 let v7:Bool:=!v6;
 let v8:Bool:=!v7;
 let v9:Bool:=v8||v7;bif v5 then bif v5 then bif v3||v4 then bif v9&&(v8||inB (0:Int) (ByteArray.size x0)) then bif v9 then obind (bif v7 then ref01_Letter (byteAt x0 (0 :
  Nat)) else some false) fun (t:Bool)=>bif v9 then bif v6||v7 then bif bif v6 then true else !t then some false else obind (ref01_word x0 (0:Int)) fun (t:Int)=>some (decide (t
  = (↑(ByteArray.size x0):Int))) else none else none else none else none else none else none else none
noncomputable def ref01_IsName (x0:ByteArray):Option Bool:=ref01_IsName_b lpK jnK ref01_Letter ref01_word x0
noncomputable def c54:Ctr:=⟨[.str],[],[],.one .bool,fun x _ _=>ref01_IsName x.1⟩
theorem e54 (lp:Lp) (jn:Jn) (ref01_Letter:(Int)→Option (Bool)) (ref01_word:(ByteArray)→(Int)→Option (Int)):∀(x:TsS c54.as) (F:TsF c54.fs) (y:TsS c54.cs),ref01_IsName_b lp jn ref01_Letter ref01_word x.1=runC lp jn (ctxOf prog shs inls its [(85,⟨[.str,i64],[],[],.one i64,fun x _ _=>ref01_word x.1 x.2.1⟩),(84,⟨[(.int .u8)],[],[],.one .bool,fun x _ _=>ref01_Letter x.1⟩)] [(119,r119)]) hints 4 54 f54 c54 x F y:=fun x F y=>by kernel_rfl
theorem l54:(ctxOf prog shs inls its [(85,c85),(84,c84)] [(119,r119)]).ok:=ctxOf_cons (ctxOf_cons (q119) (by kernel_rfl) ok84) (by kernel_rfl) ok85
theorem ok54:c54.ok prog 54:=Ctr.of_den l54 hmix (hl:=hints) (d:=4) func54 rfl (by decide) (e54 lpK jnK ref01_Letter ref01_word)
noncomputable def ref19_between_b (_:Lp) (_:Jn) (x0:Int) (x1:Int) (x2:Int):Option Bool :=
 
 let v5:Bool:=decide (x0≥x1);
 let v6:Bool:=!v5||v5;bif v6&&v6 then bif v6 then some (bif v5 then decide (x0≤x2) else false) else none else none
noncomputable def ref19_between (x0:Int) (x1:Int) (x2:Int):Option Bool:=ref19_between_b lpK jnK x0 x1 x2
noncomputable def c86:Ctr:=⟨[i64,i64,i64],[],[],.one .bool,fun x _ _=>ref19_between x.1 x.2.1 x.2.2.1⟩
theorem e86 (lp:Lp) (jn:Jn):∀(x:TsS c86.as) (F:TsF c86.fs) (y:TsS c86.cs),ref19_between_b lp jn x.1 x.2.1 x.2.2.1=runC lp jn (ctxOf prog shs inls its [] [(119,r119)]) hints 4 86 f86 c86 x F y:=fun x F y=>by kernel_rfl
theorem l86:(ctxOf prog shs inls its [] [(119,r119)]).ok:=q119
theorem ok86:c86.ok prog 86:=Ctr.of_den l86 hmix (hl:=hints) (d:=4) func86 rfl (by decide) (e86 lpK jnK)
noncomputable def ref19_Valid_b (lp:Lp) (_:Jn) (ref01_IsName:(ByteArray)→Option (Bool)) (ref19_between:(Int)→(Int)→(Int)→Option (Bool)) (x0:List (ByteArray×Int×Int×Int)):Option Bool :=
 bif decide ((↑(List.length x0):Int)>(20:Int)) then some false else lp (Int×PUnit) Bool (fun (again:Int×PUnit→Option Bool) (x:Int×PUnit) =>
 let v5:ByteArray×Int×Int×Int:=List.getD x0 (Int.toNat x.1) ({ data:={ toList:=[] } },(0:Int),(0:Int),(0:Int));bif decide (x.1<(↑(List.length x0):Int)) then
  bif inB x.1 (List.length x0) then obind (ref01_IsName v5.1) fun (t:Bool) =>
 let v7:Bool:=!t;
 let v8:Bool:=!v7;
 let v9:Bool:=!v8||v8;bif v9 then bif v9 then bif v9&&v9 then obind (bif v8 then ref19_between v5.2.1 (0:Int) v5.2.2.1 else some false) fun (t:Bool) =>
 let v11:Bool:=bif v7 then true else !t;
 let v12:Bool:=!v11;
 let v13:Bool:=!v12||v12;bif v9 then bif v7||v8 then bif v13 then bif v13 then obind (bif v12 then ref19_between v5.2.2.1 (0:Int) (1048576:Int) else some false) fun (t :
  Bool) =>
 let v15:Bool:=bif v11 then true else !t;
 let v16:Bool:=!v15;
 let v17:Bool:=!v16||v16;bif v13 then bif v11||v12 then bif v17 then bif v17 then obind (bif v16 then ref19_between v5.2.2.2 (0:Int) (67108864:Int) else some false) fun
  (t:Bool)=>bif v17 then bif v15||v16 then bif bif v15 then true else !t then some false else lp (Int×PUnit) Bool (fun (again_1:Int×PUnit→Option Bool) (x_1:Int×PUnit) =>
  bif decide (x_1.1<x.1) then bif inB x_1.1 (List.length x0) then bif List.beq (ByteArray.toList (List.getD x0 (Int.toNat x_1.1) ({ data:={ toList:=[] } },(0:Int),(0 :
  Int),(0:Int))).1) (ByteArray.toList v5.1) then some false else again_1 (IntKind.wrap .i64 (x_1.1+(1:Int)),PUnit.unit) else none else again (IntKind.wrap .i64
  (x.1+(1:Int)),PUnit.unit)) ((0:Int),PUnit.unit) else none else none else none else none else none else none else none else none else none else none else none else none else
  none else none else some true) ((0:Int),PUnit.unit)
noncomputable def ref19_Valid (x0:List (ByteArray×Int×Int×Int)):Option Bool:=ref19_Valid_b lpK jnK ref01_IsName ref19_between x0
noncomputable def c55:Ctr:=⟨[(.sl T96)],[],[],.one .bool,fun x _ _=>ref19_Valid x.1⟩
theorem e55 (lp:Lp) (jn:Jn) (ref01_IsName:(ByteArray)→Option (Bool)) (ref19_between:(Int)→(Int)→(Int)→Option (Bool)):∀(x:TsS c55.as) (F:TsF c55.fs) (y:TsS c55.cs),ref19_Valid_b lp jn ref01_IsName ref19_between x.1=runC lp jn (ctxOf prog shs inls its [(86,⟨[i64,i64,i64],[],[],.one .bool,fun x _ _=>ref19_between x.1 x.2.1 x.2.2.1⟩),(54,⟨[.str],[],[],.one .bool,fun x _ _=>ref01_IsName x.1⟩)] [(119,r119)]) hints 4 55 f55 c55 x F y:=fun x F y=>by kernel_rfl
theorem l55:(ctxOf prog shs inls its [(86,c86),(54,c54)] [(119,r119)]).ok:=ctxOf_cons (ctxOf_cons (q119) (by kernel_rfl) ok54) (by kernel_rfl) ok86
theorem ok55:c55.ok prog 55:=Ctr.of_den l55 hmix (hl:=hints) (d:=4) func55 rfl (by decide) (e55 lpK jnK ref01_IsName ref19_between)
noncomputable def ref21_between_b (_:Lp) (_:Jn) (x0:Int) (x1:Int) (x2:Int):Option Bool :=
 
 let v5:Bool:=decide (x0≥x1);
 let v6:Bool:=!v5||v5;bif v6&&v6 then bif v6 then some (bif v5 then decide (x0≤x2) else false) else none else none
noncomputable def ref21_between (x0:Int) (x1:Int) (x2:Int):Option Bool:=ref21_between_b lpK jnK x0 x1 x2
noncomputable def c87:Ctr:=⟨[i64,i64,i64],[],[],.one .bool,fun x _ _=>ref21_between x.1 x.2.1 x.2.2.1⟩
theorem e87 (lp:Lp) (jn:Jn):∀(x:TsS c87.as) (F:TsF c87.fs) (y:TsS c87.cs),ref21_between_b lp jn x.1 x.2.1 x.2.2.1=runC lp jn (ctxOf prog shs inls its [] [(119,r119)]) hints 4 87 f87 c87 x F y:=fun x F y=>by kernel_rfl
theorem l87:(ctxOf prog shs inls its [] [(119,r119)]).ok:=q119
theorem ok87:c87.ok prog 87:=Ctr.of_den l87 hmix (hl:=hints) (d:=4) func87 rfl (by decide) (e87 lpK jnK)
noncomputable def ref21_alone_b (_:Lp) (_:Jn) (ref01_IsName:(ByteArray)→Option (Bool)) (ref21_between:(Int)→(Int)→(Int)→Option (Bool)) (x0:ByteArray×Int×Int×Int×Int×Int×Int) (x1:Int):Option Bool :=
 obind (ref01_IsName x0.1) fun (t:Bool) =>
 let v5:Bool:=!t||t;bif v5 then bif v5 then obind (bif t then ref21_between x0.2.2.1 (1:Int) (1048576:Int) else some false) fun (t_1:Bool) =>
 let v7:Bool:=bif t then t_1 else false;
 let v8:Bool:=!v7||v7;
 let v9:Bool:=v8&&v8;bif v5 then bif v8 then bif v8 then bif v9 then bif v9 then obind (bif v7 then ref21_between x0.2.1 (0:Int) (IntKind.wrap .i64 (x1 -
  x0.2.2.1)) else some false) fun (t:Bool) =>
 let v11:Bool:=bif v7 then t else false;
 let v12:Bool:=!v11||v11;bif v8 then bif v12 then bif v12 then obind (bif v11 then ref21_between x0.2.2.2.1 (0:Int) (1048576:Int) else some false) fun (t:Bool) =>
 let v14:Bool:=bif v11 then t else false;
 let v15:Bool:=!v14||v14;bif v12 then bif v15 then bif v15 then obind (bif v14 then ref21_between x0.2.2.2.2.1 (0:Int) (1048576:Int) else some false) fun (t:Bool) =>
 let v17:Bool:=bif v14 then t else false;
 let v18:Bool:=!v17||v17;bif v15 then bif v18 then bif v18 then obind (bif v17 then ref21_between x0.2.2.2.2.2.1 (0:Int) (1048576:Int) else some false) fun (t :
  Bool) =>
 let v20:Bool:=bif v17 then t else false;
 let v21:Bool:=!v20||v20;bif v18 then bif v21 then bif v21 then obind (bif v20 then ref21_between x0.2.2.2.2.2.2 (0:Int) (1048576:Int) else some false) fun (t :
  Bool)=>bif v21 then some (bif v20 then t else false) else none else none else none else none else none else none else none else none else none else none else none else none else none
  else none else none else none else none else none else none else none
noncomputable def ref21_alone (x0:ByteArray×Int×Int×Int×Int×Int×Int) (x1:Int):Option Bool:=ref21_alone_b lpK jnK ref01_IsName ref21_between x0 x1
noncomputable def c134:Ctr:=⟨[T48,i64],[],[],.one .bool,fun x _ _=>ref21_alone x.1 x.2.1⟩
theorem e134 (lp:Lp) (jn:Jn) (ref01_IsName:(ByteArray)→Option (Bool)) (ref21_between:(Int)→(Int)→(Int)→Option (Bool)):∀(x:TsS c134.as) (F:TsF c134.fs) (y:TsS c134.cs),ref21_alone_b lp jn ref01_IsName ref21_between x.1 x.2.1=runC lp jn (ctxOf prog shs inls its [(87,⟨[i64,i64,i64],[],[],.one .bool,fun x _ _=>ref21_between x.1 x.2.1 x.2.2.1⟩),(54,⟨[.str],[],[],.one .bool,fun x _ _=>ref01_IsName x.1⟩)] [(119,r119)]) hints 4 134 f134 c134 x F y:=fun x F y=>by kernel_rfl
theorem l134:(ctxOf prog shs inls its [(87,c87),(54,c54)] [(119,r119)]).ok:=ctxOf_cons (ctxOf_cons (q119) (by kernel_rfl) ok54) (by kernel_rfl) ok87
theorem ok134:c134.ok prog 134:=Ctr.of_den l134 hmix (hl:=hints) (d:=4) func134 rfl (by decide) (e134 lpK jnK ref01_IsName ref21_between)
noncomputable def ref21_Apart_b (_:Lp) (_:Jn) (x0:ByteArray×Int×Int×Int×Int×Int×Int) (x1:ByteArray×Int×Int×Int×Int×Int×Int):Option Bool :=
 
 let v4:Bool:=decide (IntKind.wrap .i64 (x0.2.1+x0.2.2.1)≤x1.2.1);
 let v5:Bool:=!v4;
 let v6:Bool:=!v5||v5;
 let v7:Bool:=v6&&v6;bif v6 then bif v6 then bif v7 then bif v6 then bif v7 then bif v4||v5 then some (bif v4 then true else decide (IntKind.wrap .i64 (x1.2.1 +
  x1.2.2.1)≤x0.2.1)) else none else none else none else none else none else none
noncomputable def ref21_Apart (x0:ByteArray×Int×Int×Int×Int×Int×Int) (x1:ByteArray×Int×Int×Int×Int×Int×Int):Option Bool:=ref21_Apart_b lpK jnK x0 x1
noncomputable def c135:Ctr:=⟨[T48,T48],[],[],.one .bool,fun x _ _=>ref21_Apart x.1 x.2.1⟩
theorem e135 (lp:Lp) (jn:Jn):∀(x:TsS c135.as) (F:TsF c135.fs) (y:TsS c135.cs),ref21_Apart_b lp jn x.1 x.2.1=runC lp jn (ctxOf prog shs inls its [] [(119,r119)]) hints 4 135 f135 c135 x F y:=fun x F y=>by kernel_rfl
theorem l135:(ctxOf prog shs inls its [] [(119,r119)]).ok:=q119
theorem ok135:c135.ok prog 135:=Ctr.of_den l135 hmix (hl:=hints) (d:=4) func135 rfl (by decide) (e135 lpK jnK)
noncomputable def ref21_items_b (lp:Lp) (_:Jn) (ref21_alone:(ByteArray×Int×Int×Int×Int×Int×Int)→(Int)→Option (Bool)) (ref21_Apart:(ByteArray×Int×Int×Int×Int×Int×Int)→(ByteArray×Int×Int×Int×Int×Int×Int)→Option (Bool)) (x0:ByteArray×Int×Int×Int×Int×(List Int)×Int×Int×Int×Int×Int×(List (ByteArray×Int×Int×Int×Int×Int×Int))×List (ByteArray×Int×Int)):Option Bool :=
 bif decide ((↑(List.length x0.2.2.2.2.2.2.2.2.2.2.2.1):Int)>(40:Int)) then some false else lp (Int×PUnit) Bool (fun (again:Int×PUnit→Option Bool) (x :
  Int×PUnit) =>
 let v5:Bool:=inB x.1 (List.length x0.2.2.2.2.2.2.2.2.2.2.2.1);
 let v6:ByteArray×Int×Int×Int×Int×Int×Int:=List.getD x0.2.2.2.2.2.2.2.2.2.2.2.1 (Int.toNat x.1) ({ data:={ toList:=[] } },(0:Int),(0 :
  Int),(0:Int),(0:Int),(0:Int),(0:Int));
 let v7:List UInt8:=ByteArray.toList v6.1;bif decide (x.1<(↑(List.length x0.2.2.2.2.2.2.2.2.2.2.2.1):Int)) then bif v5 then obind (ref21_alone v6
  x0.2.2.2.2.1) fun (t:Bool)=>bif !t then some false else lp (Int×PUnit) Bool (fun (again_1:Int×PUnit→Option Bool) (x_1:Int×PUnit) =>
 let v11:Bool:=inB x_1.1 (List.length x0.2.2.2.2.2.2.2.2.2.2.2.1);
 let v12:ByteArray×Int×Int×Int×Int×Int×Int:=List.getD x0.2.2.2.2.2.2.2.2.2.2.2.1 (Int.toNat x_1.1) ({ data:={ toList:=[] } },(0:Int),(0 :
  Int),(0:Int),(0:Int),(0:Int),(0:Int));
 let v13:Bool:=List.beq (ByteArray.toList v12.1) v7;
 let v14:Bool:=!v13;
 let v15:Bool:=!v14;
 let v16:Bool:=v15||v14;bif decide (x_1.1<x.1) then bif v11 then bif v5 then bif v16 then bif v16&&(v16&&(v15||v11)) then bif v16 then bif v16 then bif v16&&(v16 &&
  (v15||v5)) then bif v16 then bif v16&&v16 then obind (bif v14 then ref21_Apart v12 v6 else some false) fun (t:Bool)=>bif v16 then bif v13||v14 then bif bif v13 then true else
  !t then some false else again_1 (IntKind.wrap .i64 (x_1.1+(1:Int)),PUnit.unit) else none else none else none else none else none else none else none else none else none
  else none else none else again (IntKind.wrap .i64 (x.1+(1:Int)),PUnit.unit)) ((0:Int),PUnit.unit) else none else some true) ((0:Int),PUnit.unit)
noncomputable def ref21_items (x0:ByteArray×Int×Int×Int×Int×(List Int)×Int×Int×Int×Int×Int×(List (ByteArray×Int×Int×Int×Int×Int×Int))×List (ByteArray×Int×Int)):Option Bool:=ref21_items_b lpK jnK ref21_alone ref21_Apart x0
noncomputable def c88:Ctr:=⟨[T44],[],[],.one .bool,fun x _ _=>ref21_items x.1⟩
theorem e88 (lp:Lp) (jn:Jn) (ref21_alone:(ByteArray×Int×Int×Int×Int×Int×Int)→(Int)→Option (Bool)) (ref21_Apart:(ByteArray×Int×Int×Int×Int×Int×Int)→(ByteArray×Int×Int×Int×Int×Int×Int)→Option (Bool)):∀(x:TsS c88.as) (F:TsF c88.fs) (y:TsS c88.cs),ref21_items_b lp jn ref21_alone ref21_Apart x.1=runC lp jn (ctxOf prog shs inls its [(135,⟨[T48,T48],[],[],.one .bool,fun x _ _=>ref21_Apart x.1 x.2.1⟩),(134,⟨[T48,i64],[],[],.one .bool,fun x _ _=>ref21_alone x.1 x.2.1⟩)] [(119,r119)]) hints 4 88 f88 c88 x F y:=fun x F y=>by kernel_rfl
theorem l88:(ctxOf prog shs inls its [(135,c135),(134,c134)] [(119,r119)]).ok:=ctxOf_cons (ctxOf_cons (q119) (by kernel_rfl) ok134) (by kernel_rfl) ok135
theorem ok88:c88.ok prog 88:=Ctr.of_den l88 hmix (hl:=hints) (d:=4) func88 rfl (by decide) (e88 lpK jnK ref21_alone ref21_Apart)
noncomputable def ref21_Bricks_b (lp:Lp) (_:Jn) (ref01_IsName:(ByteArray)→Option (Bool)) (ref21_between:(Int)→(Int)→(Int)→Option (Bool)) (x0:List (ByteArray×Int×Int)):Option Bool :=
 bif decide ((↑(List.length x0):Int)>(8:Int)) then some false else lp (Int×Int×PUnit) Bool (fun (again:Int×Int×PUnit→Option Bool) (x:Int×Int×PUnit) =>
 let v5:Bool:=inB x.2.1 (List.length x0);
 let v6:ByteArray×Int×Int:=List.getD x0 (Int.toNat x.2.1) ({ data:={ toList:=[] } },(0:Int),(0:Int));bif decide (x.2.1<(↑(List.length x0):Int)) then bif v5
  then obind (ref01_IsName v6.1) fun (t:Bool) =>
 let v8:Bool:=!t;
 let v9:Bool:=!v8;
 let v10:Bool:=!v9;
 let v11:Bool:=v10||v9;bif v11&&(v11&&(v10||v5)) then bif v11 then bif v11 then bif v11 then obind (bif v9 then ref21_between v6.2.1 (1:Int) (1048576:Int) else some
  false) fun (t:Bool) =>
 let v13:Bool:=bif v8 then true else !t;
 let v14:Bool:=!v13;
 let v15:Bool:=!v14;
 let v16:Bool:=v15||v14;bif v11 then bif v8||v9 then bif v16&&(v16&&(v15||v5)) then bif v16 then bif v16 then bif v16 then obind (bif v14 then ref21_between v6.2.2 (0 :
  Int) (60:Int) else some false) fun (t:Bool)=>bif v16 then bif v13||v14 then bif bif v13 then true else !t then some false else bif v5 then lp (Int×PUnit) Bool (fun (again_1 :
  Int×PUnit→Option Bool) (x_1:Int×PUnit)=>bif decide (x_1.1<x.2.1) then bif inB x_1.1 (List.length x0) then bif v5 then bif List.beq (ByteArray.toList (List.getD x0
  (Int.toNat x_1.1) ({ data:={ toList:=[] } },(0:Int),(0:Int))).1) (ByteArray.toList v6.1) then some false else again_1 (IntKind.wrap .i64 (x_1.1+(1:Int)),
  PUnit.unit) else none else none else again (IntKind.wrap .i64 (x.1+v6.2.2),IntKind.wrap .i64 (x.2.1+(1:Int)),PUnit.unit)) ((0:Int),PUnit.unit) else
  none else none else none else none else none else none else none else none else none else none else none else none else none else none else some (decide (x.1≤(60:Int)))) ((0 :
  Int),(0:Int),PUnit.unit)
noncomputable def ref21_Bricks (x0:List (ByteArray×Int×Int)):Option Bool:=ref21_Bricks_b lpK jnK ref01_IsName ref21_between x0
noncomputable def c89:Ctr:=⟨[(.sl T64)],[],[],.one .bool,fun x _ _=>ref21_Bricks x.1⟩
theorem e89 (lp:Lp) (jn:Jn) (ref01_IsName:(ByteArray)→Option (Bool)) (ref21_between:(Int)→(Int)→(Int)→Option (Bool)):∀(x:TsS c89.as) (F:TsF c89.fs) (y:TsS c89.cs),ref21_Bricks_b lp jn ref01_IsName ref21_between x.1=runC lp jn (ctxOf prog shs inls its [(87,⟨[i64,i64,i64],[],[],.one .bool,fun x _ _=>ref21_between x.1 x.2.1 x.2.2.1⟩),(54,⟨[.str],[],[],.one .bool,fun x _ _=>ref01_IsName x.1⟩)] [(119,r119)]) hints 4 89 f89 c89 x F y:=fun x F y=>by kernel_rfl
theorem l89:(ctxOf prog shs inls its [(87,c87),(54,c54)] [(119,r119)]).ok:=ctxOf_cons (ctxOf_cons (q119) (by kernel_rfl) ok54) (by kernel_rfl) ok87
theorem ok89:c89.ok prog 89:=Ctr.of_den l89 hmix (hl:=hints) (d:=4) func89 rfl (by decide) (e89 lpK jnK ref01_IsName ref21_between)
noncomputable def ref21_Valid_b (lp:Lp) (_:Jn) (ref01_IsName:(ByteArray)→Option (Bool)) (ref21_between:(Int)→(Int)→(Int)→Option (Bool)) (ref21_items:(ByteArray×Int×Int×Int×Int×(List Int)×Int×Int×Int×Int×Int×(List (ByteArray×Int×Int×Int×Int×Int×Int))×List (ByteArray×Int×Int))→Option (Bool)) (ref21_Bricks:(List (ByteArray×Int×Int))→Option (Bool)) (x0:ByteArray×Int×Int×Int×Int×(List Int)×Int×Int×Int×Int×Int×(List (ByteArray×Int×Int×Int×Int×Int×Int))×List (ByteArray×Int×Int)):Option Bool :=
 obind (ref01_IsName x0.1) fun (t:Bool) =>
 let v4:Bool:=!t;
 let v5:Bool:=!v4;
 let v6:Bool:=!v5||v5;bif v6 then bif v6 then obind (bif v5 then ref21_between x0.2.1 (0:Int) (1048576:Int) else some false) fun (t:Bool) =>
 let v8:Bool:=bif v4 then true else !t;
 let v9:Bool:=!v8;
 let v10:Bool:=!v9||v9;bif v6 then bif v4||v5 then bif v10 then bif v10 then bif v10&&v10 then obind (bif v9 then ref21_between x0.2.2.1 (0:Int) x0.2.2.2.1 else
  some false) fun (t:Bool) =>
 let v12:Bool:=bif v8 then true else !t;
 let v13:Bool:=!v12;
 let v14:Bool:=!v13||v13;bif v10 then bif v8||v9 then bif v14 then bif v14 then obind (bif v13 then ref21_between x0.2.2.2.1 (0:Int) (1048576:Int) else some false) fun
  (t:Bool) =>
 let v16:Bool:=bif v12 then true else !t;
 let v17:Bool:=!v16;
 let v18:Bool:=!v17||v17;bif v14 then bif v12||v13 then bif v18 then bif v18 then obind (bif v17 then ref21_between x0.2.2.2.2.1 (1000:Int) (1048576:Int) else some
  false) fun (t:Bool) =>
 let v20:Bool:=bif v16 then true else !t;
 let v21:Bool:=!v20;
 let v22:Bool:=!v21;
 let v23:Bool:=v22||v21;bif v18 then bif v16||v17 then bif v23 then bif v23&&(v22||true) then bif v23 then bif v20||v21 then bif bif v20 then true else !decide (Int.tmod
  x0.2.2.2.2.1 (1000:Int)=(0:Int)) then some false else obind (ref21_between (↑(List.length x0.2.2.2.2.2.1):Int) (2:Int) (10:Int)) fun (t:Bool) =>
 let v25:Bool:=!t;
 let v26:Bool:=!v25;
 let v27:Bool:=!v26||v26;bif v27 then bif v27 then obind (bif v26 then ref21_between x0.2.2.2.2.2.2.1 (0:Int) (1048576:Int) else some false) fun (t:Bool) =>
 let v29:Bool:=bif v25 then true else !t;
 let v30:Bool:=!v29;
 let v31:Bool:=!v30||v30;bif v27 then bif v25||v26 then bif v31 then bif v31 then obind (bif v30 then ref21_between x0.2.2.2.2.2.2.2.1 (0:Int) (1048576:Int)
  else some false) fun (t:Bool) =>
 let v33:Bool:=bif v29 then true else !t;
 let v34:Bool:=!v33;
 let v35:Bool:=!v34||v34;bif v31 then bif v29||v30 then bif v35 then bif v35 then obind (bif v34 then ref21_between x0.2.2.2.2.2.2.2.2.1 (1:Int) (2:Int) else
  some false) fun (t:Bool) =>
 let v37:Bool:=bif v33 then true else !t;
 let v38:Bool:=!v37;
 let v39:Bool:=!v38||v38;bif v35 then bif v33||v34 then bif v39 then bif v39 then obind (bif v38 then ref21_between x0.2.2.2.2.2.2.2.2.2.1 (1:Int) (67108864
  : Int) else some false) fun (t:Bool) =>
 let v41:Bool:=bif v37 then true else !t;
 let v42:Bool:=!v41;
 let v43:Bool:=!v42||v42;bif v39 then bif v37||v38 then bif v43 then bif v43 then obind (bif v42 then ref21_between x0.2.2.2.2.2.2.2.2.2.2.1 (0:Int)
  (67108864:Int) else some false) fun (t:Bool)=>bif v43 then bif v41||v42 then bif bif v41 then true else !t then some false else lp (Int×PUnit) Bool (fun (again:Int×PUnit →
  Option Bool) (x:Int×PUnit) =>
 let v47:Bool:=decide (x.1>(0:Int));
 let v48:Bool:=inB x.1 (List.length x0.2.2.2.2.2.1);bif decide (x.1<(↑(List.length x0.2.2.2.2.2.1):Int)) then bif v48 then obind (ref21_between
  (List.getD x0.2.2.2.2.2.1 (Int.toNat x.1) (0:Int)) (0:Int) x0.2.2.2.2.1) fun (t:Bool) =>
 let v50:Bool:=!t;
 let v51:Bool:=!v50;
 let v52:Bool:=!v51;
 let v53:Bool:=v51&&v47;
 let v54:Bool:=!v53;
 let v55:Bool:=v52||v51;
 let v56:Bool:=v54||v53;bif v55 then bif v55 then bif v56 then bif v56&&(v56&&(v54||v48)) then bif v56 then bif v56 then bif v56 then bif v56&&(v56&&(v54||inB
  (IntKind.wrap .i64 (x.1 - (1:Int))) (List.length x0.2.2.2.2.2.1))) then bif v56 then bif v56&&v56 then bif (v52||v55)&&(v52||(!v47||(v52||v53))) then
  bif v50||v51 then bif bif v50 then true else bif v47 then decide (List.getD x0.2.2.2.2.2.1 (Int.toNat x.1) (0:Int)≤List.getD x0.2.2.2.2.2.1 (Int.toNat
  (IntKind.wrap .i64 (x.1 - (1:Int)))) (0:Int)) else false then some false else again (IntKind.wrap .i64 (x.1+(1:Int)),PUnit.unit) else none else none else none
  else none else none else none else none else none else none else none else none else none else none else obind (ref21_items x0) fun (t:Bool) =>
 let v50:Bool:=!t||t;bif v50 then bif v50 then obind (bif t then ref21_Bricks x0.2.2.2.2.2.2.2.2.2.2.2.2 else some false) fun (t_1:Bool)=>bif v50 then
  some (bif t then t_1 else false) else none else none else none) ((0:Int),PUnit.unit) else none else none else none else none else none else none else none else none else none else
  none else none else none else none else none else none else none else none else none else none else none else none else none else none else none else none else none else none else none
  else none else none else none else none else none else none else none else none else none else none else none else none else none
noncomputable def ref21_Valid (x0:ByteArray×Int×Int×Int×Int×(List Int)×Int×Int×Int×Int×Int×(List (ByteArray×Int×Int×Int×Int×Int×Int))×List (ByteArray×Int×Int)):Option Bool:=ref21_Valid_b lpK jnK ref01_IsName ref21_between ref21_items ref21_Bricks x0
noncomputable def c56:Ctr:=⟨[T44],[],[],.one .bool,fun x _ _=>ref21_Valid x.1⟩
theorem e56 (lp:Lp) (jn:Jn) (ref01_IsName:(ByteArray)→Option (Bool)) (ref21_between:(Int)→(Int)→(Int)→Option (Bool)) (ref21_items:(ByteArray×Int×Int×Int×Int×(List Int)×Int×Int×Int×Int×Int×(List (ByteArray×Int×Int×Int×Int×Int×Int))×List (ByteArray×Int×Int))→Option (Bool)) (ref21_Bricks:(List (ByteArray×Int×Int))→Option (Bool)):∀(x:TsS c56.as) (F:TsF c56.fs) (y:TsS c56.cs),ref21_Valid_b lp jn ref01_IsName ref21_between ref21_items ref21_Bricks x.1=runC lp jn (ctxOf prog shs inls its [(89,⟨[(.sl T64)],[],[],.one .bool,fun x _ _=>ref21_Bricks x.1⟩),(88,⟨[T44],[],[],.one .bool,fun x _ _=>ref21_items x.1⟩),(87,⟨[i64,i64,i64],[],[],.one .bool,fun x _ _=>ref21_between x.1 x.2.1 x.2.2.1⟩),(54,⟨[.str],[],[],.one .bool,fun x _ _=>ref01_IsName x.1⟩)] [(119,r119)]) hints 4 56 f56 c56 x F y:=fun x F y=>by kernel_rfl
theorem l56:(ctxOf prog shs inls its [(89,c89),(88,c88),(87,c87),(54,c54)] [(119,r119)]).ok:=ctxOf_cons (ctxOf_cons (ctxOf_cons (ctxOf_cons (q119) (by kernel_rfl) ok54) (by kernel_rfl) ok87) (by kernel_rfl) ok88) (by kernel_rfl) ok89
theorem ok56:c56.ok prog 56:=Ctr.of_den l56 hmix (hl:=hints) (d:=4) func56 rfl (by decide) (e56 lpK jnK ref01_IsName ref21_between ref21_items ref21_Bricks)
noncomputable def ref30_Valid_b (lp:Lp) (_:Jn) (ref30_FindSet:(ByteArray×Int×(List (ByteArray×Int×Int×Int×Int×(List Int)×Int×Int×Int×Int×Int×(List (ByteArray×Int×Int×Int×Int×Int×Int))×List (ByteArray×Int×Int)))×List (ByteArray×Int×Int×Int))→(ByteArray)→Option (Int)) (ref01_IsName:(ByteArray)→Option (Bool)) (ref19_Valid:(List (ByteArray×Int×Int×Int))→Option (Bool)) (ref21_Valid:(ByteArray×Int×Int×Int×Int×(List Int)×Int×Int×Int×Int×Int×(List (ByteArray×Int×Int×Int×Int×Int×Int))×List (ByteArray×Int×Int))→Option (Bool)) (x0:ByteArray×Int×(List (ByteArray×Int×Int×Int×Int×(List Int)×Int×Int×Int×Int×Int×(List (ByteArray×Int×Int×Int×Int×Int×Int))×List (ByteArray×Int×Int)))×List (ByteArray×Int×Int×Int)):Option Bool :=
 
 let v3:Bool:=decide (x0.2.1<(1:Int));
 let v4:Bool:=decide (x0.2.1>(1048576:Int));
 let v5:Bool:=decide ((↑(List.length x0.2.2.1):Int)>(60:Int));obind (ref01_IsName x0.1) fun (t:Bool) =>
 let v7:Bool:=!t;
 let v8:Bool:=!v7;
 let v9:Bool:=bif v7 then true else v3;
 let v10:Bool:=!v9;
 let v11:Bool:=!v8||v8;
 let v12:Bool:=bif v9 then true else v4;
 let v13:Bool:=!v12;
 let v14:Bool:=bif v12 then true else v5;
 let v15:Bool:=!v14;
 let v16:Bool:=!v10||v10;
 let v17:Bool:=!v13||v13;
 let v18:Bool:=!v15||v15;bif v11 then bif v11 then bif v7||v8 then bif v16 then bif v16 then bif v9||v10 then bif v17 then bif v17 then bif v17 then bif v12||v13 then bif v18
  then bif v18 then obind (bif v15 then ref19_Valid x0.2.2.2 else some false) fun (t:Bool)=>bif v18 then bif v14||v15 then bif bif v14 then true else !t then some false else
  lp (Int×PUnit) Bool (fun (again:Int×PUnit→Option Bool) (x:Int×PUnit) =>
 let v22:Bool:=inB x.1 (List.length x0.2.2.1);
 let v23:ByteArray×Int×Int×Int×Int×List Int×Int×Int×Int×Int×Int×List (ByteArray×Int×Int×Int×Int×Int×Int)×List (ByteArray×Int×Int):=List.getD
  x0.2.2.1 (Int.toNat x.1) ({ data:={ toList:=[] } },(0:Int),(0:Int),(0:Int),(0:Int),[],(0:Int),(0:Int),(0:Int),(0:Int),(0:Int),[],[]);
 let v24:Bool:=decide (v23.2.2.2.1>x0.2.1);bif decide (x.1<(↑(List.length x0.2.2.1):Int)) then bif v22 then obind (ref21_Valid v23) fun (t:Bool) =>
 let v26:Bool:=!t;
 let v27:Bool:=!v26;
 let v28:Bool:=!v27;
 let v29:Bool:=bif v26 then true else v24;
 let v30:Bool:=!v29;
 let v31:Bool:=v28||v27;
 let v32:Bool:=!v30;
 let v33:Bool:=v32||v30;
 let v34:Bool:=v33&&v33;bif v31 then bif v31&&(v31&&(v28||v22)) then bif v31 then bif v31 then bif v31 then bif v31&&v31 then bif v26||v27 then bif v33 then bif v33 &&
  (v33&&(v32||v22)) then bif v33 then bif v33 then bif v34 then obind (bif v30 then ref30_FindSet x0 v23.1 else some (0:Int)) fun (t:Int)=>bif v34 then bif v29||v30 then bif
  bif v29 then true else !decide (t=x.1) then some false else again (IntKind.wrap .i64 (x.1+(1:Int)),PUnit.unit) else none else none else none else none else none else
  none else none else none else none else none else none else none else none else none else none else some true) ((0:Int),PUnit.unit) else none else none else none else none else none
  else none else none else none else none else none else none else none else none else none
noncomputable def ref30_Valid (x0:ByteArray×Int×(List (ByteArray×Int×Int×Int×Int×(List Int)×Int×Int×Int×Int×Int×(List (ByteArray×Int×Int×Int×Int×Int×Int))×List (ByteArray×Int×Int)))×List (ByteArray×Int×Int×Int)):Option Bool:=ref30_Valid_b lpK jnK ref30_FindSet ref01_IsName ref19_Valid ref21_Valid x0
noncomputable def c25:Ctr:=⟨[T25],[],[],.one .bool,fun x _ _=>ref30_Valid x.1⟩
theorem e25 (lp:Lp) (jn:Jn) (ref30_FindSet:(ByteArray×Int×(List (ByteArray×Int×Int×Int×Int×(List Int)×Int×Int×Int×Int×Int×(List (ByteArray×Int×Int×Int×Int×Int×Int))×List (ByteArray×Int×Int)))×List (ByteArray×Int×Int×Int))→(ByteArray)→Option (Int)) (ref01_IsName:(ByteArray)→Option (Bool)) (ref19_Valid:(List (ByteArray×Int×Int×Int))→Option (Bool)) (ref21_Valid:(ByteArray×Int×Int×Int×Int×(List Int)×Int×Int×Int×Int×Int×(List (ByteArray×Int×Int×Int×Int×Int×Int))×List (ByteArray×Int×Int))→Option (Bool)):∀(x:TsS c25.as) (F:TsF c25.fs) (y:TsS c25.cs),ref30_Valid_b lp jn ref30_FindSet ref01_IsName ref19_Valid ref21_Valid x.1=runC lp jn (ctxOf prog shs inls its [(56,⟨[T44],[],[],.one .bool,fun x _ _=>ref21_Valid x.1⟩),(55,⟨[(.sl T96)],[],[],.one .bool,fun x _ _=>ref19_Valid x.1⟩),(54,⟨[.str],[],[],.one .bool,fun x _ _=>ref01_IsName x.1⟩),(28,⟨[T25,.str],[],[],.one i64,fun x _ _=>ref30_FindSet x.1 x.2.1⟩)] [(119,r119)]) hints 4 25 f25 c25 x F y:=fun x F y=>by kernel_rfl
theorem l25:(ctxOf prog shs inls its [(56,c56),(55,c55),(54,c54),(28,c28)] [(119,r119)]).ok:=ctxOf_cons (ctxOf_cons (ctxOf_cons (ctxOf_cons (q119) (by kernel_rfl) ok28) (by kernel_rfl) ok54) (by kernel_rfl) ok55) (by kernel_rfl) ok56
theorem ok25:c25.ok prog 25:=Ctr.of_den l25 hmix (hl:=hints) (d:=4) func25 rfl (by decide) (e25 lpK jnK ref30_FindSet ref01_IsName ref19_Valid ref21_Valid)
noncomputable def law30_ready_b (_:Lp) (_:Jn) (law30_small:(ByteArray×Int×(List (ByteArray×Int×Int×Int×Int×(List Int)×Int×Int×Int×Int×Int×(List (ByteArray×Int×Int×Int×Int×Int×Int))×List (ByteArray×Int×Int)))×List (ByteArray×Int×Int×Int))→Option (Bool)) (ref30_Valid:(ByteArray×Int×(List (ByteArray×Int×Int×Int×Int×(List Int)×Int×Int×Int×Int×Int×(List (ByteArray×Int×Int×Int×Int×Int×Int))×List (ByteArray×Int×Int)))×List (ByteArray×Int×Int×Int))→Option (Bool)) (x0:ByteArray×Int×(List (ByteArray×Int×Int×Int×Int×(List Int)×Int×Int×Int×Int×Int×(List (ByteArray×Int×Int×Int×Int×Int×Int))×List (ByteArray×Int×Int)))×List (ByteArray×Int×Int×Int)):Option Bool :=
 obind (law30_small x0) fun (t:Bool) =>
 let v4:Bool:=!t||t;bif v4 then obind (bif t then ref30_Valid x0 else some false) fun (t_1:Bool)=>bif v4 then some (bif t then t_1 else false) else none else none
noncomputable def law30_ready (x0:ByteArray×Int×(List (ByteArray×Int×Int×Int×Int×(List Int)×Int×Int×Int×Int×Int×(List (ByteArray×Int×Int×Int×Int×Int×Int))×List (ByteArray×Int×Int)))×List (ByteArray×Int×Int×Int)):Option Bool:=law30_ready_b lpK jnK law30_small ref30_Valid x0
noncomputable def c15:Ctr:=⟨[T25],[],[],.one .bool,fun x _ _=>law30_ready x.1⟩
theorem e15 (lp:Lp) (jn:Jn) (law30_small:(ByteArray×Int×(List (ByteArray×Int×Int×Int×Int×(List Int)×Int×Int×Int×Int×Int×(List (ByteArray×Int×Int×Int×Int×Int×Int))×List (ByteArray×Int×Int)))×List (ByteArray×Int×Int×Int))→Option (Bool)) (ref30_Valid:(ByteArray×Int×(List (ByteArray×Int×Int×Int×Int×(List Int)×Int×Int×Int×Int×Int×(List (ByteArray×Int×Int×Int×Int×Int×Int))×List (ByteArray×Int×Int)))×List (ByteArray×Int×Int×Int))→Option (Bool)):∀(x:TsS c15.as) (F:TsF c15.fs) (y:TsS c15.cs),law30_ready_b lp jn law30_small ref30_Valid x.1=runC lp jn (ctxOf prog shs inls its [(25,⟨[T25],[],[],.one .bool,fun x _ _=>ref30_Valid x.1⟩),(11,⟨[T25],[],[],.one .bool,fun x _ _=>law30_small x.1⟩)] [(119,r119)]) hints 4 15 f15 c15 x F y:=fun x F y=>by kernel_rfl
theorem l15:(ctxOf prog shs inls its [(25,c25),(11,c11)] [(119,r119)]).ok:=ctxOf_cons (ctxOf_cons (q119) (by kernel_rfl) ok11) (by kernel_rfl) ok25
theorem ok15:c15.ok prog 15:=Ctr.of_den l15 hmix (hl:=hints) (d:=4) func15 rfl (by decide) (e15 lpK jnK law30_small ref30_Valid)
noncomputable def slices_ContainsFunc_19_b (_:Lp) (_:Jn) (slices_IndexFunc_50:(List (ByteArray×Int×Int×Int×Int×(List Int)×Int×Int×Int×Int×Int×(List (ByteArray×Int×Int×Int×Int×Int×Int))×List (ByteArray×Int×Int)))→((((ByteArray×Int×Int×Int×Int×(List Int)×Int×Int×Int×Int×Int×(List (ByteArray×Int×Int×Int×Int×Int×Int))×List (ByteArray×Int×Int))×Unit)→Option Bool))→Option (Int)) (x0:List (ByteArray×Int×Int×Int×Int×(List Int)×Int×Int×Int×Int×Int×(List (ByteArray×Int×Int×Int×Int×Int×Int))×List (ByteArray×Int×Int))) (f0:(((ByteArray×Int×Int×Int×Int×(List Int)×Int×Int×Int×Int×Int×(List (ByteArray×Int×Int×Int×Int×Int×Int))×List (ByteArray×Int×Int))×Unit)→Option Bool)):Option Bool :=
 obind (slices_IndexFunc_50 x0 f0) fun (t:Int)=>some (decide (t≥(0:Int)))
noncomputable def slices_ContainsFunc_19 (x0:List (ByteArray×Int×Int×Int×Int×(List Int)×Int×Int×Int×Int×Int×(List (ByteArray×Int×Int×Int×Int×Int×Int))×List (ByteArray×Int×Int))) (f0:(((ByteArray×Int×Int×Int×Int×(List Int)×Int×Int×Int×Int×Int×(List (ByteArray×Int×Int×Int×Int×Int×Int))×List (ByteArray×Int×Int))×Unit)→Option Bool)):Option Bool:=slices_ContainsFunc_19_b lpK jnK slices_IndexFunc_50 x0 f0
noncomputable def c19:Ctr:=⟨[(.sl T44)],[([T44],.bool)],[],.one .bool,fun x F _=>slices_ContainsFunc_19 x.1 F.1⟩
theorem e19 (lp:Lp) (jn:Jn) (slices_IndexFunc_50:(List (ByteArray×Int×Int×Int×Int×(List Int)×Int×Int×Int×Int×Int×(List (ByteArray×Int×Int×Int×Int×Int×Int))×List (ByteArray×Int×Int)))→((((ByteArray×Int×Int×Int×Int×(List Int)×Int×Int×Int×Int×Int×(List (ByteArray×Int×Int×Int×Int×Int×Int))×List (ByteArray×Int×Int))×Unit)→Option Bool))→Option (Int)):∀(x:TsS c19.as) (F:TsF c19.fs) (y:TsS c19.cs),slices_ContainsFunc_19_b lp jn slices_IndexFunc_50 x.1 F.1=runC lp jn (ctxOf prog shs inls its [(50,⟨[(.sl T44)],[([T44],.bool)],[],.one i64,fun x F _=>slices_IndexFunc_50 x.1 F.1⟩)] [(119,r119)]) hints 4 19 f19 c19 x F y:=fun x F y=>by kernel_rfl
theorem l19:(ctxOf prog shs inls its [(50,c50)] [(119,r119)]).ok:=ctxOf_cons (q119) (by kernel_rfl) ok50
theorem ok19:c19.ok prog 19:=Ctr.of_den l19 hmix (hl:=hints) (d:=4) func19 rfl (by decide) (e19 lpK jnK slices_IndexFunc_50)
noncomputable def law30_HouseMoved_1_b (_:Lp) (_:Jn) (x0:ByteArray×Int×Int×Int×Int×(List Int)×Int×Int×Int×Int×Int×(List (ByteArray×Int×Int×Int×Int×Int×Int))×List (ByteArray×Int×Int)) (y0:ByteArray×Int×Int×Int×Int×(List Int)×Int×Int×Int×Int×Int×(List (ByteArray×Int×Int×Int×Int×Int×Int))×List (ByteArray×Int×Int)):Option Bool :=
 some (decide (x0.2.1=y0.2.1))
noncomputable def law30_HouseMoved_1 (x0:ByteArray×Int×Int×Int×Int×(List Int)×Int×Int×Int×Int×Int×(List (ByteArray×Int×Int×Int×Int×Int×Int))×List (ByteArray×Int×Int)) (y0:ByteArray×Int×Int×Int×Int×(List Int)×Int×Int×Int×Int×Int×(List (ByteArray×Int×Int×Int×Int×Int×Int))×List (ByteArray×Int×Int)):Option Bool:=law30_HouseMoved_1_b lpK jnK x0 y0
noncomputable def c20:Ctr:=⟨[T44],[],[T44],.one .bool,fun x _ y=>law30_HouseMoved_1 x.1 y.1⟩
theorem e20 (lp:Lp) (jn:Jn):∀(x:TsS c20.as) (F:TsF c20.fs) (y:TsS c20.cs),law30_HouseMoved_1_b lp jn x.1 y.1=runC lp jn (ctxOf prog shs inls its [] [(119,r119)]) hints 4 20 f20 c20 x F y:=fun x F y=>by kernel_rfl
theorem l20:(ctxOf prog shs inls its [] [(119,r119)]).ok:=q119
theorem ok20:c20.ok prog 20:=Ctr.of_den l20 hmix (hl:=hints) (d:=4) func20 rfl (by decide) (e20 lpK jnK)
noncomputable def ref21_Copy_b (_:Lp) (_:Jn) (x0:ByteArray×Int×Int×Int×Int×(List Int)×Int×Int×Int×Int×Int×(List (ByteArray×Int×Int×Int×Int×Int×Int))×List (ByteArray×Int×Int)):Option (ByteArray×Int×Int×Int×Int×(List Int)×Int×Int×Int×Int×Int×(List (ByteArray×Int×Int×Int×Int×Int×Int))×List (ByteArray×Int×Int)) :=
 bif fitB ((0:Nat)+List.length x0.2.2.2.2.2.1) (8:Nat) then bif fitB ((0:Nat)+List.length x0.2.2.2.2.2.2.2.2.2.2.2.1) (64:Nat) then bif fitB
  ((0:Nat)+List.length x0.2.2.2.2.2.2.2.2.2.2.2.2) (32:Nat) then some x0 else none else none else none
noncomputable def ref21_Copy (x0:ByteArray×Int×Int×Int×Int×(List Int)×Int×Int×Int×Int×Int×(List (ByteArray×Int×Int×Int×Int×Int×Int))×List (ByteArray×Int×Int)):Option (ByteArray×Int×Int×Int×Int×(List Int)×Int×Int×Int×Int×Int×(List (ByteArray×Int×Int×Int×Int×Int×Int))×List (ByteArray×Int×Int)):=ref21_Copy_b lpK jnK x0
noncomputable def c51:Ctr:=⟨[T44],[],[],.one T44,fun x _ _=>ref21_Copy x.1⟩
theorem e51 (lp:Lp) (jn:Jn):∀(x:TsS c51.as) (F:TsF c51.fs) (y:TsS c51.cs),ref21_Copy_b lp jn x.1=runC lp jn (ctxOf prog shs inls its [] [(119,r119)]) hints 4 51 f51 c51 x F y:=fun x F y=>by kernel_rfl
theorem l51:(ctxOf prog shs inls its [] [(119,r119)]).ok:=q119
theorem ok51:c51.ok prog 51:=Ctr.of_den l51 hmix (hl:=hints) (d:=4) func51 rfl (by decide) (e51 lpK jnK)
noncomputable def law30_HouseMoved_b (lp:Lp) (_:Jn) (house_Loads:(ByteArray×Int×(List (ByteArray×Int×Int×Int×Int×(List Int)×Int×Int×Int×Int×Int×(List (ByteArray×Int×Int×Int×Int×Int×Int))×List (ByteArray×Int×Int)))×List (ByteArray×Int×Int×Int))→Option ((List (Int×Int))×Int×Unit)) (slices_Equal_14:(List (Int×Int))→(List (Int×Int))→Option (Bool)) (house_Gap:(ByteArray×Int×(List (ByteArray×Int×Int×Int×Int×(List Int)×Int×Int×Int×Int×Int×(List (ByteArray×Int×Int×Int×Int×Int×Int))×List (ByteArray×Int×Int)))×List (ByteArray×Int×Int×Int))→(ByteArray)→(ByteArray)→Option (Int×Int×Unit)) (law30_awake:Option (Bool)) (law30_ready:(ByteArray×Int×(List (ByteArray×Int×Int×Int×Int×(List Int)×Int×Int×Int×Int×Int×(List (ByteArray×Int×Int×Int×Int×Int×Int))×List (ByteArray×Int×Int)))×List (ByteArray×Int×Int×Int))→Option (Bool)) (slices_ContainsFunc_19:(List (ByteArray×Int×Int×Int×Int×(List Int)×Int×Int×Int×Int×Int×(List (ByteArray×Int×Int×Int×Int×Int×Int))×List (ByteArray×Int×Int)))→((((ByteArray×Int×Int×Int×Int×(List Int)×Int×Int×Int×Int×Int×(List (ByteArray×Int×Int×Int×Int×Int×Int))×List (ByteArray×Int×Int))×Unit)→Option Bool))→Option (Bool)) (law30_HouseMoved_1:(ByteArray×Int×Int×Int×Int×(List Int)×Int×Int×Int×Int×Int×(List (ByteArray×Int×Int×Int×Int×Int×Int))×List (ByteArray×Int×Int))→(ByteArray×Int×Int×Int×Int×(List Int)×Int×Int×Int×Int×Int×(List (ByteArray×Int×Int×Int×Int×Int×Int))×List (ByteArray×Int×Int))→Option (Bool)) (ref21_Copy:(ByteArray×Int×Int×Int×Int×(List Int)×Int×Int×Int×Int×Int×(List (ByteArray×Int×Int×Int×Int×Int×Int))×List (ByteArray×Int×Int))→Option (ByteArray×Int×Int×Int×Int×(List Int)×Int×Int×Int×Int×Int×(List (ByteArray×Int×Int×Int×Int×Int×Int))×List (ByteArray×Int×Int))) (x0:ByteArray×Int×(List (ByteArray×Int×Int×Int×Int×(List Int)×Int×Int×Int×Int×Int×(List (ByteArray×Int×Int×Int×Int×Int×Int))×List (ByteArray×Int×Int)))×List (ByteArray×Int×Int×Int)):Option Bool :=
 
 let v3:List (ByteArray×Int×Int×Int×Int×List Int×Int×Int×Int×Int×Int×List (ByteArray×Int×Int×Int×Int×Int×Int)×List (ByteArray×Int×Int)):=[];
 let v4:Bool:=inB (0:Int) (List.length x0.2.2.1);obind law30_awake fun (t:Bool)=>bif !t then some false else obind (law30_ready x0) fun (t:Bool)=>bif !t then some true
  else lp (Int×PUnit) Bool (fun (again:Int×PUnit→Option Bool) (x:Int×PUnit)=>bif decide (x.1<(↑(List.length x0.2.2.1):Int)) then bif inB x.1 (List.length
  x0.2.2.1) then bif slB (0:Int) x.1 (List.length x0.2.2.1) then obind (slices_ContainsFunc_19 (List.drop (0:Nat) (List.take (Int.toNat x.1) x0.2.2.1)) fun (x_1
  : (ByteArray×Int×Int×Int×Int×List Int×Int×Int×Int×Int×Int×List (ByteArray×Int×Int×Int×Int×Int×Int)×List (ByteArray×Int×Int))×PUnit) =>
  law30_HouseMoved_1 x_1.1 (List.getD x0.2.2.1 (Int.toNat x.1) ({ data:={ toList:=[] } },(0:Int),(0:Int),(0:Int),(0:Int),[],(0:Int),(0:Int),(0:Int),(0
  : Int),(0:Int),[],[]))) fun (t:Bool)=>bif t then some true else again (IntKind.wrap .i64 (x.1+(1:Int)),PUnit.unit) else none else none else bif fitB ((0:Nat) +
  List.length x0.2.2.2) (40:Nat) then lp (Int×ByteArray×Int×List (ByteArray×Int×Int×Int×Int×List Int×Int×Int×Int×Int×Int×List (ByteArray×Int×Int ×
  Int×Int×Int×Int)×List (ByteArray×Int×Int))×List (ByteArray×Int×Int×Int)×PUnit) Bool (fun (again:Int×ByteArray×Int×List (ByteArray×Int×Int×Int×Int ×
  List Int×Int×Int×Int×Int×Int×List (ByteArray×Int×Int×Int×Int×Int×Int)×List (ByteArray×Int×Int))×List (ByteArray×Int×Int×Int)×PUnit→Option Bool)
  (x:Int×ByteArray×Int×List (ByteArray×Int×Int×Int×Int×List Int×Int×Int×Int×Int×Int×List (ByteArray×Int×Int×Int×Int×Int×Int)×List (ByteArray ×
  Int×Int))×List (ByteArray×Int×Int×Int)×PUnit)=>bif decide (x.1<(↑(List.length x0.2.2.1):Int)) then bif inB x.1 (List.length x0.2.2.1) then obind
  (ref21_Copy (List.getD x0.2.2.1 (Int.toNat x.1) ({ data:={ toList:=[] } },(0:Int),(0:Int),(0:Int),(0:Int),[],(0:Int),(0:Int),(0:Int),(0:Int),(0 :
  Int),[],[]))) fun (t:ByteArray×Int×Int×Int×Int×List Int×Int×Int×Int×Int×Int×List (ByteArray×Int×Int×Int×Int×Int×Int)×List (ByteArray×Int ×
  Int))=>bif fitB (List.length x.2.2.2.1+(1:Nat)) (160:Nat) then again (IntKind.wrap .i64 (x.1+(1:Int)),x.2.1,x.2.2.1,x.2.2.2.1++t ::
  v3,x.2.2.2.2.1,PUnit.unit) else none else none else lp (Int×Int×List (ByteArray×Int×Int×Int×Int×List Int×Int×Int×Int×Int×Int×List (ByteArray×Int
  × Int×Int×Int×Int×Int)×List (ByteArray×Int×Int))×PUnit) Bool (fun (again:Int×Int×List (ByteArray×Int×Int×Int×Int×List Int×Int×Int×Int×Int×Int ×
  List (ByteArray×Int×Int×Int×Int×Int×Int)×List (ByteArray×Int×Int))×PUnit→Option Bool) (x_1:Int×Int×List (ByteArray×Int×Int×Int×Int×List Int×Int ×
  Int×Int×Int×Int×List (ByteArray×Int×Int×Int×Int×Int×Int)×List (ByteArray×Int×Int))×PUnit) =>
 let v13:Bool:=inB x_1.1 (List.length x_1.2.2.1);
 let v14:Bool:=Nat.ble (Nat.succ (Int.toNat x_1.1)) (List.length x_1.2.2.1);
 let v15:Bool:=inB x_1.2.1 (List.length x_1.2.2.1);
 let v16:Bool:=Nat.ble (Nat.succ (Int.toNat x_1.2.1)) (List.length x_1.2.2.1);
 let v17:ByteArray×Int×List (ByteArray×Int×Int×Int×Int×List Int×Int×Int×Int×Int×Int×List (ByteArray×Int×Int×Int×Int×Int×Int)×List (ByteArray×Int
  × Int))×List (ByteArray×Int×Int×Int):=(x.2.1,x.2.2.1,x_1.2.2.1,x.2.2.2.2.1);bif decide (x_1.1<x_1.2.1) then bif v15 then bif v16 then bif
  v13 then bif v14 then bif v13 then bif v14 then bif v15 then bif v16 then again (IntKind.wrap .i64 (x_1.1+(1:Int)),IntKind.wrap .i64 (x_1.2.1 - (1:Int)),
  List.set (List.set x_1.2.2.1 (Int.toNat x_1.1) (List.getD x_1.2.2.1 (Int.toNat x_1.2.1) ({ data:={ toList:=[] } },(0:Int),(0:Int),(0:Int),(0:Int),[],
  (0:Int),(0:Int),(0:Int),(0:Int),(0:Int),[],[]))) (Int.toNat x_1.2.1) (List.getD x_1.2.2.1 (Int.toNat x_1.1) ({ data:={ toList:=[] } },(0:Int),(0 :
  Int),(0:Int),(0:Int),[],(0:Int),(0:Int),(0:Int),(0:Int),(0:Int),[],[])),PUnit.unit) else none else none else none else none else none else none else none else
  none else obind (house_Loads x0) fun (t:List (Int×Int)×Int×PUnit) =>
 let v19:Bool:=!decide (t.2.1=(5:Int));
 let v20:Bool:=!v19||v19;obind (house_Loads v17) fun (t_1:List (Int×Int)×Int×PUnit) =>
 let v22:Bool:=bif v19 then !decide (t_1.2.1=(5:Int)) else false;
 let v23:Bool:=!v22;
 let v24:Bool:=!decide (t.2.1=t_1.2.1);
 let v25:Bool:=v23||v22;
 let v26:Bool:=v22&&!v24;
 let v27:Bool:=!v26||v26;bif v20 then bif v20 then bif v25&&v25 then bif v25 then bif v27&&v27 then obind (bif v26 then slices_Equal_14 t.1 t_1.1 else some false) fun (t :
  Bool)=>bif v27 then bif (v23||v25)&&(v23||(v24||(v23||v26))) then bif v25 then bif bif v22 then bif v24 then true else !t else false then some false else lp (Int×PUnit)
  Bool (fun (again:Int×PUnit→Option Bool) (x:Int×PUnit) =>
 let v31:Bool:=inB x.1 (List.length x0.2.2.1);bif decide (x.1<(↑(List.length x0.2.2.1):Int)) then bif v4 then bif v31 then obind (house_Gap x0 (List.getD
  x0.2.2.1 (0:Nat) ({ data:={ toList:=[] } },(0:Int),(0:Int),(0:Int),(0:Int),[],(0:Int),(0:Int),(0:Int),(0:Int),(0:Int),[],[])).1 (List.getD
  x0.2.2.1 (Int.toNat x.1) ({ data:={ toList:=[] } },(0:Int),(0:Int),(0:Int),(0:Int),[],(0:Int),(0:Int),(0:Int),(0:Int),(0:Int),[],[])).1) fun
  (t:Int×Int×PUnit) =>
 let v33:Bool:=!decide (t.2.1=(0:Int));
 let v34:Bool:=!v33;bif v4 then bif v31 then obind (house_Gap v17 (List.getD x0.2.2.1 (0:Nat) ({ data:={ toList:=[] } },(0:Int),(0:Int),(0:Int),(0:Int),[],(0
  : Int),(0:Int),(0:Int),(0:Int),(0:Int),[],[])).1 (List.getD x0.2.2.1 (Int.toNat x.1) ({ data:={ toList:=[] } },(0:Int),(0:Int),(0:Int),(0:Int),
  [],(0:Int),(0:Int),(0:Int),(0:Int),(0:Int),[],[])).1) fun (t_2:Int×Int×PUnit) =>
 let v36:Bool:=bif v33 then true else !decide (t_2.2.1=(0:Int));
 let v37:Bool:=!v36;
 let v38:Bool:=!v37||v37;bif !v34||v34 then bif v33||v34 then bif v38&&v38 then bif v36||v37 then bif bif v36 then true else !decide (t.1=t_2.1) then some false else
  again (IntKind.wrap .i64 (x.1+(1:Int)),PUnit.unit) else none else none else none else none else none else none else none else none else some true) ((1:Int),PUnit.unit)
  else none else none else none else none else none else none else none else none) ((0:Int),IntKind.wrap .i64 ((↑(List.length x.2.2.2.1):Int) - (1:Int)),
  x.2.2.2.1,PUnit.unit)) ((0:Int),x0.1,x0.2.1,v3,x0.2.2.2,PUnit.unit) else none) ((0:Int),PUnit.unit)
noncomputable def law30_HouseMoved (x0:ByteArray×Int×(List (ByteArray×Int×Int×Int×Int×(List Int)×Int×Int×Int×Int×Int×(List (ByteArray×Int×Int×Int×Int×Int×Int))×List (ByteArray×Int×Int)))×List (ByteArray×Int×Int×Int)):Option Bool:=law30_HouseMoved_b lpK jnK house_Loads slices_Equal_14 house_Gap law30_awake law30_ready slices_ContainsFunc_19 law30_HouseMoved_1 ref21_Copy x0
noncomputable def c5:Ctr:=⟨[T25],[],[],.one .bool,fun x _ _=>law30_HouseMoved x.1⟩
theorem e5 (lp:Lp) (jn:Jn) (house_Loads:(ByteArray×Int×(List (ByteArray×Int×Int×Int×Int×(List Int)×Int×Int×Int×Int×Int×(List (ByteArray×Int×Int×Int×Int×Int×Int))×List (ByteArray×Int×Int)))×List (ByteArray×Int×Int×Int))→Option ((List (Int×Int))×Int×Unit)) (slices_Equal_14:(List (Int×Int))→(List (Int×Int))→Option (Bool)) (house_Gap:(ByteArray×Int×(List (ByteArray×Int×Int×Int×Int×(List Int)×Int×Int×Int×Int×Int×(List (ByteArray×Int×Int×Int×Int×Int×Int))×List (ByteArray×Int×Int)))×List (ByteArray×Int×Int×Int))→(ByteArray)→(ByteArray)→Option (Int×Int×Unit)) (law30_awake:Option (Bool)) (law30_ready:(ByteArray×Int×(List (ByteArray×Int×Int×Int×Int×(List Int)×Int×Int×Int×Int×Int×(List (ByteArray×Int×Int×Int×Int×Int×Int))×List (ByteArray×Int×Int)))×List (ByteArray×Int×Int×Int))→Option (Bool)) (slices_ContainsFunc_19:(List (ByteArray×Int×Int×Int×Int×(List Int)×Int×Int×Int×Int×Int×(List (ByteArray×Int×Int×Int×Int×Int×Int))×List (ByteArray×Int×Int)))→((((ByteArray×Int×Int×Int×Int×(List Int)×Int×Int×Int×Int×Int×(List (ByteArray×Int×Int×Int×Int×Int×Int))×List (ByteArray×Int×Int))×Unit)→Option Bool))→Option (Bool)) (law30_HouseMoved_1:(ByteArray×Int×Int×Int×Int×(List Int)×Int×Int×Int×Int×Int×(List (ByteArray×Int×Int×Int×Int×Int×Int))×List (ByteArray×Int×Int))→(ByteArray×Int×Int×Int×Int×(List Int)×Int×Int×Int×Int×Int×(List (ByteArray×Int×Int×Int×Int×Int×Int))×List (ByteArray×Int×Int))→Option (Bool)) (ref21_Copy:(ByteArray×Int×Int×Int×Int×(List Int)×Int×Int×Int×Int×Int×(List (ByteArray×Int×Int×Int×Int×Int×Int))×List (ByteArray×Int×Int))→Option (ByteArray×Int×Int×Int×Int×(List Int)×Int×Int×Int×Int×Int×(List (ByteArray×Int×Int×Int×Int×Int×Int))×List (ByteArray×Int×Int))):∀(x:TsS c5.as) (F:TsF c5.fs) (y:TsS c5.cs),law30_HouseMoved_b lp jn house_Loads slices_Equal_14 house_Gap law30_awake law30_ready slices_ContainsFunc_19 law30_HouseMoved_1 ref21_Copy x.1=runC lp jn (ctxOf prog shs inls its [(51,⟨[T44],[],[],.one T44,fun x _ _=>ref21_Copy x.1⟩),(20,⟨[T44],[],[T44],.one .bool,fun x _ y=>law30_HouseMoved_1 x.1 y.1⟩),(19,⟨[(.sl T44)],[([T44],.bool)],[],.one .bool,fun x F _=>slices_ContainsFunc_19 x.1 F.1⟩),(15,⟨[T25],[],[],.one .bool,fun x _ _=>law30_ready x.1⟩),(10,⟨[],[],[],.one .bool,fun _ _ _=>law30_awake⟩),(18,⟨[T25,.str,.str],[],[],.tup [i64,i64],fun x _ _=>house_Gap x.1 x.2.1 x.2.2.1⟩),(14,⟨[(.sl T36),(.sl T36)],[],[],.one .bool,fun x _ _=>slices_Equal_14 x.1 x.2.1⟩),(12,⟨[T25],[],[],.tup [(.sl T36),i64],fun x _ _=>house_Loads x.1⟩)] [(119,r119)]) hints 4 5 f5 c5 x F y:=fun x F y=>by kernel_rfl
theorem l5:(ctxOf prog shs inls its [(51,c51),(20,c20),(19,c19),(15,c15),(10,c10),(18,c18),(14,c14),(12,c12)] [(119,r119)]).ok:=ctxOf_cons (ctxOf_cons (ctxOf_cons (ctxOf_cons (ctxOf_cons (ctxOf_cons (ctxOf_cons (ctxOf_cons (q119) (by kernel_rfl) ok12) (by kernel_rfl) ok14) (by kernel_rfl) ok18) (by kernel_rfl) ok10) (by kernel_rfl) ok15) (by kernel_rfl) ok19) (by kernel_rfl) ok20) (by kernel_rfl) ok51
theorem ok5:c5.ok prog 5:=Ctr.of_den l5 hmix (hl:=hints) (d:=4) func5 rfl (by decide) (e5 lpK jnK house_Loads slices_Equal_14 house_Gap law30_awake law30_ready slices_ContainsFunc_19 law30_HouseMoved_1 ref21_Copy)
end Go.Proofs.YtmoiiokmfanlgaaGreat

namespace Go.Proofs.YtmoiiokmfanlgaaGreat
namespace Dn
section
variable {T R α σ:Type}
theorem obind_some' {t:T} {k:T→Option R}:obind (some t) k=k t:=rfl
theorem loopF_eq {F:(α→Option R)→α→Option R} {g:α→Option R} (I:α→Prop) (μ:α→Nat)
  (h:∀x rec,I x→(∀y,I y→μ y<μ x→rec y=g y)→F rec x=g x):∀{n:Nat} {x:α},I x→μ x<n→loopF F n x=g x
 | 0,x,_,hn=>by omega
 | n+1,x,hx,hn=>by
  rw[loopF_succ]
  exact h x _ hx fun y hy hlt=>loopF_eq I μ h hy (by omega)
theorem lpK_loop {F:(α→Option R)→α→Option R} {g:α→Option R} (I:α→Prop) (μ:α→Nat)
  (h:∀x rec,I x→(∀y,I y→μ y<μ x→rec y=g y)→F rec x=g x) {x:α} (hx:I x) (hn:μ x<1180591620717411303424):lpK α R F x=g x:=loopF_eq I μ h hx hn
theorem wrap_id {x:Int} (h1: -9223372036854775808≤x) (h2:x<9223372036854775808):IntKind.wrap .i64 x=x:=by
 rw[IntKind.wrap_i64];omega
def upF (b:Nat→σ→(σ→Option R)→Option R) (f:σ→Option R):Nat→Nat→σ→Option R
 | 0,_,s=>f s
 | k+1,i,s=>b i s (upF b f k (i+1))
theorem loopF_up {F:(α→Option R)→α→Option R} (n:Nat) (hn:n≤1180591620717411303423) (enc:Nat→σ→α) (b:Nat→σ→(σ→Option R)→Option R) (f:σ→Option R)
  (hb:∀again (i:Nat) s,i<n→F again (enc i s)=b i s (fun s'=>again (enc (i+1) s'))) (hf:∀again s,F again (enc n s)=f s) (s:σ) :
  loopF F K0 (enc 0 s)=upF b f n 0 s:=by
 have key:∀(k:Nat) (i:Nat) (m:Nat) (s:σ),i+k=n→k<m→loopF F m (enc i s)=upF b f k i s:=by
  intro k
  induction k with
  | zero =>
   intro i m s h1 h2
   obtain ⟨m,rfl⟩:∃m',m=m'+1:=⟨m - 1,by omega⟩
   have:i=n:=by omega
   subst this
   simp only[loopF_succ,hf,upF]
  | succ k ih =>
   intro i m s h1 h2
   obtain ⟨m,rfl⟩:∃m',m=m'+1:=⟨m - 1,by omega⟩
   simp only[loopF_succ,upF]
   rw[hb _ _ _ (by omega)]
   congr 1
   funext s'
   exact ih (i+1) m s' (by omega) (by omega)
 exact key n 0 K0 s (by omega) (by unfold K0;omega)
theorem inB_nat {i n:Nat}:inB (i:Int) n=decide (i<n):=by
 rw[Bool.eq_iff_iff,inB_iff,decide_eq_true_iff];omega
theorem inB_of {i:Int} {n:Nat} (h1:0≤i) (h2:i<n):inB i n=true:=inB_iff.2 ⟨h1,h2⟩
theorem nzB_of {n:Int} (h:n≠0):nzB n=true:=nzB_iff.2 h
theorem slB_of {lo hi:Int} {n:Nat} (h1:0≤lo) (h2:lo≤hi) (h3:hi≤n):slB lo hi n=true:=slB_iff.2 ⟨h1,h2,h3⟩
theorem fitB_of {n k:Nat} (h:n*k≤140737488355328):fitB n k=true:=fitB_iff.2 h
theorem ble_of {n m:Nat} (h:n≤m):Nat.ble n m=true:=by rw[Nat.ble_eq];exact h
theorem cT0 {α:Sort _} {c:Bool} (h:c=true) (a b:α):cond c a b=a:=by subst h;rfl
theorem cT {α:Sort _} (a b:α):cond true a b=a:=cT0 (Eq.trans rfl rfl) a b
theorem cF0 {α:Sort _} {c:Bool} (h:c=false) (a b:α):cond c a b=b:=by subst h;rfl
theorem cF {α:Sort _} (a b:α):cond false a b=b:=cF0 (Eq.trans rfl rfl) a b
theorem or_self_not {b:Bool}:(b||!b)=true:=by cases b<;>rfl
theorem not_or_self' {b:Bool}:(!b||b)=true:=by cases b<;>rfl
theorem bif_false' {b:Bool} {c:Bool}:(bif b then c else false)=(b&&c):=by cases b<;>rfl
theorem bif_true' {b:Bool} {c:Bool}:(bif b then true else c)=(b||c):=by cases b<;>rfl
theorem getD_nat {l:List α} {d:α} {i:Nat} (h:i<l.length):l.getD i d=l[i]:=by simp[List.getD,h]
end
end Dn
end Go.Proofs.YtmoiiokmfanlgaaGreat

namespace Go.Proofs.YtmoiiokmfanlgaaGreat
open Tryz Dn Dn.Sh
theorem str_beq (a b:ByteArray):List.beq (ByteArray.toList a) (ByteArray.toList b)=decide (a=b):=by
 show (a.toList ==b.toList)=_
 rw[ByteArray.toList_eq,ByteArray.toList_eq,Bool.eq_iff_iff,decide_eq_true_iff,beq_iff_eq]
 exact ⟨fun h=>ByteArray.ext (Array.toList_inj.mp h),fun h=>by rw[h]⟩
theorem lpK_some {α R:Type} {F:(α→Option R)→α→Option R} (I:α→Prop) (μ:α→Nat) (h:∀x rec,I x→(∀y,I y→μ y<μ x→(rec y).isSome=true)→(F rec x).isSome=true) {x:α} (hx:I x) (hn:μ x<1180591620717411303424):(lpK α R F x).isSome=true:=by
 have key:∀n x,I x→μ x<n→(loopF F n x).isSome=true:=by
  intro n
  induction n with
  | zero=>intro x _ h;omega
  | succ n ih =>
   intro x hx hn
   rw[loopF_succ]
   exact h x _ hx fun y hy hlt=>ih y hy (by omega)
 exact key _ x hx hn
theorem letter_same:decimal_letter=ref01_Letter:=by
 funext c
 rfl
theorem digit_same:decimal_digit=ref01_Digit:=by
 funext c
 rfl
theorem letter_some (c:Int):∃b,decimal_letter c=some b:=by
 simp only[decimal_letter,decimal_letter_b,not_or_self',or_self_not,cond_true]
 cases decide (c≥97)<;>cases decide (c≤122)<;>cases decide (c≥65)<;>exact ⟨_,rfl⟩
theorem digit_some (c:Int):∃b,decimal_digit c=some b:=by
 simp only[decimal_digit,decimal_digit_b,not_or_self',cond_true]
 exact ⟨_,rfl⟩
theorem word_some {s:ByteArray} (h:s.size≤1000000):∃n,decimal_word s=some n:=by
 rw[←Option.isSome_iff_exists]
 simp only[decimal_word,decimal_word_b]
 refine lpK_some (I:=fun (x:Int×PUnit)=>0≤x.1∧x.1≤s.size) (μ:=fun (x:Int×PUnit)=>((s.size:Int) - x.1).toNat) (x:=((0:Int),PUnit.unit)) ?_ ⟨Int.le_refl _,by simp only;omega⟩ (by simp only;omega)
 rintro ⟨i,_⟩ rec ⟨h0,h1⟩ hrec
 simp only at h0 h1 ⊢
 by_cases hi:i<s.size
 ·rw[inB_of h0 hi,decide_eq_true hi]
  obtain ⟨b,hb⟩:=letter_some (byteAt s i.toNat)
  obtain ⟨c,hc⟩:=digit_some (byteAt s i.toNat)
  have hw:IntKind.wrap .i64 (i+1)=i+1:=wrap_id (by omega) (by omega)
  have hr:=hrec (i+1,PUnit.unit) ⟨by simp only;omega,by simp only;omega⟩ (by simp only;omega)
  simp only[hb,hc,hw]
  cases b<;>cases c<;>cases decide (byteAt s i.toNat=95)<;>simp[obind_some',hr]
 ·rw[decide_eq_false hi]
  simp[obind_some']
theorem word_same (s:ByteArray):ref01_word s 0=decimal_word s:=by
 simp only[ref01_word,ref01_word_b,decimal_word,decimal_word_b,letter_same,digit_same]
noncomputable def nameB (s:ByteArray):Bool:=decide (0<s.size)&&(decide (s.size≤20)&&((decimal_letter (byteAt s 0)).getD false&&decide ((decimal_word s).getD 0=(s.size:Int))))
theorem empty_iff (s:ByteArray):s={ data:=#[] }↔s.size=0:=by
 constructor
 ·intro h;rw[h];rfl
 ·intro h
  apply ByteArray.ext
  exact Array.eq_empty_of_size_eq_zero h
theorem isName_ok (s:ByteArray):decimal_IsName s=some (nameB s):=by
 simp only[decimal_IsName,decimal_IsName_b,str_beq,not_or_self',Bool.and_self,cond_true]
 unfold nameB
 by_cases h0:s.size=0
 ·have e:decide (s={ data:=#[] })=true:=decide_eq_true ((empty_iff s).2 h0)
  simp[e,h0,obind_some']
 ·have e:decide (s={ data:=#[] })=false:=decide_eq_false fun h=>h0 ((empty_iff s).1 h)
  by_cases h1:s.size≤20
  ·obtain ⟨b,hb⟩:=letter_some (byteAt s 0)
   obtain ⟨n,hn⟩:=word_some (s:=s) (by omega)
   have h2:decide ((s.size:Int)≤20)=true:=decide_eq_true (by omega)
   rw[inB_of (show (0:Int)≤0 by omega) (show (0:Int)<s.size by omega)]
   simp only[e,h2,hb,hn]
   cases b<;>simp[obind_some',h1,show 0<s.size by omega]
  ·have h2:decide ((s.size:Int)≤20)=false:=decide_eq_false (by omega)
   simp[e,h2,h1,obind_some']
theorem refIsName_ok (s:ByteArray):ref01_IsName s=some (nameB s):=by
 simp only[ref01_IsName,ref01_IsName_b,not_or_self',or_self_not,cond_true]
 unfold nameB
 by_cases h0:s.size=0
 ·simp[h0,obind_some']
 ·have e:decide ((s.size:Int)=0)=false:=decide_eq_false (by omega)
  by_cases h1:s.size≤20
  ·obtain ⟨b,hb⟩:=letter_some (byteAt s 0)
   obtain ⟨n,hn⟩:=word_some (s:=s) (by omega)
   have h2:decide ((s.size:Int)>20)=false:=decide_eq_false (by omega)
   rw[inB_of (show (0:Int)≤0 by omega) (show (0:Int)<s.size by omega),word_same]
   simp only[e,h2,←letter_same,hb,hn]
   cases b<;>simp[obind_some',h1,show 0<s.size by omega]
  ·have h2:decide ((s.size:Int)>20)=true:=decide_eq_true (by omega)
   simp[h2,h1,obind_some']
end Go.Proofs.YtmoiiokmfanlgaaGreat

namespace Go.Proofs.YtmoiiokmfanlgaaGreat
namespace Dn
theorem lpK_up {σ α R:Type} {F:(α→Option R)→α→Option R} (n:Nat) (hn:n≤1180591620717411303423) (enc:Nat→σ→α) (b:Nat→σ→(σ→Option R)→Option R) (f:σ→Option R)
  (hb:∀again (i:Nat) s,i<n→F again (enc i s)=b i s (fun s'=>again (enc (i+1) s'))) (hf:∀again s,F again (enc n s)=f s) (s:σ) :
  lpK α R F (enc 0 s)=upF b f n 0 s:=loopF_up n hn enc b f hb hf s
def idxI {α:Type} (p:α→Bool):List α→Int→Int
 | [],_=> -1
 | a ::l,i=>bif p a then i else idxI p l (i+1)
theorem idxI_neg {α:Type} {p:α→Bool}:∀{l:List α} {i:Int},0≤i→(idxI p l i<0↔∀a ∈ l,p a=false)
 | [],i,h=>by simp[idxI]
 | a ::l,i,h=>by
  unfold idxI
  cases hp:p a with
  | true=>simp only[cond_true,List.mem_cons,forall_eq_or_imp,hp];simp;omega
  | false=>simp only[cond_false,List.mem_cons,forall_eq_or_imp,hp,true_and];exact idxI_neg (by omega)
theorem idxI_drop {α:Type} {p:α→Bool} {l:List α} {d:α} {i:Nat} (h:i<l.length):idxI p (l.drop i) i=bif p (l.getD i d) then (i:Int) else idxI p (l.drop (i+1)) ((i:Int)+1):=by
 rw[List.drop_eq_getElem_cons h,getD_nat h]
 rfl
theorem index_loop {α:Type} {f:(α×Unit)→Option Bool} {d:α} {p:α→Bool} {l:List α} (hl:l.length≤1000000) (h:∀a,a ∈ l→f (a,())=some (p a)) :
  lpK (Int×PUnit) Int (fun (again:Int×PUnit→Option Int) (x:Int×PUnit)=>bif decide (x.1<(↑(List.length l):Int)) then bif inB x.1 (List.length l) then obind (f
   (List.getD l (Int.toNat x.1) d,PUnit.unit)) fun (t:Bool)=>bif t then some x.1 else again
   (IntKind.wrap .i64 (x.1+(1:Int)),PUnit.unit) else none else some (-1:Int)) ((0:Int),PUnit.unit)=some (idxI p l 0):=by
 refine lpK_loop (g:=fun _=>some (idxI p l 0)) (I:=fun (x:Int×PUnit)=>0≤x.1∧x.1≤l.length∧idxI p (l.drop x.1.toNat) x.1=idxI p l 0) (μ:=fun (x:Int×PUnit)=>((l.length:Int) - x.1).toNat) ?_ ⟨by simp,by simp only;omega,rfl⟩ (by simp only;omega)
 rintro ⟨i,_⟩ rec ⟨h0,h1,h2⟩ hrec
 simp only at h0 h1 h2 ⊢
 by_cases hi:i<l.length
 ·obtain ⟨n,rfl⟩:∃n:Nat,i=n:=⟨i.toNat,by omega⟩
  rw[decide_eq_true hi,cond_true,inB_of h0 hi,cond_true,Int.toNat_natCast,h _ (by rw[getD_nat (by omega)];exact List.getElem_mem (by omega)),obind_some',wrap_id (by omega) (by omega)]
  rw[Int.toNat_natCast,idxI_drop (d:=d) (by omega)] at h2
  cases hp:p (l.getD n d) with
  | true=>rw[hp,cond_true] at h2;rw[cond_true,h2]
  | false=>rw[hp,cond_false] at h2;rw[cond_false];exact hrec _ ⟨by simp only;omega,by simp only;omega,h2⟩ (by simp only;omega)
 ·rw[decide_eq_false hi,cond_false]
  have e:i.toNat=l.length:=by omega
  rw[e,List.drop_length] at h2
  rw[←h2]
  rfl
theorem find_loop {α:Type} {p:α→Bool} {d:α} {l:List α} (hl:l.length≤1000000) :
  lpK (Int×PUnit) Int (fun (again:Int×PUnit→Option Int) (x:Int×PUnit)=>bif decide (x.1<(↑(List.length l):Int)) then bif inB x.1 (List.length l) then bif p
   (List.getD l (Int.toNat x.1) d) then some x.1 else again
   (IntKind.wrap .i64 (x.1+(1:Int)),PUnit.unit) else none else some (-1:Int)) ((0:Int),PUnit.unit)=some (idxI p l 0) :=
 index_loop (f:=fun a=>some (p a.1)) hl fun _ _=>rfl
theorem upF_all {R σ:Type} {b:Nat→σ→(σ→Option R)→Option R} {f:σ→Option R} {p:Nat→Bool} {r:Option R} {s:σ} (n:Nat) (hb:∀i (k:σ→Option R),i<n→b i s k=bif p i then k s else r) :
  ∀(k i:Nat),i+k≤n→upF b f k i s=bif (List.range' i k).all p then f s else r
 | 0,i,_=>rfl
 | k+1,i,h=>by
  simp only[upF,hb i _ (by omega),List.range'_succ,List.all_cons]
  cases hp:p i with
  | true=>exact upF_all n hb k (i+1) (by omega)
  | false=>rfl
end Dn
end Go.Proofs.YtmoiiokmfanlgaaGreat

namespace Go.Proofs.YtmoiiokmfanlgaaGreat
namespace Dn
def listF {α σ R:Type} (b:α→σ→(σ→Option R)→Option R) (f:σ→Option R):List α→σ→Option R
 | [],s=>f s
 | a ::l,s=>b a s (listF b f l)
theorem upF_list {α σ R:Type} (L:List α) (d:α) {b:α→σ→(σ→Option R)→Option R} {c:Nat→σ→(σ→Option R)→Option R} {f:σ→Option R} (h:∀i s k,i<L.length→c i s k=b (L.getD i d) s k) :
  ∀(k i:Nat) (s:σ),i+k=L.length→upF c f k i s=listF b f (L.drop i) s
 | 0,i,s,hi=>by
  rw[List.drop_of_length_le (by omega)]
  rfl
 | k+1,i,s,hi=>by
  rw[List.drop_eq_getElem_cons (show i<L.length by omega)]
  simp only[upF,listF]
  rw[h _ _ _ (by omega),getD_nat (by omega)]
  congr 1
  funext s'
  exact upF_list L d h k (i+1) s' (by omega)
theorem lpK_nat {α σ R:Type} (L:List α) (d:α) (hn:L.length≤1180591620717411303423) {F:(Nat×σ→Option R)→Nat×σ→Option R} (b:α→σ→(σ→Option R)→Option R) (f:σ→Option R)
  (hb:∀again (i:Nat) s,i<L.length→F again (i,s)=b (L.getD i d) s (fun s'=>again (i+1,s'))) (hf:∀again s,F again (L.length,s)=f s) (s:σ):lpK (Nat×σ) R F (0,s)=listF b f L s :=
 (lpK_up L.length hn (fun i s=>(i,s)) (fun i s k=>b (L.getD i d) s k) f hb hf s).trans ((upF_list L d (b:=b) (fun _ _ _ _=>rfl) L.length 0 s (by omega)).trans (by rw[List.drop_zero]))
theorem lpK_int {α β σ R:Type} (L:List α) (d:α) (hn:L.length≤1180591620717411303423) {F:(β→Option R)→β→Option R} (enc:Nat→σ→β) (b:α→σ→(σ→Option R)→Option R) (f:σ→Option R)
  (hb:∀again (i:Nat) s,i<L.length→F again (enc i s)=b (L.getD i d) s (fun s'=>again (enc (i+1) s'))) (hf:∀again s,F again (enc L.length s)=f s) (s:σ):lpK β R F (enc 0 s)=listF b f L s :=
 (lpK_up L.length hn enc (fun i s k=>b (L.getD i d) s k) f hb hf s).trans ((upF_list L d (b:=b) (fun _ _ _ _=>rfl) L.length 0 s (by omega)).trans (by rw[List.drop_zero]))
theorem listF_fold {α σ R:Type} {b:α→σ→(σ→Option R)→Option R} {f:σ→Option R} (g:σ→α→σ):∀{L:List α} {s:σ},(∀a ∈ L,∀s k,b a s k=k (g s a))→listF b f L s=f (L.foldl g s)
 | [],_,_=>rfl
 | a ::L,s,h=>by
  simp only[listF,List.foldl_cons]
  rw[h a (by simp)]
  exact listF_fold g fun a' ha=>h a' (by simp[ha])
end Dn
end Go.Proofs.YtmoiiokmfanlgaaGreat

namespace Go.Proofs.YtmoiiokmfanlgaaGreat
open Tryz Dn Dn.Sh
abbrev Itm:=ByteArray×Int×Int×Int×Int×Int×Int
abbrev Brk:=ByteArray×Int×Int
abbrev itm0:Itm:=({ data:={ toList:=[] } },(0:Int),(0:Int),(0:Int),(0:Int),(0:Int),(0:Int))
abbrev brk0:Brk:=({ data:={ toList:=[] } },(0:Int),(0:Int))
def btw (n a b:Int):Bool:=decide (a≤n)&&decide (n≤b)
theorem btwA_ok (n a b:Int):batten_between n a b=some (btw n a b):=by
 simp only[batten_between,batten_between_b,not_or_self',Bool.and_self,cT,bif_false',ge_iff_le,btw]
theorem btwB_ok (n a b:Int):ref21_between n a b=some (btw n a b):=by
 simp only[ref21_between,ref21_between_b,not_or_self',Bool.and_self,cT,bif_false',ge_iff_le,btw]
theorem upF_chk {σ R:Type} {b:Nat→σ→(σ→Option R)→Option R} {f:σ→Option R} {q:Nat→Bool} {g:Nat→σ→σ} {r:Option R} (n:Nat) (hb:∀i s (k:σ→Option R),i<n→b i s k=bif q i then k (g i s) else r) :
  ∀(k i:Nat) (s:σ),i+k≤n→upF b f k i s=bif (List.range' i k).all q then f ((List.range' i k).foldl (fun s i=>g i s) s) else r
 | 0,i,s,_=>rfl
 | k+1,i,s,h=>by
  simp only[upF,hb i s _ (by omega),List.range'_succ,List.all_cons,List.foldl_cons]
  cases hp:q i with
  | true=>exact upF_chk n hb k (i+1) _ (by omega)
  | false=>rfl
theorem all_and {α:Type} {p q:α→Bool} {l:List α}:(l.all fun a=>p a&&q a)=(l.all p&&l.all q):=by
 rw[Bool.eq_iff_iff,Bool.and_eq_true,List.all_eq_true,List.all_eq_true,List.all_eq_true]
 constructor
 ·exact fun h=>⟨fun a ha=>((Bool.and_eq_true _ _).mp (h a ha)).1,fun a ha=>((Bool.and_eq_true _ _).mp (h a ha)).2⟩
 ·exact fun h a ha=>(Bool.and_eq_true _ _).mpr ⟨h.1 a ha,h.2 a ha⟩
def earlyN {α:Type} (p:α→α→Bool) (d:α) (l:List α) (i:Nat):Bool:=!(l.take i).any fun a=>p a (l.getD i d)
theorem memK_str (x:ByteArray):∀l:List ByteArray,memK .str x l=true↔x ∈ l
 | []=>by simp[memK]
 | y ::l=>by
  simp only[memK,keyEq,Bool.or_eq_true,memK_str x l,List.mem_cons,decide_eq_true_iff]
def nodupB:List ByteArray→Bool
 | []=>true
 | x ::l=>!memK .str x l&&nodupB l
theorem nodupB_iff:∀{l:List ByteArray},nodupB l=true↔l.Nodup
 | []=>by simp[nodupB]
 | x ::l=>by
  rw[nodupB,Bool.and_eq_true,nodupB_iff,List.nodup_cons,←memK_str,Bool.not_eq_true',Bool.not_eq_true]
theorem addK_fold:∀(L S:List ByteArray),(L.foldl (fun s x=>addK .str x s) S).length≤S.length+L.length∧((L.foldl (fun s x=>addK .str x s) S).length=S.length+L.length↔L.Nodup∧∀x ∈ L,x ∉ S)
 | [],S=>by simp
 | x ::L,S=>by
  simp only[List.foldl_cons,List.length_cons]
  by_cases hx:x ∈ S
  ·have e:addK .str x S=S:=by unfold addK;rw[(memK_str x S).2 hx];rfl
   rw[e]
   obtain ⟨h1,_⟩:=addK_fold L S
   refine ⟨by omega,fun h=>by omega,fun h=>?_⟩
   exact absurd hx (h.2 x (by simp))
  ·have e:addK .str x S=S++[x]:=by
    unfold addK
    cases hm:memK .str x S with
    | false=>rfl
    | true=>exact absurd ((memK_str x S).1 hm) hx
   rw[e]
   obtain ⟨h1,h2⟩:=addK_fold L (S++[x])
   rw[List.length_append,List.length_singleton] at h1 h2
   refine ⟨by omega,?_⟩
   rw[show S.length+(L.length+1)=S.length+1+L.length by omega,h2,List.nodup_cons]
   constructor
   ·rintro ⟨g1,g2⟩
    refine ⟨⟨fun hm=>(g2 x hm) (by simp),g1⟩,fun y hy=>?_⟩
    rcases List.mem_cons.1 hy with rfl | hy
    ·exact hx
    ·exact fun hs=>g2 y hy (by simp[hs])
   ·rintro ⟨⟨g1,g2⟩,g3⟩
    refine ⟨g2,fun y hy hm=>?_⟩
    rcases List.mem_append.1 hm with hm | hm
    ·exact g3 y (by simp[hy]) hm
    ·rw[List.mem_singleton] at hm
     subst hm
     exact g1 hy
theorem addK_foldm {α:Type} (f:α→ByteArray) (l:List α):decide (((l.foldl (fun (s:List ByteArray) x=>addK .str (f x) s) []).length:Int)<(l.length:Int))=!nodupB (l.map f):=by
 have h:=addK_fold (l.map f) []
 have e:(l.map f).foldl (fun s x=>addK .str x s) []=l.foldl (fun (s:List ByteArray) x=>addK .str (f x) s) []:=by rw[List.foldl_map]
 rw[e] at h
 generalize (l.foldl (fun (s:List ByteArray) x=>addK .str (f x) s) []).length=N at h ⊢
 simp only[List.length_map,List.length_nil,Nat.zero_add,List.not_mem_nil,not_false_eq_true,implies_true,and_true] at h
 cases hn:nodupB (l.map f) with
 | true =>
  have:=h.2.2 (nodupB_iff.1 hn)
  rw[decide_eq_false (by omega)]
  rfl
 | false =>
  have h3:¬ (l.map f).Nodup:=fun hh=>by rw[nodupB_iff.2 hh] at hn;cases hn
  have h4:¬ N=l.length:=fun hh=>h3 (h.2.1 hh)
  have:=h.1
  rw[decide_eq_true (by omega)]
  rfl
theorem range_fold {α σ:Type} {d:α} {g:σ→α→σ} {l:List α}:∀(k i:Nat) (s:σ),i+k=l.length→(List.range' i k).foldl (fun s i=>g s (l.getD i d)) s=(l.drop i).foldl g s
 | 0,i,s,h=>by rw[List.drop_of_length_le (by omega)];rfl
 | k+1,i,s,h=>by
  rw[List.range'_succ,List.foldl_cons,range_fold k (i+1) _ (by omega),List.drop_eq_getElem_cons (show i<l.length by omega),List.foldl_cons,getD_nat (by omega)]
theorem early_nodup {α:Type} {d:α} {f:α→ByteArray} {l:List α}:(List.range' 0 l.length).all (earlyN (fun a b=>decide (f a=f b)) d l)=nodupB (l.map f):=by
 rw[Bool.eq_iff_iff,nodupB_iff,List.all_eq_true,List.nodup_iff_pairwise_ne,List.pairwise_iff_getElem]
 simp only[List.length_map,List.getElem_map]
 constructor
 ·intro h i j hi hj hij he
  have h1:=h j (List.mem_range'.2 ⟨j,hj,by omega⟩)
  unfold earlyN at h1
  rw[Bool.not_eq_true',List.any_eq_false] at h1
  have h2:=h1 l[i] (List.mem_take_iff_getElem.2 ⟨i,by omega,rfl⟩)
  rw[getD_nat hj] at h2
  exact h2 (decide_eq_true he)
 ·intro h k hk
  obtain ⟨j,hj,rfl⟩:=List.mem_range'.1 hk
  unfold earlyN
  rw[Bool.not_eq_true',List.any_eq_false]
  intro a ha he
  obtain ⟨i,hi,rfl⟩:=List.mem_take_iff_getElem.1 ha
  rw[getD_nat (by omega)] at he
  exact h i (0+1*j) (by omega) (by omega) (by omega) (of_decide_eq_true he)
theorem not_any_idx {α:Type} {p:α→Bool} {l:List α}:decide (idxI p l 0≥0)=l.any p:=by
 have:=idxI_neg (p:=p) (l:=l) (i:=0) (by omega)
 rw[Bool.eq_iff_iff,decide_eq_true_iff,List.any_eq_true]
 constructor
 ·intro h1
  by_cases h2:∃a ∈ l,p a=true
  ·exact h2
  ·have:idxI p l 0<0:=this.2 fun a ha=>by
    cases e:p a with
    | false=>rfl
    | true=>exact (h2 ⟨a,ha,e⟩).elim
   omega
 ·rintro ⟨a,ha,h3⟩
  by_cases h2:idxI p l 0<0
  ·rw[this.1 h2 a ha] at h3;cases h3
  ·omega
theorem early_loopF {α:Type} {p:α→Bool} {d:α} {l:List α} {i:Nat} (hl:l.length≤1000000) (hi:i≤l.length) {R:Type} {yes no:Option R} {F:(Int×PUnit→Option R)→Int×PUnit→Option R}
  (hb:∀again (j:Nat),j<i→F again ((j:Int),PUnit.unit)=bif p (l.getD j d) then yes else again (((j+1:Nat):Int),PUnit.unit)) (hf:∀again,F again ((i:Int),PUnit.unit)=no) :
  lpK (Int×PUnit) R F ((0:Int),PUnit.unit)=bif (l.take i).any p then yes else no:=by
 refine (lpK_up (α:=Int×PUnit) i (by omega) (fun j (_:Unit)=>((j:Int),PUnit.unit)) (fun j s k=>bif !p (l.getD j d) then k s else yes) (fun _=>no) ?_ ?_ ()).trans ?_
 ·intro again j _ hj
  rw[hb again j hj]
  cases p (l.getD j d)<;>rfl
 ·intro again _
  exact hf again
 ·refine (upF_all (p:=fun j=>!p (l.getD j d)) (r:=yes) i (fun _ _ _=>rfl) i 0 (by omega)).trans ?_
  have h:(List.range' 0 i).all (fun j=>!p (l.getD j d))=!(l.take i).any p:=by
   rw[Bool.eq_iff_iff,List.all_eq_true,Bool.not_eq_true',List.any_eq_false]
   constructor
   ·intro h1 a ha
    obtain ⟨j,hj,rfl⟩:=List.mem_take_iff_getElem.1 ha
    have:=h1 j (List.mem_range'.2 ⟨j,by omega,by omega⟩)
    rw[getD_nat (by omega)] at this
    simpa using this
   ·intro h1 j hj
    obtain ⟨k,hk,rfl⟩:=List.mem_range'.1 hj
    have h2:=h1 l[0+1*k] (List.mem_take_iff_getElem.2 ⟨0+1*k,by omega,rfl⟩)
    rw[getD_nat (by omega)]
    simpa using h2
  rw[h]
  cases (l.take i).any p<;>rfl
noncomputable def itemB (len:Int) (x:Itm):Bool:=nameB x.1&&(btw x.2.2.1 1 1048576&&(btw x.2.1 0 (IntKind.wrap .i64 (len - x.2.2.1))&&(btw x.2.2.2.1 0 1048576&&(btw x.2.2.2.2.1 0 1048576&&(btw x.2.2.2.2.2.1 0 1048576&&btw x.2.2.2.2.2.2 0 1048576)))))
def apartB (x y:Itm):Bool:=decide (IntKind.wrap .i64 (x.2.1+x.2.2.1)≤y.2.1)||decide (IntKind.wrap .i64 (y.2.1+y.2.2.1)≤x.2.1)
theorem apartB_comm (x y:Itm):apartB x y=apartB y x:=by unfold apartB;rw[Bool.or_comm]
noncomputable def itemsB (l:List Itm) (len:Int):Bool:=decide (l.length≤40)&&(l.all (itemB len)&&(nodupB (l.map fun x=>x.1)&&(List.range' 0 l.length).all (earlyN (fun a b=>!apartB a b) itm0 l)))
theorem all_range {α:Type} {p:α→Bool} {d:α} {l:List α}:(List.range' 0 l.length).all (fun i=>p (l.getD i d))=l.all p:=by
 rw[Bool.eq_iff_iff,List.all_eq_true,List.all_eq_true]
 constructor
 ·intro h a ha
  obtain ⟨j,hj,rfl⟩:=List.getElem_of_mem ha
  have:=h j (List.mem_range'.2 ⟨j,hj,by omega⟩)
  rw[getD_nat hj] at this
  exact this
 ·intro h j hj
  obtain ⟨k,hk,rfl⟩:=List.mem_range'.1 hj
  rw[getD_nat (by omega)]
  exact h _ (List.getElem_mem _)
theorem apartA_ok (x y:Itm):batten_apart x y=some (apartB x y):=by
 simp only[batten_apart,batten_apart_b,apartB]
 cases decide (IntKind.wrap .i64 (x.2.1+x.2.2.1)≤y.2.1)<;>cases decide (IntKind.wrap .i64 (y.2.1+y.2.2.1)≤x.2.1)<;>rfl
theorem apartR_ok (x y:Itm):ref21_Apart x y=some (apartB x y):=by
 simp only[ref21_Apart,ref21_Apart_b,apartB]
 cases decide (IntKind.wrap .i64 (x.2.1+x.2.2.1)≤y.2.1)<;>cases decide (IntKind.wrap .i64 (y.2.1+y.2.2.1)≤x.2.1)<;>rfl
theorem aloneA_ok (x:Itm):batten_alone x=some (nameB x.1&&(btw x.2.2.2.1 0 1048576&&(btw x.2.2.2.2.1 0 1048576&&(btw x.2.2.2.2.2.1 0 1048576&&btw x.2.2.2.2.2.2 0 1048576)))):=by
 simp only[batten_alone,batten_alone_b,isName_ok,btwA_ok,obind_some',not_or_self',cT]
 cases nameB x.1<;>cases btw x.2.2.2.1 0 1048576<;>cases btw x.2.2.2.2.1 0 1048576<;>cases btw x.2.2.2.2.2.1 0 1048576<;>cases btw x.2.2.2.2.2.2 0 1048576<;>rfl
theorem insideA_ok (x:Itm) (len:Int):batten_inside x len=some (btw x.2.2.1 1 1048576&&btw x.2.1 0 (IntKind.wrap .i64 (len - x.2.2.1))):=by
 simp only[batten_inside,batten_inside_b,btwA_ok,not_or_self',cT,Bool.and_self,ge_iff_le]
 rw[show btw x.2.1 0 (IntKind.wrap .i64 (len - x.2.2.1))=(decide (0≤x.2.1)&&decide (x.2.1≤IntKind.wrap .i64 (len - x.2.2.1))) from rfl]
 cases decide (0≤x.2.1)<;>cases btw x.2.2.1 1 1048576<;>cases decide (x.2.1≤IntKind.wrap .i64 (len - x.2.2.1))<;>rfl
theorem aloneR_ok (x:Itm) (len:Int):ref21_alone x len=some (itemB len x):=by
 simp only[ref21_alone,ref21_alone_b,refIsName_ok,btwB_ok,obind_some',not_or_self',Bool.and_self,cT,itemB]
 cases nameB x.1<;>cases btw x.2.2.1 1 1048576<;>cases btw x.2.1 0 (IntKind.wrap .i64 (len - x.2.2.1))<;>cases btw x.2.2.2.1 0 1048576<;>cases btw x.2.2.2.2.1 0 1048576<;>cases btw x.2.2.2.2.2.1 0 1048576<;>cases btw x.2.2.2.2.2.2 0 1048576<;>rfl
theorem twiceI_ok {l:List Itm} (hl:l.length≤1000000):batten_twice_140 l (fun x=>batten_items_1 x.1)=some (!nodupB (l.map fun x=>x.1)):=by
 simp only[batten_twice_140,batten_twice_140_b,batten_items_1,batten_items_1_b,obind_some']
 refine (lpK_int l itm0 (by omega) (fun i (s:List ByteArray)=>(((i:Nat):Int),s,PUnit.unit)) (fun x s k=>k (addK .str x.1 s)) (fun s=>some (decide ((s.length:Int)<(l.length:Int)))) ?_ ?_ []).trans ?_
 ·intro again i s hi
  have hw:IntKind.wrap .i64 ((i:Int)+1)=((i+1:Nat):Int):=by rw[wrap_id (by omega) (by omega)];rfl
  simp only[inB_nat,decide_eq_true hi,decide_eq_true (show (i:Int)<l.length by omega),cT,Int.toNat_natCast,hw]
 ·intro again s
  simp only[decide_eq_false (show ¬ (l.length:Int)<l.length by omega),cF]
 ·rw[listF_fold (fun (s:List ByteArray) (x:Itm)=>addK .str x.1 s) (fun _ _ _ _=>rfl)]
  congr 1
  exact addK_foldm (fun x:Itm=>x.1) l
theorem twiceB_ok {l:List Brk} (hl:l.length≤1000000):batten_twice_147 l (fun x=>batten_bricks_1 x.1)=some (!nodupB (l.map fun x=>x.1)):=by
 simp only[batten_twice_147,batten_twice_147_b,batten_bricks_1,batten_bricks_1_b,obind_some']
 refine (lpK_int l brk0 (by omega) (fun i (s:List ByteArray)=>(((i:Nat):Int),s,PUnit.unit)) (fun x s k=>k (addK .str x.1 s)) (fun s=>some (decide ((s.length:Int)<(l.length:Int)))) ?_ ?_ []).trans ?_
 ·intro again i s hi
  have hw:IntKind.wrap .i64 ((i:Int)+1)=((i+1:Nat):Int):=by rw[wrap_id (by omega) (by omega)];rfl
  simp only[inB_nat,decide_eq_true hi,decide_eq_true (show (i:Int)<l.length by omega),cT,Int.toNat_natCast,hw]
 ·intro again s
  simp only[decide_eq_false (show ¬ (l.length:Int)<l.length by omega),cF]
 ·rw[listF_fold (fun (s:List ByteArray) (x:Brk)=>addK .str x.1 s) (fun _ _ _ _=>rfl)]
  congr 1
  exact addK_foldm (fun x:Brk=>x.1) l
theorem containsI {f:(Itm×Unit)→Option Bool} {p:Itm→Bool} {l:List Itm} (hl:l.length≤1000000) (h:∀a,a ∈ l→f (a,())=some (p a)):slices_ContainsFunc_144 l f=some (l.any p):=by
 simp only[slices_ContainsFunc_144,slices_ContainsFunc_144_b]
 unfold slices_IndexFunc_159 slices_IndexFunc_159_b
 rw[index_loop (f:=f) (d:=itm0) hl h,obind_some',not_any_idx]
theorem containsB {f:(Brk×Unit)→Option Bool} {p:Brk→Bool} {l:List Brk} (hl:l.length≤1000000) (h:∀a,a ∈ l→f (a,())=some (p a)):slices_ContainsFunc_104 l f=some (l.any p):=by
 simp only[slices_ContainsFunc_104,slices_ContainsFunc_104_b]
 unfold slices_IndexFunc_149 slices_IndexFunc_149_b
 rw[index_loop (f:=f) (d:=brk0) hl h,obind_some',not_any_idx]
theorem itemsA_ok (l:List Itm) (len:Int):batten_items l len=some (itemsB l len):=by
 simp only[batten_items,batten_items_b,itemsB]
 by_cases h0:l.length≤40
 ·rw[decide_eq_false (show ¬ ((l.length:Nat):Int)>40 by omega),decide_eq_true h0]
  simp only[Bool.not_false,Bool.not_true,Bool.or_true,cT,cF,twiceI_ok (show l.length≤1000000 by omega),obind_some',Bool.true_and]
  cases hd:nodupB (l.map fun x=>x.1) with
  | false=>simp
  | true =>
   simp only[Bool.not_true,cF,Bool.true_and]
   refine (lpK_up (α:=Int×PUnit) l.length (by omega) (fun i (_:Unit)=>((i:Int),PUnit.unit)) (fun i s k=>bif itemB len (l.getD i itm0)&&earlyN (fun a b=>!apartB a b) itm0 l i then k s else some false) (fun _=>some true) ?_ ?_ ()).trans ?_
   ·intro again i _ hi
    have hw:IntKind.wrap .i64 ((i:Int)+1)=((i+1:Nat):Int):=by rw[wrap_id (by omega) (by omega)];rfl
    have hs:slB (0:Int) (i:Int) l.length=true:=slB_of (by omega) (by omega) (by omega)
    have hc:slices_ContainsFunc_144 (List.drop 0 (List.take i l)) (fun x=>batten_items_2 x.1 (l.getD i itm0))=some ((l.take i).any fun a=>!apartB a (l.getD i itm0)) :=
     containsI (l:=List.drop 0 (List.take i l)) (by rw[List.drop_zero,List.length_take];omega) fun a _=>by
      simp only[batten_items_2,batten_items_2_b,apartA_ok,obind_some']
      rw[apartB_comm]
    simp only[inB_nat,decide_eq_true hi,decide_eq_true (show (i:Int)<l.length by omega),cT,Int.toNat_natCast,hw,show List.getD l i ({ data:={ toList:=[] } },(0:Int),(0:Int),(0:Int),(0:Int),(0:Int),(0:Int))=l.getD i itm0 from rfl,aloneA_ok,insideA_ok,obind_some',hs,hc,Bool.or_true,not_or_self',Bool.and_self]
    unfold earlyN itemB
    generalize (l.take i).any (fun a=>!apartB a (l.getD i itm0))=q
    generalize l.getD i itm0=x
    cases nameB x.1<;>cases btw x.2.2.1 1 1048576<;>cases btw x.2.1 0 (IntKind.wrap .i64 (len - x.2.2.1))<;>cases btw x.2.2.2.1 0 1048576<;>cases btw x.2.2.2.2.1 0 1048576<;>cases btw x.2.2.2.2.2.1 0 1048576<;>cases btw x.2.2.2.2.2.2 0 1048576<;>cases q<;>rfl
   ·intro again _
    simp only[decide_eq_false (show ¬ (l.length:Int)<l.length by omega),cF]
   ·rw[upF_all l.length (fun i k _=>rfl) l.length 0 (by omega),all_and,all_range]
    cases l.all (itemB len)&&(List.range' 0 l.length).all (earlyN (fun a b=>!apartB a b) itm0 l)<;>rfl
 ·rw[decide_eq_true (show ((l.length:Nat):Int)>40 by omega),decide_eq_false h0]
  rfl
end Go.Proofs.YtmoiiokmfanlgaaGreat

namespace Go.Proofs.YtmoiiokmfanlgaaGreat
open Tryz Dn Dn.Sh
abbrev HS:=ByteArray×Int×Int×Int×Int×List Int×Int×Int×Int×Int×Int×List Itm×List Brk
theorem any_or {α:Type} {p q:α→Bool} {l:List α}:(l.any fun a=>p a||q a)=(l.any p||l.any q):=by
 rw[Bool.eq_iff_iff,Bool.or_eq_true,List.any_eq_true,List.any_eq_true,List.any_eq_true]
 constructor
 ·rintro ⟨a,ha,h⟩
  rcases (Bool.or_eq_true _ _).mp h with h | h
  ·exact .inl ⟨a,ha,h⟩
  ·exact .inr ⟨a,ha,h⟩
 ·rintro (⟨a,ha,h⟩ | ⟨a,ha,h⟩)
  ·exact ⟨a,ha,(Bool.or_eq_true _ _).mpr (.inl h)⟩
  ·exact ⟨a,ha,(Bool.or_eq_true _ _).mpr (.inr h)⟩
theorem itemsR_ok (nm:ByteArray) (dp lo hi len:Int) (ls:List Int) (pi ar pu mo br:Int) (l:List Itm) (bs:List Brk) (hl:l.length≤1000000):ref21_items (nm,dp,lo,hi,len,ls,pi,ar,pu,mo,br,l,bs)=some (itemsB l len):=by
 simp only[ref21_items,ref21_items_b,itemsB]
 by_cases h0:l.length≤40
 ·rw[decide_eq_false (show ¬ ((l.length:Nat):Int)>40 by omega),decide_eq_true h0]
  simp only[cF,Bool.true_and]
  refine (lpK_up (α:=Int×PUnit) l.length (by omega) (fun i (_:Unit)=>((i:Int),PUnit.unit)) (fun i s k=>bif itemB len (l.getD i itm0)&&(earlyN (fun a b=>decide (a.1=b.1)) itm0 l i&&earlyN (fun a b=>!apartB a b) itm0 l i) then k s else some false) (fun _=>some true) ?_ ?_ ()).trans ?_
  ·intro again i _ hi
   have hw:IntKind.wrap .i64 ((i:Int)+1)=((i+1:Nat):Int):=by rw[wrap_id (by omega) (by omega)];rfl
   simp only[inB_nat,decide_eq_true hi,decide_eq_true (show (i:Int)<l.length by omega),cT,Int.toNat_natCast,hw,show List.getD l i ({ data:={ toList:=[] } },(0:Int),(0:Int),(0:Int),(0:Int),(0:Int),(0:Int))=l.getD i itm0 from rfl,aloneR_ok,apartR_ok,obind_some',str_beq,not_or_self',or_self_not,Bool.and_self]
   cases hI:itemB len (l.getD i itm0) with
   | false=>simp
   | true =>
    simp only[Bool.not_true,cF,Bool.true_and]
    refine (early_loopF (p:=fun a:Itm=>decide (a.1=(l.getD i itm0).1)||!apartB a (l.getD i itm0)) (d:=itm0) (l:=l) (i:=i) (yes:=some false) (no:=again (((i+1:Nat):Int),PUnit.unit)) hl (by omega) ?_ ?_).trans ?_
    ·intro again_1 j hj
     have hw2:IntKind.wrap .i64 ((j:Int)+1)=((j+1:Nat):Int):=by rw[wrap_id (by omega) (by omega)];rfl
     simp only[inB_nat,decide_eq_true (show (j:Int)<i by omega),decide_eq_true (show j<l.length by omega),cT,Int.toNat_natCast,hw2,show List.getD l j ({ data:={ toList:=[] } },(0:Int),(0:Int),(0:Int),(0:Int),(0:Int),(0:Int))=l.getD j itm0 from rfl]
     cases decide ((l.getD j itm0).1=(l.getD i itm0).1)<;>cases apartB (l.getD j itm0) (l.getD i itm0)<;>rfl
    ·intro again_1
     simp only[decide_eq_false (show ¬ (i:Int)<i by omega),cF]
    ·rw[any_or]
     unfold earlyN
     cases (l.take i).any fun a:Itm=>decide (a.1=(l.getD i itm0).1)<;>cases (l.take i).any fun a:Itm=>!apartB a (l.getD i itm0)<;>rfl
  ·intro again _
   simp only[decide_eq_false (show ¬ (l.length:Int)<l.length by omega),cF]
  ·rw[upF_all l.length (fun i k _=>rfl) l.length 0 (by omega),all_and,all_and,all_range,early_nodup (f:=fun x:Itm=>x.1)]
   cases l.all (itemB len)&&(nodupB (l.map fun x=>x.1)&&(List.range' 0 l.length).all (earlyN (fun a b=>!apartB a b) itm0 l))<;>rfl
 ·rw[decide_eq_true (show ((l.length:Nat):Int)>40 by omega),decide_eq_false h0]
  rfl
noncomputable def brickB (b:Brk):Bool:=nameB b.1&&(btw b.2.1 1 1048576&&btw b.2.2 0 60)
def addW (s:Int) (b:Brk):Int:=IntKind.wrap .i64 (s+b.2.2)
noncomputable def bricksB (l:List Brk):Bool:=decide (l.length≤8)&&(l.all brickB&&(nodupB (l.map fun x=>x.1)&&decide (l.foldl addW 0≤60)))
theorem bricksA_ok (l:List Brk):batten_bricks l=some (bricksB l):=by
 simp only[batten_bricks,batten_bricks_b,bricksB]
 by_cases h0:l.length≤8
 ·rw[decide_eq_false (show ¬ ((l.length:Nat):Int)>8 by omega),decide_eq_true h0]
  simp only[Bool.not_false,Bool.not_true,Bool.or_true,cT,cF,twiceB_ok (show l.length≤1000000 by omega),obind_some',Bool.true_and]
  cases hd:nodupB (l.map fun x=>x.1) with
  | false=>simp
  | true =>
   simp only[Bool.not_true,cF,Bool.true_and]
   refine (lpK_up (α:=Int×Int×PUnit) l.length (by omega) (fun i (s:Int)=>(s,(i:Int),PUnit.unit)) (fun i s k=>bif brickB (l.getD i brk0) then k (addW s (l.getD i brk0)) else some false) (fun s=>some (decide (s≤60))) ?_ ?_ 0).trans ?_
   ·intro again i s hi
    have hw:IntKind.wrap .i64 ((i:Int)+1)=((i+1:Nat):Int):=by rw[wrap_id (by omega) (by omega)];rfl
    simp only[inB_nat,decide_eq_true hi,decide_eq_true (show (i:Int)<l.length by omega),cT,Int.toNat_natCast,hw,show List.getD l i ({ data:={ toList:=[] } },(0:Int),(0:Int))=l.getD i brk0 from rfl,isName_ok,btwA_ok,obind_some',not_or_self']
    unfold brickB addW
    generalize l.getD i brk0=b
    cases nameB b.1<;>cases btw b.2.1 1 1048576<;>cases btw b.2.2 0 60<;>rfl
   ·intro again s
    simp only[decide_eq_false (show ¬ (l.length:Int)<l.length by omega),cF]
   ·rw[upF_chk (q:=fun i=>brickB (l.getD i brk0)) (g:=fun i s=>addW s (l.getD i brk0)) (r:=some false) l.length (fun i s k _=>rfl) l.length 0 0 (by omega),all_range,range_fold (g:=addW) (d:=brk0) l.length 0 0 (by omega),List.drop_zero]
    cases l.all brickB<;>rfl
 ·rw[decide_eq_true (show ((l.length:Nat):Int)>8 by omega),decide_eq_false h0]
  rfl
theorem bricksR_ok (l:List Brk):ref21_Bricks l=some (bricksB l):=by
 simp only[ref21_Bricks,ref21_Bricks_b,bricksB]
 by_cases h0:l.length≤8
 ·rw[decide_eq_false (show ¬ ((l.length:Nat):Int)>8 by omega),decide_eq_true h0]
  simp only[cF,Bool.true_and]
  refine (lpK_up (α:=Int×Int×PUnit) l.length (by omega) (fun i (s:Int)=>(s,(i:Int),PUnit.unit)) (fun i s k=>bif brickB (l.getD i brk0)&&earlyN (fun a b=>decide (a.1=b.1)) brk0 l i then k (addW s (l.getD i brk0)) else some false) (fun s=>some (decide (s≤60))) ?_ ?_ 0).trans ?_
  ·intro again i s hi
   have hw:IntKind.wrap .i64 ((i:Int)+1)=((i+1:Nat):Int):=by rw[wrap_id (by omega) (by omega)];rfl
   simp only[inB_nat,decide_eq_true hi,decide_eq_true (show (i:Int)<l.length by omega),cT,Int.toNat_natCast,hw,show List.getD l i ({ data:={ toList:=[] } },(0:Int),(0:Int))=l.getD i brk0 from rfl,refIsName_ok,btwB_ok,obind_some',str_beq,not_or_self',or_self_not]
   have hB:brickB (l.getD i brk0)=(nameB (l.getD i brk0).1&&(btw (l.getD i brk0).2.1 1 1048576&&btw (l.getD i brk0).2.2 0 60)):=rfl
   rw[hB]
   cases nameB (l.getD i brk0).1 with
   | false=>rfl
   | true=>cases btw (l.getD i brk0).2.1 1 1048576 with
    | false=>rfl
    | true=>cases btw (l.getD i brk0).2.2 0 60 with
     | false=>rfl
     | true =>
      simp only[Bool.not_true,Bool.not_false,cF,cT,Bool.true_and,Bool.or_true,obind_some']
      refine (early_loopF (p:=fun a:Brk=>decide (a.1=(l.getD i brk0).1)) (d:=brk0) (l:=l) (i:=i) (yes:=some false) (no:=again (addW s (l.getD i brk0),((i+1:Nat):Int),PUnit.unit)) (by omega) (by omega) ?_ ?_).trans ?_
      ·intro again_1 j hj
       have hw2:IntKind.wrap .i64 ((j:Int)+1)=((j+1:Nat):Int):=by rw[wrap_id (by omega) (by omega)];rfl
       simp only[inB_nat,decide_eq_true (show (j:Int)<i by omega),decide_eq_true (show j<l.length by omega),cT,Int.toNat_natCast,hw2]
      ·intro again_1
       simp only[decide_eq_false (show ¬ (i:Int)<i by omega),cF]
       rfl
      ·unfold earlyN
       cases (l.take i).any fun a:Brk=>decide (a.1=(l.getD i brk0).1)<;>rfl
  ·intro again s
   simp only[decide_eq_false (show ¬ (l.length:Int)<l.length by omega),cF]
  ·rw[upF_chk (q:=fun i=>brickB (l.getD i brk0)&&earlyN (fun a b=>decide (a.1=b.1)) brk0 l i) (g:=fun i s=>addW s (l.getD i brk0)) (r:=some false) l.length (fun i s k _=>rfl) l.length 0 0 (by omega),all_and,all_range,early_nodup (f:=fun x:Brk=>x.1),range_fold (g:=addW) (d:=brk0) l.length 0 0 (by omega),List.drop_zero]
   cases l.all brickB<;>cases nodupB (l.map fun x=>x.1)<;>rfl
 ·rw[decide_eq_true (show ((l.length:Nat):Int)>8 by omega),decide_eq_false h0]
  rfl
end Go.Proofs.YtmoiiokmfanlgaaGreat
