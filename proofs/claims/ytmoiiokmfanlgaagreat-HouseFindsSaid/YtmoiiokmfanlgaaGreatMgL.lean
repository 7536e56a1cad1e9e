/- r30: the iterators' contracts: what the iterator over beams hands to the rounds. r30: what its functions answer (printed by a program), and that they do. -/
import Derived.RangeFuncBox
import Derived.RangeFuncLeaves
import Derived.Shelf.Abstract
import Derived.TacticsInMore
import Derived.LoopNIn
import Derived.LoopIn
import Derived.Test.YtmoiiokmfanlgaaGreatMgK

namespace Go.Proofs.YtmoiiokmfanlgaaGreat
open Tryz Dn Dn.Sh Go.RowKit
attribute [local go_sem] Oper.semAt_some
def overG (d:Int):List (ByteArray×Int×Int×Int)→Int→List (Int×Unit)
 | [],_=>[]
 | b ::r,i=>bif decide (b.2.1≤d)&&decide (d≤b.2.2.1) then (i,()) ::overG d r (i+1) else overG d r (i+1)
def overL (l:List (ByteArray×Int×Int×Int)) (d:Int):List (Int×Unit):=overG d l 0
def overP (l:List (ByteArray×Int×Int×Int)):Bool:=Nat.ble l.length 4398046511104
def overIt:ICtr:=⟨[.sl T96,i64],[i64],fun x=>overP x.1,fun x=>overL x.1 x.2.1⟩
def its:List (Nat×ICtr):=[(154,overIt)]
theorem overG_cons {d:Int} {bs:List (ByteArray×Int×Int×Int)} {k:Nat} {b:ByteArray×Int×Int×Int} (h:bs[k]?=some b) :
  overG d (bs.drop k) k=(bif decide (b.2.1≤d)&&decide (d≤b.2.2.1) then [((k:Int),())] else [])++overG d (bs.drop (k+1)) (k+1:Nat):=by
 have hk:=(List.getElem?_eq_some_iff.1 h).1
 rw[List.drop_eq_getElem_cons hk,(List.getElem?_eq_some_iff.1 h).2]
 simp only[overG]
 cases decide (b.2.1≤d)&&decide (d≤b.2.2.1)<;>simp
theorem load_in {n:Nat} {P:Program} {o:Oper} {a:Act} {t:TypeId} {x:Operand} {ad:Addr} {v:Value} {w:World} {next:Act→World→Prop} {Q:Exit→Act→World→Prop} (ho:o.op=.load t x) (hx:a.eval x=.pointer (some ad)) (hl:(loadVar t ad).run P w=.ok v w) (hn:next (a.put o.dst v) w):o.wpIn Fence.wide n P a w next Q:=by
 refine ⟨fun _ _=>trivial,?_⟩
 have:(o.semAt Fence.wide.round a.eval).run P w=.ok (.value v) w:=by
  simp[Oper.semAt,execOp,ho,hx,Instr.loadAt,Instr.sureAddr,hl]
 rw[this]
 exact hn
theorem list_skip {n:Nat} {P:Program} {ops:Array Oper} {o:Oper} {rest:List Oper} {a:Act} {w:World} {Q:Exit→Act→World→Prop} (h:Region.wanted o (yielded ops a.tmps)=false) (hn:wpListIn Fence.wide n P ops Q rest (a.put o.dst undef) w):wpListIn Fence.wide n P ops Q (o ::rest) a w:=by
 rw[wpListIn,h]
 exact ⟨fun _ _=>trivial,hn⟩
theorem ad0 (ad:Addr):ad.add 0=ad:=by rcases ad with ⟨b,o,_ | s⟩<;>rfl
set_option maxRecDepth 100000 in
set_option maxHeartbeats 8000000 in
theorem overIt_ok:ICtr.ok overIt Tryz.prog 154:=by
 unfold ICtr.ok
 rintro l ⟨bs,d,⟨⟩⟩ ads J Jx W hp hJ hX hC hH hY h0
 obtain ⟨Z,hcaps,hH⟩:=hH
 obtain ⟨ad1,ads1,rfl,⟨cs1,hd1,hc1⟩,ad2,ads2,rfl,⟨cs2,hd2,hc2⟩,rfl⟩:=hcaps
 have hreach:bs.length*8≤140737488351232:=by
  have hb:Nat.ble bs.length 4398046511104=true:=hp
  have:=Nat.le_of_ble_eq_true hb
  omega
 refine callsIn_of_wp Tryz.func154 rfl trivial ?_
 simp only[Tryz.ntmps154,List.map_cons,List.map_nil,List.size_toArray,List.length_cons,List.length_nil,Nat.reduceAdd,Nat.reduceSub,Array.replicate_succ,Array.replicate_zero,List.push_toArray,List.append_toArray,List.nil_append,List.cons_append]
 have hdat:=fun k W' hj=>hH (.sl T96) bs cs1 hd1 k W' hj
 obtain ⟨A,c,rfl,hlc,hA,hel⟩:=hd1
 have hcs:=hc1 0 _ rfl
 rw[ad0] at hcs
 gi_wp2
 gi_loopw [8] (fun i wr=>∃k:Nat,k≤bs.length∧i=.int .i64 k∧∃pre:List (Int×Unit),overL bs d=pre++overG d (bs.drop k) k∧J pre.length wr) (fun i _=>bs.length - (intOf i).toNat)
 case atStart=>exact ⟨0,Nat.zero_le _,rfl,[],rfl,h0⟩
 case round =>
  obtain ⟨k,hk,rfl,pre,hpre,hj⟩:=hrel
  by_cases hlt:k<bs.length
  ·have hbk:bs[k]?=some bs[k]:=List.getElem?_eq_getElem hlt
   generalize hbe:bs[k]=b at hbk
   obtain ⟨Z1,A1,c1,e1,q1,q2,q3⟩:=hdat _ _ hj
   simp only[List.cons.injEq,Value.slice.injEq,and_true] at e1
   obtain ⟨rfl,-,rfl⟩:=e1
   obtain ⟨ad,rfl,-,q4⟩:=q3 (by omega)
   obtain ⟨ecs,q5,q6⟩:=q4 k b hbk
   obtain ⟨name,fr,to,mo⟩:=b
   simp only[Dat] at q5
   obtain ⟨_,_,rfl,rfl,_,_,rfl,rfl,_,_,rfl,rfl,rfl⟩:=q5
   have r0:=q6 0 _ rfl
   have r1:=q6 1 _ rfl
   have r2:=q6 2 _ rfl
   have r3:=q6 3 _ rfl
   simp only[Sh.size,Nat.reduceAdd] at r0 r1 r2 r3
   have hld:(loadVar 96 (ad.add (k*4))).run prog wr=.ok (.agg #[.string name,.int .i64 fr,.int .i64 to,.int .i64 mo]) wr :=
    run_loadVar_of (ag:=true) (cs:=[.string name,.int .i64 fr,.int .i64 to,.int .i64 mo]) (by kernel_rfl) (by kernel_rfl) (fun h=>by cases h) wr fun j v hv=>by
     rw[add_add]
     exact q6 j v hv
   have hj2:=hJ _ _ _ hj (Turned.alloc wr.heap.size wr (Obj.cells #[.string name,.int .i64 fr,.int .i64 to,.int .i64 mo] 96))
   obtain ⟨Z2,g1⟩:=hC _ _ hj2
   obtain ⟨_,_,g2,-,_,_,g3,⟨cs3,g4,g5⟩,-⟩:=g1
   injection g2 with g2a g2
   subst g2a
   subst g2
   injection g3 with g3 g3b
   subst g3
   subst g3b
   simp only[Dat] at g4
   subst g4
   have hcd:=g5 0 _ rfl
   rw[ad0] at hcd
   have hov0:=overG_cons (d:=d) hbk
   dsimp only at hov0
   clear g5 hC hdat q3 q4 q6 hel
   have fin:∀pre2,overL bs d=pre2++overG d (bs.drop (k+1)) (k+1:Nat)→∀W3,J pre2.length W3→∃k2:Nat,k2≤bs.length∧Value.int .i64 ((k:Int)+1)=.int .i64 k2∧∃pre:List (Int×Unit),overL bs d=pre++overG d (bs.drop k2) k2∧J pre.length W3 :=
    fun pre2 h W3 hj3=>⟨k+1,by omega,rfl,pre2,h,hj3⟩
   by_cases h1:fr≤d
   ·by_cases h2:d≤to
    ·have hov:overL bs d=(pre++[((k:Int),())])++overG d (bs.drop (k+1)) (k+1:Nat):=by rw[hpre,hov0];simp[h1,h2]
     have fin2:∀W3,J (pre.length+1) W3→_:=fun W3 hJ3=>fin (pre++[((k:Int),())]) hov W3 (by rw[List.length_append];exact hJ3)
     obtain ⟨fn,tmps,assign,body,hy,hR⟩:=hY pre.length ((k:Int),()) [.int .i64 k] _ (by show (overL bs d)[pre.length]?=_;rw[hov];simp;rfl) hj2 (fun Z=>⟨_,_,rfl,⟨_,rfl,rfl,fun _=>rfl⟩,rfl⟩)
     clear hov hov0 hpre fin
     gi_wp2_with (refine load_in (t:=96) rfl rfl hld ?_)
     refine ⟨rfl,hR.mono ?_⟩
     rintro e W3 (⟨rfl,hJ3⟩ | ⟨rfl,hJx3⟩)
     ·gi_wp2
      go_roundw
      case rel =>
       exact fin2 W3 hJ3
      case measure=>simp[intOf];omega
     ·gi_wp2
      refine bodyPost_ret (results_none rfl _ _ _) rfl ?_
      exact ⟨⟨_,rfl⟩,.inr hJx3⟩
    ·have hov:overL bs d=pre++overG d (bs.drop (k+1)) (k+1:Nat):=by rw[hpre,hov0];simp[h1,h2]
     have fin2:=fin pre hov _ hj2
     clear hov hov0 hpre fin
     gi_wp2_with (first | refine load_in (t:=96) rfl rfl hld ?_ | (refine list_skip rfl ?_;go_simp))
     exact ⟨⟨_,_,_,fin2,rfl,rfl,rfl⟩,by simp[intOf];omega⟩
   ·have hov:overL bs d=pre++overG d (bs.drop (k+1)) (k+1:Nat):=by rw[hpre,hov0];simp[h1]
    have fin2:=fin pre hov _ hj2
    clear hov hov0 hpre fin
    gi_wp2_with (first | refine load_in (t:=96) rfl rfl hld ?_ | (refine list_skip rfl ?_;go_simp))
    exact ⟨⟨_,_,_,fin2,rfl,rfl,rfl⟩,by simp[intOf];omega⟩
  ·obtain rfl:k=bs.length:=by omega
   gi_wp2
   go_end0
   refine ⟨⟨_,rfl⟩,.inl ?_⟩
   show J (overL bs d).length _
   rw[hpre,List.drop_length]
   simpa [overG] using hj
theorem itsOk:ItsOk Tryz.prog its:=itsOk_cons (by kernel_rfl) overIt_ok itsOk_nil
end Go.Proofs.YtmoiiokmfanlgaaGreat

namespace Go.Proofs.YtmoiiokmfanlgaaGreat
open Tryz Dn Dn.Sh
set_option maxRecDepth 100000
theorem hmix:prog.follows .mixedOrders=true:=by kernel_rfl
theorem inlsOk:inlOk prog inls=true:=by kernel_rfl
theorem q0:(ctxOf prog shs inls its [] []).ok:=ctxOf_nil inlsOk itsOk
noncomputable def bits_Mul64_b (_:Lp) (_:Jn) (x0:Int) (x1:Int):Option (Int×Int×Unit) :=
 
 let v4:Int:=(2:Int) ^ (32:Nat);
 let v5:Int:=Int.fdiv x0 v4;
 let v6:Int:=Int.fdiv x1 v4;
 let v7:Bool:=decide ((0:Int)≤(32:Int));
 let v8:Int:=IntKind.wrap .u64 (↑(Nat.land (Int.toNat (x1 % Int.ofNat (18446744073709551616:Nat))) (Int.toNat ((4294967295:Int) % Int.ofNat (18446744073709551616:Nat)))) :
  Int);
 let v9:Int:=IntKind.wrap .u64 (↑(Nat.land (Int.toNat (x0 % Int.ofNat (18446744073709551616:Nat))) (Int.toNat ((4294967295:Int) % Int.ofNat (18446744073709551616:Nat)))) :
  Int);
 let v10:Int:=IntKind.wrap .u64 (IntKind.wrap .u64 (v5*v8)+Int.fdiv (IntKind.wrap .u64 (v9*v8)) v4);bif v7 then bif v7 then bif v7 then bif v7 then bif v7
  then some (IntKind.wrap .u64 (IntKind.wrap .u64 (IntKind.wrap .u64 (v5*v6)+Int.fdiv v10 v4)+Int.fdiv (IntKind.wrap .u64 (IntKind.wrap .u64
  (↑(Nat.land (Int.toNat (v10 % Int.ofNat (18446744073709551616:Nat))) (Int.toNat ((4294967295:Int) % Int.ofNat (18446744073709551616:Nat)))):Int)+IntKind.wrap .u64 (v9 *
  v6))) v4),IntKind.wrap .u64 (x0*x1),PUnit.unit) else none else none else none else none else none
noncomputable def bits_Mul64 (x0:Int) (x1:Int):Option (Int×Int×Unit):=bits_Mul64_b lpK jnK x0 x1
noncomputable def c136:Ctr:=⟨[(.int .u64),(.int .u64)],[],[],.tup [(.int .u64),(.int .u64)],fun x _ _=>bits_Mul64 x.1 x.2.1⟩
theorem e136 (lp:Lp) (jn:Jn):∀(x:TsS c136.as) (F:TsF c136.fs) (y:TsS c136.cs),bits_Mul64_b lp jn x.1 x.2.1=runC lp jn (ctxOf prog shs inls its [] []) hints 4 136 f136 c136 x F y:=fun x F y=>by kernel_rfl
theorem l136:(ctxOf prog shs inls its [] []).ok:=q0
theorem ok136:c136.ok prog 136:=Ctr.of_den l136 hmix (hl:=hints) (d:=4) func136 rfl (by decide) (e136 lpK jnK)
noncomputable def bits_Mul32_b (_:Lp) (_:Jn) (x0:Int) (x1:Int):Option (Int×Int×Unit) :=
 
 let v4:Int:=IntKind.wrap .u64 (IntKind.wrap .u64 x0*IntKind.wrap .u64 x1);bif decide ((0:Int)≤(32:Int)) then some (IntKind.wrap IntKind.u32 (Int.fdiv v4
  ((2:Int) ^ (32:Nat))),IntKind.wrap IntKind.u32 v4,PUnit.unit) else none
noncomputable def bits_Mul32 (x0:Int) (x1:Int):Option (Int×Int×Unit):=bits_Mul32_b lpK jnK x0 x1
noncomputable def c160:Ctr:=⟨[(.int .u32),(.int .u32)],[],[],.tup [(.int .u32),(.int .u32)],fun x _ _=>bits_Mul32 x.1 x.2.1⟩
theorem e160 (lp:Lp) (jn:Jn):∀(x:TsS c160.as) (F:TsF c160.fs) (y:TsS c160.cs),bits_Mul32_b lp jn x.1 x.2.1=runC lp jn (ctxOf prog shs inls its [] []) hints 4 160 f160 c160 x F y:=fun x F y=>by kernel_rfl
theorem l160:(ctxOf prog shs inls its [] []).ok:=q0
theorem ok160:c160.ok prog 160:=Ctr.of_den l160 hmix (hl:=hints) (d:=4) func160 rfl (by decide) (e160 lpK jnK)
noncomputable def bits_Mul_b (_:Lp) (_:Jn) (bits_Mul64:(Int)→(Int)→Option (Int×Int×Unit)) (_:(Int)→(Int)→Option (Int×Int×Unit)) (x0:Int) (x1:Int):Option (Int×Int×Unit) :=
 obind (bits_Mul64 x0 x1) fun (t:Int×Int×PUnit)=>some (t.1,t.2.1,PUnit.unit)
noncomputable def bits_Mul (x0:Int) (x1:Int):Option (Int×Int×Unit):=bits_Mul_b lpK jnK bits_Mul64 bits_Mul32 x0 x1
noncomputable def c153:Ctr:=⟨[(.int .u64),(.int .u64)],[],[],.tup [(.int .u64),(.int .u64)],fun x _ _=>bits_Mul x.1 x.2.1⟩
theorem e153 (lp:Lp) (jn:Jn) (bits_Mul64:(Int)→(Int)→Option (Int×Int×Unit)) (bits_Mul32:(Int)→(Int)→Option (Int×Int×Unit)):∀(x:TsS c153.as) (F:TsF c153.fs) (y:TsS c153.cs),bits_Mul_b lp jn bits_Mul64 bits_Mul32 x.1 x.2.1=runC lp jn (ctxOf prog shs inls its [(160,⟨[(.int .u32),(.int .u32)],[],[],.tup [(.int .u32),(.int .u32)],fun x _ _=>bits_Mul32 x.1 x.2.1⟩),(136,⟨[(.int .u64),(.int .u64)],[],[],.tup [(.int .u64),(.int .u64)],fun x _ _=>bits_Mul64 x.1 x.2.1⟩)] []) hints 4 153 f153 c153 x F y:=fun x F y=>by kernel_rfl
theorem l153:(ctxOf prog shs inls its [(160,c160),(136,c136)] []).ok:=ctxOf_cons (ctxOf_cons (q0) (by kernel_rfl) ok136) (by kernel_rfl) ok160
theorem ok153:c153.ok prog 153:=Ctr.of_den l153 hmix (hl:=hints) (d:=4) func153 rfl (by decide) (e153 lpK jnK bits_Mul64 bits_Mul32)
noncomputable def slices_Repeat_119_b (lp:Lp) (jn:Jn) (bits_Mul:(Int)→(Int)→Option (Int×Int×Unit)) (x0:List (Int×Int)) (x1:Int):Option (List (Int×Int)) :=
 jn PUnit (List (Int×Int)) (fun (_:PUnit)=>obind (bits_Mul (IntKind.wrap .u64 (↑(List.length x0):Int)) (IntKind.wrap .u64 x1)) fun (t:Int×Int×PUnit) =>
 let v6:List (Int×Int):=List.take (Int.toNat (IntKind.wrap .i64 t.2.1)) x0;
 let v7:Bool:=decide (t.1>(0:Int));
 let v8:Bool:=!v7;
 let v9:List (Int×Int):=List.replicate (Int.toNat (IntKind.wrap .i64 t.2.1)) ((0:Int),(0:Int));bif !v8||v8 then bif v7||v8 then jn PUnit (List (Int×Int)) (fun
  (_:PUnit)=>bif decide ((0:Int)≤IntKind.wrap .i64 t.2.1)&&fitB (Int.toNat (IntKind.wrap .i64 t.2.1)) (16:Nat) then lp (Int×List (Int×Int)×PUnit)
  (List (Int×Int)) (fun (again:Int×List (Int×Int)×PUnit→Option (List (Int×Int))) (x:Int×List (Int×Int)×PUnit) =>
 let v13:List (Int×Int):=List.take (Int.toNat x.1) x.2.1;
 let v14:List (Int×Int):=List.take (Int.toNat (↑(List.length x.2.1):Int) - Int.toNat x.1) (List.drop (0:Nat) v13);bif decide (x.1<(↑(List.length x.2.1):Int))
  then bif slB x.1 (↑(List.length x.2.1):Int) (List.length x.2.1) then bif slB (0:Int) x.1 (List.length x.2.1) then bif Nat.ble (Int.toNat x.1) (Int.toNat
  (↑(List.length x.2.1):Int))&&(Nat.ble (Int.toNat (↑(List.length x.2.1):Int)) (List.length x.2.1)&&Nat.ble (Int.toNat x.1) (List.length x.2.1)) then again
  (IntKind.wrap .i64 (x.1+(↑(List.length v14):Int)),v13++v14++List.drop (Int.toNat x.1+List.length v14) x.2.1,PUnit.unit) else none else none else none else
  some x.2.1) ((↑(List.length v6):Int),List.take (0:Nat) v9++v6++List.drop ((0:Nat)+List.length v6) v9,PUnit.unit) else none) fun (j:PUnit→Option (List (Int×Int)))
  =>bif bif v7 then true else decide (t.2.1>(9223372036854775807:Int)) then none else j PUnit.unit else none else none) fun (j:PUnit→Option (List (Int×Int)))=>bif decide
  (x1<(0:Int)) then none else j PUnit.unit
noncomputable def slices_Repeat_119 (x0:List (Int×Int)) (x1:Int):Option (List (Int×Int)):=slices_Repeat_119_b lpK jnK bits_Mul x0 x1
theorem l119:(ctxOf prog shs inls its [(153,c153)] []).ok:=ctxOf_cons (q0) (by kernel_rfl) ok153
noncomputable def r119:RCtr:=⟨[(.sl T36),i64],36,T36,fun x=>slices_Repeat_119 x.1 x.2.1⟩
theorem e119 (lp:Lp) (jn:Jn) (bits_Mul:(Int)→(Int)→Option (Int×Int×Unit)):∀x:TsS r119.as,slices_Repeat_119_b lp jn bits_Mul x.1 x.2.1=runR lp jn (ctxOf prog shs inls its [(153,⟨[(.int .u64),(.int .u64)],[],[],.tup [(.int .u64),(.int .u64)],fun x _ _=>bits_Mul x.1 x.2.1⟩)] []) hints 4 119 f119 r119.t r119.e (initS r119.as x 0):=fun x=>by kernel_rfl
theorem okr119:r119.ok prog 119:=RCtr.of_den (c:=r119) l119 hmix (hl:=hints) (d:=4) func119 rfl (by decide) (e119 lpK jnK bits_Mul)
theorem q119:(ctxOf prog shs inls its [] [(119,r119)]).ok:=ctxOf_row q0 (by kernel_rfl) okr119
noncomputable def slices_Clone_69_b (_:Lp) (_:Jn) (x0:List (ByteArray×Int×Int×Int)):Option (List (ByteArray×Int×Int×Int)) :=
 bif fitB ((0:Nat)+List.length x0) (40:Nat) then some x0 else none
noncomputable def slices_Clone_69 (x0:List (ByteArray×Int×Int×Int)):Option (List (ByteArray×Int×Int×Int)):=slices_Clone_69_b lpK jnK x0
theorem l69:(ctxOf prog shs inls its [] [(119,r119)]).ok:=q119
noncomputable def r69:RCtr:=⟨[(.sl T96)],96,T96,fun x=>slices_Clone_69 x.1⟩
theorem e69 (lp:Lp) (jn:Jn):∀x:TsS r69.as,slices_Clone_69_b lp jn x.1=runR lp jn (ctxOf prog shs inls its [] [(119,r119)]) hints 4 69 f69 r69.t r69.e (initN r69.as x true):=fun x=>by kernel_rfl
theorem okr69:r69.ok prog 69:=RCtr.of_den_nil (c:=r69) l69 hmix (hl:=hints) (d:=4) rfl func69 rfl (by decide) (e69 lpK jnK) fun x h=>by
 obtain ⟨l,u⟩:=x
 simp only at h
 subst h
 kernel_rfl
theorem q69:(ctxOf prog shs inls its [] [(69,r69),(119,r119)]).ok:=ctxOf_row q119 (by kernel_rfl) okr69
noncomputable def slices_Clone_114_b (_:Lp) (_:Jn) (x0:List Int):Option (List Int) :=
 bif fitB ((0:Nat)+List.length x0) (8:Nat) then some x0 else none
noncomputable def slices_Clone_114 (x0:List Int):Option (List Int):=slices_Clone_114_b lpK jnK x0
theorem l114:(ctxOf prog shs inls its [] [(69,r69),(119,r119)]).ok:=q69
noncomputable def r114:RCtr:=⟨[(.sl i64)],3,i64,fun x=>slices_Clone_114 x.1⟩
theorem e114 (lp:Lp) (jn:Jn):∀x:TsS r114.as,slices_Clone_114_b lp jn x.1=runR lp jn (ctxOf prog shs inls its [] [(69,r69),(119,r119)]) hints 4 114 f114 r114.t r114.e (initN r114.as x true):=fun x=>by kernel_rfl
theorem okr114:r114.ok prog 114:=RCtr.of_den_nil (c:=r114) l114 hmix (hl:=hints) (d:=4) rfl func114 rfl (by decide) (e114 lpK jnK) fun x h=>by
 obtain ⟨l,u⟩:=x
 simp only at h
 subst h
 kernel_rfl
theorem q114:(ctxOf prog shs inls its [] [(114,r114),(69,r69),(119,r119)]).ok:=ctxOf_row q69 (by kernel_rfl) okr114
noncomputable def slices_Clone_115_b (_:Lp) (_:Jn) (x0:List (ByteArray×Int×Int×Int×Int×Int×Int)):Option (List (ByteArray×Int×Int×Int×Int×Int×Int)) :=
 bif fitB ((0:Nat)+List.length x0) (64:Nat) then some x0 else none
noncomputable def slices_Clone_115 (x0:List (ByteArray×Int×Int×Int×Int×Int×Int)):Option (List (ByteArray×Int×Int×Int×Int×Int×Int)):=slices_Clone_115_b lpK jnK x0
theorem l115:(ctxOf prog shs inls its [] [(114,r114),(69,r69),(119,r119)]).ok:=q114
noncomputable def r115:RCtr:=⟨[(.sl T48)],48,T48,fun x=>slices_Clone_115 x.1⟩
theorem e115 (lp:Lp) (jn:Jn):∀x:TsS r115.as,slices_Clone_115_b lp jn x.1=runR lp jn (ctxOf prog shs inls its [] [(114,r114),(69,r69),(119,r119)]) hints 4 115 f115 r115.t r115.e (initN r115.as x true):=fun x=>by kernel_rfl
theorem okr115:r115.ok prog 115:=RCtr.of_den_nil (c:=r115) l115 hmix (hl:=hints) (d:=4) rfl func115 rfl (by decide) (e115 lpK jnK) fun x h=>by
 obtain ⟨l,u⟩:=x
 simp only at h
 subst h
 kernel_rfl
theorem q115:(ctxOf prog shs inls its [] [(115,r115),(114,r114),(69,r69),(119,r119)]).ok:=ctxOf_row q114 (by kernel_rfl) okr115
noncomputable def slices_Clone_116_b (_:Lp) (_:Jn) (x0:List (ByteArray×Int×Int)):Option (List (ByteArray×Int×Int)) :=
 bif fitB ((0:Nat)+List.length x0) (32:Nat) then some x0 else none
noncomputable def slices_Clone_116 (x0:List (ByteArray×Int×Int)):Option (List (ByteArray×Int×Int)):=slices_Clone_116_b lpK jnK x0
theorem l116:(ctxOf prog shs inls its [] [(115,r115),(114,r114),(69,r69),(119,r119)]).ok:=q115
noncomputable def r116:RCtr:=⟨[(.sl T64)],64,T64,fun x=>slices_Clone_116 x.1⟩
theorem e116 (lp:Lp) (jn:Jn):∀x:TsS r116.as,slices_Clone_116_b lp jn x.1=runR lp jn (ctxOf prog shs inls its [] [(115,r115),(114,r114),(69,r69),(119,r119)]) hints 4 116 f116 r116.t r116.e (initN r116.as x true):=fun x=>by kernel_rfl
theorem okr116:r116.ok prog 116:=RCtr.of_den_nil (c:=r116) l116 hmix (hl:=hints) (d:=4) rfl func116 rfl (by decide) (e116 lpK jnK) fun x h=>by
 obtain ⟨l,u⟩:=x
 simp only at h
 subst h
 kernel_rfl
theorem q116:(ctxOf prog shs inls its [] [(116,r116),(115,r115),(114,r114),(69,r69),(119,r119)]).ok:=ctxOf_row q115 (by kernel_rfl) okr116
noncomputable def decimal_letter_b (_:Lp) (_:Jn) (x0:Int):Option Bool :=
 
 let v3:Bool:=decide (x0≥(97:Int));
 let v4:Bool:=decide (x0≥(65:Int));
 let v5:Bool:=!v3||v3;
 let v6:Bool:=bif v3 then decide (x0≤(122:Int)) else false;
 let v7:Bool:=!v6;
 let v8:Bool:=!v7;
 let v9:Bool:=v7&&v4;
 let v10:Bool:=v8||v7;bif v5 then bif v5 then bif v10 then bif v10 then bif !v9||v9 then bif (v8||v10)&&(v8||(!v4||(v8||v9))) then bif v6||v7 then some (bif v6 then
  true else bif v4 then decide (x0≤(90:Int)) else false) else none else none else none else none else none else none else none
noncomputable def decimal_letter (x0:Int):Option Bool:=decimal_letter_b lpK jnK x0
noncomputable def c106:Ctr:=⟨[(.int .u8)],[],[],.one .bool,fun x _ _=>decimal_letter x.1⟩
theorem e106 (lp:Lp) (jn:Jn):∀(x:TsS c106.as) (F:TsF c106.fs) (y:TsS c106.cs),decimal_letter_b lp jn x.1=runC lp jn (ctxOf prog shs inls its [] [(116,r116),(115,r115),(114,r114),(69,r69),(119,r119)]) hints 4 106 f106 c106 x F y:=fun x F y=>by kernel_rfl
theorem l106:(ctxOf prog shs inls its [] [(116,r116),(115,r115),(114,r114),(69,r69),(119,r119)]).ok:=q116
theorem ok106:c106.ok prog 106:=Ctr.of_den l106 hmix (hl:=hints) (d:=4) func106 rfl (by decide) (e106 lpK jnK)
noncomputable def decimal_digit_b (_:Lp) (_:Jn) (x0:Int):Option Bool :=
 
 let v3:Bool:=decide (x0≥(48:Int));
 let v4:Bool:=!v3||v3;bif v4 then bif v4 then some (bif v3 then decide (x0≤(57:Int)) else false) else none else none
noncomputable def decimal_digit (x0:Int):Option Bool:=decimal_digit_b lpK jnK x0
noncomputable def c150:Ctr:=⟨[(.int .u8)],[],[],.one .bool,fun x _ _=>decimal_digit x.1⟩
theorem e150 (lp:Lp) (jn:Jn):∀(x:TsS c150.as) (F:TsF c150.fs) (y:TsS c150.cs),decimal_digit_b lp jn x.1=runC lp jn (ctxOf prog shs inls its [] [(116,r116),(115,r115),(114,r114),(69,r69),(119,r119)]) hints 4 150 f150 c150 x F y:=fun x F y=>by kernel_rfl
theorem l150:(ctxOf prog shs inls its [] [(116,r116),(115,r115),(114,r114),(69,r69),(119,r119)]).ok:=q116
theorem ok150:c150.ok prog 150:=Ctr.of_den l150 hmix (hl:=hints) (d:=4) func150 rfl (by decide) (e150 lpK jnK)
noncomputable def decimal_word_b (lp:Lp) (_:Jn) (decimal_letter:(Int)→Option (Bool)) (decimal_digit:(Int)→Option (Bool)) (x0:ByteArray):Option Int :=
 lp (Int×PUnit) Int (fun (again:Int×PUnit→Option Int) (x:Int×PUnit) =>
 let v5:Bool:=inB x.1 (ByteArray.size x0);
 let v6:Int:=byteAt x0 (Int.toNat x.1);
 let v7:Bool:=decide (x.1<(↑(ByteArray.size x0):Int));
 let v8:Bool:=!v7;
 let v9:Bool:=v8||v7;
 let v10:Bool:=v8||v9;bif v9&&(v9&&(v8||v5)) then bif v9 then obind (bif v7 then decimal_letter v6 else some false) fun (t:Bool) =>
 let v12:Bool:=v7&&!t;
 let v13:Bool:=!v12;
 let v14:Bool:=v13||v12;bif v9 then bif v14&&(v14&&(v13||v5)) then bif v14 then obind (bif v12 then decimal_digit v6 else some false) fun (t_1:Bool) =>
 let v16:Bool:=bif t then true else t_1;
 let v17:Bool:=v7&&!v16;
 let v18:Bool:=!v17;
 let v19:Bool:=v18||v17;bif v10&&(v8||(t||(v8||v12))) then bif v9 then bif v19&&(v19&&(v18||v5)) then bif v19 then bif v10&&(v8||(v16||(v8||v17))) then bif v9
  then bif bif v7 then bif v16 then true else decide (v6=(95:Int)) else false then again (IntKind.wrap .i64 (x.1+(1:Int)),PUnit.unit) else some x.1 else none else none
  else none else none else none else none else none else none else none else none else none) ((0:Int),PUnit.unit)
noncomputable def decimal_word (x0:ByteArray):Option Int:=decimal_word_b lpK jnK decimal_letter decimal_digit x0
noncomputable def c107:Ctr:=⟨[.str],[],[],.one i64,fun x _ _=>decimal_word x.1⟩
theorem e107 (lp:Lp) (jn:Jn) (decimal_letter:(Int)→Option (Bool)) (decimal_digit:(Int)→Option (Bool)):∀(x:TsS c107.as) (F:TsF c107.fs) (y:TsS c107.cs),decimal_word_b lp jn decimal_letter decimal_digit x.1=runC lp jn (ctxOf prog shs inls its [(150,⟨[(.int .u8)],[],[],.one .bool,fun x _ _=>decimal_digit x.1⟩),(106,⟨[(.int .u8)],[],[],.one .bool,fun x _ _=>decimal_letter x.1⟩)] [(116,r116),(115,r115),(114,r114),(69,r69),(119,r119)]) hints 4 107 f107 c107 x F y:=fun x F y=>by kernel_rfl
theorem l107:(ctxOf prog shs inls its [(150,c150),(106,c106)] [(116,r116),(115,r115),(114,r114),(69,r69),(119,r119)]).ok:=ctxOf_cons (ctxOf_cons (q116) (by kernel_rfl) ok106) (by kernel_rfl) ok150
theorem ok107:c107.ok prog 107:=Ctr.of_den l107 hmix (hl:=hints) (d:=4) func107 rfl (by decide) (e107 lpK jnK decimal_letter decimal_digit)
noncomputable def decimal_IsName_b (_:Lp) (_:Jn) (decimal_letter:(Int)→Option (Bool)) (decimal_word:(ByteArray)→Option (Int)) (x0:ByteArray):Option Bool :=
 
 let v3:Bool:=!List.beq (ByteArray.toList x0) (ByteArray.toList { data:=#[] });
 let v4:Bool:=!v3||v3;
 let v5:Bool:=bif v3 then decide ((↑(ByteArray.size x0):Int)≤(20:Int)) else false;
 let v6:Bool:=!v5;
 let v7:Bool:=v6||v5;bif v4 then bif v4 then bif v4 then bif v7&&(v6||inB (0:Int) (ByteArray.size x0)) then bif v7 then obind (bif v5 then decimal_letter (byteAt x0 (0:Nat))
  else some false) fun (t:Bool) =>
 let v9:Bool:=bif v5 then t else false;
 let v10:Bool:=!v9||v9;bif v7 then bif v10 then obind (bif v9 then decimal_word x0 else some (0:Int)) fun (t:Int)=>bif v10 then bif v10&&v10 then bif v10 then some (bif v9
  then decide (t=(↑(ByteArray.size x0):Int)) else false) else none else none else none else none else none else none else none else none else none else none
noncomputable def decimal_IsName (x0:ByteArray):Option Bool:=decimal_IsName_b lpK jnK decimal_letter decimal_word x0
noncomputable def c64:Ctr:=⟨[.str],[],[],.one .bool,fun x _ _=>decimal_IsName x.1⟩
theorem e64 (lp:Lp) (jn:Jn) (decimal_letter:(Int)→Option (Bool)) (decimal_word:(ByteArray)→Option (Int)):∀(x:TsS c64.as) (F:TsF c64.fs) (y:TsS c64.cs),decimal_IsName_b lp jn decimal_letter decimal_word x.1=runC lp jn (ctxOf prog shs inls its [(107,⟨[.str],[],[],.one i64,fun x _ _=>decimal_word x.1⟩),(106,⟨[(.int .u8)],[],[],.one .bool,fun x _ _=>decimal_letter x.1⟩)] [(116,r116),(115,r115),(114,r114),(69,r69),(119,r119)]) hints 4 64 f64 c64 x F y:=fun x F y=>by kernel_rfl
theorem l64:(ctxOf prog shs inls its [(107,c107),(106,c106)] [(116,r116),(115,r115),(114,r114),(69,r69),(119,r119)]).ok:=ctxOf_cons (ctxOf_cons (q116) (by kernel_rfl) ok106) (by kernel_rfl) ok107
theorem ok64:c64.ok prog 64:=Ctr.of_den l64 hmix (hl:=hints) (d:=4) func64 rfl (by decide) (e64 lpK jnK decimal_letter decimal_word)
noncomputable def batten_between_b (_:Lp) (_:Jn) (x0:Int) (x1:Int) (x2:Int):Option Bool :=
 
 let v5:Bool:=decide (x0≥x1);
 let v6:Bool:=!v5||v5;bif v6&&v6 then bif v6 then some (bif v5 then decide (x0≤x2) else false) else none else none
noncomputable def batten_between (x0:Int) (x1:Int) (x2:Int):Option Bool:=batten_between_b lpK jnK x0 x1 x2
noncomputable def c99:Ctr:=⟨[i64,i64,i64],[],[],.one .bool,fun x _ _=>batten_between x.1 x.2.1 x.2.2.1⟩
theorem e99 (lp:Lp) (jn:Jn):∀(x:TsS c99.as) (F:TsF c99.fs) (y:TsS c99.cs),batten_between_b lp jn x.1 x.2.1 x.2.2.1=runC lp jn (ctxOf prog shs inls its [] [(116,r116),(115,r115),(114,r114),(69,r69),(119,r119)]) hints 4 99 f99 c99 x F y:=fun x F y=>by kernel_rfl
theorem l99:(ctxOf prog shs inls its [] [(116,r116),(115,r115),(114,r114),(69,r69),(119,r119)]).ok:=q116
theorem ok99:c99.ok prog 99:=Ctr.of_den l99 hmix (hl:=hints) (d:=4) func99 rfl (by decide) (e99 lpK jnK)
noncomputable def batten_lines_b (lp:Lp) (_:Jn) (batten_between:(Int)→(Int)→(Int)→Option (Bool)) (x0:List Int) (x1:Int):Option Bool :=
 obind (batten_between (↑(List.length x0):Int) (2:Int) (10:Int)) fun (t:Bool) =>
 let v5:Bool:=!t;
 let v6:Bool:=!v5;
 let v7:Bool:=!v6;
 let v8:Bool:=v7||v6;
 let v9:Bool:=bif v5 then true else decide (List.getD x0 (0:Nat) (0:Int)<(0:Int));
 let v10:Bool:=!v9;
 let v11:Bool:=!v10;
 let v12:Bool:=v11||v10;bif v8&&(v7||inB (0:Int) (List.length x0)) then bif v8 then bif v8 then bif v5||v6 then bif v12 then bif v12 then bif v12&&(v12&&(v11||inB
  (IntKind.wrap .i64 ((↑(List.length x0):Int) - (1:Int))) (List.length x0))) then bif v12 then bif v12&&v12 then bif v9||v10 then bif bif v9 then true else decide
  (List.getD x0 (Int.toNat (IntKind.wrap .i64 ((↑(List.length x0):Int) - (1:Int)))) (0:Int)>x1) then some false else lp (Int×PUnit) Bool (fun (again:Int×PUnit →
  Option Bool) (x:Int×PUnit)=>bif decide (x.1<(↑(List.length x0):Int)) then bif inB x.1 (List.length x0) then bif inB (IntKind.wrap .i64 (x.1 - (1:Int)))
  (List.length x0) then bif decide (List.getD x0 (Int.toNat x.1) (0:Int)≤List.getD x0 (Int.toNat (IntKind.wrap .i64 (x.1 - (1:Int)))) (0:Int)) then some false else
  again (IntKind.wrap .i64 (x.1+(1:Int)),PUnit.unit) else none else none else some true) ((1:Int),PUnit.unit) else none else none else none else none else none else none
  else none else none else none else none
noncomputable def batten_lines (x0:List Int) (x1:Int):Option Bool:=batten_lines_b lpK jnK batten_between x0 x1
noncomputable def c100:Ctr:=⟨[(.sl i64),i64],[],[],.one .bool,fun x _ _=>batten_lines x.1 x.2.1⟩
theorem e100 (lp:Lp) (jn:Jn) (batten_between:(Int)→(Int)→(Int)→Option (Bool)):∀(x:TsS c100.as) (F:TsF c100.fs) (y:TsS c100.cs),batten_lines_b lp jn batten_between x.1 x.2.1=runC lp jn (ctxOf prog shs inls its [(99,⟨[i64,i64,i64],[],[],.one .bool,fun x _ _=>batten_between x.1 x.2.1 x.2.2.1⟩)] [(116,r116),(115,r115),(114,r114),(69,r69),(119,r119)]) hints 4 100 f100 c100 x F y:=fun x F y=>by kernel_rfl
theorem l100:(ctxOf prog shs inls its [(99,c99)] [(116,r116),(115,r115),(114,r114),(69,r69),(119,r119)]).ok:=ctxOf_cons (q116) (by kernel_rfl) ok99
theorem ok100:c100.ok prog 100:=Ctr.of_den l100 hmix (hl:=hints) (d:=4) func100 rfl (by decide) (e100 lpK jnK batten_between)
noncomputable def batten_twice_140_b (lp:Lp) (_:Jn) (x0:List (ByteArray×Int×Int×Int×Int×Int×Int)) (f0:(((ByteArray×Int×Int×Int×Int×Int×Int)×Unit)→Option ByteArray)):Option Bool :=
 lp (Int×List ByteArray×PUnit) Bool (fun (again:Int×List ByteArray×PUnit→Option Bool) (x:Int×List ByteArray×PUnit)=>bif decide (x.1<(↑(List.length x0):Int)) then
  bif inB x.1 (List.length x0) then obind (f0 (List.getD x0 (Int.toNat x.1) ({ data:={ toList:=[] } },(0:Int),(0:Int),(0:Int),(0:Int),(0:Int),(0:Int)),
  PUnit.unit)) fun (t:ByteArray)=>again (IntKind.wrap .i64 (x.1+(1:Int)),addK str t x.2.1,PUnit.unit) else none else some (decide ((↑(List.length x.2.1):Int)
  < (↑(List.length x0):Int)))) ((0:Int),[],PUnit.unit)
noncomputable def batten_twice_140 (x0:List (ByteArray×Int×Int×Int×Int×Int×Int)) (f0:(((ByteArray×Int×Int×Int×Int×Int×Int)×Unit)→Option ByteArray)):Option Bool:=batten_twice_140_b lpK jnK x0 f0
noncomputable def c140:Ctr:=⟨[(.sl T48)],[([T48],.str)],[],.one .bool,fun x F _=>batten_twice_140 x.1 F.1⟩
theorem e140 (lp:Lp) (jn:Jn):∀(x:TsS c140.as) (F:TsF c140.fs) (y:TsS c140.cs),batten_twice_140_b lp jn x.1 F.1=runC lp jn (ctxOf prog shs inls its [] [(116,r116),(115,r115),(114,r114),(69,r69),(119,r119)]) hints 4 140 f140 c140 x F y:=fun x F y=>by kernel_rfl
theorem l140:(ctxOf prog shs inls its [] [(116,r116),(115,r115),(114,r114),(69,r69),(119,r119)]).ok:=q116
theorem ok140:c140.ok prog 140:=Ctr.of_den l140 hmix (hl:=hints) (d:=4) func140 rfl (by decide) (e140 lpK jnK)
noncomputable def batten_items_1_b (_:Lp) (_:Jn) (x0:ByteArray×Int×Int×Int×Int×Int×Int):Option ByteArray :=
 some x0.1
noncomputable def batten_items_1 (x0:ByteArray×Int×Int×Int×Int×Int×Int):Option ByteArray:=batten_items_1_b lpK jnK x0
noncomputable def c141:Ctr:=⟨[T48],[],[],.one .str,fun x _ _=>batten_items_1 x.1⟩
theorem e141 (lp:Lp) (jn:Jn):∀(x:TsS c141.as) (F:TsF c141.fs) (y:TsS c141.cs),batten_items_1_b lp jn x.1=runC lp jn (ctxOf prog shs inls its [] [(116,r116),(115,r115),(114,r114),(69,r69),(119,r119)]) hints 4 141 f141 c141 x F y:=fun x F y=>by kernel_rfl
theorem l141:(ctxOf prog shs inls its [] [(116,r116),(115,r115),(114,r114),(69,r69),(119,r119)]).ok:=q116
theorem ok141:c141.ok prog 141:=Ctr.of_den l141 hmix (hl:=hints) (d:=4) func141 rfl (by decide) (e141 lpK jnK)
noncomputable def batten_alone_b (_:Lp) (_:Jn) (decimal_IsName:(ByteArray)→Option (Bool)) (batten_between:(Int)→(Int)→(Int)→Option (Bool)) (x0:ByteArray×Int×Int×Int×Int×Int×Int):Option Bool :=
 obind (decimal_IsName x0.1) fun (t:Bool) =>
 let v4:Bool:=!t||t;bif v4 then bif v4 then obind (bif t then batten_between x0.2.2.2.1 (0:Int) (1048576:Int) else some false) fun (t_1:Bool) =>
 let v6:Bool:=bif t then t_1 else false;
 let v7:Bool:=!v6||v6;bif v4 then bif v7 then bif v7 then obind (bif v6 then batten_between x0.2.2.2.2.1 (0:Int) (1048576:Int) else some false) fun (t:Bool) =>
 let v9:Bool:=bif v6 then t else false;
 let v10:Bool:=!v9||v9;bif v7 then bif v10 then bif v10 then obind (bif v9 then batten_between x0.2.2.2.2.2.1 (0:Int) (1048576:Int) else some false) fun (t:Bool) =>
 let v12:Bool:=bif v9 then t else false;
 let v13:Bool:=!v12||v12;bif v10 then bif v13 then bif v13 then obind (bif v12 then batten_between x0.2.2.2.2.2.2 (0:Int) (1048576:Int) else some false) fun (t :
  Bool)=>bif v13 then some (bif v12 then t else false) else none else none else none else none else none else none else none else none else none else none else none else none
noncomputable def batten_alone (x0:ByteArray×Int×Int×Int×Int×Int×Int):Option Bool:=batten_alone_b lpK jnK decimal_IsName batten_between x0
noncomputable def c142:Ctr:=⟨[T48],[],[],.one .bool,fun x _ _=>batten_alone x.1⟩
theorem e142 (lp:Lp) (jn:Jn) (decimal_IsName:(ByteArray)→Option (Bool)) (batten_between:(Int)→(Int)→(Int)→Option (Bool)):∀(x:TsS c142.as) (F:TsF c142.fs) (y:TsS c142.cs),batten_alone_b lp jn decimal_IsName batten_between x.1=runC lp jn (ctxOf prog shs inls its [(99,⟨[i64,i64,i64],[],[],.one .bool,fun x _ _=>batten_between x.1 x.2.1 x.2.2.1⟩),(64,⟨[.str],[],[],.one .bool,fun x _ _=>decimal_IsName x.1⟩)] [(116,r116),(115,r115),(114,r114),(69,r69),(119,r119)]) hints 4 142 f142 c142 x F y:=fun x F y=>by kernel_rfl
theorem l142:(ctxOf prog shs inls its [(99,c99),(64,c64)] [(116,r116),(115,r115),(114,r114),(69,r69),(119,r119)]).ok:=ctxOf_cons (ctxOf_cons (q116) (by kernel_rfl) ok64) (by kernel_rfl) ok99
theorem ok142:c142.ok prog 142:=Ctr.of_den l142 hmix (hl:=hints) (d:=4) func142 rfl (by decide) (e142 lpK jnK decimal_IsName batten_between)
noncomputable def batten_inside_b (_:Lp) (_:Jn) (batten_between:(Int)→(Int)→(Int)→Option (Bool)) (x0:ByteArray×Int×Int×Int×Int×Int×Int) (x1:Int):Option Bool :=
 
 let v4:Bool:=decide (x0.2.1≥(0:Int));
 let v5:Bool:=!v4||v4;bif v5 then bif v5 then obind (bif v4 then batten_between x0.2.2.1 (1:Int) (1048576:Int) else some false) fun (t:Bool) =>
 let v7:Bool:=bif v4 then t else false;
 let v8:Bool:=!v7||v7;
 let v9:Bool:=v8&&v8;bif v5 then bif v8 then bif v8 then bif v9 then bif v9 then bif v8 then some (bif v7 then decide (x0.2.1≤IntKind.wrap .i64 (x1 - x0.2.2.1))
  else false) else none else none else none else none else none else none else none else none
noncomputable def batten_inside (x0:ByteArray×Int×Int×Int×Int×Int×Int) (x1:Int):Option Bool:=batten_inside_b lpK jnK batten_between x0 x1
noncomputable def c143:Ctr:=⟨[T48,i64],[],[],.one .bool,fun x _ _=>batten_inside x.1 x.2.1⟩
theorem e143 (lp:Lp) (jn:Jn) (batten_between:(Int)→(Int)→(Int)→Option (Bool)):∀(x:TsS c143.as) (F:TsF c143.fs) (y:TsS c143.cs),batten_inside_b lp jn batten_between x.1 x.2.1=runC lp jn (ctxOf prog shs inls its [(99,⟨[i64,i64,i64],[],[],.one .bool,fun x _ _=>batten_between x.1 x.2.1 x.2.2.1⟩)] [(116,r116),(115,r115),(114,r114),(69,r69),(119,r119)]) hints 4 143 f143 c143 x F y:=fun x F y=>by kernel_rfl
theorem l143:(ctxOf prog shs inls its [(99,c99)] [(116,r116),(115,r115),(114,r114),(69,r69),(119,r119)]).ok:=ctxOf_cons (q116) (by kernel_rfl) ok99
theorem ok143:c143.ok prog 143:=Ctr.of_den l143 hmix (hl:=hints) (d:=4) func143 rfl (by decide) (e143 lpK jnK batten_between)
noncomputable def slices_IndexFunc_159_b (lp:Lp) (_:Jn) (x0:List (ByteArray×Int×Int×Int×Int×Int×Int)) (f0:(((ByteArray×Int×Int×Int×Int×Int×Int)×Unit)→Option Bool)):Option Int :=
 lp (Int×PUnit) Int (fun (again:Int×PUnit→Option Int) (x:Int×PUnit)=>bif decide (x.1<(↑(List.length x0):Int)) then bif inB x.1 (List.length x0) then obind (f0
  (List.getD x0 (Int.toNat x.1) ({ data:={ toList:=[] } },(0:Int),(0:Int),(0:Int),(0:Int),(0:Int),(0:Int)),PUnit.unit)) fun (t:Bool)=>bif t then some x.1
  else again (IntKind.wrap .i64 (x.1+(1:Int)),PUnit.unit) else none else some (-1:Int)) ((0:Int),PUnit.unit)
noncomputable def slices_IndexFunc_159 (x0:List (ByteArray×Int×Int×Int×Int×Int×Int)) (f0:(((ByteArray×Int×Int×Int×Int×Int×Int)×Unit)→Option Bool)):Option Int:=slices_IndexFunc_159_b lpK jnK x0 f0
noncomputable def c159:Ctr:=⟨[(.sl T48)],[([T48],.bool)],[],.one i64,fun x F _=>slices_IndexFunc_159 x.1 F.1⟩
theorem e159 (lp:Lp) (jn:Jn):∀(x:TsS c159.as) (F:TsF c159.fs) (y:TsS c159.cs),slices_IndexFunc_159_b lp jn x.1 F.1=runC lp jn (ctxOf prog shs inls its [] [(116,r116),(115,r115),(114,r114),(69,r69),(119,r119)]) hints 4 159 f159 c159 x F y:=fun x F y=>by kernel_rfl
theorem l159:(ctxOf prog shs inls its [] [(116,r116),(115,r115),(114,r114),(69,r69),(119,r119)]).ok:=q116
theorem ok159:c159.ok prog 159:=Ctr.of_den l159 hmix (hl:=hints) (d:=4) func159 rfl (by decide) (e159 lpK jnK)
noncomputable def slices_ContainsFunc_144_b (_:Lp) (_:Jn) (slices_IndexFunc_159:(List (ByteArray×Int×Int×Int×Int×Int×Int))→((((ByteArray×Int×Int×Int×Int×Int×Int)×Unit)→Option Bool))→Option (Int)) (x0:List (ByteArray×Int×Int×Int×Int×Int×Int)) (f0:(((ByteArray×Int×Int×Int×Int×Int×Int)×Unit)→Option Bool)):Option Bool :=
 obind (slices_IndexFunc_159 x0 f0) fun (t:Int)=>some (decide (t≥(0:Int)))
noncomputable def slices_ContainsFunc_144 (x0:List (ByteArray×Int×Int×Int×Int×Int×Int)) (f0:(((ByteArray×Int×Int×Int×Int×Int×Int)×Unit)→Option Bool)):Option Bool:=slices_ContainsFunc_144_b lpK jnK slices_IndexFunc_159 x0 f0
noncomputable def c144:Ctr:=⟨[(.sl T48)],[([T48],.bool)],[],.one .bool,fun x F _=>slices_ContainsFunc_144 x.1 F.1⟩
theorem e144 (lp:Lp) (jn:Jn) (slices_IndexFunc_159:(List (ByteArray×Int×Int×Int×Int×Int×Int))→((((ByteArray×Int×Int×Int×Int×Int×Int)×Unit)→Option Bool))→Option (Int)):∀(x:TsS c144.as) (F:TsF c144.fs) (y:TsS c144.cs),slices_ContainsFunc_144_b lp jn slices_IndexFunc_159 x.1 F.1=runC lp jn (ctxOf prog shs inls its [(159,⟨[(.sl T48)],[([T48],.bool)],[],.one i64,fun x F _=>slices_IndexFunc_159 x.1 F.1⟩)] [(116,r116),(115,r115),(114,r114),(69,r69),(119,r119)]) hints 4 144 f144 c144 x F y:=fun x F y=>by kernel_rfl
theorem l144:(ctxOf prog shs inls its [(159,c159)] [(116,r116),(115,r115),(114,r114),(69,r69),(119,r119)]).ok:=ctxOf_cons (q116) (by kernel_rfl) ok159
theorem ok144:c144.ok prog 144:=Ctr.of_den l144 hmix (hl:=hints) (d:=4) func144 rfl (by decide) (e144 lpK jnK slices_IndexFunc_159)
noncomputable def batten_apart_b (_:Lp) (_:Jn) (x0:ByteArray×Int×Int×Int×Int×Int×Int) (x1:ByteArray×Int×Int×Int×Int×Int×Int):Option Bool :=
 
 let v4:Bool:=decide (IntKind.wrap .i64 (x0.2.1+x0.2.2.1)≤x1.2.1);
 let v5:Bool:=!v4;
 let v6:Bool:=!v5||v5;
 let v7:Bool:=v6&&v6;bif v6 then bif v6 then bif v7 then bif v6 then bif v7 then bif v4||v5 then some (bif v4 then true else decide (IntKind.wrap .i64 (x1.2.1 +
  x1.2.2.1)≤x0.2.1)) else none else none else none else none else none else none
noncomputable def batten_apart (x0:ByteArray×Int×Int×Int×Int×Int×Int) (x1:ByteArray×Int×Int×Int×Int×Int×Int):Option Bool:=batten_apart_b lpK jnK x0 x1
noncomputable def c146:Ctr:=⟨[T48,T48],[],[],.one .bool,fun x _ _=>batten_apart x.1 x.2.1⟩
theorem e146 (lp:Lp) (jn:Jn):∀(x:TsS c146.as) (F:TsF c146.fs) (y:TsS c146.cs),batten_apart_b lp jn x.1 x.2.1=runC lp jn (ctxOf prog shs inls its [] [(116,r116),(115,r115),(114,r114),(69,r69),(119,r119)]) hints 4 146 f146 c146 x F y:=fun x F y=>by kernel_rfl
theorem l146:(ctxOf prog shs inls its [] [(116,r116),(115,r115),(114,r114),(69,r69),(119,r119)]).ok:=q116
theorem ok146:c146.ok prog 146:=Ctr.of_den l146 hmix (hl:=hints) (d:=4) func146 rfl (by decide) (e146 lpK jnK)
noncomputable def batten_items_2_b (_:Lp) (_:Jn) (batten_apart:(ByteArray×Int×Int×Int×Int×Int×Int)→(ByteArray×Int×Int×Int×Int×Int×Int)→Option (Bool)) (x0:ByteArray×Int×Int×Int×Int×Int×Int) (y0:ByteArray×Int×Int×Int×Int×Int×Int):Option Bool :=
 obind (batten_apart y0 x0) fun (t:Bool)=>some !t
noncomputable def batten_items_2 (x0:ByteArray×Int×Int×Int×Int×Int×Int) (y0:ByteArray×Int×Int×Int×Int×Int×Int):Option Bool:=batten_items_2_b lpK jnK batten_apart x0 y0
noncomputable def c145:Ctr:=⟨[T48],[],[T48],.one .bool,fun x _ y=>batten_items_2 x.1 y.1⟩
theorem e145 (lp:Lp) (jn:Jn) (batten_apart:(ByteArray×Int×Int×Int×Int×Int×Int)→(ByteArray×Int×Int×Int×Int×Int×Int)→Option (Bool)):∀(x:TsS c145.as) (F:TsF c145.fs) (y:TsS c145.cs),batten_items_2_b lp jn batten_apart x.1 y.1=runC lp jn (ctxOf prog shs inls its [(146,⟨[T48,T48],[],[],.one .bool,fun x _ _=>batten_apart x.1 x.2.1⟩)] [(116,r116),(115,r115),(114,r114),(69,r69),(119,r119)]) hints 4 145 f145 c145 x F y:=fun x F y=>by kernel_rfl
theorem l145:(ctxOf prog shs inls its [(146,c146)] [(116,r116),(115,r115),(114,r114),(69,r69),(119,r119)]).ok:=ctxOf_cons (q116) (by kernel_rfl) ok146
theorem ok145:c145.ok prog 145:=Ctr.of_den l145 hmix (hl:=hints) (d:=4) func145 rfl (by decide) (e145 lpK jnK batten_apart)
noncomputable def batten_items_b (lp:Lp) (_:Jn) (batten_twice_140:(List (ByteArray×Int×Int×Int×Int×Int×Int))→((((ByteArray×Int×Int×Int×Int×Int×Int)×Unit)→Option ByteArray))→Option (Bool)) (batten_items_1:(ByteArray×Int×Int×Int×Int×Int×Int)→Option (ByteArray)) (batten_alone:(ByteArray×Int×Int×Int×Int×Int×Int)→Option (Bool)) (batten_inside:(ByteArray×Int×Int×Int×Int×Int×Int)→(Int)→Option (Bool)) (slices_ContainsFunc_144:(List (ByteArray×Int×Int×Int×Int×Int×Int))→((((ByteArray×Int×Int×Int×Int×Int×Int)×Unit)→Option Bool))→Option (Bool)) (batten_items_2:(ByteArray×Int×Int×Int×Int×Int×Int)→(ByteArray×Int×Int×Int×Int×Int×Int)→Option (Bool)) (x0:List (ByteArray×Int×Int×Int×Int×Int×Int)) (x1:Int):Option Bool :=
 
 let v4:Bool:=decide ((↑(List.length x0):Int)>(40:Int));
 let v5:Bool:=!v4;bif !v5||v5 then obind (bif v5 then batten_twice_140 x0 fun (x:(ByteArray×Int×Int×Int×Int×Int×Int)×PUnit)=>batten_items_1 x.1 else some false)
  fun (t:Bool)=>bif v4||v5 then bif bif v4 then true else t then some false else lp (Int×PUnit) Bool (fun (again:Int×PUnit→Option Bool) (x:Int×PUnit) =>
 let v9:ByteArray×Int×Int×Int×Int×Int×Int:=List.getD x0 (Int.toNat x.1) ({ data:={ toList:=[] } },(0:Int),(0:Int),(0:Int),(0:Int),(0:Int),(0:Int));
  bif decide (x.1<(↑(List.length x0):Int)) then bif inB x.1 (List.length x0) then obind (batten_alone v9) fun (t:Bool) =>
 let v11:Bool:=!t;
 let v12:Bool:=!v11;
 let v13:Bool:=!v12||v12;bif v13&&v13 then obind (bif v12 then batten_inside v9 x1 else some false) fun (t:Bool) =>
 let v15:Bool:=bif v11 then true else !t;
 let v16:Bool:=!v15;
 let v17:Bool:=!v16;
 let v18:Bool:=v17||v16;bif v13 then bif v11||v12 then bif v18&&(v18&&(v17||slB (0:Int) x.1 (List.length x0))) then bif v18&&v18 then obind (bif v16 then
  slices_ContainsFunc_144 (List.drop (0:Nat) (List.take (Int.toNat x.1) x0)) fun (x:(ByteArray×Int×Int×Int×Int×Int×Int)×PUnit)=>batten_items_2 x.1 v9 else some
  false) fun (t:Bool)=>bif v15||v16 then bif bif v15 then true else t then some false else again (IntKind.wrap .i64 (x.1+(1:Int)),PUnit.unit) else none else none else
  none else none else none else none else none else some true) ((0:Int),PUnit.unit) else none else none
noncomputable def batten_items (x0:List (ByteArray×Int×Int×Int×Int×Int×Int)) (x1:Int):Option Bool:=batten_items_b lpK jnK batten_twice_140 batten_items_1 batten_alone batten_inside slices_ContainsFunc_144 batten_items_2 x0 x1
noncomputable def c101:Ctr:=⟨[(.sl T48),i64],[],[],.one .bool,fun x _ _=>batten_items x.1 x.2.1⟩
theorem e101 (lp:Lp) (jn:Jn) (batten_twice_140:(List (ByteArray×Int×Int×Int×Int×Int×Int))→((((ByteArray×Int×Int×Int×Int×Int×Int)×Unit)→Option ByteArray))→Option (Bool)) (batten_items_1:(ByteArray×Int×Int×Int×Int×Int×Int)→Option (ByteArray)) (batten_alone:(ByteArray×Int×Int×Int×Int×Int×Int)→Option (Bool)) (batten_inside:(ByteArray×Int×Int×Int×Int×Int×Int)→(Int)→Option (Bool)) (slices_ContainsFunc_144:(List (ByteArray×Int×Int×Int×Int×Int×Int))→((((ByteArray×Int×Int×Int×Int×Int×Int)×Unit)→Option Bool))→Option (Bool)) (batten_items_2:(ByteArray×Int×Int×Int×Int×Int×Int)→(ByteArray×Int×Int×Int×Int×Int×Int)→Option (Bool)):∀(x:TsS c101.as) (F:TsF c101.fs) (y:TsS c101.cs),batten_items_b lp jn batten_twice_140 batten_items_1 batten_alone batten_inside slices_ContainsFunc_144 batten_items_2 x.1 x.2.1=runC lp jn (ctxOf prog shs inls its [(145,⟨[T48],[],[T48],.one .bool,fun x _ y=>batten_items_2 x.1 y.1⟩),(144,⟨[(.sl T48)],[([T48],.bool)],[],.one .bool,fun x F _=>slices_ContainsFunc_144 x.1 F.1⟩),(143,⟨[T48,i64],[],[],.one .bool,fun x _ _=>batten_inside x.1 x.2.1⟩),(142,⟨[T48],[],[],.one .bool,fun x _ _=>batten_alone x.1⟩),(141,⟨[T48],[],[],.one .str,fun x _ _=>batten_items_1 x.1⟩),(140,⟨[(.sl T48)],[([T48],.str)],[],.one .bool,fun x F _=>batten_twice_140 x.1 F.1⟩)] [(116,r116),(115,r115),(114,r114),(69,r69),(119,r119)]) hints 4 101 f101 c101 x F y:=fun x F y=>by kernel_rfl
theorem l101:(ctxOf prog shs inls its [(145,c145),(144,c144),(143,c143),(142,c142),(141,c141),(140,c140)] [(116,r116),(115,r115),(114,r114),(69,r69),(119,r119)]).ok:=ctxOf_cons (ctxOf_cons (ctxOf_cons (ctxOf_cons (ctxOf_cons (ctxOf_cons (q116) (by kernel_rfl) ok140) (by kernel_rfl) ok141) (by kernel_rfl) ok142) (by kernel_rfl) ok143) (by kernel_rfl) ok144) (by kernel_rfl) ok145
theorem ok101:c101.ok prog 101:=Ctr.of_den l101 hmix (hl:=hints) (d:=4) func101 rfl (by decide) (e101 lpK jnK batten_twice_140 batten_items_1 batten_alone batten_inside slices_ContainsFunc_144 batten_items_2)
noncomputable def batten_twice_147_b (lp:Lp) (_:Jn) (x0:List (ByteArray×Int×Int)) (f0:(((ByteArray×Int×Int)×Unit)→Option ByteArray)):Option Bool :=
 lp (Int×List ByteArray×PUnit) Bool (fun (again:Int×List ByteArray×PUnit→Option Bool) (x:Int×List ByteArray×PUnit)=>bif decide (x.1<(↑(List.length x0):Int)) then
  bif inB x.1 (List.length x0) then obind (f0 (List.getD x0 (Int.toNat x.1) ({ data:={ toList:=[] } },(0:Int),(0:Int)),PUnit.unit)) fun (t:ByteArray)=>again
  (IntKind.wrap .i64 (x.1+(1:Int)),addK str t x.2.1,PUnit.unit) else none else some (decide ((↑(List.length x.2.1):Int)<(↑(List.length x0):Int)))) ((0:Int),
  [],PUnit.unit)
noncomputable def batten_twice_147 (x0:List (ByteArray×Int×Int)) (f0:(((ByteArray×Int×Int)×Unit)→Option ByteArray)):Option Bool:=batten_twice_147_b lpK jnK x0 f0
noncomputable def c147:Ctr:=⟨[(.sl T64)],[([T64],.str)],[],.one .bool,fun x F _=>batten_twice_147 x.1 F.1⟩
theorem e147 (lp:Lp) (jn:Jn):∀(x:TsS c147.as) (F:TsF c147.fs) (y:TsS c147.cs),batten_twice_147_b lp jn x.1 F.1=runC lp jn (ctxOf prog shs inls its [] [(116,r116),(115,r115),(114,r114),(69,r69),(119,r119)]) hints 4 147 f147 c147 x F y:=fun x F y=>by kernel_rfl
theorem l147:(ctxOf prog shs inls its [] [(116,r116),(115,r115),(114,r114),(69,r69),(119,r119)]).ok:=q116
theorem ok147:c147.ok prog 147:=Ctr.of_den l147 hmix (hl:=hints) (d:=4) func147 rfl (by decide) (e147 lpK jnK)
noncomputable def batten_bricks_1_b (_:Lp) (_:Jn) (x0:ByteArray×Int×Int):Option ByteArray :=
 some x0.1
noncomputable def batten_bricks_1 (x0:ByteArray×Int×Int):Option ByteArray:=batten_bricks_1_b lpK jnK x0
noncomputable def c148:Ctr:=⟨[T64],[],[],.one .str,fun x _ _=>batten_bricks_1 x.1⟩
theorem e148 (lp:Lp) (jn:Jn):∀(x:TsS c148.as) (F:TsF c148.fs) (y:TsS c148.cs),batten_bricks_1_b lp jn x.1=runC lp jn (ctxOf prog shs inls its [] [(116,r116),(115,r115),(114,r114),(69,r69),(119,r119)]) hints 4 148 f148 c148 x F y:=fun x F y=>by kernel_rfl
theorem l148:(ctxOf prog shs inls its [] [(116,r116),(115,r115),(114,r114),(69,r69),(119,r119)]).ok:=q116
theorem ok148:c148.ok prog 148:=Ctr.of_den l148 hmix (hl:=hints) (d:=4) func148 rfl (by decide) (e148 lpK jnK)
noncomputable def batten_bricks_b (lp:Lp) (_:Jn) (decimal_IsName:(ByteArray)→Option (Bool)) (batten_between:(Int)→(Int)→(Int)→Option (Bool)) (batten_twice_147:(List (ByteArray×Int×Int))→((((ByteArray×Int×Int)×Unit)→Option ByteArray))→Option (Bool)) (batten_bricks_1:(ByteArray×Int×Int)→Option (ByteArray)) (x0:List (ByteArray×Int×Int)):Option Bool :=
 
 let v3:Bool:=decide ((↑(List.length x0):Int)>(8:Int));
 let v4:Bool:=!v3;bif !v4||v4 then obind (bif v4 then batten_twice_147 x0 fun (x:(ByteArray×Int×Int)×PUnit)=>batten_bricks_1 x.1 else some false) fun (t:Bool)=>bif
  v3||v4 then bif bif v3 then true else t then some false else lp (Int×Int×PUnit) Bool (fun (again:Int×Int×PUnit→Option Bool) (x:Int×Int×PUnit) =>
 let v8:ByteArray×Int×Int:=List.getD x0 (Int.toNat x.2.1) ({ data:={ toList:=[] } },(0:Int),(0:Int));bif decide (x.2.1<(↑(List.length x0):Int)) then bif inB
  x.2.1 (List.length x0) then obind (decimal_IsName v8.1) fun (t:Bool) =>
 let v10:Bool:=!t;
 let v11:Bool:=!v10;
 let v12:Bool:=!v11||v11;bif v12 then bif v12 then obind (bif v11 then batten_between v8.2.1 (1:Int) (1048576:Int) else some false) fun (t:Bool) =>
 let v14:Bool:=bif v10 then true else !t;
 let v15:Bool:=!v14;
 let v16:Bool:=!v15||v15;bif v12 then bif v10||v11 then bif v16 then bif v16 then obind (bif v15 then batten_between v8.2.2 (0:Int) (60:Int) else some false) fun (t :
  Bool)=>bif v16 then bif v14||v15 then bif bif v14 then true else !t then some false else again (IntKind.wrap .i64 (x.1+v8.2.2),IntKind.wrap .i64 (x.2.1 +
  (1:Int)),PUnit.unit) else none else none else none else none else none else none else none else none else none else some (decide (x.1≤(60:Int)))) ((0:Int),(0:Int),
  PUnit.unit) else none else none
noncomputable def batten_bricks (x0:List (ByteArray×Int×Int)):Option Bool:=batten_bricks_b lpK jnK decimal_IsName batten_between batten_twice_147 batten_bricks_1 x0
noncomputable def c102:Ctr:=⟨[(.sl T64)],[],[],.one .bool,fun x _ _=>batten_bricks x.1⟩
theorem e102 (lp:Lp) (jn:Jn) (decimal_IsName:(ByteArray)→Option (Bool)) (batten_between:(Int)→(Int)→(Int)→Option (Bool)) (batten_twice_147:(List (ByteArray×Int×Int))→((((ByteArray×Int×Int)×Unit)→Option ByteArray))→Option (Bool)) (batten_bricks_1:(ByteArray×Int×Int)→Option (ByteArray)):∀(x:TsS c102.as) (F:TsF c102.fs) (y:TsS c102.cs),batten_bricks_b lp jn decimal_IsName batten_between batten_twice_147 batten_bricks_1 x.1=runC lp jn (ctxOf prog shs inls its [(148,⟨[T64],[],[],.one .str,fun x _ _=>batten_bricks_1 x.1⟩),(147,⟨[(.sl T64)],[([T64],.str)],[],.one .bool,fun x F _=>batten_twice_147 x.1 F.1⟩),(99,⟨[i64,i64,i64],[],[],.one .bool,fun x _ _=>batten_between x.1 x.2.1 x.2.2.1⟩),(64,⟨[.str],[],[],.one .bool,fun x _ _=>decimal_IsName x.1⟩)] [(116,r116),(115,r115),(114,r114),(69,r69),(119,r119)]) hints 4 102 f102 c102 x F y:=fun x F y=>by kernel_rfl
theorem l102:(ctxOf prog shs inls its [(148,c148),(147,c147),(99,c99),(64,c64)] [(116,r116),(115,r115),(114,r114),(69,r69),(119,r119)]).ok:=ctxOf_cons (ctxOf_cons (ctxOf_cons (ctxOf_cons (q116) (by kernel_rfl) ok64) (by kernel_rfl) ok99) (by kernel_rfl) ok147) (by kernel_rfl) ok148
theorem ok102:c102.ok prog 102:=Ctr.of_den l102 hmix (hl:=hints) (d:=4) func102 rfl (by decide) (e102 lpK jnK decimal_IsName batten_between batten_twice_147 batten_bricks_1)
noncomputable def batten_Valid_b (_:Lp) (_:Jn) (decimal_IsName:(ByteArray)→Option (Bool)) (batten_between:(Int)→(Int)→(Int)→Option (Bool)) (batten_lines:(List Int)→(Int)→Option (Bool)) (batten_items:(List (ByteArray×Int×Int×Int×Int×Int×Int))→(Int)→Option (Bool)) (batten_bricks:(List (ByteArray×Int×Int))→Option (Bool)) (x0:ByteArray×Int×Int×Int×Int×(List Int)×Int×Int×Int×Int×Int×(List (ByteArray×Int×Int×Int×Int×Int×Int))×List (ByteArray×Int×Int)):Option Bool :=
 
 let v3:Bool:=decide ((0:Int)≤x0.2.2.1);
 let v4:Bool:=decide (x0.2.2.2.1≤(1048576:Int));
 let v5:Bool:=decide (Int.tmod x0.2.2.2.2.1 (1000:Int)=(0:Int));
 let v6:Bool:=decide (x0.2.2.1≤x0.2.2.2.1);obind (decimal_IsName x0.1) fun (t:Bool) =>
 let v8:Bool:=!t||t;bif v8 then bif v8 then obind (bif t then batten_between x0.2.1 (0:Int) (1048576:Int) else some false) fun (t_1:Bool) =>
 let v10:Bool:=bif t then t_1 else false;
 let v11:Bool:=bif v10 then v3 else false;
 let v12:Bool:=!v10||v10;
 let v13:Bool:=bif v11 then v6 else false;
 let v14:Bool:=bif v13 then v4 else false;
 let v15:Bool:=!v11||v11;
 let v16:Bool:=!v13||v13;
 let v17:Bool:=!v14||v14;bif v8 then bif v12 then bif v12 then bif v12 then bif v15 then bif v15 then bif v15&&v15 then bif v15 then bif v16 then bif v16 then bif v16 then bif v17
  then bif v17 then obind (bif v14 then batten_between x0.2.2.2.2.1 (1000:Int) (1048576:Int) else some false) fun (t:Bool) =>
 let v19:Bool:=bif v14 then t else false;
 let v20:Bool:=!v19;
 let v21:Bool:=bif v19 then v5 else false;
 let v22:Bool:=v20||v19;
 let v23:Bool:=!v21||v21;bif v17 then bif v22 then bif v22&&(v20||true) then bif v22 then bif v22 then bif v23 then bif v23 then bif v23&&v23 then obind (bif v21 then
  batten_lines x0.2.2.2.2.2.1 x0.2.2.2.2.1 else some false) fun (t:Bool) =>
 let v25:Bool:=bif v21 then t else false;
 let v26:Bool:=!v25||v25;bif v23 then bif v26 then bif v26 then obind (bif v25 then batten_between x0.2.2.2.2.2.2.1 (0:Int) (1048576:Int) else some false) fun (t :
  Bool) =>
 let v28:Bool:=bif v25 then t else false;
 let v29:Bool:=!v28||v28;bif v26 then bif v29 then bif v29 then obind (bif v28 then batten_between x0.2.2.2.2.2.2.2.1 (0:Int) (1048576:Int) else some false) fun
  (t:Bool) =>
 let v31:Bool:=bif v28 then t else false;
 let v32:Bool:=!v31||v31;bif v29 then bif v32 then bif v32 then obind (bif v31 then batten_between x0.2.2.2.2.2.2.2.2.1 (1:Int) (2:Int) else some false) fun (t
  : Bool) =>
 let v34:Bool:=bif v31 then t else false;
 let v35:Bool:=!v34||v34;bif v32 then bif v35 then bif v35 then obind (bif v34 then batten_between x0.2.2.2.2.2.2.2.2.2.1 (1:Int) (67108864:Int) else some
  false) fun (t:Bool) =>
 let v37:Bool:=bif v34 then t else false;
 let v38:Bool:=!v37||v37;bif v35 then bif v38 then bif v38 then obind (bif v37 then batten_between x0.2.2.2.2.2.2.2.2.2.2.1 (0:Int) (67108864:Int) else
  some false) fun (t:Bool) =>
 let v40:Bool:=bif v37 then t else false;
 let v41:Bool:=!v40||v40;bif v38 then bif v41 then bif v41 then bif v41&&v41 then obind (bif v40 then batten_items x0.2.2.2.2.2.2.2.2.2.2.2.1
  x0.2.2.2.2.1 else some false) fun (t:Bool) =>
 let v43:Bool:=bif v40 then t else false;
 let v44:Bool:=!v43||v43;bif v41 then bif v44 then bif v44 then obind (bif v43 then batten_bricks x0.2.2.2.2.2.2.2.2.2.2.2.2 else some false) fun (t:Bool)
  =>bif v44 then some (bif v43 then t else false) else none else none else none else none else none else none else none else none else none else none else none else none else none else
  none else none else none else none else none else none else none else none else none else none else none else none else none else none else none else none else none else none else none
  else none else none else none else none else none else none else none else none else none else none else none else none else none else none
noncomputable def batten_Valid (x0:ByteArray×Int×Int×Int×Int×(List Int)×Int×Int×Int×Int×Int×(List (ByteArray×Int×Int×Int×Int×Int×Int))×List (ByteArray×Int×Int)):Option Bool:=batten_Valid_b lpK jnK decimal_IsName batten_between batten_lines batten_items batten_bricks x0
noncomputable def c61:Ctr:=⟨[T44],[],[],.one .bool,fun x _ _=>batten_Valid x.1⟩
theorem e61 (lp:Lp) (jn:Jn) (decimal_IsName:(ByteArray)→Option (Bool)) (batten_between:(Int)→(Int)→(Int)→Option (Bool)) (batten_lines:(List Int)→(Int)→Option (Bool)) (batten_items:(List (ByteArray×Int×Int×Int×Int×Int×Int))→(Int)→Option (Bool)) (batten_bricks:(List (ByteArray×Int×Int))→Option (Bool)):∀(x:TsS c61.as) (F:TsF c61.fs) (y:TsS c61.cs),batten_Valid_b lp jn decimal_IsName batten_between batten_lines batten_items batten_bricks x.1=runC lp jn (ctxOf prog shs inls its [(102,⟨[(.sl T64)],[],[],.one .bool,fun x _ _=>batten_bricks x.1⟩),(101,⟨[(.sl T48),i64],[],[],.one .bool,fun x _ _=>batten_items x.1 x.2.1⟩),(100,⟨[(.sl i64),i64],[],[],.one .bool,fun x _ _=>batten_lines x.1 x.2.1⟩),(99,⟨[i64,i64,i64],[],[],.one .bool,fun x _ _=>batten_between x.1 x.2.1 x.2.2.1⟩),(64,⟨[.str],[],[],.one .bool,fun x _ _=>decimal_IsName x.1⟩)] [(116,r116),(115,r115),(114,r114),(69,r69),(119,r119)]) hints 4 61 f61 c61 x F y:=fun x F y=>by kernel_rfl
theorem l61:(ctxOf prog shs inls its [(102,c102),(101,c101),(100,c100),(99,c99),(64,c64)] [(116,r116),(115,r115),(114,r114),(69,r69),(119,r119)]).ok:=ctxOf_cons (ctxOf_cons (ctxOf_cons (ctxOf_cons (ctxOf_cons (q116) (by kernel_rfl) ok64) (by kernel_rfl) ok99) (by kernel_rfl) ok100) (by kernel_rfl) ok101) (by kernel_rfl) ok102
theorem ok61:c61.ok prog 61:=Ctr.of_den l61 hmix (hl:=hints) (d:=4) func61 rfl (by decide) (e61 lpK jnK decimal_IsName batten_between batten_lines batten_items batten_bricks)
noncomputable def batten_pipe_b (_:Lp) (_:Jn) (x0:ByteArray×Int×Int×Int×Int×(List Int)×Int×Int×Int×Int×Int×(List (ByteArray×Int×Int×Int×Int×Int×Int))×List (ByteArray×Int×Int)):Option Int :=
 some (IntKind.wrap .i64 (x0.2.2.2.2.2.2.1*IntKind.wrap .i64 (Int.tdiv x0.2.2.2.2.1 (1000:Int))))
noncomputable def batten_pipe (x0:ByteArray×Int×Int×Int×Int×(List Int)×Int×Int×Int×Int×Int×(List (ByteArray×Int×Int×Int×Int×Int×Int))×List (ByteArray×Int×Int)):Option Int:=batten_pipe_b lpK jnK x0
noncomputable def c103:Ctr:=⟨[T44],[],[],.one i64,fun x _ _=>batten_pipe x.1⟩
theorem e103 (lp:Lp) (jn:Jn):∀(x:TsS c103.as) (F:TsF c103.fs) (y:TsS c103.cs),batten_pipe_b lp jn x.1=runC lp jn (ctxOf prog shs inls its [] [(116,r116),(115,r115),(114,r114),(69,r69),(119,r119)]) hints 4 103 f103 c103 x F y:=fun x F y=>by kernel_rfl
theorem l103:(ctxOf prog shs inls its [] [(116,r116),(115,r115),(114,r114),(69,r69),(119,r119)]).ok:=q116
theorem ok103:c103.ok prog 103:=Ctr.of_den l103 hmix (hl:=hints) (d:=4) func103 rfl (by decide) (e103 lpK jnK)
noncomputable def batten_weight_b (lp:Lp) (_:Jn) (batten_pipe:(ByteArray×Int×Int×Int×Int×(List Int)×Int×Int×Int×Int×Int×(List (ByteArray×Int×Int×Int×Int×Int×Int))×List (ByteArray×Int×Int))→Option (Int)) (x0:ByteArray×Int×Int×Int×Int×(List Int)×Int×Int×Int×Int×Int×(List (ByteArray×Int×Int×Int×Int×Int×Int))×List (ByteArray×Int×Int)):Option Int :=
 obind (batten_pipe x0) fun (t:Int)=>lp (Int×Int×PUnit) Int (fun (again:Int×Int×PUnit→Option Int) (x:Int×Int×PUnit)=>bif decide (x.2.1<(↑(List.length
  x0.2.2.2.2.2.2.2.2.2.2.2.1):Int)) then bif inB x.2.1 (List.length x0.2.2.2.2.2.2.2.2.2.2.2.1) then again (IntKind.wrap .i64
  (x.1+(List.getD x0.2.2.2.2.2.2.2.2.2.2.2.1 (Int.toNat x.2.1) ({ data:={ toList:=[] } },(0:Int),(0:Int),(0:Int),(0:Int),(0:Int),(0 :
  Int))).2.2.2.1),IntKind.wrap .i64 (x.2.1+(1:Int)),PUnit.unit) else none else some x.1) (t,(0:Int),PUnit.unit)
noncomputable def batten_weight (x0:ByteArray×Int×Int×Int×Int×(List Int)×Int×Int×Int×Int×Int×(List (ByteArray×Int×Int×Int×Int×Int×Int))×List (ByteArray×Int×Int)):Option Int:=batten_weight_b lpK jnK batten_pipe x0
noncomputable def c62:Ctr:=⟨[T44],[],[],.one i64,fun x _ _=>batten_weight x.1⟩
theorem e62 (lp:Lp) (jn:Jn) (batten_pipe:(ByteArray×Int×Int×Int×Int×(List Int)×Int×Int×Int×Int×Int×(List (ByteArray×Int×Int×Int×Int×Int×Int))×List (ByteArray×Int×Int))→Option (Int)):∀(x:TsS c62.as) (F:TsF c62.fs) (y:TsS c62.cs),batten_weight_b lp jn batten_pipe x.1=runC lp jn (ctxOf prog shs inls its [(103,⟨[T44],[],[],.one i64,fun x _ _=>batten_pipe x.1⟩)] [(116,r116),(115,r115),(114,r114),(69,r69),(119,r119)]) hints 4 62 f62 c62 x F y:=fun x F y=>by kernel_rfl
theorem l62:(ctxOf prog shs inls its [(103,c103)] [(116,r116),(115,r115),(114,r114),(69,r69),(119,r119)]).ok:=ctxOf_cons (q116) (by kernel_rfl) ok103
theorem ok62:c62.ok prog 62:=Ctr.of_den l62 hmix (hl:=hints) (d:=4) func62 rfl (by decide) (e62 lpK jnK batten_pipe)
noncomputable def batten_Weight_b (_:Lp) (_:Jn) (batten_Valid:(ByteArray×Int×Int×Int×Int×(List Int)×Int×Int×Int×Int×Int×(List (ByteArray×Int×Int×Int×Int×Int×Int))×List (ByteArray×Int×Int))→Option (Bool)) (batten_weight:(ByteArray×Int×Int×Int×Int×(List Int)×Int×Int×Int×Int×Int×(List (ByteArray×Int×Int×Int×Int×Int×Int))×List (ByteArray×Int×Int))→Option (Int)) (x0:ByteArray×Int×Int×Int×Int×(List Int)×Int×Int×Int×Int×Int×(List (ByteArray×Int×Int×Int×Int×Int×Int))×List (ByteArray×Int×Int)):Option (Int×Int×Unit) :=
 obind (batten_Valid x0) fun (t:Bool)=>bif !t then some ((0:Int),(1:Int),PUnit.unit) else obind (batten_weight x0) fun (t:Int)=>some (t,(0:Int),PUnit.unit)
noncomputable def batten_Weight (x0:ByteArray×Int×Int×Int×Int×(List Int)×Int×Int×Int×Int×Int×(List (ByteArray×Int×Int×Int×Int×Int×Int))×List (ByteArray×Int×Int)):Option (Int×Int×Unit):=batten_Weight_b lpK jnK batten_Valid batten_weight x0
noncomputable def c30:Ctr:=⟨[T44],[],[],.tup [i64,i64],fun x _ _=>batten_Weight x.1⟩
theorem e30 (lp:Lp) (jn:Jn) (batten_Valid:(ByteArray×Int×Int×Int×Int×(List Int)×Int×Int×Int×Int×Int×(List (ByteArray×Int×Int×Int×Int×Int×Int))×List (ByteArray×Int×Int))→Option (Bool)) (batten_weight:(ByteArray×Int×Int×Int×Int×(List Int)×Int×Int×Int×Int×Int×(List (ByteArray×Int×Int×Int×Int×Int×Int))×List (ByteArray×Int×Int))→Option (Int)):∀(x:TsS c30.as) (F:TsF c30.fs) (y:TsS c30.cs),batten_Weight_b lp jn batten_Valid batten_weight x.1=runC lp jn (ctxOf prog shs inls its [(62,⟨[T44],[],[],.one i64,fun x _ _=>batten_weight x.1⟩),(61,⟨[T44],[],[],.one .bool,fun x _ _=>batten_Valid x.1⟩)] [(116,r116),(115,r115),(114,r114),(69,r69),(119,r119)]) hints 4 30 f30 c30 x F y:=fun x F y=>by kernel_rfl
theorem l30:(ctxOf prog shs inls its [(62,c62),(61,c61)] [(116,r116),(115,r115),(114,r114),(69,r69),(119,r119)]).ok:=ctxOf_cons (ctxOf_cons (q116) (by kernel_rfl) ok61) (by kernel_rfl) ok62
theorem ok30:c30.ok prog 30:=Ctr.of_den l30 hmix (hl:=hints) (d:=4) func30 rfl (by decide) (e30 lpK jnK batten_Valid batten_weight)
noncomputable def slices_IndexFunc_149_b (lp:Lp) (_:Jn) (x0:List (ByteArray×Int×Int)) (f0:(((ByteArray×Int×Int)×Unit)→Option Bool)):Option Int :=
 lp (Int×PUnit) Int (fun (again:Int×PUnit→Option Int) (x:Int×PUnit)=>bif decide (x.1<(↑(List.length x0):Int)) then bif inB x.1 (List.length x0) then obind (f0
  (List.getD x0 (Int.toNat x.1) ({ data:={ toList:=[] } },(0:Int),(0:Int)),PUnit.unit)) fun (t:Bool)=>bif t then some x.1 else again (IntKind.wrap .i64 (x.1 +
  (1:Int)),PUnit.unit) else none else some (-1:Int)) ((0:Int),PUnit.unit)
noncomputable def slices_IndexFunc_149 (x0:List (ByteArray×Int×Int)) (f0:(((ByteArray×Int×Int)×Unit)→Option Bool)):Option Int:=slices_IndexFunc_149_b lpK jnK x0 f0
noncomputable def c149:Ctr:=⟨[(.sl T64)],[([T64],.bool)],[],.one i64,fun x F _=>slices_IndexFunc_149 x.1 F.1⟩
theorem e149 (lp:Lp) (jn:Jn):∀(x:TsS c149.as) (F:TsF c149.fs) (y:TsS c149.cs),slices_IndexFunc_149_b lp jn x.1 F.1=runC lp jn (ctxOf prog shs inls its [] [(116,r116),(115,r115),(114,r114),(69,r69),(119,r119)]) hints 4 149 f149 c149 x F y:=fun x F y=>by kernel_rfl
theorem l149:(ctxOf prog shs inls its [] [(116,r116),(115,r115),(114,r114),(69,r69),(119,r119)]).ok:=q116
theorem ok149:c149.ok prog 149:=Ctr.of_den l149 hmix (hl:=hints) (d:=4) func149 rfl (by decide) (e149 lpK jnK)
noncomputable def slices_ContainsFunc_104_b (_:Lp) (_:Jn) (slices_IndexFunc_149:(List (ByteArray×Int×Int))→((((ByteArray×Int×Int)×Unit)→Option Bool))→Option (Int)) (x0:List (ByteArray×Int×Int)) (f0:(((ByteArray×Int×Int)×Unit)→Option Bool)):Option Bool :=
 obind (slices_IndexFunc_149 x0 f0) fun (t:Int)=>some (decide (t≥(0:Int)))
noncomputable def slices_ContainsFunc_104 (x0:List (ByteArray×Int×Int)) (f0:(((ByteArray×Int×Int)×Unit)→Option Bool)):Option Bool:=slices_ContainsFunc_104_b lpK jnK slices_IndexFunc_149 x0 f0
noncomputable def c104:Ctr:=⟨[(.sl T64)],[([T64],.bool)],[],.one .bool,fun x F _=>slices_ContainsFunc_104 x.1 F.1⟩
theorem e104 (lp:Lp) (jn:Jn) (slices_IndexFunc_149:(List (ByteArray×Int×Int))→((((ByteArray×Int×Int)×Unit)→Option Bool))→Option (Int)):∀(x:TsS c104.as) (F:TsF c104.fs) (y:TsS c104.cs),slices_ContainsFunc_104_b lp jn slices_IndexFunc_149 x.1 F.1=runC lp jn (ctxOf prog shs inls its [(149,⟨[(.sl T64)],[([T64],.bool)],[],.one i64,fun x F _=>slices_IndexFunc_149 x.1 F.1⟩)] [(116,r116),(115,r115),(114,r114),(69,r69),(119,r119)]) hints 4 104 f104 c104 x F y:=fun x F y=>by kernel_rfl
theorem l104:(ctxOf prog shs inls its [(149,c149)] [(116,r116),(115,r115),(114,r114),(69,r69),(119,r119)]).ok:=ctxOf_cons (q116) (by kernel_rfl) ok149
theorem ok104:c104.ok prog 104:=Ctr.of_den l104 hmix (hl:=hints) (d:=4) func104 rfl (by decide) (e104 lpK jnK slices_IndexFunc_149)
noncomputable def arbor_Valid_1_b (_:Lp) (_:Jn) (x0:ByteArray×Int×Int) (y0:ByteArray×Int×Int):Option Bool :=
 some (List.beq (ByteArray.toList x0.1) (ByteArray.toList y0.1))
noncomputable def arbor_Valid_1 (x0:ByteArray×Int×Int) (y0:ByteArray×Int×Int):Option Bool:=arbor_Valid_1_b lpK jnK x0 y0
noncomputable def c105:Ctr:=⟨[T64],[],[T64],.one .bool,fun x _ y=>arbor_Valid_1 x.1 y.1⟩
theorem e105 (lp:Lp) (jn:Jn):∀(x:TsS c105.as) (F:TsF c105.fs) (y:TsS c105.cs),arbor_Valid_1_b lp jn x.1 y.1=runC lp jn (ctxOf prog shs inls its [] [(116,r116),(115,r115),(114,r114),(69,r69),(119,r119)]) hints 4 105 f105 c105 x F y:=fun x F y=>by kernel_rfl
theorem l105:(ctxOf prog shs inls its [] [(116,r116),(115,r115),(114,r114),(69,r69),(119,r119)]).ok:=q116
theorem ok105:c105.ok prog 105:=Ctr.of_den l105 hmix (hl:=hints) (d:=4) func105 rfl (by decide) (e105 lpK jnK)
noncomputable def arbor_Valid_b (lp:Lp) (_:Jn) (decimal_IsName:(ByteArray)→Option (Bool)) (slices_ContainsFunc_104:(List (ByteArray×Int×Int))→((((ByteArray×Int×Int)×Unit)→Option Bool))→Option (Bool)) (arbor_Valid_1:(ByteArray×Int×Int)→(ByteArray×Int×Int)→Option (Bool)) (x0:List (ByteArray×Int×Int)):Option Bool :=
 bif decide ((↑(List.length x0):Int)>(8:Int)) then some false else lp (Int×Int×PUnit) Bool (fun (again:Int×Int×PUnit→Option Bool) (x:Int×Int×PUnit) =>
 let v5:ByteArray×Int×Int:=List.getD x0 (Int.toNat x.2.1) ({ data:={ toList:=[] } },(0:Int),(0:Int));bif decide (x.2.1<(↑(List.length x0):Int)) then bif inB
  x.2.1 (List.length x0) then obind (decimal_IsName v5.1) fun (t:Bool) =>
 let v7:Bool:=!t;
 let v8:Bool:=!v7;
 let v9:Bool:=!v8||v8;
 let v10:Bool:=bif v7 then true else decide (v5.2.1<(1:Int));
 let v11:Bool:=!v10;
 let v12:Bool:=bif v10 then true else decide (v5.2.1>(1048576:Int));
 let v13:Bool:=!v12;
 let v14:Bool:=!v11||v11;
 let v15:Bool:=bif v12 then true else decide (v5.2.2<(0:Int));
 let v16:Bool:=!v15;
 let v17:Bool:=!v13||v13;
 let v18:Bool:=!v16||v16;bif v9 then bif v9 then bif v7||v8 then bif v14 then bif v14 then bif v10||v11 then bif v17 then bif v17 then bif v12||v13 then bif v18 then bif v18
  then bif v15||v16 then bif bif v15 then true else decide (v5.2.2>(60:Int)) then some false else bif slB (0:Int) x.2.1 (List.length x0) then obind
  (slices_ContainsFunc_104 (List.drop (0:Nat) (List.take (Int.toNat x.2.1) x0)) fun (x:(ByteArray×Int×Int)×PUnit)=>arbor_Valid_1 x.1 v5) fun (t:Bool)=>bif t then
  some false else again (IntKind.wrap .i64 (x.1+v5.2.2),IntKind.wrap .i64 (x.2.1+(1:Int)),PUnit.unit) else none else none else none else none else none
  else none else none else none else none else none else none else none else none else none else some (decide (x.1≤(60:Int)))) ((0:Int),(0:Int),PUnit.unit)
noncomputable def arbor_Valid (x0:List (ByteArray×Int×Int)):Option Bool:=arbor_Valid_b lpK jnK decimal_IsName slices_ContainsFunc_104 arbor_Valid_1 x0
noncomputable def c63:Ctr:=⟨[(.sl T64)],[],[],.one .bool,fun x _ _=>arbor_Valid x.1⟩
theorem e63 (lp:Lp) (jn:Jn) (decimal_IsName:(ByteArray)→Option (Bool)) (slices_ContainsFunc_104:(List (ByteArray×Int×Int))→((((ByteArray×Int×Int)×Unit)→Option Bool))→Option (Bool)) (arbor_Valid_1:(ByteArray×Int×Int)→(ByteArray×Int×Int)→Option (Bool)):∀(x:TsS c63.as) (F:TsF c63.fs) (y:TsS c63.cs),arbor_Valid_b lp jn decimal_IsName slices_ContainsFunc_104 arbor_Valid_1 x.1=runC lp jn (ctxOf prog shs inls its [(105,⟨[T64],[],[T64],.one .bool,fun x _ y=>arbor_Valid_1 x.1 y.1⟩),(104,⟨[(.sl T64)],[([T64],.bool)],[],.one .bool,fun x F _=>slices_ContainsFunc_104 x.1 F.1⟩),(64,⟨[.str],[],[],.one .bool,fun x _ _=>decimal_IsName x.1⟩)] [(116,r116),(115,r115),(114,r114),(69,r69),(119,r119)]) hints 4 63 f63 c63 x F y:=fun x F y=>by kernel_rfl
theorem l63:(ctxOf prog shs inls its [(105,c105),(104,c104),(64,c64)] [(116,r116),(115,r115),(114,r114),(69,r69),(119,r119)]).ok:=ctxOf_cons (ctxOf_cons (ctxOf_cons (q116) (by kernel_rfl) ok64) (by kernel_rfl) ok104) (by kernel_rfl) ok105
theorem ok63:c63.ok prog 63:=Ctr.of_den l63 hmix (hl:=hints) (d:=4) func63 rfl (by decide) (e63 lpK jnK decimal_IsName slices_ContainsFunc_104 arbor_Valid_1)
noncomputable def arbor_Weight_b (lp:Lp) (_:Jn) (arbor_Valid:(List (ByteArray×Int×Int))→Option (Bool)) (x0:List (ByteArray×Int×Int)) (x1:List Int):Option (Int×Int×Unit) :=
 obind (arbor_Valid x0) fun (t:Bool)=>bif !t then some ((0:Int),(1:Int),PUnit.unit) else bif !decide ((↑(List.length x1):Int)=(↑(List.length x0):Int)) then some ((0:Int),
  (3:Int),PUnit.unit) else lp (Int×Int×PUnit) (Int×Int×PUnit) (fun (again:Int×Int×PUnit→Option (Int×Int×PUnit)) (x:Int×Int×PUnit) =>
 let v7:Bool:=inB x.2.1 (List.length x0);
 let v8:Bool:=decide (List.getD x1 (Int.toNat x.2.1) (0:Int)<(0:Int));
 let v9:Bool:=!v8;
 let v10:Bool:=!v9;
 let v11:Bool:=v10||v9;bif decide (x.2.1<(↑(List.length x1):Int)) then bif inB x.2.1 (List.length x1) then bif v11&&(v11&&(v10||v7)) then bif v11 then bif v11 then
  bif v11&&v11 then bif v8||v9 then bif bif v8 then true else decide (List.getD x1 (Int.toNat x.2.1) (0:Int)>(List.getD x0 (Int.toNat x.2.1) ({ data:={ toList:=[] } },
  (0:Int),(0:Int))).2.2) then some ((0:Int),(2:Int),PUnit.unit) else bif v7 then again (IntKind.wrap .i64 (x.1+IntKind.wrap .i64 (List.getD x1 (Int.toNat
  x.2.1) (0:Int)*(List.getD x0 (Int.toNat x.2.1) ({ data:={ toList:=[] } },(0:Int),(0:Int))).2.1)),IntKind.wrap .i64 (x.2.1+(1:Int)),PUnit.unit)
  else none else none else none else none else none else none else none else some (x.1,(0:Int),PUnit.unit)) ((0:Int),(0:Int),PUnit.unit)
noncomputable def arbor_Weight (x0:List (ByteArray×Int×Int)) (x1:List Int):Option (Int×Int×Unit):=arbor_Weight_b lpK jnK arbor_Valid x0 x1
noncomputable def c31:Ctr:=⟨[(.sl T64),(.sl i64)],[],[],.tup [i64,i64],fun x _ _=>arbor_Weight x.1 x.2.1⟩
theorem e31 (lp:Lp) (jn:Jn) (arbor_Valid:(List (ByteArray×Int×Int))→Option (Bool)):∀(x:TsS c31.as) (F:TsF c31.fs) (y:TsS c31.cs),arbor_Weight_b lp jn arbor_Valid x.1 x.2.1=runC lp jn (ctxOf prog shs inls its [(63,⟨[(.sl T64)],[],[],.one .bool,fun x _ _=>arbor_Valid x.1⟩)] [(116,r116),(115,r115),(114,r114),(69,r69),(119,r119)]) hints 4 31 f31 c31 x F y:=fun x F y=>by kernel_rfl
theorem l31:(ctxOf prog shs inls its [(63,c63)] [(116,r116),(115,r115),(114,r114),(69,r69),(119,r119)]).ok:=ctxOf_cons (q116) (by kernel_rfl) ok63
theorem ok31:c31.ok prog 31:=Ctr.of_den l31 hmix (hl:=hints) (d:=4) func31 rfl (by decide) (e31 lpK jnK arbor_Valid)
noncomputable def slices_IndexFunc_50_b (lp:Lp) (_:Jn) (x0:List (ByteArray×Int×Int×Int×Int×(List Int)×Int×Int×Int×Int×Int×(List (ByteArray×Int×Int×Int×Int×Int×Int))×List (ByteArray×Int×Int))) (f0:(((ByteArray×Int×Int×Int×Int×(List Int)×Int×Int×Int×Int×Int×(List (ByteArray×Int×Int×Int×Int×Int×Int))×List (ByteArray×Int×Int))×Unit)→Option Bool)):Option Int :=
 lp (Int×PUnit) Int (fun (again:Int×PUnit→Option Int) (x:Int×PUnit)=>bif decide (x.1<(↑(List.length x0):Int)) then bif inB x.1 (List.length x0) then obind (f0
  (List.getD x0 (Int.toNat x.1) ({ data:={ toList:=[] } },(0:Int),(0:Int),(0:Int),(0:Int),[],(0:Int),(0:Int),(0:Int),(0:Int),(0:Int),[],[]),
  PUnit.unit)) fun (t:Bool)=>bif t then some x.1 else again (IntKind.wrap .i64 (x.1+(1:Int)),PUnit.unit) else none else some (-1:Int)) ((0:Int),PUnit.unit)
noncomputable def slices_IndexFunc_50 (x0:List (ByteArray×Int×Int×Int×Int×(List Int)×Int×Int×Int×Int×Int×(List (ByteArray×Int×Int×Int×Int×Int×Int))×List (ByteArray×Int×Int))) (f0:(((ByteArray×Int×Int×Int×Int×(List Int)×Int×Int×Int×Int×Int×(List (ByteArray×Int×Int×Int×Int×Int×Int))×List (ByteArray×Int×Int))×Unit)→Option Bool)):Option Int:=slices_IndexFunc_50_b lpK jnK x0 f0
noncomputable def c50:Ctr:=⟨[(.sl T44)],[([T44],.bool)],[],.one i64,fun x F _=>slices_IndexFunc_50 x.1 F.1⟩
theorem e50 (lp:Lp) (jn:Jn):∀(x:TsS c50.as) (F:TsF c50.fs) (y:TsS c50.cs),slices_IndexFunc_50_b lp jn x.1 F.1=runC lp jn (ctxOf prog shs inls its [] [(116,r116),(115,r115),(114,r114),(69,r69),(119,r119)]) hints 4 50 f50 c50 x F y:=fun x F y=>by kernel_rfl
theorem l50:(ctxOf prog shs inls its [] [(116,r116),(115,r115),(114,r114),(69,r69),(119,r119)]).ok:=q116
theorem ok50:c50.ok prog 50:=Ctr.of_den l50 hmix (hl:=hints) (d:=4) func50 rfl (by decide) (e50 lpK jnK)
noncomputable def house_find_1_b (_:Lp) (_:Jn) (x0:ByteArray×Int×Int×Int×Int×(List Int)×Int×Int×Int×Int×Int×(List (ByteArray×Int×Int×Int×Int×Int×Int))×List (ByteArray×Int×Int)) (y0:ByteArray):Option Bool :=
 some (List.beq (ByteArray.toList x0.1) (ByteArray.toList y0))
noncomputable def house_find_1 (x0:ByteArray×Int×Int×Int×Int×(List Int)×Int×Int×Int×Int×Int×(List (ByteArray×Int×Int×Int×Int×Int×Int))×List (ByteArray×Int×Int)) (y0:ByteArray):Option Bool:=house_find_1_b lpK jnK x0 y0
noncomputable def c83:Ctr:=⟨[T44],[],[.str],.one .bool,fun x _ y=>house_find_1 x.1 y.1⟩
theorem e83 (lp:Lp) (jn:Jn):∀(x:TsS c83.as) (F:TsF c83.fs) (y:TsS c83.cs),house_find_1_b lp jn x.1 y.1=runC lp jn (ctxOf prog shs inls its [] [(116,r116),(115,r115),(114,r114),(69,r69),(119,r119)]) hints 4 83 f83 c83 x F y:=fun x F y=>by kernel_rfl
theorem l83:(ctxOf prog shs inls its [] [(116,r116),(115,r115),(114,r114),(69,r69),(119,r119)]).ok:=q116
theorem ok83:c83.ok prog 83:=Ctr.of_den l83 hmix (hl:=hints) (d:=4) func83 rfl (by decide) (e83 lpK jnK)
noncomputable def house_find_b (_:Lp) (_:Jn) (slices_IndexFunc_50:(List (ByteArray×Int×Int×Int×Int×(List Int)×Int×Int×Int×Int×Int×(List (ByteArray×Int×Int×Int×Int×Int×Int))×List (ByteArray×Int×Int)))→((((ByteArray×Int×Int×Int×Int×(List Int)×Int×Int×Int×Int×Int×(List (ByteArray×Int×Int×Int×Int×Int×Int))×List (ByteArray×Int×Int))×Unit)→Option Bool))→Option (Int)) (house_find_1:(ByteArray×Int×Int×Int×Int×(List Int)×Int×Int×Int×Int×Int×(List (ByteArray×Int×Int×Int×Int×Int×Int))×List (ByteArray×Int×Int))→(ByteArray)→Option (Bool)) (x0:ByteArray×Int×(List (ByteArray×Int×Int×Int×Int×(List Int)×Int×Int×Int×Int×Int×(List (ByteArray×Int×Int×Int×Int×Int×Int))×List (ByteArray×Int×Int)))×List (ByteArray×Int×Int×Int)) (x1:ByteArray):Option Int :=
 obind (slices_IndexFunc_50 x0.2.2.1 fun (x:(ByteArray×Int×Int×Int×Int×List Int×Int×Int×Int×Int×Int×List (ByteArray×Int×Int×Int×Int×Int×Int)×List
  (ByteArray×Int×Int))×PUnit)=>house_find_1 x.1 x1) fun (t:Int)=>some t
noncomputable def house_find (x0:ByteArray×Int×(List (ByteArray×Int×Int×Int×Int×(List Int)×Int×Int×Int×Int×Int×(List (ByteArray×Int×Int×Int×Int×Int×Int))×List (ByteArray×Int×Int)))×List (ByteArray×Int×Int×Int)) (x1:ByteArray):Option Int:=house_find_b lpK jnK slices_IndexFunc_50 house_find_1 x0 x1
noncomputable def c47:Ctr:=⟨[T25,.str],[],[],.one i64,fun x _ _=>house_find x.1 x.2.1⟩
theorem e47 (lp:Lp) (jn:Jn) (slices_IndexFunc_50:(List (ByteArray×Int×Int×Int×Int×(List Int)×Int×Int×Int×Int×Int×(List (ByteArray×Int×Int×Int×Int×Int×Int))×List (ByteArray×Int×Int)))→((((ByteArray×Int×Int×Int×Int×(List Int)×Int×Int×Int×Int×Int×(List (ByteArray×Int×Int×Int×Int×Int×Int))×List (ByteArray×Int×Int))×Unit)→Option Bool))→Option (Int)) (house_find_1:(ByteArray×Int×Int×Int×Int×(List Int)×Int×Int×Int×Int×Int×(List (ByteArray×Int×Int×Int×Int×Int×Int))×List (ByteArray×Int×Int))→(ByteArray)→Option (Bool)):∀(x:TsS c47.as) (F:TsF c47.fs) (y:TsS c47.cs),house_find_b lp jn slices_IndexFunc_50 house_find_1 x.1 x.2.1=runC lp jn (ctxOf prog shs inls its [(83,⟨[T44],[],[.str],.one .bool,fun x _ y=>house_find_1 x.1 y.1⟩),(50,⟨[(.sl T44)],[([T44],.bool)],[],.one i64,fun x F _=>slices_IndexFunc_50 x.1 F.1⟩)] [(116,r116),(115,r115),(114,r114),(69,r69),(119,r119)]) hints 4 47 f47 c47 x F y:=fun x F y=>by kernel_rfl
theorem l47:(ctxOf prog shs inls its [(83,c83),(50,c50)] [(116,r116),(115,r115),(114,r114),(69,r69),(119,r119)]).ok:=ctxOf_cons (ctxOf_cons (q116) (by kernel_rfl) ok50) (by kernel_rfl) ok83
theorem ok47:c47.ok prog 47:=Ctr.of_den l47 hmix (hl:=hints) (d:=4) func47 rfl (by decide) (e47 lpK jnK slices_IndexFunc_50 house_find_1)
noncomputable def grid_isName_b (_:Lp) (_:Jn) (decimal_IsName:(ByteArray)→Option (Bool)) (x0:ByteArray):Option Bool :=
 obind (decimal_IsName x0) fun (t:Bool)=>some t
noncomputable def grid_isName (x0:ByteArray):Option Bool:=grid_isName_b lpK jnK decimal_IsName x0
noncomputable def c108:Ctr:=⟨[.str],[],[],.one .bool,fun x _ _=>grid_isName x.1⟩
theorem e108 (lp:Lp) (jn:Jn) (decimal_IsName:(ByteArray)→Option (Bool)):∀(x:TsS c108.as) (F:TsF c108.fs) (y:TsS c108.cs),grid_isName_b lp jn decimal_IsName x.1=runC lp jn (ctxOf prog shs inls its [(64,⟨[.str],[],[],.one .bool,fun x _ _=>decimal_IsName x.1⟩)] [(116,r116),(115,r115),(114,r114),(69,r69),(119,r119)]) hints 4 108 f108 c108 x F y:=fun x F y=>by kernel_rfl
theorem l108:(ctxOf prog shs inls its [(64,c64)] [(116,r116),(115,r115),(114,r114),(69,r69),(119,r119)]).ok:=ctxOf_cons (q116) (by kernel_rfl) ok64
theorem ok108:c108.ok prog 108:=Ctr.of_den l108 hmix (hl:=hints) (d:=4) func108 rfl (by decide) (e108 lpK jnK decimal_IsName)
noncomputable def grid_within_b (_:Lp) (_:Jn) (x0:Int):Option Bool :=
 
 let v3:Bool:=decide (x0≥(0:Int));
 let v4:Bool:=!v3||v3;bif v4 then bif v4 then some (bif v3 then decide (x0≤(1048576:Int)) else false) else none else none
noncomputable def grid_within (x0:Int):Option Bool:=grid_within_b lpK jnK x0
noncomputable def c109:Ctr:=⟨[i64],[],[],.one .bool,fun x _ _=>grid_within x.1⟩
theorem e109 (lp:Lp) (jn:Jn):∀(x:TsS c109.as) (F:TsF c109.fs) (y:TsS c109.cs),grid_within_b lp jn x.1=runC lp jn (ctxOf prog shs inls its [] [(116,r116),(115,r115),(114,r114),(69,r69),(119,r119)]) hints 4 109 f109 c109 x F y:=fun x F y=>by kernel_rfl
theorem l109:(ctxOf prog shs inls its [] [(116,r116),(115,r115),(114,r114),(69,r69),(119,r119)]).ok:=q116
theorem ok109:c109.ok prog 109:=Ctr.of_den l109 hmix (hl:=hints) (d:=4) func109 rfl (by decide) (e109 lpK jnK)
noncomputable def slices_IndexFunc_151_b (lp:Lp) (_:Jn) (x0:List (ByteArray×Int×Int×Int)) (f0:(((ByteArray×Int×Int×Int)×Unit)→Option Bool)):Option Int :=
 lp (Int×PUnit) Int (fun (again:Int×PUnit→Option Int) (x:Int×PUnit)=>bif decide (x.1<(↑(List.length x0):Int)) then bif inB x.1 (List.length x0) then obind (f0
  (List.getD x0 (Int.toNat x.1) ({ data:={ toList:=[] } },(0:Int),(0:Int),(0:Int)),PUnit.unit)) fun (t:Bool)=>bif t then some x.1 else again (IntKind.wrap
  IntKind.i64 (x.1+(1:Int)),PUnit.unit) else none else some (-1:Int)) ((0:Int),PUnit.unit)
noncomputable def slices_IndexFunc_151 (x0:List (ByteArray×Int×Int×Int)) (f0:(((ByteArray×Int×Int×Int)×Unit)→Option Bool)):Option Int:=slices_IndexFunc_151_b lpK jnK x0 f0
noncomputable def c151:Ctr:=⟨[(.sl T96)],[([T96],.bool)],[],.one i64,fun x F _=>slices_IndexFunc_151 x.1 F.1⟩
theorem e151 (lp:Lp) (jn:Jn):∀(x:TsS c151.as) (F:TsF c151.fs) (y:TsS c151.cs),slices_IndexFunc_151_b lp jn x.1 F.1=runC lp jn (ctxOf prog shs inls its [] [(116,r116),(115,r115),(114,r114),(69,r69),(119,r119)]) hints 4 151 f151 c151 x F y:=fun x F y=>by kernel_rfl
theorem l151:(ctxOf prog shs inls its [] [(116,r116),(115,r115),(114,r114),(69,r69),(119,r119)]).ok:=q116
theorem ok151:c151.ok prog 151:=Ctr.of_den l151 hmix (hl:=hints) (d:=4) func151 rfl (by decide) (e151 lpK jnK)
noncomputable def slices_ContainsFunc_110_b (_:Lp) (_:Jn) (slices_IndexFunc_151:(List (ByteArray×Int×Int×Int))→((((ByteArray×Int×Int×Int)×Unit)→Option Bool))→Option (Int)) (x0:List (ByteArray×Int×Int×Int)) (f0:(((ByteArray×Int×Int×Int)×Unit)→Option Bool)):Option Bool :=
 obind (slices_IndexFunc_151 x0 f0) fun (t:Int)=>some (decide (t≥(0:Int)))
noncomputable def slices_ContainsFunc_110 (x0:List (ByteArray×Int×Int×Int)) (f0:(((ByteArray×Int×Int×Int)×Unit)→Option Bool)):Option Bool:=slices_ContainsFunc_110_b lpK jnK slices_IndexFunc_151 x0 f0
noncomputable def c110:Ctr:=⟨[(.sl T96)],[([T96],.bool)],[],.one .bool,fun x F _=>slices_ContainsFunc_110 x.1 F.1⟩
theorem e110 (lp:Lp) (jn:Jn) (slices_IndexFunc_151:(List (ByteArray×Int×Int×Int))→((((ByteArray×Int×Int×Int)×Unit)→Option Bool))→Option (Int)):∀(x:TsS c110.as) (F:TsF c110.fs) (y:TsS c110.cs),slices_ContainsFunc_110_b lp jn slices_IndexFunc_151 x.1 F.1=runC lp jn (ctxOf prog shs inls its [(151,⟨[(.sl T96)],[([T96],.bool)],[],.one i64,fun x F _=>slices_IndexFunc_151 x.1 F.1⟩)] [(116,r116),(115,r115),(114,r114),(69,r69),(119,r119)]) hints 4 110 f110 c110 x F y:=fun x F y=>by kernel_rfl
theorem l110:(ctxOf prog shs inls its [(151,c151)] [(116,r116),(115,r115),(114,r114),(69,r69),(119,r119)]).ok:=ctxOf_cons (q116) (by kernel_rfl) ok151
theorem ok110:c110.ok prog 110:=Ctr.of_den l110 hmix (hl:=hints) (d:=4) func110 rfl (by decide) (e110 lpK jnK slices_IndexFunc_151)
noncomputable def grid_Valid_1_b (_:Lp) (_:Jn) (x0:ByteArray×Int×Int×Int) (y0:ByteArray×Int×Int×Int):Option Bool :=
 some (List.beq (ByteArray.toList x0.1) (ByteArray.toList y0.1))
noncomputable def grid_Valid_1 (x0:ByteArray×Int×Int×Int) (y0:ByteArray×Int×Int×Int):Option Bool:=grid_Valid_1_b lpK jnK x0 y0
noncomputable def c111:Ctr:=⟨[T96],[],[T96],.one .bool,fun x _ y=>grid_Valid_1 x.1 y.1⟩
theorem e111 (lp:Lp) (jn:Jn):∀(x:TsS c111.as) (F:TsF c111.fs) (y:TsS c111.cs),grid_Valid_1_b lp jn x.1 y.1=runC lp jn (ctxOf prog shs inls its [] [(116,r116),(115,r115),(114,r114),(69,r69),(119,r119)]) hints 4 111 f111 c111 x F y:=fun x F y=>by kernel_rfl
theorem l111:(ctxOf prog shs inls its [] [(116,r116),(115,r115),(114,r114),(69,r69),(119,r119)]).ok:=q116
theorem ok111:c111.ok prog 111:=Ctr.of_den l111 hmix (hl:=hints) (d:=4) func111 rfl (by decide) (e111 lpK jnK)
noncomputable def grid_Valid_b (lp:Lp) (_:Jn) (grid_isName:(ByteArray)→Option (Bool)) (grid_within:(Int)→Option (Bool)) (slices_ContainsFunc_110:(List (ByteArray×Int×Int×Int))→((((ByteArray×Int×Int×Int)×Unit)→Option Bool))→Option (Bool)) (grid_Valid_1:(ByteArray×Int×Int×Int)→(ByteArray×Int×Int×Int)→Option (Bool)) (x0:List (ByteArray×Int×Int×Int)):Option Bool :=
 bif decide ((↑(List.length x0):Int)>(20:Int)) then some false else lp (Int×PUnit) Bool (fun (again:Int×PUnit→Option Bool) (x:Int×PUnit) =>
 let v5:ByteArray×Int×Int×Int:=List.getD x0 (Int.toNat x.1) ({ data:={ toList:=[] } },(0:Int),(0:Int),(0:Int));bif decide (x.1<(↑(List.length x0):Int)) then
  bif inB x.1 (List.length x0) then obind (grid_isName v5.1) fun (t:Bool) =>
 let v7:Bool:=!t;
 let v8:Bool:=!v7;
 let v9:Bool:=!v8||v8;bif v9 then bif v9 then obind (bif v8 then grid_within v5.2.1 else some false) fun (t:Bool) =>
 let v11:Bool:=bif v7 then true else !t;
 let v12:Bool:=!v11;
 let v13:Bool:=!v12||v12;bif v9 then bif v7||v8 then bif v13 then bif v13 then obind (bif v12 then grid_within v5.2.2.1 else some false) fun (t:Bool) =>
 let v15:Bool:=bif v11 then true else !t;
 let v16:Bool:=!v15;
 let v17:Bool:=!v16||v16;
 let v18:Bool:=bif v15 then true else decide (v5.2.1>v5.2.2.1);
 let v19:Bool:=!v18;
 let v20:Bool:=bif v18 then true else decide (v5.2.2.2<(0:Int));
 let v21:Bool:=!v20;
 let v22:Bool:=!v19||v19;
 let v23:Bool:=!v21||v21;bif v13 then bif v11||v12 then bif v17 then bif v17 then bif v17&&v17 then bif v15||v16 then bif v22 then bif v22 then bif v18||v19 then bif v23
  then bif v23 then bif v20||v21 then bif bif v20 then true else decide (v5.2.2.2>(67108864:Int)) then some false else bif slB (0:Int) x.1 (List.length x0) then obind
  (slices_ContainsFunc_110 (List.drop (0:Nat) (List.take (Int.toNat x.1) x0)) fun (x:(ByteArray×Int×Int×Int)×PUnit)=>grid_Valid_1 x.1 v5) fun (t:Bool)=>bif t then
  some false else again (IntKind.wrap .i64 (x.1+(1:Int)),PUnit.unit) else none else none else none else none else none else none else none else none else none else none else
  none else none else none else none else none else none else none else none else none else none else some true) ((0:Int),PUnit.unit)
noncomputable def grid_Valid (x0:List (ByteArray×Int×Int×Int)):Option Bool:=grid_Valid_b lpK jnK grid_isName grid_within slices_ContainsFunc_110 grid_Valid_1 x0
noncomputable def c65:Ctr:=⟨[(.sl T96)],[],[],.one .bool,fun x _ _=>grid_Valid x.1⟩
theorem e65 (lp:Lp) (jn:Jn) (grid_isName:(ByteArray)→Option (Bool)) (grid_within:(Int)→Option (Bool)) (slices_ContainsFunc_110:(List (ByteArray×Int×Int×Int))→((((ByteArray×Int×Int×Int)×Unit)→Option Bool))→Option (Bool)) (grid_Valid_1:(ByteArray×Int×Int×Int)→(ByteArray×Int×Int×Int)→Option (Bool)):∀(x:TsS c65.as) (F:TsF c65.fs) (y:TsS c65.cs),grid_Valid_b lp jn grid_isName grid_within slices_ContainsFunc_110 grid_Valid_1 x.1=runC lp jn (ctxOf prog shs inls its [(111,⟨[T96],[],[T96],.one .bool,fun x _ y=>grid_Valid_1 x.1 y.1⟩),(110,⟨[(.sl T96)],[([T96],.bool)],[],.one .bool,fun x F _=>slices_ContainsFunc_110 x.1 F.1⟩),(109,⟨[i64],[],[],.one .bool,fun x _ _=>grid_within x.1⟩),(108,⟨[.str],[],[],.one .bool,fun x _ _=>grid_isName x.1⟩)] [(116,r116),(115,r115),(114,r114),(69,r69),(119,r119)]) hints 4 65 f65 c65 x F y:=fun x F y=>by kernel_rfl
theorem l65:(ctxOf prog shs inls its [(111,c111),(110,c110),(109,c109),(108,c108)] [(116,r116),(115,r115),(114,r114),(69,r69),(119,r119)]).ok:=ctxOf_cons (ctxOf_cons (ctxOf_cons (ctxOf_cons (q116) (by kernel_rfl) ok108) (by kernel_rfl) ok109) (by kernel_rfl) ok110) (by kernel_rfl) ok111
theorem ok65:c65.ok prog 65:=Ctr.of_den l65 hmix (hl:=hints) (d:=4) func65 rfl (by decide) (e65 lpK jnK grid_isName grid_within slices_ContainsFunc_110 grid_Valid_1)
noncomputable def house_Valid_b (lp:Lp) (_:Jn) (decimal_IsName:(ByteArray)→Option (Bool)) (batten_Valid:(ByteArray×Int×Int×Int×Int×(List Int)×Int×Int×Int×Int×Int×(List (ByteArray×Int×Int×Int×Int×Int×Int))×List (ByteArray×Int×Int))→Option (Bool)) (house_find:(ByteArray×Int×(List (ByteArray×Int×Int×Int×Int×(List Int)×Int×Int×Int×Int×Int×(List (ByteArray×Int×Int×Int×Int×Int×Int))×List (ByteArray×Int×Int)))×List (ByteArray×Int×Int×Int))→(ByteArray)→Option (Int)) (grid_Valid:(List (ByteArray×Int×Int×Int))→Option (Bool)) (x0:ByteArray×Int×(List (ByteArray×Int×Int×Int×Int×(List Int)×Int×Int×Int×Int×Int×(List (ByteArray×Int×Int×Int×Int×Int×Int))×List (ByteArray×Int×Int)))×List (ByteArray×Int×Int×Int)):Option Bool :=
 
 let v3:Bool:=decide (x0.2.1<(1:Int));
 let v4:Bool:=decide (x0.2.1>(1048576:Int));
 let v5:Bool:=decide ((↑(List.length x0.2.2.1):Int)>(60:Int));obind (decimal_IsName x0.1) fun (t:Bool) =>
 let v7:Bool:=!t;
 let v8:Bool:=!v7;
 let v9:Bool:=bif v7 then true else v3;
 let v10:Bool:=!v9;
 let v11:Bool:=!v8||v8;
 let v12:Bool:=bif v9 then true else v4;
 let v13:Bool:=!v12;
 let v14:Bool:=bif v12 then true else v5;
 let v15:Bool:=!v14;
 let v16:Bool:=!v10||v10;
 let v17:Bool:=!v13||v13;
 let v18:Bool:=!v15||v15;bif v11 then bif v11 then bif v7||v8 then bif v16 then bif v16 then bif v9||v10 then bif v17 then bif v17 then bif v17 then bif v12||v13 then bif v18
  then bif v18 then obind (bif v15 then grid_Valid x0.2.2.2 else some false) fun (t:Bool)=>bif v18 then bif v14||v15 then bif bif v14 then true else !t then some false else lp
  (Int×PUnit) Bool (fun (again:Int×PUnit→Option Bool) (x:Int×PUnit) =>
 let v22:ByteArray×Int×Int×Int×Int×List Int×Int×Int×Int×Int×Int×List (ByteArray×Int×Int×Int×Int×Int×Int)×List (ByteArray×Int×Int):=List.getD
  x0.2.2.1 (Int.toNat x.1) ({ data:={ toList:=[] } },(0:Int),(0:Int),(0:Int),(0:Int),[],(0:Int),(0:Int),(0:Int),(0:Int),(0:Int),[],[]);
 let v23:Bool:=decide (v22.2.2.2.1>x0.2.1);bif decide (x.1<(↑(List.length x0.2.2.1):Int)) then bif inB x.1 (List.length x0.2.2.1) then obind
  (batten_Valid v22) fun (t:Bool) =>
 let v25:Bool:=!t;
 let v26:Bool:=!v25;
 let v27:Bool:=bif v25 then true else v23;
 let v28:Bool:=!v27;
 let v29:Bool:=!v26||v26;
 let v30:Bool:=!v28||v28;
 let v31:Bool:=v30&&v30;bif v29 then bif v29 then bif v29&&v29 then bif v25||v26 then bif v30 then bif v31 then obind (bif v28 then house_find x0 v22.1 else some (0:Int))
  fun (t:Int)=>bif v31 then bif v27||v28 then bif bif v27 then true else !decide (t=x.1) then some false else again (IntKind.wrap .i64 (x.1+(1:Int)),PUnit.unit)
  else none else none else none else none else none else none else none else none else none else some true) ((0:Int),PUnit.unit) else none else none else none else none else none else
  none else none else none else none else none else none else none else none else none
noncomputable def house_Valid (x0:ByteArray×Int×(List (ByteArray×Int×Int×Int×Int×(List Int)×Int×Int×Int×Int×Int×(List (ByteArray×Int×Int×Int×Int×Int×Int))×List (ByteArray×Int×Int)))×List (ByteArray×Int×Int×Int)):Option Bool:=house_Valid_b lpK jnK decimal_IsName batten_Valid house_find grid_Valid x0
noncomputable def c32:Ctr:=⟨[T25],[],[],.one .bool,fun x _ _=>house_Valid x.1⟩
theorem e32 (lp:Lp) (jn:Jn) (decimal_IsName:(ByteArray)→Option (Bool)) (batten_Valid:(ByteArray×Int×Int×Int×Int×(List Int)×Int×Int×Int×Int×Int×(List (ByteArray×Int×Int×Int×Int×Int×Int))×List (ByteArray×Int×Int))→Option (Bool)) (house_find:(ByteArray×Int×(List (ByteArray×Int×Int×Int×Int×(List Int)×Int×Int×Int×Int×Int×(List (ByteArray×Int×Int×Int×Int×Int×Int))×List (ByteArray×Int×Int)))×List (ByteArray×Int×Int×Int))→(ByteArray)→Option (Int)) (grid_Valid:(List (ByteArray×Int×Int×Int))→Option (Bool)):∀(x:TsS c32.as) (F:TsF c32.fs) (y:TsS c32.cs),house_Valid_b lp jn decimal_IsName batten_Valid house_find grid_Valid x.1=runC lp jn (ctxOf prog shs inls its [(65,⟨[(.sl T96)],[],[],.one .bool,fun x _ _=>grid_Valid x.1⟩),(47,⟨[T25,.str],[],[],.one i64,fun x _ _=>house_find x.1 x.2.1⟩),(61,⟨[T44],[],[],.one .bool,fun x _ _=>batten_Valid x.1⟩),(64,⟨[.str],[],[],.one .bool,fun x _ _=>decimal_IsName x.1⟩)] [(116,r116),(115,r115),(114,r114),(69,r69),(119,r119)]) hints 4 32 f32 c32 x F y:=fun x F y=>by kernel_rfl
theorem l32:(ctxOf prog shs inls its [(65,c65),(47,c47),(61,c61),(64,c64)] [(116,r116),(115,r115),(114,r114),(69,r69),(119,r119)]).ok:=ctxOf_cons (ctxOf_cons (ctxOf_cons (ctxOf_cons (q116) (by kernel_rfl) ok64) (by kernel_rfl) ok61) (by kernel_rfl) ok47) (by kernel_rfl) ok65
theorem ok32:c32.ok prog 32:=Ctr.of_den l32 hmix (hl:=hints) (d:=4) func32 rfl (by decide) (e32 lpK jnK decimal_IsName batten_Valid house_find grid_Valid)
noncomputable def slices_IndexFunc_152_b (lp:Lp) (_:Jn) (x0:List (Int×Int)) (f0:(((Int×Int)×Unit)→Option Bool)):Option Int :=
 lp (Int×PUnit) Int (fun (again:Int×PUnit→Option Int) (x:Int×PUnit)=>bif decide (x.1<(↑(List.length x0):Int)) then bif inB x.1 (List.length x0) then obind (f0
  (List.getD x0 (Int.toNat x.1) ((0:Int),(0:Int)),PUnit.unit)) fun (t:Bool)=>bif t then some x.1 else again (IntKind.wrap .i64 (x.1+(1:Int)),PUnit.unit) else
  none else some (-1:Int)) ((0:Int),PUnit.unit)
noncomputable def slices_IndexFunc_152 (x0:List (Int×Int)) (f0:(((Int×Int)×Unit)→Option Bool)):Option Int:=slices_IndexFunc_152_b lpK jnK x0 f0
noncomputable def c152:Ctr:=⟨[(.sl T78)],[([T78],.bool)],[],.one i64,fun x F _=>slices_IndexFunc_152 x.1 F.1⟩
theorem e152 (lp:Lp) (jn:Jn):∀(x:TsS c152.as) (F:TsF c152.fs) (y:TsS c152.cs),slices_IndexFunc_152_b lp jn x.1 F.1=runC lp jn (ctxOf prog shs inls its [] [(116,r116),(115,r115),(114,r114),(69,r69),(119,r119)]) hints 4 152 f152 c152 x F y:=fun x F y=>by kernel_rfl
theorem l152:(ctxOf prog shs inls its [] [(116,r116),(115,r115),(114,r114),(69,r69),(119,r119)]).ok:=q116
theorem ok152:c152.ok prog 152:=Ctr.of_den l152 hmix (hl:=hints) (d:=4) func152 rfl (by decide) (e152 lpK jnK)
noncomputable def slices_ContainsFunc_117_b (_:Lp) (_:Jn) (slices_IndexFunc_152:(List (Int×Int))→((((Int×Int)×Unit)→Option Bool))→Option (Int)) (x0:List (Int×Int)) (f0:(((Int×Int)×Unit)→Option Bool)):Option Bool :=
 obind (slices_IndexFunc_152 x0 f0) fun (t:Int)=>some (decide (t≥(0:Int)))
noncomputable def slices_ContainsFunc_117 (x0:List (Int×Int)) (f0:(((Int×Int)×Unit)→Option Bool)):Option Bool:=slices_ContainsFunc_117_b lpK jnK slices_IndexFunc_152 x0 f0
noncomputable def c117:Ctr:=⟨[(.sl T78)],[([T78],.bool)],[],.one .bool,fun x F _=>slices_ContainsFunc_117 x.1 F.1⟩
theorem e117 (lp:Lp) (jn:Jn) (slices_IndexFunc_152:(List (Int×Int))→((((Int×Int)×Unit)→Option Bool))→Option (Int)):∀(x:TsS c117.as) (F:TsF c117.fs) (y:TsS c117.cs),slices_ContainsFunc_117_b lp jn slices_IndexFunc_152 x.1 F.1=runC lp jn (ctxOf prog shs inls its [(152,⟨[(.sl T78)],[([T78],.bool)],[],.one i64,fun x F _=>slices_IndexFunc_152 x.1 F.1⟩)] [(116,r116),(115,r115),(114,r114),(69,r69),(119,r119)]) hints 4 117 f117 c117 x F y:=fun x F y=>by kernel_rfl
theorem l117:(ctxOf prog shs inls its [(152,c152)] [(116,r116),(115,r115),(114,r114),(69,r69),(119,r119)]).ok:=ctxOf_cons (q116) (by kernel_rfl) ok152
theorem ok117:c117.ok prog 117:=Ctr.of_den l117 hmix (hl:=hints) (d:=4) func117 rfl (by decide) (e117 lpK jnK slices_IndexFunc_152)
noncomputable def grid_given_1_b (_:Lp) (_:Jn) (grid_within:(Int)→Option (Bool)) (x0:Int×Int):Option Bool :=
 obind (grid_within x0.1) fun (t:Bool) =>
 let v4:Bool:=!t;
 let v5:Bool:=!v4;
 let v6:Bool:=!v5||v5;
 let v7:Bool:=bif v4 then true else decide (x0.2<(0:Int));
 let v8:Bool:=!v7;
 let v9:Bool:=!v8||v8;bif v6 then bif v6 then bif v4||v5 then bif v9 then bif v9 then bif v7||v8 then some (bif v7 then true else decide (x0.2>(67108864:Int))) else none
  else none else none else none else none else none
noncomputable def grid_given_1 (x0:Int×Int):Option Bool:=grid_given_1_b lpK jnK grid_within x0
noncomputable def c118:Ctr:=⟨[T78],[],[],.one .bool,fun x _ _=>grid_given_1 x.1⟩
theorem e118 (lp:Lp) (jn:Jn) (grid_within:(Int)→Option (Bool)):∀(x:TsS c118.as) (F:TsF c118.fs) (y:TsS c118.cs),grid_given_1_b lp jn grid_within x.1=runC lp jn (ctxOf prog shs inls its [(109,⟨[i64],[],[],.one .bool,fun x _ _=>grid_within x.1⟩)] [(116,r116),(115,r115),(114,r114),(69,r69),(119,r119)]) hints 4 118 f118 c118 x F y:=fun x F y=>by kernel_rfl
theorem l118:(ctxOf prog shs inls its [(109,c109)] [(116,r116),(115,r115),(114,r114),(69,r69),(119,r119)]).ok:=ctxOf_cons (q116) (by kernel_rfl) ok109
theorem ok118:c118.ok prog 118:=Ctr.of_den l118 hmix (hl:=hints) (d:=4) func118 rfl (by decide) (e118 lpK jnK grid_within)
noncomputable def grid_given_b (_:Lp) (_:Jn) (grid_Valid:(List (ByteArray×Int×Int×Int))→Option (Bool)) (slices_ContainsFunc_117:(List (Int×Int))→((((Int×Int)×Unit)→Option Bool))→Option (Bool)) (grid_given_1:(Int×Int)→Option (Bool)) (x0:List (ByteArray×Int×Int×Int)) (x1:List (Int×Int)):Option Int :=
 
 let v4:Bool:=decide ((↑(List.length x1):Int)>(1000:Int));obind (grid_Valid x0) fun (t:Bool) =>
 let v6:Bool:=!t;
 let v7:Bool:=!v6;
 let v8:Bool:=bif v6 then true else v4;
 let v9:Bool:=!v8;
 let v10:Bool:=!v7||v7;bif v10 then bif v10 then bif v6||v7 then bif !v9||v9 then obind (bif v9 then slices_ContainsFunc_117 x1 fun (x:(Int×Int)×PUnit)=>grid_given_1
  x.1 else some false) fun (t:Bool)=>bif v8||v9 then bif bif v8 then true else t then some (1:Int) else some (0:Int) else none else none else none else none else none
noncomputable def grid_given (x0:List (ByteArray×Int×Int×Int)) (x1:List (Int×Int)):Option Int:=grid_given_b lpK jnK grid_Valid slices_ContainsFunc_117 grid_given_1 x0 x1
noncomputable def c72:Ctr:=⟨[(.sl T96),(.sl T78)],[],[],.one i64,fun x _ _=>grid_given x.1 x.2.1⟩
theorem e72 (lp:Lp) (jn:Jn) (grid_Valid:(List (ByteArray×Int×Int×Int))→Option (Bool)) (slices_ContainsFunc_117:(List (Int×Int))→((((Int×Int)×Unit)→Option Bool))→Option (Bool)) (grid_given_1:(Int×Int)→Option (Bool)):∀(x:TsS c72.as) (F:TsF c72.fs) (y:TsS c72.cs),grid_given_b lp jn grid_Valid slices_ContainsFunc_117 grid_given_1 x.1 x.2.1=runC lp jn (ctxOf prog shs inls its [(118,⟨[T78],[],[],.one .bool,fun x _ _=>grid_given_1 x.1⟩),(117,⟨[(.sl T78)],[([T78],.bool)],[],.one .bool,fun x F _=>slices_ContainsFunc_117 x.1 F.1⟩),(65,⟨[(.sl T96)],[],[],.one .bool,fun x _ _=>grid_Valid x.1⟩)] [(116,r116),(115,r115),(114,r114),(69,r69),(119,r119)]) hints 4 72 f72 c72 x F y:=fun x F y=>by kernel_rfl
theorem l72:(ctxOf prog shs inls its [(118,c118),(117,c117),(65,c65)] [(116,r116),(115,r115),(114,r114),(69,r69),(119,r119)]).ok:=ctxOf_cons (ctxOf_cons (ctxOf_cons (q116) (by kernel_rfl) ok65) (by kernel_rfl) ok117) (by kernel_rfl) ok118
theorem ok72:c72.ok prog 72:=Ctr.of_den l72 hmix (hl:=hints) (d:=4) func72 rfl (by decide) (e72 lpK jnK grid_Valid slices_ContainsFunc_117 grid_given_1)
noncomputable def ratio_gcd_b (lp:Lp) (_:Jn) (x0:Int) (x1:Int):Option Int :=
 lp (Int×Int×PUnit) Int (fun (again:Int×Int×PUnit→Option Int) (x:Int×Int×PUnit)=>bif !decide (x.2.1=(0:Int)) then bif nzB x.2.1 then again (x.2.1,
  Int.tmod x.1 x.2.1,PUnit.unit) else none else some x.1) (x0,x1,PUnit.unit)
noncomputable def ratio_gcd (x0:Int) (x1:Int):Option Int:=ratio_gcd_b lpK jnK x0 x1
noncomputable def c91:Ctr:=⟨[(.int .u64),(.int .u64)],[],[],.one (.int .u64),fun x _ _=>ratio_gcd x.1 x.2.1⟩
theorem e91 (lp:Lp) (jn:Jn):∀(x:TsS c91.as) (F:TsF c91.fs) (y:TsS c91.cs),ratio_gcd_b lp jn x.1 x.2.1=runC lp jn (ctxOf prog shs inls its [] [(116,r116),(115,r115),(114,r114),(69,r69),(119,r119)]) hints 4 91 f91 c91 x F y:=fun x F y=>by kernel_rfl
theorem l91:(ctxOf prog shs inls its [] [(116,r116),(115,r115),(114,r114),(69,r69),(119,r119)]).ok:=q116
theorem ok91:c91.ok prog 91:=Ctr.of_den l91 hmix (hl:=hints) (d:=4) func91 rfl (by decide) (e91 lpK jnK)
noncomputable def ratio_size_b (_:Lp) (_:Jn) (x0:Int):Option Int :=
 
 let v3:Int:=IntKind.wrap .u64 x0;bif decide (x0<(0:Int)) then some (IntKind.wrap .u64 ((0:Int) - v3)) else some v3
noncomputable def ratio_size (x0:Int):Option Int:=ratio_size_b lpK jnK x0
noncomputable def c92:Ctr:=⟨[i64],[],[],.one (.int .u64),fun x _ _=>ratio_size x.1⟩
theorem e92 (lp:Lp) (jn:Jn):∀(x:TsS c92.as) (F:TsF c92.fs) (y:TsS c92.cs),ratio_size_b lp jn x.1=runC lp jn (ctxOf prog shs inls its [] [(116,r116),(115,r115),(114,r114),(69,r69),(119,r119)]) hints 4 92 f92 c92 x F y:=fun x F y=>by kernel_rfl
theorem l92:(ctxOf prog shs inls its [] [(116,r116),(115,r115),(114,r114),(69,r69),(119,r119)]).ok:=q116
theorem ok92:c92.ok prog 92:=Ctr.of_den l92 hmix (hl:=hints) (d:=4) func92 rfl (by decide) (e92 lpK jnK)
noncomputable def ratio_Valid_b (_:Lp) (_:Jn) (ratio_gcd:(Int)→(Int)→Option (Int)) (ratio_size:(Int)→Option (Int)) (x0:Int×Int):Option Bool :=
 
 let v3:Bool:=decide (x0.2≥(1:Int));
 let v4:Bool:=!v3||v3;
 let v5:Bool:=bif v3 then decide (x0.2≤(1152921504606846976:Int)) else false;
 let v6:Bool:=bif v5 then decide (x0.1≥(-1152921504606846976:Int)) else false;
 let v7:Bool:=!v5||v5;
 let v8:Bool:=bif v6 then decide (x0.1≤(1152921504606846976:Int)) else false;
 let v9:Bool:=!v6||v6;
 let v10:Bool:=!v8||v8;bif v4 then bif v4 then bif v4 then bif v7 then bif v7 then bif v7 then bif v9 then bif v9 then bif v9 then bif v10 then bif v10 then obind (bif v8 then
  ratio_size x0.1 else some (0:Int)) fun (t:Int)=>bif v10 then bif v10 then bif v10&&v10 then obind (bif v8 then ratio_gcd t (IntKind.wrap .u64 x0.2) else some (0 :
  Int)) fun (t:Int)=>bif v10 then bif v10 then some (bif v8 then decide (t=(1:Int)) else false) else none else none else none else none else none else none else none else none
  else none else none else none else none else none else none else none else none
noncomputable def ratio_Valid (x0:Int×Int):Option Bool:=ratio_Valid_b lpK jnK ratio_gcd ratio_size x0
noncomputable def c59:Ctr:=⟨[T36],[],[],.one .bool,fun x _ _=>ratio_Valid x.1⟩
theorem e59 (lp:Lp) (jn:Jn) (ratio_gcd:(Int)→(Int)→Option (Int)) (ratio_size:(Int)→Option (Int)):∀(x:TsS c59.as) (F:TsF c59.fs) (y:TsS c59.cs),ratio_Valid_b lp jn ratio_gcd ratio_size x.1=runC lp jn (ctxOf prog shs inls its [(92,⟨[i64],[],[],.one (.int .u64),fun x _ _=>ratio_size x.1⟩),(91,⟨[(.int .u64),(.int .u64)],[],[],.one (.int .u64),fun x _ _=>ratio_gcd x.1 x.2.1⟩)] [(116,r116),(115,r115),(114,r114),(69,r69),(119,r119)]) hints 4 59 f59 c59 x F y:=fun x F y=>by kernel_rfl
theorem l59:(ctxOf prog shs inls its [(92,c92),(91,c91)] [(116,r116),(115,r115),(114,r114),(69,r69),(119,r119)]).ok:=ctxOf_cons (ctxOf_cons (q116) (by kernel_rfl) ok91) (by kernel_rfl) ok92
theorem ok59:c59.ok prog 59:=Ctr.of_den l59 hmix (hl:=hints) (d:=4) func59 rfl (by decide) (e59 lpK jnK ratio_gcd ratio_size)
noncomputable def ratio_product_b (_:Lp) (_:Jn) (bits_Mul64:(Int)→(Int)→Option (Int×Int×Unit)) (x0:Int) (x1:Int):Option (Int×Int) :=
 obind (bits_Mul64 x0 x1) fun (t:Int×Int×PUnit)=>some (t.1,t.2.1)
noncomputable def ratio_product (x0:Int) (x1:Int):Option (Int×Int):=ratio_product_b lpK jnK bits_Mul64 x0 x1
noncomputable def c93:Ctr:=⟨[(.int .u64),(.int .u64)],[],[],.one T118,fun x _ _=>ratio_product x.1 x.2.1⟩
theorem e93 (lp:Lp) (jn:Jn) (bits_Mul64:(Int)→(Int)→Option (Int×Int×Unit)):∀(x:TsS c93.as) (F:TsF c93.fs) (y:TsS c93.cs),ratio_product_b lp jn bits_Mul64 x.1 x.2.1=runC lp jn (ctxOf prog shs inls its [(136,⟨[(.int .u64),(.int .u64)],[],[],.tup [(.int .u64),(.int .u64)],fun x _ _=>bits_Mul64 x.1 x.2.1⟩)] [(116,r116),(115,r115),(114,r114),(69,r69),(119,r119)]) hints 4 93 f93 c93 x F y:=fun x F y=>by kernel_rfl
theorem l93:(ctxOf prog shs inls its [(136,c136)] [(116,r116),(115,r115),(114,r114),(69,r69),(119,r119)]).ok:=ctxOf_cons (q116) (by kernel_rfl) ok136
theorem ok93:c93.ok prog 93:=Ctr.of_den l93 hmix (hl:=hints) (d:=4) func93 rfl (by decide) (e93 lpK jnK bits_Mul64)
noncomputable def ratio_plus_b (_:Lp) (_:Jn) (x0:Int×Int) (x1:Int×Int):Option (Int×Int) :=
 bif decide ((0:Int)≤(0:Int))&&decide ((0:Int)≤(1:Int)) then bif decide ((0:Int)≤addC x0.2 x1.2 (0:Int))&&decide (addC x0.2 x1.2 (0:Int)≤(1:Int)) then
  some (addO x0.1 x1.1 (addC x0.2 x1.2 (0:Int)),addO x0.2 x1.2 (0:Int)) else none else none
noncomputable def ratio_plus (x0:Int×Int) (x1:Int×Int):Option (Int×Int):=ratio_plus_b lpK jnK x0 x1
noncomputable def c94:Ctr:=⟨[T118,T118],[],[],.one T118,fun x _ _=>ratio_plus x.1 x.2.1⟩
theorem e94 (lp:Lp) (jn:Jn):∀(x:TsS c94.as) (F:TsF c94.fs) (y:TsS c94.cs),ratio_plus_b lp jn x.1 x.2.1=runC lp jn (ctxOf prog shs inls its [] [(116,r116),(115,r115),(114,r114),(69,r69),(119,r119)]) hints 4 94 f94 c94 x F y:=fun x F y=>by kernel_rfl
theorem l94:(ctxOf prog shs inls its [] [(116,r116),(115,r115),(114,r114),(69,r69),(119,r119)]).ok:=q116
theorem ok94:c94.ok prog 94:=Ctr.of_den l94 hmix (hl:=hints) (d:=4) func94 rfl (by decide) (e94 lpK jnK)
noncomputable def ratio_less_b (_:Lp) (_:Jn) (x0:Int×Int) (x1:Int×Int):Option Bool :=
 
 let v4:Bool:=decide (x0.1=x1.1);
 let v5:Bool:=decide (x0.1<x1.1);
 let v6:Bool:=!v5;
 let v7:Bool:=!v6;
 let v8:Bool:=v6&&v4;
 let v9:Bool:=v7||v6;
 let v10:Bool:=!v8||v8;bif v9 then bif v9 then bif v9&&v9 then bif v9 then bif v10 then bif v10 then bif v10&&v10 then bif (v7||v9)&&(v7||(!v4||(v7||v8))) then bif v5
  || v6 then some (bif v5 then true else bif v4 then decide (x0.2<x1.2) else false) else none else none else none else none else none else none else none else none else none
noncomputable def ratio_less (x0:Int×Int) (x1:Int×Int):Option Bool:=ratio_less_b lpK jnK x0 x1
noncomputable def c95:Ctr:=⟨[T118,T118],[],[],.one .bool,fun x _ _=>ratio_less x.1 x.2.1⟩
theorem e95 (lp:Lp) (jn:Jn):∀(x:TsS c95.as) (F:TsF c95.fs) (y:TsS c95.cs),ratio_less_b lp jn x.1 x.2.1=runC lp jn (ctxOf prog shs inls its [] [(116,r116),(115,r115),(114,r114),(69,r69),(119,r119)]) hints 4 95 f95 c95 x F y:=fun x F y=>by kernel_rfl
theorem l95:(ctxOf prog shs inls its [] [(116,r116),(115,r115),(114,r114),(69,r69),(119,r119)]).ok:=q116
theorem ok95:c95.ok prog 95:=Ctr.of_den l95 hmix (hl:=hints) (d:=4) func95 rfl (by decide) (e95 lpK jnK)
noncomputable def ratio_minus_b (_:Lp) (_:Jn) (x0:Int×Int) (x1:Int×Int):Option (Int×Int) :=
 bif decide ((0:Int)≤(0:Int))&&decide ((0:Int)≤(1:Int)) then bif decide ((0:Int)≤subC x0.2 x1.2 (0:Int))&&decide (subC x0.2 x1.2 (0:Int)≤(1:Int)) then
  some (subO x0.1 x1.1 (subC x0.2 x1.2 (0:Int)),subO x0.2 x1.2 (0:Int)) else none else none
noncomputable def ratio_minus (x0:Int×Int) (x1:Int×Int):Option (Int×Int):=ratio_minus_b lpK jnK x0 x1
noncomputable def c96:Ctr:=⟨[T118,T118],[],[],.one T118,fun x _ _=>ratio_minus x.1 x.2.1⟩
theorem e96 (lp:Lp) (jn:Jn):∀(x:TsS c96.as) (F:TsF c96.fs) (y:TsS c96.cs),ratio_minus_b lp jn x.1 x.2.1=runC lp jn (ctxOf prog shs inls its [] [(116,r116),(115,r115),(114,r114),(69,r69),(119,r119)]) hints 4 96 f96 c96 x F y:=fun x F y=>by kernel_rfl
theorem l96:(ctxOf prog shs inls its [] [(116,r116),(115,r115),(114,r114),(69,r69),(119,r119)]).ok:=q116
theorem ok96:c96.ok prog 96:=Ctr.of_den l96 hmix (hl:=hints) (d:=4) func96 rfl (by decide) (e96 lpK jnK)
noncomputable def bits_Len64_b (_:Lp) (jn:Jn) (x0:Int):Option Int :=
 jn (Int×Int×PUnit) Int (fun (x:Int×Int×PUnit)=>jn (Int×Int×PUnit) Int (fun (x:Int×Int×PUnit) =>
 let v5:Int:=IntKind.wrap IntKind.u8 x.1;
 let v6:Int:=IntKind.wrap IntKind.u8 (Int.fdiv x.1 ((2:Int) ^ (8:Nat)));bif decide (x.1≥(256:Int)) then bif decide ((0:Int)≤(8:Int)) then bif inB v6 (256:Nat) then
  some (IntKind.wrap .i64 (IntKind.wrap .i64 (x.2.1+(8:Int))+IntKind.wrap .i64 (byteAt { data:=List.toArray (List.append (List.append [(0:UInt8),(1 :
  UInt8),(2:UInt8),(2:UInt8),(3:UInt8),(3:UInt8),(3:UInt8),(3:UInt8),(4:UInt8),(4:UInt8),(4:UInt8),(4:UInt8),(4:UInt8),(4:UInt8),(4:UInt8),(4 :
  UInt8),(5:UInt8),(5:UInt8),(5:UInt8),(5:UInt8),(5:UInt8),(5:UInt8),(5:UInt8),(5:UInt8),(5:UInt8),(5:UInt8),(5:UInt8),(5:UInt8),(5:UInt8),(5 :
  UInt8),(5:UInt8),(5:UInt8),(6:UInt8),(6:UInt8),(6:UInt8),(6:UInt8),(6:UInt8),(6:UInt8),(6:UInt8),(6:UInt8),(6:UInt8),(6:UInt8),(6:UInt8),(6 :
  UInt8),(6:UInt8),(6:UInt8),(6:UInt8),(6:UInt8),(6:UInt8),(6:UInt8),(6:UInt8),(6:UInt8),(6:UInt8),(6:UInt8),(6:UInt8),(6:UInt8),(6:UInt8),(6 :
  UInt8),(6:UInt8),(6:UInt8),(6:UInt8),(6:UInt8),(6:UInt8),(6:UInt8)] [(7:UInt8),(7:UInt8),(7:UInt8),(7:UInt8),(7:UInt8),(7:UInt8),(7:UInt8),(7 :
  UInt8),(7:UInt8),(7:UInt8),(7:UInt8),(7:UInt8),(7:UInt8),(7:UInt8),(7:UInt8),(7:UInt8),(7:UInt8),(7:UInt8),(7:UInt8),(7:UInt8),(7:UInt8),(7 :
  UInt8),(7:UInt8),(7:UInt8),(7:UInt8),(7:UInt8),(7:UInt8),(7:UInt8),(7:UInt8),(7:UInt8),(7:UInt8),(7:UInt8),(7:UInt8),(7:UInt8),(7:UInt8),(7 :
  UInt8),(7:UInt8),(7:UInt8),(7:UInt8),(7:UInt8),(7:UInt8),(7:UInt8),(7:UInt8),(7:UInt8),(7:UInt8),(7:UInt8),(7:UInt8),(7:UInt8),(7:UInt8),(7 :
  UInt8),(7:UInt8),(7:UInt8),(7:UInt8),(7:UInt8),(7:UInt8),(7:UInt8),(7:UInt8),(7:UInt8),(7:UInt8),(7:UInt8),(7:UInt8),(7:UInt8),(7:UInt8),(7 :
  UInt8)]) (List.append [(8:UInt8),(8:UInt8),(8:UInt8),(8:UInt8),(8:UInt8),(8:UInt8),(8:UInt8),(8:UInt8),(8:UInt8),(8:UInt8),(8:UInt8),(8:UInt8),(8 :
  UInt8),(8:UInt8),(8:UInt8),(8:UInt8),(8:UInt8),(8:UInt8),(8:UInt8),(8:UInt8),(8:UInt8),(8:UInt8),(8:UInt8),(8:UInt8),(8:UInt8),(8:UInt8),(8 :
  UInt8),(8:UInt8),(8:UInt8),(8:UInt8),(8:UInt8),(8:UInt8),(8:UInt8),(8:UInt8),(8:UInt8),(8:UInt8),(8:UInt8),(8:UInt8),(8:UInt8),(8:UInt8),(8 :
  UInt8),(8:UInt8),(8:UInt8),(8:UInt8),(8:UInt8),(8:UInt8),(8:UInt8),(8:UInt8),(8:UInt8),(8:UInt8),(8:UInt8),(8:UInt8),(8:UInt8),(8:UInt8),(8 :
  UInt8),(8:UInt8),(8:UInt8),(8:UInt8),(8:UInt8),(8:UInt8),(8:UInt8),(8:UInt8),(8:UInt8),(8:UInt8)] [(8:UInt8),(8:UInt8),(8:UInt8),(8:UInt8),(8 :
  UInt8),(8:UInt8),(8:UInt8),(8:UInt8),(8:UInt8),(8:UInt8),(8:UInt8),(8:UInt8),(8:UInt8),(8:UInt8),(8:UInt8),(8:UInt8),(8:UInt8),(8:UInt8),(8 :
  UInt8),(8:UInt8),(8:UInt8),(8:UInt8),(8:UInt8),(8:UInt8),(8:UInt8),(8:UInt8),(8:UInt8),(8:UInt8),(8:UInt8),(8:UInt8),(8:UInt8),(8:UInt8),(8 :
  UInt8),(8:UInt8),(8:UInt8),(8:UInt8),(8:UInt8),(8:UInt8),(8:UInt8),(8:UInt8),(8:UInt8),(8:UInt8),(8:UInt8),(8:UInt8),(8:UInt8),(8:UInt8),(8 :
  UInt8),(8:UInt8),(8:UInt8),(8:UInt8),(8:UInt8),(8:UInt8),(8:UInt8),(8:UInt8),(8:UInt8),(8:UInt8),(8:UInt8),(8:UInt8),(8:UInt8),(8:UInt8),(8 :
  UInt8),(8:UInt8),(8:UInt8),(8:UInt8)])) } (Int.toNat v6)))) else none else none else bif inB v5 (256:Nat) then some (IntKind.wrap .i64 (x.2.1+IntKind.wrap
  IntKind.i64 (byteAt { data:=List.toArray (List.append (List.append [(0:UInt8),(1:UInt8),(2:UInt8),(2:UInt8),(3:UInt8),(3:UInt8),(3:UInt8),(3:UInt8),(4 :
  UInt8),(4:UInt8),(4:UInt8),(4:UInt8),(4:UInt8),(4:UInt8),(4:UInt8),(4:UInt8),(5:UInt8),(5:UInt8),(5:UInt8),(5:UInt8),(5:UInt8),(5:UInt8),(5 :
  UInt8),(5:UInt8),(5:UInt8),(5:UInt8),(5:UInt8),(5:UInt8),(5:UInt8),(5:UInt8),(5:UInt8),(5:UInt8),(6:UInt8),(6:UInt8),(6:UInt8),(6:UInt8),(6 :
  UInt8),(6:UInt8),(6:UInt8),(6:UInt8),(6:UInt8),(6:UInt8),(6:UInt8),(6:UInt8),(6:UInt8),(6:UInt8),(6:UInt8),(6:UInt8),(6:UInt8),(6:UInt8),(6 :
  UInt8),(6:UInt8),(6:UInt8),(6:UInt8),(6:UInt8),(6:UInt8),(6:UInt8),(6:UInt8),(6:UInt8),(6:UInt8),(6:UInt8),(6:UInt8),(6:UInt8),(6:UInt8)] [(7 :
  UInt8),(7:UInt8),(7:UInt8),(7:UInt8),(7:UInt8),(7:UInt8),(7:UInt8),(7:UInt8),(7:UInt8),(7:UInt8),(7:UInt8),(7:UInt8),(7:UInt8),(7:UInt8),(7 :
  UInt8),(7:UInt8),(7:UInt8),(7:UInt8),(7:UInt8),(7:UInt8),(7:UInt8),(7:UInt8),(7:UInt8),(7:UInt8),(7:UInt8),(7:UInt8),(7:UInt8),(7:UInt8),(7 :
  UInt8),(7:UInt8),(7:UInt8),(7:UInt8),(7:UInt8),(7:UInt8),(7:UInt8),(7:UInt8),(7:UInt8),(7:UInt8),(7:UInt8),(7:UInt8),(7:UInt8),(7:UInt8),(7 :
  UInt8),(7:UInt8),(7:UInt8),(7:UInt8),(7:UInt8),(7:UInt8),(7:UInt8),(7:UInt8),(7:UInt8),(7:UInt8),(7:UInt8),(7:UInt8),(7:UInt8),(7:UInt8),(7 :
  UInt8),(7:UInt8),(7:UInt8),(7:UInt8),(7:UInt8),(7:UInt8),(7:UInt8),(7:UInt8)]) (List.append [(8:UInt8),(8:UInt8),(8:UInt8),(8:UInt8),(8:UInt8),(8 :
  UInt8),(8:UInt8),(8:UInt8),(8:UInt8),(8:UInt8),(8:UInt8),(8:UInt8),(8:UInt8),(8:UInt8),(8:UInt8),(8:UInt8),(8:UInt8),(8:UInt8),(8:UInt8),(8 :
  UInt8),(8:UInt8),(8:UInt8),(8:UInt8),(8:UInt8),(8:UInt8),(8:UInt8),(8:UInt8),(8:UInt8),(8:UInt8),(8:UInt8),(8:UInt8),(8:UInt8),(8:UInt8),(8 :
  UInt8),(8:UInt8),(8:UInt8),(8:UInt8),(8:UInt8),(8:UInt8),(8:UInt8),(8:UInt8),(8:UInt8),(8:UInt8),(8:UInt8),(8:UInt8),(8:UInt8),(8:UInt8),(8 :
  UInt8),(8:UInt8),(8:UInt8),(8:UInt8),(8:UInt8),(8:UInt8),(8:UInt8),(8:UInt8),(8:UInt8),(8:UInt8),(8:UInt8),(8:UInt8),(8:UInt8),(8:UInt8),(8 :
  UInt8),(8:UInt8),(8:UInt8)] [(8:UInt8),(8:UInt8),(8:UInt8),(8:UInt8),(8:UInt8),(8:UInt8),(8:UInt8),(8:UInt8),(8:UInt8),(8:UInt8),(8:UInt8),(8 :
  UInt8),(8:UInt8),(8:UInt8),(8:UInt8),(8:UInt8),(8:UInt8),(8:UInt8),(8:UInt8),(8:UInt8),(8:UInt8),(8:UInt8),(8:UInt8),(8:UInt8),(8:UInt8),(8 :
  UInt8),(8:UInt8),(8:UInt8),(8:UInt8),(8:UInt8),(8:UInt8),(8:UInt8),(8:UInt8),(8:UInt8),(8:UInt8),(8:UInt8),(8:UInt8),(8:UInt8),(8:UInt8),(8 :
  UInt8),(8:UInt8),(8:UInt8),(8:UInt8),(8:UInt8),(8:UInt8),(8:UInt8),(8:UInt8),(8:UInt8),(8:UInt8),(8:UInt8),(8:UInt8),(8:UInt8),(8:UInt8),(8 :
  UInt8),(8:UInt8),(8:UInt8),(8:UInt8),(8:UInt8),(8:UInt8),(8:UInt8),(8:UInt8),(8:UInt8),(8:UInt8),(8:UInt8)])) } (Int.toNat v5)))) else none) fun (j:Int ×
  Int×PUnit→Option Int)=>bif decide (x.1≥(65536:Int)) then bif decide ((0:Int)≤(16:Int)) then j (Int.fdiv x.1 ((2:Int) ^ (16:Nat)),IntKind.wrap .i64
  (x.2.1+(16:Int)),PUnit.unit) else none else j (x.1,x.2.1,PUnit.unit)) fun (j:Int×Int×PUnit→Option Int)=>bif decide (x0≥(4294967296:Int)) then bif decide
  ((0:Int)≤(32:Int)) then j (Int.fdiv x0 ((2:Int) ^ (32:Nat)),(32:Int),PUnit.unit) else none else j (x0,(0:Int),PUnit.unit)
noncomputable def bits_Len64 (x0:Int):Option Int:=bits_Len64_b lpK jnK x0
noncomputable def c163:Ctr:=⟨[(.int .u64)],[],[],.one i64,fun x _ _=>bits_Len64 x.1⟩
theorem e163 (lp:Lp) (jn:Jn):∀(x:TsS c163.as) (F:TsF c163.fs) (y:TsS c163.cs),bits_Len64_b lp jn x.1=runC lp jn (ctxOf prog shs inls its [] [(116,r116),(115,r115),(114,r114),(69,r69),(119,r119)]) hints 4 163 f163 c163 x F y:=fun x F y=>by kernel_rfl
theorem l163:(ctxOf prog shs inls its [] [(116,r116),(115,r115),(114,r114),(69,r69),(119,r119)]).ok:=q116
theorem ok163:c163.ok prog 163:=Ctr.of_den l163 hmix (hl:=hints) (d:=4) func163 rfl (by decide) (e163 lpK jnK)
noncomputable def bits_LeadingZeros64_b (_:Lp) (_:Jn) (bits_Len64:(Int)→Option (Int)) (x0:Int):Option Int :=
 obind (bits_Len64 x0) fun (t:Int)=>some (IntKind.wrap .i64 ((64:Int) - t))
noncomputable def bits_LeadingZeros64 (x0:Int):Option Int:=bits_LeadingZeros64_b lpK jnK bits_Len64 x0
noncomputable def c158:Ctr:=⟨[(.int .u64)],[],[],.one i64,fun x _ _=>bits_LeadingZeros64 x.1⟩
theorem e158 (lp:Lp) (jn:Jn) (bits_Len64:(Int)→Option (Int)):∀(x:TsS c158.as) (F:TsF c158.fs) (y:TsS c158.cs),bits_LeadingZeros64_b lp jn bits_Len64 x.1=runC lp jn (ctxOf prog shs inls its [(163,⟨[(.int .u64)],[],[],.one i64,fun x _ _=>bits_Len64 x.1⟩)] [(116,r116),(115,r115),(114,r114),(69,r69),(119,r119)]) hints 4 158 f158 c158 x F y:=fun x F y=>by kernel_rfl
theorem l158:(ctxOf prog shs inls its [(163,c163)] [(116,r116),(115,r115),(114,r114),(69,r69),(119,r119)]).ok:=ctxOf_cons (q116) (by kernel_rfl) ok163
theorem ok158:c158.ok prog 158:=Ctr.of_den l158 hmix (hl:=hints) (d:=4) func158 rfl (by decide) (e158 lpK jnK bits_Len64)
noncomputable def bits_Div64_b (lp:Lp) (jn:Jn) (bits_LeadingZeros64:(Int)→Option (Int)) (x0:Int) (x1:Int) (x2:Int):Option (Int×Int×Unit) :=
 
 let v5:Bool:=nzB x2;
 let v6:Int:=(2:Int) ^ (32:Nat);
 let v7:Bool:=decide ((0:Int)≤(32:Int));jn PUnit (Int×Int×PUnit) (fun (_:PUnit)=>jn PUnit (Int×Int×PUnit) (fun (_:PUnit)=>bif decide (x0=(0:Int)) then bif v5
  then bif v5 then some (IntKind.wrap .u64 (Int.tdiv x1 x2),Int.tmod x1 x2,PUnit.unit) else none else none else obind (bits_LeadingZeros64 x2) fun (t:Int) =>
 let v11:Int:=IntKind.wrap .u64 t;
 let v12:Bool:=decide ((0:Int)≤v11);
 let v13:Int:=(2:Int) ^ min (Int.toNat v11) (64:Nat);
 let v14:Int:=IntKind.wrap .u64 (x2*v13);
 let v15:Int:=IntKind.wrap .u64 (x1*v13);
 let v16:Int:=Int.fdiv v14 v6;
 let v17:Int:=Int.fdiv v15 v6;
 let v18:Bool:=nzB v16;
 let v19:Int:=IntKind.wrap .u64 (↑(Nat.land (Int.toNat (v15 % Int.ofNat (18446744073709551616:Nat))) (Int.toNat ((4294967295:Int) % Int.ofNat (18446744073709551616:Nat))))
  : Int);
 let v20:Int:=IntKind.wrap .u64 (↑(Nat.land (Int.toNat (v14 % Int.ofNat (18446744073709551616:Nat))) (Int.toNat ((4294967295:Int) % Int.ofNat (18446744073709551616:Nat))))
  : Int);
 let v21:Int:=IntKind.wrap .u64 (↑(Nat.lor (Int.toNat (IntKind.wrap .u64 (x0*v13) % Int.ofNat (18446744073709551616:Nat))) (Int.toNat (Int.fdiv x1 ((2:Int) ^ min
  (Int.toNat (IntKind.wrap .u64 ((64:Int) - v11))) (64:Nat)) % Int.ofNat (18446744073709551616:Nat)))):Int);
 let v22:Int:=IntKind.wrap .u64 (Int.tdiv v21 v16);bif v12 then bif v7 then bif v12 then bif decide ((0:Int)≤IntKind.wrap .u64 ((64:Int) - v11)) then bif v12 then
  bif v7 then bif v18 then jn (Int×PUnit) (Int×Int×PUnit) (fun (x:Int×PUnit) =>
 let v24:Int:=IntKind.wrap .u64 (IntKind.wrap .u64 (IntKind.wrap .u64 (v21*(4294967296:Int))+v17) - IntKind.wrap .u64 (x.1*v14));
 let v25:Int:=IntKind.wrap .u64 (Int.tdiv v24 v16);bif v18 then jn (Int×PUnit) (Int×Int×PUnit) (fun (x_1:Int×PUnit)=>bif v12 then some (IntKind.wrap .u64
  (IntKind.wrap .u64 (x.1*(4294967296:Int))+x_1.1),Int.fdiv (IntKind.wrap .u64 (IntKind.wrap .u64 (IntKind.wrap .u64 (v24*(4294967296:Int)) +
  v19) - IntKind.wrap .u64 (x_1.1*v14))) v13,PUnit.unit) else none) fun (j:Int×PUnit→Option (Int×Int×PUnit))=>lp (Int×Int×PUnit) (Int×Int×PUnit) (fun
  (again:Int×Int×PUnit→Option (Int×Int×PUnit)) (x:Int×Int×PUnit) =>
 let v29:Int×PUnit:=(IntKind.wrap .u64 (x.2.1 - (1:Int)),PUnit.unit);
 let v30:Bool:=decide (x.2.1≥(4294967296:Int));
 let v31:Bool:=!v30;
 let v32:Bool:=!v31||v31;
 let v33:Bool:=v32&&v32;bif v33 then bif v32 then bif v33 then bif v33 then bif v30||v31 then bif bif v30 then true else decide (IntKind.wrap .u64 (x.2.1*v20) >
  IntKind.wrap .u64 (IntKind.wrap .u64 ((4294967296:Int)*x.1)+v19)) then bif decide (IntKind.wrap .u64 (x.1+v16)≥(4294967296:Int)) then j v29 else
  again (IntKind.wrap .u64 (x.1+v16),v29) else j (x.2.1,PUnit.unit) else none else none else none else none else none) (IntKind.wrap .u64 (v24 - IntKind.wrap
  IntKind.u64 (v25*v16)),v25,PUnit.unit) else none) fun (j:Int×PUnit→Option (Int×Int×PUnit))=>lp (Int×Int×PUnit) (Int×Int×PUnit) (fun (again:Int×Int×PUnit →
  Option (Int×Int×PUnit)) (x:Int×Int×PUnit) =>
 let v26:Int:=IntKind.wrap .u64 (x.1 - (1:Int));
 let v27:Bool:=decide (x.1≥(4294967296:Int));
 let v28:Bool:=!v27;
 let v29:Bool:=!v28||v28;
 let v30:Bool:=v29&&v29;bif v30 then bif v29 then bif v30 then bif v30 then bif v27||v28 then bif bif v27 then true else decide (IntKind.wrap .u64 (x.1*v20) >
  IntKind.wrap .u64 (IntKind.wrap .u64 ((4294967296:Int)*x.2.1)+v17)) then bif decide (IntKind.wrap .u64 (x.2.1+v16)≥(4294967296:Int)) then j
  (v26,PUnit.unit) else again (v26,IntKind.wrap .u64 (x.2.1+v16),PUnit.unit) else j (x.1,PUnit.unit) else none else none else none else none else none) (v22,
  IntKind.wrap .u64 (v21 - IntKind.wrap .u64 (v22*v16)),PUnit.unit) else none else none else none else none else none else none else none) fun (j:PUnit→Option (Int ×
  Int×PUnit))=>bif decide (x2≤x0) then none else j PUnit.unit) fun (j:PUnit→Option (Int×Int×PUnit))=>bif decide (x2=(0:Int)) then none else j PUnit.unit
noncomputable def bits_Div64 (x0:Int) (x1:Int) (x2:Int):Option (Int×Int×Unit):=bits_Div64_b lpK jnK bits_LeadingZeros64 x0 x1 x2
noncomputable def c139:Ctr:=⟨[(.int .u64),(.int .u64),(.int .u64)],[],[],.tup [(.int .u64),(.int .u64)],fun x _ _=>bits_Div64 x.1 x.2.1 x.2.2.1⟩
theorem e139 (lp:Lp) (jn:Jn) (bits_LeadingZeros64:(Int)→Option (Int)):∀(x:TsS c139.as) (F:TsF c139.fs) (y:TsS c139.cs),bits_Div64_b lp jn bits_LeadingZeros64 x.1 x.2.1 x.2.2.1=runC lp jn (ctxOf prog shs inls its [(158,⟨[(.int .u64)],[],[],.one i64,fun x _ _=>bits_LeadingZeros64 x.1⟩)] [(116,r116),(115,r115),(114,r114),(69,r69),(119,r119)]) hints 4 139 f139 c139 x F y:=fun x F y=>by kernel_rfl
theorem l139:(ctxOf prog shs inls its [(158,c158)] [(116,r116),(115,r115),(114,r114),(69,r69),(119,r119)]).ok:=ctxOf_cons (q116) (by kernel_rfl) ok158
theorem ok139:c139.ok prog 139:=Ctr.of_den l139 hmix (hl:=hints) (d:=4) func139 rfl (by decide) (e139 lpK jnK bits_LeadingZeros64)
noncomputable def ratio_over_b (_:Lp) (_:Jn) (bits_Div64:(Int)→(Int)→(Int)→Option (Int×Int×Unit)) (x0:Int×Int) (x1:Int):Option ((Int×Int)×Int×Unit) :=
 
 let v4:Bool:=nzB x1;bif v4 then obind (bits_Div64 (Int.tmod x0.1 x1) x0.2 x1) fun (t:Int×Int×PUnit)=>bif v4 then some ((IntKind.wrap .u64 (Int.tdiv x0.1 x1),
  t.1),t.2.1,PUnit.unit) else none else none
noncomputable def ratio_over (x0:Int×Int) (x1:Int):Option ((Int×Int)×Int×Unit):=ratio_over_b lpK jnK bits_Div64 x0 x1
noncomputable def c97:Ctr:=⟨[T118,(.int .u64)],[],[],.tup [T118,(.int .u64)],fun x _ _=>ratio_over x.1 x.2.1⟩
theorem e97 (lp:Lp) (jn:Jn) (bits_Div64:(Int)→(Int)→(Int)→Option (Int×Int×Unit)):∀(x:TsS c97.as) (F:TsF c97.fs) (y:TsS c97.cs),ratio_over_b lp jn bits_Div64 x.1 x.2.1=runC lp jn (ctxOf prog shs inls its [(139,⟨[(.int .u64),(.int .u64),(.int .u64)],[],[],.tup [(.int .u64),(.int .u64)],fun x _ _=>bits_Div64 x.1 x.2.1 x.2.2.1⟩)] [(116,r116),(115,r115),(114,r114),(69,r69),(119,r119)]) hints 4 97 f97 c97 x F y:=fun x F y=>by kernel_rfl
theorem l97:(ctxOf prog shs inls its [(139,c139)] [(116,r116),(115,r115),(114,r114),(69,r69),(119,r119)]).ok:=ctxOf_cons (q116) (by kernel_rfl) ok139
theorem ok97:c97.ok prog 97:=Ctr.of_den l97 hmix (hl:=hints) (d:=4) func97 rfl (by decide) (e97 lpK jnK bits_Div64)
noncomputable def ratio_signed_b (_:Lp) (_:Jn) (x0:Bool) (x1:Int) (x2:Int):Option ((Int×Int)×Int×Unit) :=
 
 let v5:Int:=IntKind.wrap .i64 x1;
 let v6:Int:=IntKind.wrap .i64 x2;
 let v7:Bool:=decide (x1>(1152921504606846976:Int));
 let v8:Bool:=!v7;bif !v8||v8 then bif v7||v8 then bif bif v7 then true else decide (x2>(1152921504606846976:Int)) then some (((0:Int),(0:Int)),(5:Int),PUnit.unit)
  else bif x0 then some ((IntKind.wrap .i64 ((0:Int) - v5),v6),(0:Int),PUnit.unit) else some ((v5,v6),(0:Int),PUnit.unit) else none else none
noncomputable def ratio_signed (x0:Bool) (x1:Int) (x2:Int):Option ((Int×Int)×Int×Unit):=ratio_signed_b lpK jnK x0 x1 x2
noncomputable def c98:Ctr:=⟨[.bool,(.int .u64),(.int .u64)],[],[],.tup [T36,i64],fun x _ _=>ratio_signed x.1 x.2.1 x.2.2.1⟩
theorem e98 (lp:Lp) (jn:Jn):∀(x:TsS c98.as) (F:TsF c98.fs) (y:TsS c98.cs),ratio_signed_b lp jn x.1 x.2.1 x.2.2.1=runC lp jn (ctxOf prog shs inls its [] [(116,r116),(115,r115),(114,r114),(69,r69),(119,r119)]) hints 4 98 f98 c98 x F y:=fun x F y=>by kernel_rfl
theorem l98:(ctxOf prog shs inls its [] [(116,r116),(115,r115),(114,r114),(69,r69),(119,r119)]).ok:=q116
theorem ok98:c98.ok prog 98:=Ctr.of_den l98 hmix (hl:=hints) (d:=4) func98 rfl (by decide) (e98 lpK jnK)
noncomputable def ratio_Add_b (_:Lp) (jn:Jn) (ratio_gcd:(Int)→(Int)→Option (Int)) (ratio_size:(Int)→Option (Int)) (ratio_Valid:(Int×Int)→Option (Bool)) (ratio_product:(Int)→(Int)→Option (Int×Int)) (ratio_plus:(Int×Int)→(Int×Int)→Option (Int×Int)) (ratio_less:(Int×Int)→(Int×Int)→Option (Bool)) (ratio_minus:(Int×Int)→(Int×Int)→Option (Int×Int)) (ratio_over:(Int×Int)→(Int)→Option ((Int×Int)×Int×Unit)) (ratio_signed:(Bool)→(Int)→(Int)→Option ((Int×Int)×Int×Unit)) (x0:Int×Int) (x1:Int×Int):Option ((Int×Int)×Int×Unit) :=
 
 let v4:Int:=IntKind.wrap .u64 x0.2;
 let v5:Int:=IntKind.wrap .u64 x1.2;
 let v6:Bool:=decide (x0.1<(0:Int));obind (ratio_Valid x0) fun (t:Bool) =>
 let v8:Bool:=!t;
 let v9:Bool:=!v8;
 let v10:Bool:=!v9||v9;bif v10 then obind (bif v9 then ratio_Valid x1 else some false) fun (t:Bool)=>bif v10 then bif v8||v9 then bif bif v8 then true else !t then some (((0 :
  Int),(0:Int)),(1:Int),PUnit.unit) else obind (ratio_gcd v4 v5) fun (t:Int) =>
 let v13:Bool:=nzB t;
 let v14:Int:=IntKind.wrap .u64 (Int.tdiv v4 t);obind (ratio_size x0.1) fun (t_1:Int)=>bif v13 then obind (ratio_product t_1 (IntKind.wrap .u64 (Int.tdiv v5 t)))
  fun (t_2:Int×Int)=>obind (ratio_size x1.1) fun (t_3:Int)=>bif v13 then obind (ratio_product t_3 v14) fun (t_4:Int×Int)=>jn (Bool×(Int×Int)×PUnit) ((Int×Int) ×
  Int×PUnit) (fun (x:Bool×(Int×Int)×PUnit)=>bif decide (x.2.1.1=(0:Int))&&(decide (x.2.1.2=(0:Int))&&true) then some (((0:Int),(1:Int)),(0 :
  Int),PUnit.unit) else obind (ratio_over x.2.1 t) fun (t_5:(Int×Int)×Int×PUnit)=>obind (ratio_gcd t t_5.2.1) fun (t:Int)=>obind (ratio_over x.2.1 t) fun (t_6 :
  (Int×Int)×Int×PUnit) =>
 let v23:Bool:=decide (t_6.1.1>(0:Int));
 let v24:Bool:=!v23;
 let v25:Bool:=!v24||v24;bif v13 then bif nzB t then obind (ratio_product v14 (IntKind.wrap .u64 (Int.tdiv v5 t))) fun (t:Int×Int)=>bif v25 then bif v25 then bif v23 ||
  v24 then bif bif v23 then true else decide (t.1>(0:Int)) then some (((0:Int),(0:Int)),(5:Int),PUnit.unit) else obind (ratio_signed x.1 t_6.1.2 t.2) fun (t:(Int
  × Int)×Int×PUnit)=>some (t.1,t.2.1,PUnit.unit) else none else none else none else none else none) fun (j:Bool×(Int×Int)×PUnit→Option ((Int×Int)×Int×PUnit))
  =>bif decide (v6=decide (x1.1<(0:Int))) then obind (ratio_plus t_2 t_4) fun (t:Int×Int)=>j (v6,t,PUnit.unit) else obind (ratio_less t_2 t_4) fun (t:Bool)=>jn (Bool
  × (Int×Int)×PUnit) ((Int×Int)×Int×PUnit) (fun (x:Bool×(Int×Int)×PUnit)=>j (x.1,x.2.1,PUnit.unit)) fun (j:Bool×(Int×Int)×PUnit→Option ((Int×Int) ×
  Int×PUnit))=>bif t then obind (ratio_minus t_4 t_2) fun (t:Int×Int)=>j (!v6,t,PUnit.unit) else obind (ratio_minus t_2 t_4) fun (t:Int×Int)=>j (v6,t,PUnit.unit) else
  none else none else none else none else none
noncomputable def ratio_Add (x0:Int×Int) (x1:Int×Int):Option ((Int×Int)×Int×Unit):=ratio_Add_b lpK jnK ratio_gcd ratio_size ratio_Valid ratio_product ratio_plus ratio_less ratio_minus ratio_over ratio_signed x0 x1
noncomputable def c60:Ctr:=⟨[T36,T36],[],[],.tup [T36,i64],fun x _ _=>ratio_Add x.1 x.2.1⟩
theorem e60 (lp:Lp) (jn:Jn) (ratio_gcd:(Int)→(Int)→Option (Int)) (ratio_size:(Int)→Option (Int)) (ratio_Valid:(Int×Int)→Option (Bool)) (ratio_product:(Int)→(Int)→Option (Int×Int)) (ratio_plus:(Int×Int)→(Int×Int)→Option (Int×Int)) (ratio_less:(Int×Int)→(Int×Int)→Option (Bool)) (ratio_minus:(Int×Int)→(Int×Int)→Option (Int×Int)) (ratio_over:(Int×Int)→(Int)→Option ((Int×Int)×Int×Unit)) (ratio_signed:(Bool)→(Int)→(Int)→Option ((Int×Int)×Int×Unit)):∀(x:TsS c60.as) (F:TsF c60.fs) (y:TsS c60.cs),ratio_Add_b lp jn ratio_gcd ratio_size ratio_Valid ratio_product ratio_plus ratio_less ratio_minus ratio_over ratio_signed x.1 x.2.1=runC lp jn (ctxOf prog shs inls its [(98,⟨[.bool,(.int .u64),(.int .u64)],[],[],.tup [T36,i64],fun x _ _=>ratio_signed x.1 x.2.1 x.2.2.1⟩),(97,⟨[T118,(.int .u64)],[],[],.tup [T118,(.int .u64)],fun x _ _=>ratio_over x.1 x.2.1⟩),(96,⟨[T118,T118],[],[],.one T118,fun x _ _=>ratio_minus x.1 x.2.1⟩),(95,⟨[T118,T118],[],[],.one .bool,fun x _ _=>ratio_less x.1 x.2.1⟩),(94,⟨[T118,T118],[],[],.one T118,fun x _ _=>ratio_plus x.1 x.2.1⟩),(93,⟨[(.int .u64),(.int .u64)],[],[],.one T118,fun x _ _=>ratio_product x.1 x.2.1⟩),(59,⟨[T36],[],[],.one .bool,fun x _ _=>ratio_Valid x.1⟩),(92,⟨[i64],[],[],.one (.int .u64),fun x _ _=>ratio_size x.1⟩),(91,⟨[(.int .u64),(.int .u64)],[],[],.one (.int .u64),fun x _ _=>ratio_gcd x.1 x.2.1⟩)] [(116,r116),(115,r115),(114,r114),(69,r69),(119,r119)]) hints 4 60 f60 c60 x F y:=fun x F y=>by kernel_rfl
theorem l60:(ctxOf prog shs inls its [(98,c98),(97,c97),(96,c96),(95,c95),(94,c94),(93,c93),(59,c59),(92,c92),(91,c91)] [(116,r116),(115,r115),(114,r114),(69,r69),(119,r119)]).ok:=ctxOf_cons (ctxOf_cons (ctxOf_cons (ctxOf_cons (ctxOf_cons (ctxOf_cons (ctxOf_cons (ctxOf_cons (ctxOf_cons (q116) (by kernel_rfl) ok91) (by kernel_rfl) ok92) (by kernel_rfl) ok59) (by kernel_rfl) ok93) (by kernel_rfl) ok94) (by kernel_rfl) ok95) (by kernel_rfl) ok96) (by kernel_rfl) ok97) (by kernel_rfl) ok98
theorem ok60:c60.ok prog 60:=Ctr.of_den l60 hmix (hl:=hints) (d:=4) func60 rfl (by decide) (e60 lpK jnK ratio_gcd ratio_size ratio_Valid ratio_product ratio_plus ratio_less ratio_minus ratio_over ratio_signed)
noncomputable def grid_of_b (_:Lp) (_:Jn) (x0:Int):Option (Int×Int) :=
 some (x0,(1:Int))
noncomputable def grid_of (x0:Int):Option (Int×Int):=grid_of_b lpK jnK x0
noncomputable def c120:Ctr:=⟨[i64],[],[],.one T36,fun x _ _=>grid_of x.1⟩
theorem e120 (lp:Lp) (jn:Jn):∀(x:TsS c120.as) (F:TsF c120.fs) (y:TsS c120.cs),grid_of_b lp jn x.1=runC lp jn (ctxOf prog shs inls its [] [(116,r116),(115,r115),(114,r114),(69,r69),(119,r119)]) hints 4 120 f120 c120 x F y:=fun x F y=>by kernel_rfl
theorem l120:(ctxOf prog shs inls its [] [(116,r116),(115,r115),(114,r114),(69,r69),(119,r119)]).ok:=q116
theorem ok120:c120.ok prog 120:=Ctr.of_den l120 hmix (hl:=hints) (d:=4) func120 rfl (by decide) (e120 lpK jnK)
noncomputable def grid_beams_count_b (lp:Lp) (_:Jn) (x0:List (ByteArray×Int×Int×Int)) (x1:Int):Option Int :=
 bif overP x0 then lp (Nat×Int×PUnit) Int (fun (again:Nat×Int×PUnit→Option Int) (p:Nat×Int×PUnit)=>bif Nat.ble (Nat.succ p.1) (List.length (overL x0 x1)) then again
  (Nat.succ p.1,IntKind.wrap .i64 (p.2.1+(1:Int)),PUnit.unit) else some p.2.1) ((0:Nat),(0:Int),PUnit.unit) else none
noncomputable def grid_beams_count (x0:List (ByteArray×Int×Int×Int)) (x1:Int):Option Int:=grid_beams_count_b lpK jnK x0 x1
noncomputable def c121:Ctr:=⟨[(.sl T96),i64],[],[],.one i64,fun x _ _=>grid_beams_count x.1 x.2.1⟩
theorem e121 (lp:Lp) (jn:Jn):∀(x:TsS c121.as) (F:TsF c121.fs) (y:TsS c121.cs),grid_beams_count_b lp jn x.1 x.2.1=runC lp jn (ctxOf prog shs inls its [] [(116,r116),(115,r115),(114,r114),(69,r69),(119,r119)]) hints 4 121 f121 c121 x F y:=fun x F y=>by kernel_rfl
theorem l121:(ctxOf prog shs inls its [] [(116,r116),(115,r115),(114,r114),(69,r69),(119,r119)]).ok:=q116
theorem ok121:c121.ok prog 121:=Ctr.of_den l121 hmix (hl:=hints) (d:=4) func121 rfl (by decide) (e121 lpK jnK)
noncomputable def ratio_Make_b (_:Lp) (_:Jn) (ratio_gcd:(Int)→(Int)→Option (Int)) (ratio_size:(Int)→Option (Int)) (ratio_signed:(Bool)→(Int)→(Int)→Option ((Int×Int)×Int×Unit)) (x0:Int) (x1:Int):Option ((Int×Int)×Int×Unit) :=
 
 let v4:Bool:=!decide (x0=(0:Int));
 let v5:Bool:=!v4||v4;bif decide (x1=(0:Int)) then some (((0:Int),(0:Int)),(16:Int),PUnit.unit) else obind (ratio_size x0) fun (t:Int)=>obind (ratio_size x1) fun
  (t_1:Int)=>obind (ratio_gcd t t_1) fun (t_2:Int) =>
 let v9:Bool:=nzB t_2;bif v5 then bif v5 then bif v5&&v5 then bif v5 then bif v9 then bif v9 then obind (ratio_signed (bif v4 then !decide (decide (x0<(0:Int))=decide (x1<(0
  : Int))) else false) (IntKind.wrap .u64 (Int.tdiv t t_2)) (IntKind.wrap .u64 (Int.tdiv t_1 t_2))) fun (t:(Int×Int)×Int×PUnit)=>some (t.1,t.2.1,
  PUnit.unit) else none else none else none else none else none else none
noncomputable def ratio_Make (x0:Int) (x1:Int):Option ((Int×Int)×Int×Unit):=ratio_Make_b lpK jnK ratio_gcd ratio_size ratio_signed x0 x1
noncomputable def c122:Ctr:=⟨[i64,i64],[],[],.tup [T36,i64],fun x _ _=>ratio_Make x.1 x.2.1⟩
theorem e122 (lp:Lp) (jn:Jn) (ratio_gcd:(Int)→(Int)→Option (Int)) (ratio_size:(Int)→Option (Int)) (ratio_signed:(Bool)→(Int)→(Int)→Option ((Int×Int)×Int×Unit)):∀(x:TsS c122.as) (F:TsF c122.fs) (y:TsS c122.cs),ratio_Make_b lp jn ratio_gcd ratio_size ratio_signed x.1 x.2.1=runC lp jn (ctxOf prog shs inls its [(98,⟨[.bool,(.int .u64),(.int .u64)],[],[],.tup [T36,i64],fun x _ _=>ratio_signed x.1 x.2.1 x.2.2.1⟩),(92,⟨[i64],[],[],.one (.int .u64),fun x _ _=>ratio_size x.1⟩),(91,⟨[(.int .u64),(.int .u64)],[],[],.one (.int .u64),fun x _ _=>ratio_gcd x.1 x.2.1⟩)] [(116,r116),(115,r115),(114,r114),(69,r69),(119,r119)]) hints 4 122 f122 c122 x F y:=fun x F y=>by kernel_rfl
theorem l122:(ctxOf prog shs inls its [(98,c98),(92,c92),(91,c91)] [(116,r116),(115,r115),(114,r114),(69,r69),(119,r119)]).ok:=ctxOf_cons (ctxOf_cons (ctxOf_cons (q116) (by kernel_rfl) ok91) (by kernel_rfl) ok92) (by kernel_rfl) ok98
theorem ok122:c122.ok prog 122:=Ctr.of_den l122 hmix (hl:=hints) (d:=4) func122 rfl (by decide) (e122 lpK jnK ratio_gcd ratio_size ratio_signed)
noncomputable def grid_borne_b (lp:Lp) (_:Jn) (ratio_Add:(Int×Int)→(Int×Int)→Option ((Int×Int)×Int×Unit)) (grid_of:(Int)→Option (Int×Int)) (grid_beams_count:(List (ByteArray×Int×Int×Int))→(Int)→Option (Int)) (ratio_Make:(Int)→(Int)→Option ((Int×Int)×Int×Unit)) (slices_Repeat_119:(List (Int×Int))→(Int)→Option (List (Int×Int))) (x0:List (ByteArray×Int×Int×Int)) (x1:List (Int×Int)):Option ((List (Int×Int))×Int×Unit) :=
 obind (grid_of (0:Int)) fun (t:Int×Int)=>obind (slices_Repeat_119 [t] (↑(List.length x0):Int)) fun (t:List (Int×Int))=>lp (Int×List (Int×Int)×Int×PUnit) (List (Int ×
  Int)×Int×PUnit) (fun (again:Int×List (Int×Int)×Int×PUnit→Option (List (Int×Int)×Int×PUnit)) (x:Int×List (Int×Int)×Int×PUnit)=>bif decide (x.1 <
  (↑(List.length x1):Int)) then bif inB x.1 (List.length x1) then obind (grid_beams_count x0 (List.getD x1 (Int.toNat x.1) ((0:Int),(0:Int))).1) fun (t:Int)=>bif decide
  (t=(0:Int)) then some ([],(12:Int),PUnit.unit) else again (IntKind.wrap .i64 (x.1+(1:Int)),x.2.1,x.2.2.1,PUnit.unit) else none else lp (Int×List (Int
  × Int)×Int×List (Int×Int)×PUnit) (List (Int×Int)×Int×PUnit) (fun (again:Int×List (Int×Int)×Int×List (Int×Int)×PUnit→Option (List (Int×Int)×Int ×
  PUnit)) (x:Int×List (Int×Int)×Int×List (Int×Int)×PUnit) =>
 let v10:Int×Int:=List.getD x1 (Int.toNat x.1) ((0:Int),(0:Int));
 let v11:List (Int×Unit):=overL x0 v10.1;bif decide (x.1<(↑(List.length x1):Int)) then bif inB x.1 (List.length x1) then obind (grid_beams_count x0 v10.1) fun (t:Int)
  =>obind (ratio_Make v10.2 t) fun (t:(Int×Int)×Int×PUnit)=>bif !decide (t.2.1=(0:Int)) then some ([],t.2.1,PUnit.unit) else bif overP x0 then lp (Nat×List
  (Int×Int)×Int×Int×List (Int×Int)×PUnit) (List (Int×Int)×Int×PUnit) (fun (again_1:Nat×List (Int×Int)×Int×Int×List (Int×Int)×PUnit→Option (List (Int ×
  Int)×Int×PUnit)) (p:Nat×List (Int×Int)×Int×Int×List (Int×Int)×PUnit) =>
 let v16:Bool:=inB (List.getD v11 p.1 ((0:Int),PUnit.unit)).1 (List.length p.2.2.2.2.1);
 let v17:Bool:=Nat.ble (Nat.succ (Int.toNat (List.getD v11 p.1 ((0:Int),PUnit.unit)).1)) (List.length p.2.2.2.2.1);bif Nat.ble (Nat.succ p.1) (List.length v11) then
  bif v16 then bif v17 then obind (ratio_Add (List.getD p.2.2.2.2.1 (Int.toNat (List.getD v11 p.1 ((0:Int),PUnit.unit)).1) ((0:Int),(0:Int))) t.1) fun (t:(Int ×
  Int)×Int×PUnit)=>bif v16 then bif v17 then bif !decide (t.2.1=(0:Int)) then some ([],t.2.1,PUnit.unit) else again_1 (Nat.succ p.1,p.2.1,p.2.2.1,
  t.2.1,List.set p.2.2.2.2.1 (Int.toNat (List.getD v11 p.1 ((0:Int),PUnit.unit)).1) t.1,PUnit.unit) else none else none else none else none else again
  (IntKind.wrap .i64 (x.1+(1:Int)),p.2.1,p.2.2.1,p.2.2.2.2.1,PUnit.unit)) ((0:Nat),x.2.1,x.2.2.1,t.2.1,x.2.2.2.1,
  PUnit.unit) else none else none else some (x.2.2.2.1,(0:Int),PUnit.unit)) ((0:Int),x.2.1,x.2.2.1,t,PUnit.unit)) ((0:Int),[],(0:Int),PUnit.unit)
noncomputable def grid_borne (x0:List (ByteArray×Int×Int×Int)) (x1:List (Int×Int)):Option ((List (Int×Int))×Int×Unit):=grid_borne_b lpK jnK ratio_Add grid_of grid_beams_count ratio_Make slices_Repeat_119 x0 x1
noncomputable def c73:Ctr:=⟨[(.sl T96),(.sl T78)],[],[],.tup [(.sl T36),i64],fun x _ _=>grid_borne x.1 x.2.1⟩
theorem e73 (lp:Lp) (jn:Jn) (ratio_Add:(Int×Int)→(Int×Int)→Option ((Int×Int)×Int×Unit)) (grid_of:(Int)→Option (Int×Int)) (grid_beams_count:(List (ByteArray×Int×Int×Int))→(Int)→Option (Int)) (ratio_Make:(Int)→(Int)→Option ((Int×Int)×Int×Unit)) (slices_Repeat_119:(List (Int×Int))→(Int)→Option (List (Int×Int))):∀(x:TsS c73.as) (F:TsF c73.fs) (y:TsS c73.cs),grid_borne_b lp jn ratio_Add grid_of grid_beams_count ratio_Make slices_Repeat_119 x.1 x.2.1=runC lp jn (ctxOf prog shs inls its [(122,⟨[i64,i64],[],[],.tup [T36,i64],fun x _ _=>ratio_Make x.1 x.2.1⟩),(121,⟨[(.sl T96),i64],[],[],.one i64,fun x _ _=>grid_beams_count x.1 x.2.1⟩),(120,⟨[i64],[],[],.one T36,fun x _ _=>grid_of x.1⟩),(60,⟨[T36,T36],[],[],.tup [T36,i64],fun x _ _=>ratio_Add x.1 x.2.1⟩)] [(116,r116),(115,r115),(114,r114),(69,r69),(119,⟨[(.sl T36),i64],36,T36,fun x=>slices_Repeat_119 x.1 x.2.1⟩)]) hints 4 73 f73 c73 x F y:=fun x F y=>by kernel_rfl
theorem l73:(ctxOf prog shs inls its [(122,c122),(121,c121),(120,c120),(60,c60)] [(116,r116),(115,r115),(114,r114),(69,r69),(119,r119)]).ok:=ctxOf_cons (ctxOf_cons (ctxOf_cons (ctxOf_cons (q116) (by kernel_rfl) ok60) (by kernel_rfl) ok120) (by kernel_rfl) ok121) (by kernel_rfl) ok122
theorem ok73:c73.ok prog 73:=Ctr.of_den l73 hmix (hl:=hints) (d:=4) func73 rfl (by decide) (e73 lpK jnK ratio_Add grid_of grid_beams_count ratio_Make slices_Repeat_119)
noncomputable def grid_Loads_b (_:Lp) (_:Jn) (grid_given:(List (ByteArray×Int×Int×Int))→(List (Int×Int))→Option (Int)) (grid_borne:(List (ByteArray×Int×Int×Int))→(List (Int×Int))→Option ((List (Int×Int))×Int×Unit)) (x0:List (ByteArray×Int×Int×Int)) (x1:List (Int×Int)):Option ((List (Int×Int))×Int×Unit) :=
 obind (grid_given x0 x1) fun (t:Int)=>bif !decide (t=(0:Int)) then some ([],t,PUnit.unit) else obind (grid_borne x0 x1) fun (t:List (Int×Int)×Int×PUnit)=>some (t.1,
  t.2.1,PUnit.unit)
noncomputable def grid_Loads (x0:List (ByteArray×Int×Int×Int)) (x1:List (Int×Int)):Option ((List (Int×Int))×Int×Unit):=grid_Loads_b lpK jnK grid_given grid_borne x0 x1
noncomputable def c41:Ctr:=⟨[(.sl T96),(.sl T78)],[],[],.tup [(.sl T36),i64],fun x _ _=>grid_Loads x.1 x.2.1⟩
theorem e41 (lp:Lp) (jn:Jn) (grid_given:(List (ByteArray×Int×Int×Int))→(List (Int×Int))→Option (Int)) (grid_borne:(List (ByteArray×Int×Int×Int))→(List (Int×Int))→Option ((List (Int×Int))×Int×Unit)):∀(x:TsS c41.as) (F:TsF c41.fs) (y:TsS c41.cs),grid_Loads_b lp jn grid_given grid_borne x.1 x.2.1=runC lp jn (ctxOf prog shs inls its [(73,⟨[(.sl T96),(.sl T78)],[],[],.tup [(.sl T36),i64],fun x _ _=>grid_borne x.1 x.2.1⟩),(72,⟨[(.sl T96),(.sl T78)],[],[],.one i64,fun x _ _=>grid_given x.1 x.2.1⟩)] [(116,r116),(115,r115),(114,r114),(69,r69),(119,r119)]) hints 4 41 f41 c41 x F y:=fun x F y=>by kernel_rfl
theorem l41:(ctxOf prog shs inls its [(73,c73),(72,c72)] [(116,r116),(115,r115),(114,r114),(69,r69),(119,r119)]).ok:=ctxOf_cons (ctxOf_cons (q116) (by kernel_rfl) ok72) (by kernel_rfl) ok73
theorem ok41:c41.ok prog 41:=Ctr.of_den l41 hmix (hl:=hints) (d:=4) func41 rfl (by decide) (e41 lpK jnK grid_given grid_borne)
noncomputable def house_Loads_b (lp:Lp) (_:Jn) (batten_Weight:(ByteArray×Int×Int×Int×Int×(List Int)×Int×Int×Int×Int×Int×(List (ByteArray×Int×Int×Int×Int×Int×Int))×List (ByteArray×Int×Int))→Option (Int×Int×Unit)) (arbor_Weight:(List (ByteArray×Int×Int))→(List Int)→Option (Int×Int×Unit)) (house_Valid:(ByteArray×Int×(List (ByteArray×Int×Int×Int×Int×(List Int)×Int×Int×Int×Int×Int×(List (ByteArray×Int×Int×Int×Int×Int×Int))×List (ByteArray×Int×Int)))×List (ByteArray×Int×Int×Int))→Option (Bool)) (grid_Loads:(List (ByteArray×Int×Int×Int))→(List (Int×Int))→Option ((List (Int×Int))×Int×Unit)) (x0:ByteArray×Int×(List (ByteArray×Int×Int×Int×Int×(List Int)×Int×Int×Int×Int×Int×(List (ByteArray×Int×Int×Int×Int×Int×Int))×List (ByteArray×Int×Int)))×List (ByteArray×Int×Int×Int)):Option ((List (Int×Int))×Int×Unit) :=
 obind (house_Valid x0) fun (t:Bool)=>bif !t then some ([],(1:Int),PUnit.unit) else lp (List (Int×Int)×Int×PUnit) (List (Int×Int)×Int×PUnit) (fun (again:List (Int ×
  Int)×Int×PUnit→Option (List (Int×Int)×Int×PUnit)) (x:List (Int×Int)×Int×PUnit) =>
 let v6:ByteArray×Int×Int×Int×Int×List Int×Int×Int×Int×Int×Int×List (ByteArray×Int×Int×Int×Int×Int×Int)×List (ByteArray×Int×Int):=List.getD
  x0.2.2.1 (Int.toNat x.2.1) ({ data:={ toList:=[] } },(0:Int),(0:Int),(0:Int),(0:Int),[],(0:Int),(0:Int),(0:Int),(0:Int),(0:Int),[],[]);bif
  decide (x.2.1<(↑(List.length x0.2.2.1):Int)) then bif inB x.2.1 (List.length x0.2.2.1) then obind (batten_Weight v6) fun (t:Int×Int×PUnit)=>bif !decide
  (t.2.1=(0:Int)) then some ([],t.2.1,PUnit.unit) else lp (List Int×Int×PUnit) (List (Int×Int)×Int×PUnit) (fun (again_1:List Int×Int×PUnit→Option (List
  (Int×Int)×Int×PUnit)) (x_1:List Int×Int×PUnit)=>bif decide (x_1.2.1<(↑(List.length v6.2.2.2.2.2.2.2.2.2.2.2.2):Int)) then bif inB
  x_1.2.1 (List.length v6.2.2.2.2.2.2.2.2.2.2.2.2) then bif fitB (List.length x_1.1+(1:Nat)) (8:Nat) then again_1 (x_1.1++[(List.getD
  v6.2.2.2.2.2.2.2.2.2.2.2.2 (Int.toNat x_1.2.1) ({ data:={ toList:=[] } },(0:Int),(0:Int))).2.2],IntKind.wrap .i64 (x_1.2.1+(1 :
  Int)),PUnit.unit) else none else none else obind (arbor_Weight v6.2.2.2.2.2.2.2.2.2.2.2.2 x_1.1) fun (t_1:Int×Int×PUnit)=>bif !decide (t_1.2.1 =
  (0:Int)) then some ([],t_1.2.1,PUnit.unit) else bif decide (IntKind.wrap .i64 (IntKind.wrap .i64 (t.1+v6.2.2.2.2.2.2.2.1)+t_1.1) >
  (67108864:Int)) then some ([],(5:Int),PUnit.unit) else bif fitB (List.length x.1+(1:Nat)) (16:Nat) then again (x.1++[(v6.2.1,IntKind.wrap .i64
  (IntKind.wrap .i64 (t.1+v6.2.2.2.2.2.2.2.1)+t_1.1))],IntKind.wrap .i64 (x.2.1+(1:Int)),PUnit.unit) else none) ([],(0:Int),PUnit.unit)
  else none else obind (grid_Loads x0.2.2.2 x.1) fun (t:List (Int×Int)×Int×PUnit)=>some (t.1,t.2.1,PUnit.unit)) ([],(0:Int),PUnit.unit)
noncomputable def house_Loads (x0:ByteArray×Int×(List (ByteArray×Int×Int×Int×Int×(List Int)×Int×Int×Int×Int×Int×(List (ByteArray×Int×Int×Int×Int×Int×Int))×List (ByteArray×Int×Int)))×List (ByteArray×Int×Int×Int)):Option ((List (Int×Int))×Int×Unit):=house_Loads_b lpK jnK batten_Weight arbor_Weight house_Valid grid_Loads x0
noncomputable def c12:Ctr:=⟨[T25],[],[],.tup [(.sl T36),i64],fun x _ _=>house_Loads x.1⟩
theorem e12 (lp:Lp) (jn:Jn) (batten_Weight:(ByteArray×Int×Int×Int×Int×(List Int)×Int×Int×Int×Int×Int×(List (ByteArray×Int×Int×Int×Int×Int×Int))×List (ByteArray×Int×Int))→Option (Int×Int×Unit)) (arbor_Weight:(List (ByteArray×Int×Int))→(List Int)→Option (Int×Int×Unit)) (house_Valid:(ByteArray×Int×(List (ByteArray×Int×Int×Int×Int×(List Int)×Int×Int×Int×Int×Int×(List (ByteArray×Int×Int×Int×Int×Int×Int))×List (ByteArray×Int×Int)))×List (ByteArray×Int×Int×Int))→Option (Bool)) (grid_Loads:(List (ByteArray×Int×Int×Int))→(List (Int×Int))→Option ((List (Int×Int))×Int×Unit)):∀(x:TsS c12.as) (F:TsF c12.fs) (y:TsS c12.cs),house_Loads_b lp jn batten_Weight arbor_Weight house_Valid grid_Loads x.1=runC lp jn (ctxOf prog shs inls its [(41,⟨[(.sl T96),(.sl T78)],[],[],.tup [(.sl T36),i64],fun x _ _=>grid_Loads x.1 x.2.1⟩),(32,⟨[T25],[],[],.one .bool,fun x _ _=>house_Valid x.1⟩),(31,⟨[(.sl T64),(.sl i64)],[],[],.tup [i64,i64],fun x _ _=>arbor_Weight x.1 x.2.1⟩),(30,⟨[T44],[],[],.tup [i64,i64],fun x _ _=>batten_Weight x.1⟩)] [(116,r116),(115,r115),(114,r114),(69,r69),(119,r119)]) hints 4 12 f12 c12 x F y:=fun x F y=>by kernel_rfl
theorem l12:(ctxOf prog shs inls its [(41,c41),(32,c32),(31,c31),(30,c30)] [(116,r116),(115,r115),(114,r114),(69,r69),(119,r119)]).ok:=ctxOf_cons (ctxOf_cons (ctxOf_cons (ctxOf_cons (q116) (by kernel_rfl) ok30) (by kernel_rfl) ok31) (by kernel_rfl) ok32) (by kernel_rfl) ok41
theorem ok12:c12.ok prog 12:=Ctr.of_den l12 hmix (hl:=hints) (d:=4) func12 rfl (by decide) (e12 lpK jnK batten_Weight arbor_Weight house_Valid grid_Loads)
end Go.Proofs.YtmoiiokmfanlgaaGreat
