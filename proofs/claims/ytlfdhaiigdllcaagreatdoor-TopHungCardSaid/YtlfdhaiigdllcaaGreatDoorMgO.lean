/- r30: the iterators' contracts: what the iterator over beams hands to the rounds. toph: what its functions answer (printed by a program), and that they do. -/
import Derived.RangeFuncBox
import Derived.RangeFuncLeaves
import Derived.Shelf.Abstract
import Derived.TacticsInMore
import Derived.LoopNIn
import Derived.LoopIn
import Derived.Test.YtlfdhaiigdllcaaGreatDoorMgN

namespace Go.Proofs.YtlfdhaiigdllcaaGreatDoor
open Tryz Dn Dn.Sh Go.RowKit
attribute [local go_sem] Oper.semAt_some
def overG (d:Int):List (ByteArray×Int×Int×Int)->Int->List (Int×Unit)
 | [],_=>[]
 | b ::r,i=>bif decide (b.2.1<=d)&&decide (d<=b.2.2.1) then (i,()) ::overG d r (i+1) else overG d r (i+1)
def overL (l:List (ByteArray×Int×Int×Int)) (d:Int):List (Int×Unit):=overG d l 0
def overP (l:List (ByteArray×Int×Int×Int)):Bool:=Nat.ble l.length 4398046511104
def overIt:ICtr:=⟨[.sl T68,i64],[i64],fun x=>overP x.1,fun x=>overL x.1 x.2.1⟩
def its:List (Nat×ICtr):=[(134,overIt)]
theorem overG_cons {d:Int} {bs:List (ByteArray×Int×Int×Int)} {k:Nat} {b:ByteArray×Int×Int×Int} (h:bs[k]?=some b) :
  overG d (bs.drop k) k=(bif decide (b.2.1<=d)&&decide (d<=b.2.2.1) then [((k:Int),())] else [])++overG d (bs.drop (k+1)) (k+1:Nat):=by
 have hk:=(List.getElem?_eq_some_iff.1 h).1
 rw[List.drop_eq_getElem_cons hk,(List.getElem?_eq_some_iff.1 h).2]
 simp only[overG]
 cases decide (b.2.1<=d)&&decide (d<=b.2.2.1)<;>simp
theorem load_in {n:Nat} {P:Program} {o:Oper} {a:Act} {t:TypeId} {x:Operand} {ad:Addr} {v:Value} {w:World} {next:Act->World->Prop} {Q:Exit->Act->World->Prop} (ho:o.op=.load t x) (hx:a.eval x=.pointer (some ad)) (hl:(loadVar t ad).run P w=.ok v w) (hn:next (a.put o.dst v) w):o.wpIn Fence.wide n P a w next Q:=by
 refine ⟨fun _ _=>trivial,?_⟩
 have:(o.semAt Fence.wide.round a.eval).run P w=.ok (.value v) w:=by
  simp[Oper.semAt,execOp,ho,hx,Instr.loadAt,Instr.sureAddr,hl]
 rw[this]
 exact hn
theorem list_skip {n:Nat} {P:Program} {ops:Array Oper} {o:Oper} {rest:List Oper} {a:Act} {w:World} {Q:Exit->Act->World->Prop} (h:Region.wanted o (yielded ops a.tmps)=false) (hn:wpListIn Fence.wide n P ops Q rest (a.put o.dst undef) w):wpListIn Fence.wide n P ops Q (o ::rest) a w:=by
 rw[wpListIn,h]
 exact ⟨fun _ _=>trivial,hn⟩
theorem ad0 (ad:Addr):ad.add 0=ad:=by rcases ad with ⟨b,o,_ | s⟩<;>rfl
set_option maxRecDepth 100000 in
set_option maxHeartbeats 8000000 in
theorem overIt_ok:ICtr.ok overIt Tryz.prog 134:=by
 unfold ICtr.ok
 rintro l ⟨bs,d,⟨⟩⟩ ads J Jx W hp hJ hX hC hH hY h0
 obtain ⟨Z,hcaps,hH⟩:=hH
 obtain ⟨ad1,ads1,rfl,⟨cs1,hd1,hc1⟩,ad2,ads2,rfl,⟨cs2,hd2,hc2⟩,rfl⟩:=hcaps
 have hreach:bs.length*8<=140737488351232:=by
  have hb:Nat.ble bs.length 4398046511104=true:=hp
  have:=Nat.le_of_ble_eq_true hb
  omega
 refine callsIn_of_wp Tryz.func134 rfl trivial ?_
 simp only[Tryz.ntmps134,List.map_cons,List.map_nil,List.size_toArray,List.length_cons,List.length_nil,Nat.reduceAdd,Nat.reduceSub,Array.replicate_succ,Array.replicate_zero,List.push_toArray,List.append_toArray,List.nil_append,List.cons_append]
 have hdat:=fun k W' hj=>hH (.sl T68) bs cs1 hd1 k W' hj
 obtain ⟨A,c,rfl,hlc,hA,hel⟩:=hd1
 have hcs:=hc1 0 _ rfl
 rw[ad0] at hcs
 gi_wp2
 gi_loopw [8] (fun i wr=>∃k:Nat,k<=bs.length/\i=.int .i64 k/\∃pre:List (Int×Unit),overL bs d=pre++overG d (bs.drop k) k/\J pre.length wr) (fun i _=>bs.length - (intOf i).toNat)
 case atStart=>exact ⟨0,Nat.zero_le _,rfl,[],rfl,h0⟩
 case round =>
  obtain ⟨k,hk,rfl,pre,hpre,hj⟩:=hrel
  by_cases hlt:k<bs.length
  ·have hbk:bs[k]?=some bs[k]:=List.getElem?_eq_getElem hlt
   generalize hbe:bs[k]=b at hbk
   obtain ⟨Z1,A1,c1,e1,q1,q2,q3⟩:=hdat _ _ hj
   simp only[List.cons.injEq,Value.slice.injEq,and_true] at e1
   obtain ⟨rfl,-,rfl⟩:=e1
   obtain ⟨ad,rfl,-,q4⟩:=q3 (by omega)
   obtain ⟨ecs,q5,q6⟩:=q4 k b hbk
   obtain ⟨name,fr,to,mo⟩:=b
   simp only[Dat] at q5
   obtain ⟨_,_,rfl,rfl,_,_,rfl,rfl,_,_,rfl,rfl,rfl⟩:=q5
   have r0:=q6 0 _ rfl
   have r1:=q6 1 _ rfl
   have r2:=q6 2 _ rfl
   have r3:=q6 3 _ rfl
   simp only[Sh.size,Nat.reduceAdd] at r0 r1 r2 r3
   have hld:(loadVar 68 (ad.add (k*4))).run prog wr=.ok (.agg #[.string name,.int .i64 fr,.int .i64 to,.int .i64 mo]) wr :=
    run_loadVar_of (ag:=true) (cs:=[.string name,.int .i64 fr,.int .i64 to,.int .i64 mo]) (by kernel_rfl) (by kernel_rfl) (fun h=>by cases h) wr fun j v hv=>by
     rw[add_add]
     exact q6 j v hv
   have hj2:=hJ _ _ _ hj (Turned.alloc wr.heap.size wr (Obj.cells #[.string name,.int .i64 fr,.int .i64 to,.int .i64 mo] 68))
   obtain ⟨Z2,g1⟩:=hC _ _ hj2
   obtain ⟨_,_,g2,-,_,_,g3,⟨cs3,g4,g5⟩,-⟩:=g1
   injection g2 with g2a g2
   subst g2a
   subst g2
   injection g3 with g3 g3b
   subst g3
   subst g3b
   simp only[Dat] at g4
   subst g4
   have hcd:=g5 0 _ rfl
   rw[ad0] at hcd
   have hov0:=overG_cons (d:=d) hbk
   dsimp only at hov0
   clear g5 hC hdat q3 q4 q6 hel
   have fin:∀pre2,overL bs d=pre2++overG d (bs.drop (k+1)) (k+1:Nat)->∀W3,J pre2.length W3->∃k2:Nat,k2<=bs.length/\Value.int .i64 ((k:Int)+1)=.int .i64 k2/\∃pre:List (Int×Unit),overL bs d=pre++overG d (bs.drop k2) k2/\J pre.length W3 :=
    fun pre2 h W3 hj3=>⟨k+1,by omega,rfl,pre2,h,hj3⟩
   by_cases h1:fr<=d
   ·by_cases h2:d<=to
    ·have hov:overL bs d=(pre++[((k:Int),())])++overG d (bs.drop (k+1)) (k+1:Nat):=by rw[hpre,hov0];simp[h1,h2]
     have fin2:∀W3,J (pre.length+1) W3->_:=fun W3 hJ3=>fin (pre++[((k:Int),())]) hov W3 (by rw[List.length_append];exact hJ3)
     obtain ⟨fn,tmps,assign,body,hy,hR⟩:=hY pre.length ((k:Int),()) [.int .i64 k] _ (by show (overL bs d)[pre.length]?=_;rw[hov];simp;rfl) hj2 (fun Z=>⟨_,_,rfl,⟨_,rfl,rfl,fun _=>rfl⟩,rfl⟩)
     clear hov hov0 hpre fin
     gi_wp2_with (refine load_in (t:=68) rfl rfl hld ?_)
     refine ⟨rfl,hR.mono ?_⟩
     rintro e W3 (⟨rfl,hJ3⟩ | ⟨rfl,hJx3⟩)
     ·gi_wp2
      go_roundw
      case rel =>
       exact fin2 W3 hJ3
      case measure=>simp[intOf];omega
     ·gi_wp2
      refine bodyPost_ret (results_none rfl _ _ _) rfl ?_
      exact ⟨⟨_,rfl⟩,.inr hJx3⟩
    ·have hov:overL bs d=pre++overG d (bs.drop (k+1)) (k+1:Nat):=by rw[hpre,hov0];simp[h1,h2]
     have fin2:=fin pre hov _ hj2
     clear hov hov0 hpre fin
     gi_wp2_with (first | refine load_in (t:=68) rfl rfl hld ?_ | (refine list_skip rfl ?_;go_simp))
     exact ⟨⟨_,_,_,fin2,rfl,rfl,rfl⟩,by simp[intOf];omega⟩
   ·have hov:overL bs d=pre++overG d (bs.drop (k+1)) (k+1:Nat):=by rw[hpre,hov0];simp[h1]
    have fin2:=fin pre hov _ hj2
    clear hov hov0 hpre fin
    gi_wp2_with (first | refine load_in (t:=68) rfl rfl hld ?_ | (refine list_skip rfl ?_;go_simp))
    exact ⟨⟨_,_,_,fin2,rfl,rfl,rfl⟩,by simp[intOf];omega⟩
  ·obtain rfl:k=bs.length:=by omega
   gi_wp2
   go_end0
   refine ⟨⟨_,rfl⟩,.inl ?_⟩
   show J (overL bs d).length _
   rw[hpre,List.drop_length]
   simpa [overG] using hj
theorem itsOk:ItsOk Tryz.prog its:=itsOk_cons (by kernel_rfl) overIt_ok itsOk_nil
end Go.Proofs.YtlfdhaiigdllcaaGreatDoor

namespace Go.Proofs.YtlfdhaiigdllcaaGreatDoor
open Tryz Dn Dn.Sh
set_option maxRecDepth 100000
theorem hmix:prog.follows .mixedOrders=true:=by kernel_rfl
theorem inlsOk:inlOk prog inls=true:=by kernel_rfl
theorem q0:(ctxOf prog shs inls its [] []).ok:=ctxOf_nil inlsOk itsOk
noncomputable def slices_Clone_67_b (_:Lp) (_:Jn) (x0:List Int):Option (List Int) :=
 bif fitB ((0:Nat)+List.length x0) (8:Nat) then some x0 else none
noncomputable def slices_Clone_67 (x0:List Int):Option (List Int):=slices_Clone_67_b lpK jnK x0
theorem l67:(ctxOf prog shs inls its [] []).ok:=q0
noncomputable def r67:RCtr:=⟨[(.sl i64)],3,i64,fun x=>slices_Clone_67 x.1⟩
theorem e67 (lp:Lp) (jn:Jn):∀x:TsS r67.as,slices_Clone_67_b lp jn x.1=runR lp jn (ctxOf prog shs inls its [] []) hints 4 67 f67 r67.t r67.e (initN r67.as x true):=fun x=>by kernel_rfl
theorem okr67:r67.ok prog 67:=RCtr.of_den_nil (c:=r67) l67 hmix (hl:=hints) (d:=4) rfl func67 rfl (by decide) (e67 lpK jnK) fun x h=>by
 obtain ⟨l,u⟩:=x
 simp only at h
 subst h
 kernel_rfl
theorem q67:(ctxOf prog shs inls its [] [(67,r67)]).ok:=ctxOf_row q0 (by kernel_rfl) okr67
noncomputable def slices_Clone_68_b (_:Lp) (_:Jn) (x0:List (ByteArray×Int×Int×Int×Int×Int×Int)):Option (List (ByteArray×Int×Int×Int×Int×Int×Int)) :=
 bif fitB ((0:Nat)+List.length x0) (64:Nat) then some x0 else none
noncomputable def slices_Clone_68 (x0:List (ByteArray×Int×Int×Int×Int×Int×Int)):Option (List (ByteArray×Int×Int×Int×Int×Int×Int)):=slices_Clone_68_b lpK jnK x0
theorem l68:(ctxOf prog shs inls its [] [(67,r67)]).ok:=q67
noncomputable def r68:RCtr:=⟨[(.sl T27)],27,T27,fun x=>slices_Clone_68 x.1⟩
theorem e68 (lp:Lp) (jn:Jn):∀x:TsS r68.as,slices_Clone_68_b lp jn x.1=runR lp jn (ctxOf prog shs inls its [] [(67,r67)]) hints 4 68 f68 r68.t r68.e (initN r68.as x true):=fun x=>by kernel_rfl
theorem okr68:r68.ok prog 68:=RCtr.of_den_nil (c:=r68) l68 hmix (hl:=hints) (d:=4) rfl func68 rfl (by decide) (e68 lpK jnK) fun x h=>by
 obtain ⟨l,u⟩:=x
 simp only at h
 subst h
 kernel_rfl
theorem q68:(ctxOf prog shs inls its [] [(68,r68),(67,r67)]).ok:=ctxOf_row q67 (by kernel_rfl) okr68
noncomputable def slices_Clone_69_b (_:Lp) (_:Jn) (x0:List (ByteArray×Int×Int)):Option (List (ByteArray×Int×Int)) :=
 bif fitB ((0:Nat)+List.length x0) (32:Nat) then some x0 else none
noncomputable def slices_Clone_69 (x0:List (ByteArray×Int×Int)):Option (List (ByteArray×Int×Int)):=slices_Clone_69_b lpK jnK x0
theorem l69:(ctxOf prog shs inls its [] [(68,r68),(67,r67)]).ok:=q68
noncomputable def r69:RCtr:=⟨[(.sl T86)],86,T86,fun x=>slices_Clone_69 x.1⟩
theorem e69 (lp:Lp) (jn:Jn):∀x:TsS r69.as,slices_Clone_69_b lp jn x.1=runR lp jn (ctxOf prog shs inls its [] [(68,r68),(67,r67)]) hints 4 69 f69 r69.t r69.e (initN r69.as x true):=fun x=>by kernel_rfl
theorem okr69:r69.ok prog 69:=RCtr.of_den_nil (c:=r69) l69 hmix (hl:=hints) (d:=4) rfl func69 rfl (by decide) (e69 lpK jnK) fun x h=>by
 obtain ⟨l,u⟩:=x
 simp only at h
 subst h
 kernel_rfl
theorem q69:(ctxOf prog shs inls its [] [(69,r69),(68,r68),(67,r67)]).ok:=ctxOf_row q68 (by kernel_rfl) okr69
noncomputable def slices_Clone_39_b (_:Lp) (_:Jn) (x0:List (ByteArray×Int×Int×Int)):Option (List (ByteArray×Int×Int×Int)) :=
 bif fitB ((0:Nat)+List.length x0) (40:Nat) then some x0 else none
noncomputable def slices_Clone_39 (x0:List (ByteArray×Int×Int×Int)):Option (List (ByteArray×Int×Int×Int)):=slices_Clone_39_b lpK jnK x0
theorem l39:(ctxOf prog shs inls its [] [(69,r69),(68,r68),(67,r67)]).ok:=q69
noncomputable def r39:RCtr:=⟨[(.sl T68)],68,T68,fun x=>slices_Clone_39 x.1⟩
theorem e39 (lp:Lp) (jn:Jn):∀x:TsS r39.as,slices_Clone_39_b lp jn x.1=runR lp jn (ctxOf prog shs inls its [] [(69,r69),(68,r68),(67,r67)]) hints 4 39 f39 r39.t r39.e (initN r39.as x true):=fun x=>by kernel_rfl
theorem okr39:r39.ok prog 39:=RCtr.of_den_nil (c:=r39) l39 hmix (hl:=hints) (d:=4) rfl func39 rfl (by decide) (e39 lpK jnK) fun x h=>by
 obtain ⟨l,u⟩:=x
 simp only at h
 subst h
 kernel_rfl
theorem q39:(ctxOf prog shs inls its [] [(39,r39),(69,r69),(68,r68),(67,r67)]).ok:=ctxOf_row q69 (by kernel_rfl) okr39
noncomputable def bits_Mul64_b (_:Lp) (_:Jn) (x0:Int) (x1:Int):Option (Int×Int×Unit) :=
 
 let v4:Int:=(2:Int) ^ (32:Nat);
 let v5:Int:=Int.fdiv x0 v4;
 let v6:Int:=Int.fdiv x1 v4;
 let v7:Bool:=decide ((0:Int)<=(32:Int));
 let v8:Int:=IntKind.wrap .u64 (↑(Nat.land (Int.toNat (x1 % Int.ofNat (18446744073709551616:Nat))) (Int.toNat ((4294967295:Int) % Int.ofNat (18446744073709551616:Nat)))) :
  Int);
 let v9:Int:=IntKind.wrap .u64 (↑(Nat.land (Int.toNat (x0 % Int.ofNat (18446744073709551616:Nat))) (Int.toNat ((4294967295:Int) % Int.ofNat (18446744073709551616:Nat)))) :
  Int);
 let v10:Int:=IntKind.wrap .u64 (IntKind.wrap .u64 (v5*v8)+Int.fdiv (IntKind.wrap .u64 (v9*v8)) v4);bif v7 then bif v7 then bif v7 then bif v7 then bif v7
  then some (IntKind.wrap .u64 (IntKind.wrap .u64 (IntKind.wrap .u64 (v5*v6)+Int.fdiv v10 v4)+Int.fdiv (IntKind.wrap .u64 (IntKind.wrap .u64
  (↑(Nat.land (Int.toNat (v10 % Int.ofNat (18446744073709551616:Nat))) (Int.toNat ((4294967295:Int) % Int.ofNat (18446744073709551616:Nat)))):Int)+IntKind.wrap .u64 (v9 *
  v6))) v4),IntKind.wrap .u64 (x0*x1),PUnit.unit) else none else none else none else none else none
noncomputable def bits_Mul64 (x0:Int) (x1:Int):Option (Int×Int×Unit):=bits_Mul64_b lpK jnK x0 x1
noncomputable def c118:Ctr:=⟨[(.int .u64),(.int .u64)],[],[],.tup [(.int .u64),(.int .u64)],fun x _ _=>bits_Mul64 x.1 x.2.1⟩
theorem e118 (lp:Lp) (jn:Jn):∀(x:TsS c118.as) (F:TsF c118.fs) (y:TsS c118.cs),bits_Mul64_b lp jn x.1 x.2.1=runC lp jn (ctxOf prog shs inls its [] [(39,r39),(69,r69),(68,r68),(67,r67)]) hints 4 118 f118 c118 x F y:=fun x F y=>by kernel_rfl
theorem l118:(ctxOf prog shs inls its [] [(39,r39),(69,r69),(68,r68),(67,r67)]).ok:=q39
theorem ok118:c118.ok prog 118:=Ctr.of_den l118 hmix (hl:=hints) (d:=4) func118 rfl (by decide) (e118 lpK jnK)
noncomputable def bits_Mul32_b (_:Lp) (_:Jn) (x0:Int) (x1:Int):Option (Int×Int×Unit) :=
 
 let v4:Int:=IntKind.wrap .u64 (IntKind.wrap .u64 x0*IntKind.wrap .u64 x1);bif decide ((0:Int)<=(32:Int)) then some (IntKind.wrap IntKind.u32 (Int.fdiv v4
  ((2:Int) ^ (32:Nat))),IntKind.wrap IntKind.u32 v4,PUnit.unit) else none
noncomputable def bits_Mul32 (x0:Int) (x1:Int):Option (Int×Int×Unit):=bits_Mul32_b lpK jnK x0 x1
noncomputable def c140:Ctr:=⟨[(.int .u32),(.int .u32)],[],[],.tup [(.int .u32),(.int .u32)],fun x _ _=>bits_Mul32 x.1 x.2.1⟩
theorem e140 (lp:Lp) (jn:Jn):∀(x:TsS c140.as) (F:TsF c140.fs) (y:TsS c140.cs),bits_Mul32_b lp jn x.1 x.2.1=runC lp jn (ctxOf prog shs inls its [] [(39,r39),(69,r69),(68,r68),(67,r67)]) hints 4 140 f140 c140 x F y:=fun x F y=>by kernel_rfl
theorem l140:(ctxOf prog shs inls its [] [(39,r39),(69,r69),(68,r68),(67,r67)]).ok:=q39
theorem ok140:c140.ok prog 140:=Ctr.of_den l140 hmix (hl:=hints) (d:=4) func140 rfl (by decide) (e140 lpK jnK)
noncomputable def bits_Mul_b (_:Lp) (_:Jn) (bits_Mul64:(Int)->(Int)->Option (Int×Int×Unit)) (_:(Int)->(Int)->Option (Int×Int×Unit)) (x0:Int) (x1:Int):Option (Int×Int×Unit) :=
 obind (bits_Mul64 x0 x1) fun (t:Int×Int×PUnit)=>some (t.1,t.2.1,PUnit.unit)
noncomputable def bits_Mul (x0:Int) (x1:Int):Option (Int×Int×Unit):=bits_Mul_b lpK jnK bits_Mul64 bits_Mul32 x0 x1
noncomputable def c133:Ctr:=⟨[(.int .u64),(.int .u64)],[],[],.tup [(.int .u64),(.int .u64)],fun x _ _=>bits_Mul x.1 x.2.1⟩
theorem e133 (lp:Lp) (jn:Jn) (bits_Mul64:(Int)->(Int)->Option (Int×Int×Unit)) (bits_Mul32:(Int)->(Int)->Option (Int×Int×Unit)):∀(x:TsS c133.as) (F:TsF c133.fs) (y:TsS c133.cs),bits_Mul_b lp jn bits_Mul64 bits_Mul32 x.1 x.2.1=runC lp jn (ctxOf prog shs inls its [(140,⟨[(.int .u32),(.int .u32)],[],[],.tup [(.int .u32),(.int .u32)],fun x _ _=>bits_Mul32 x.1 x.2.1⟩),(118,⟨[(.int .u64),(.int .u64)],[],[],.tup [(.int .u64),(.int .u64)],fun x _ _=>bits_Mul64 x.1 x.2.1⟩)] [(39,r39),(69,r69),(68,r68),(67,r67)]) hints 4 133 f133 c133 x F y:=fun x F y=>by kernel_rfl
theorem l133:(ctxOf prog shs inls its [(140,c140),(118,c118)] [(39,r39),(69,r69),(68,r68),(67,r67)]).ok:=ctxOf_cons (ctxOf_cons (q39) (by kernel_rfl) ok118) (by kernel_rfl) ok140
theorem ok133:c133.ok prog 133:=Ctr.of_den l133 hmix (hl:=hints) (d:=4) func133 rfl (by decide) (e133 lpK jnK bits_Mul64 bits_Mul32)
noncomputable def slices_Repeat_113_b (lp:Lp) (jn:Jn) (bits_Mul:(Int)->(Int)->Option (Int×Int×Unit)) (x0:List (Int×Int)) (x1:Int):Option (List (Int×Int)) :=
 jn PUnit (List (Int×Int)) (fun (_:PUnit)=>obind (bits_Mul (IntKind.wrap .u64 (↑(List.length x0):Int)) (IntKind.wrap .u64 x1)) fun (t:Int×Int×PUnit) =>
 let v6:List (Int×Int):=List.take (Int.toNat (IntKind.wrap .i64 t.2.1)) x0;
 let v7:Bool:=decide (t.1>(0:Int));
 let v8:Bool:=!v7;
 let v9:List (Int×Int):=List.replicate (Int.toNat (IntKind.wrap .i64 t.2.1)) ((0:Int),(0:Int));bif !v8||v8 then bif v7||v8 then jn PUnit (List (Int×Int)) (fun
  (_:PUnit)=>bif decide ((0:Int)<=IntKind.wrap .i64 t.2.1)&&fitB (Int.toNat (IntKind.wrap .i64 t.2.1)) (16:Nat) then lp (Int×List (Int×Int)×PUnit)
  (List (Int×Int)) (fun (again:Int×List (Int×Int)×PUnit->Option (List (Int×Int))) (x:Int×List (Int×Int)×PUnit) =>
 let v13:List (Int×Int):=List.take (Int.toNat x.1) x.2.1;
 let v14:List (Int×Int):=List.take (Int.toNat (↑(List.length x.2.1):Int) - Int.toNat x.1) (List.drop (0:Nat) v13);bif decide (x.1<(↑(List.length x.2.1):Int))
  then bif slB x.1 (↑(List.length x.2.1):Int) (List.length x.2.1) then bif slB (0:Int) x.1 (List.length x.2.1) then bif Nat.ble (Int.toNat x.1) (Int.toNat
  (↑(List.length x.2.1):Int))&&(Nat.ble (Int.toNat (↑(List.length x.2.1):Int)) (List.length x.2.1)&&Nat.ble (Int.toNat x.1) (List.length x.2.1)) then again
  (IntKind.wrap .i64 (x.1+(↑(List.length v14):Int)),v13++v14++List.drop (Int.toNat x.1+List.length v14) x.2.1,PUnit.unit) else none else none else none else
  some x.2.1) ((↑(List.length v6):Int),List.take (0:Nat) v9++v6++List.drop ((0:Nat)+List.length v6) v9,PUnit.unit) else none) fun (j:PUnit->Option (List (Int×Int)))
  =>bif bif v7 then true else decide (t.2.1>(9223372036854775807:Int)) then none else j PUnit.unit else none else none) fun (j:PUnit->Option (List (Int×Int)))=>bif decide
  (x1<(0:Int)) then none else j PUnit.unit
noncomputable def slices_Repeat_113 (x0:List (Int×Int)) (x1:Int):Option (List (Int×Int)):=slices_Repeat_113_b lpK jnK bits_Mul x0 x1
theorem l113:(ctxOf prog shs inls its [(133,c133)] [(39,r39),(69,r69),(68,r68),(67,r67)]).ok:=ctxOf_cons (q39) (by kernel_rfl) ok133
noncomputable def r113:RCtr:=⟨[(.sl T50),i64],50,T50,fun x=>slices_Repeat_113 x.1 x.2.1⟩
theorem e113 (lp:Lp) (jn:Jn) (bits_Mul:(Int)->(Int)->Option (Int×Int×Unit)):∀x:TsS r113.as,slices_Repeat_113_b lp jn bits_Mul x.1 x.2.1=runR lp jn (ctxOf prog shs inls its [(133,⟨[(.int .u64),(.int .u64)],[],[],.tup [(.int .u64),(.int .u64)],fun x _ _=>bits_Mul x.1 x.2.1⟩)] [(39,r39),(69,r69),(68,r68),(67,r67)]) hints 4 113 f113 r113.t r113.e (initS r113.as x 0):=fun x=>by kernel_rfl
theorem okr113:r113.ok prog 113:=RCtr.of_den (c:=r113) l113 hmix (hl:=hints) (d:=4) func113 rfl (by decide) (e113 lpK jnK bits_Mul)
theorem q113:(ctxOf prog shs inls its [] [(113,r113),(39,r39),(69,r69),(68,r68),(67,r67)]).ok:=ctxOf_row q39 (by kernel_rfl) okr113
noncomputable def decimal_letter_b (_:Lp) (_:Jn) (x0:Int):Option Bool :=
 
 let v3:Bool:=decide (x0>=(97:Int));
 let v4:Bool:=decide (x0>=(65:Int));
 let v5:Bool:=!v3||v3;
 let v6:Bool:=bif v3 then decide (x0<=(122:Int)) else false;
 let v7:Bool:=!v6;
 let v8:Bool:=!v7;
 let v9:Bool:=v7&&v4;
 let v10:Bool:=v8||v7;bif v5 then bif v5 then bif v10 then bif v10 then bif !v9||v9 then bif (v8||v10)&&(v8||(!v4||(v8||v9))) then bif v6||v7 then some (bif v6 then
  true else bif v4 then decide (x0<=(90:Int)) else false) else none else none else none else none else none else none else none
noncomputable def decimal_letter (x0:Int):Option Bool:=decimal_letter_b lpK jnK x0
noncomputable def c98:Ctr:=⟨[(.int .u8)],[],[],.one .bool,fun x _ _=>decimal_letter x.1⟩
theorem e98 (lp:Lp) (jn:Jn):∀(x:TsS c98.as) (F:TsF c98.fs) (y:TsS c98.cs),decimal_letter_b lp jn x.1=runC lp jn (ctxOf prog shs inls its [] [(113,r113),(39,r39),(69,r69),(68,r68),(67,r67)]) hints 4 98 f98 c98 x F y:=fun x F y=>by kernel_rfl
theorem l98:(ctxOf prog shs inls its [] [(113,r113),(39,r39),(69,r69),(68,r68),(67,r67)]).ok:=q113
theorem ok98:c98.ok prog 98:=Ctr.of_den l98 hmix (hl:=hints) (d:=4) func98 rfl (by decide) (e98 lpK jnK)
noncomputable def decimal_digit_b (_:Lp) (_:Jn) (x0:Int):Option Bool :=
 
 let v3:Bool:=decide (x0>=(48:Int));
 let v4:Bool:=!v3||v3;bif v4 then bif v4 then some (bif v3 then decide (x0<=(57:Int)) else false) else none else none
noncomputable def decimal_digit (x0:Int):Option Bool:=decimal_digit_b lpK jnK x0
noncomputable def c129:Ctr:=⟨[(.int .u8)],[],[],.one .bool,fun x _ _=>decimal_digit x.1⟩
theorem e129 (lp:Lp) (jn:Jn):∀(x:TsS c129.as) (F:TsF c129.fs) (y:TsS c129.cs),decimal_digit_b lp jn x.1=runC lp jn (ctxOf prog shs inls its [] [(113,r113),(39,r39),(69,r69),(68,r68),(67,r67)]) hints 4 129 f129 c129 x F y:=fun x F y=>by kernel_rfl
theorem l129:(ctxOf prog shs inls its [] [(113,r113),(39,r39),(69,r69),(68,r68),(67,r67)]).ok:=q113
theorem ok129:c129.ok prog 129:=Ctr.of_den l129 hmix (hl:=hints) (d:=4) func129 rfl (by decide) (e129 lpK jnK)
noncomputable def decimal_word_b (lp:Lp) (_:Jn) (decimal_letter:(Int)->Option (Bool)) (decimal_digit:(Int)->Option (Bool)) (x0:ByteArray):Option Int :=
 lp (Int×PUnit) Int (fun (again:Int×PUnit->Option Int) (x:Int×PUnit) =>
 let v5:Bool:=inB x.1 (ByteArray.size x0);
 let v6:Int:=byteAt x0 (Int.toNat x.1);
 let v7:Bool:=decide (x.1<(↑(ByteArray.size x0):Int));
 let v8:Bool:=!v7;
 let v9:Bool:=v8||v7;
 let v10:Bool:=v8||v9;bif v9&&(v9&&(v8||v5)) then bif v9 then obind (bif v7 then decimal_letter v6 else some false) fun (t:Bool) =>
 let v12:Bool:=v7&&!t;
 let v13:Bool:=!v12;
 let v14:Bool:=v13||v12;bif v9 then bif v14&&(v14&&(v13||v5)) then bif v14 then obind (bif v12 then decimal_digit v6 else some false) fun (t_1:Bool) =>
 let v16:Bool:=bif t then true else t_1;
 let v17:Bool:=v7&&!v16;
 let v18:Bool:=!v17;
 let v19:Bool:=v18||v17;bif v10&&(v8||(t||(v8||v12))) then bif v9 then bif v19&&(v19&&(v18||v5)) then bif v19 then bif v10&&(v8||(v16||(v8||v17))) then bif v9
  then bif bif v7 then bif v16 then true else decide (v6=(95:Int)) else false then again (IntKind.wrap .i64 (x.1+(1:Int)),PUnit.unit) else some x.1 else none else none
  else none else none else none else none else none else none else none else none else none) ((0:Int),PUnit.unit)
noncomputable def decimal_word (x0:ByteArray):Option Int:=decimal_word_b lpK jnK decimal_letter decimal_digit x0
noncomputable def c99:Ctr:=⟨[.str],[],[],.one i64,fun x _ _=>decimal_word x.1⟩
theorem e99 (lp:Lp) (jn:Jn) (decimal_letter:(Int)->Option (Bool)) (decimal_digit:(Int)->Option (Bool)):∀(x:TsS c99.as) (F:TsF c99.fs) (y:TsS c99.cs),decimal_word_b lp jn decimal_letter decimal_digit x.1=runC lp jn (ctxOf prog shs inls its [(129,⟨[(.int .u8)],[],[],.one .bool,fun x _ _=>decimal_digit x.1⟩),(98,⟨[(.int .u8)],[],[],.one .bool,fun x _ _=>decimal_letter x.1⟩)] [(113,r113),(39,r39),(69,r69),(68,r68),(67,r67)]) hints 4 99 f99 c99 x F y:=fun x F y=>by kernel_rfl
theorem l99:(ctxOf prog shs inls its [(129,c129),(98,c98)] [(113,r113),(39,r39),(69,r69),(68,r68),(67,r67)]).ok:=ctxOf_cons (ctxOf_cons (q113) (by kernel_rfl) ok98) (by kernel_rfl) ok129
theorem ok99:c99.ok prog 99:=Ctr.of_den l99 hmix (hl:=hints) (d:=4) func99 rfl (by decide) (e99 lpK jnK decimal_letter decimal_digit)
noncomputable def decimal_IsName_b (_:Lp) (_:Jn) (decimal_letter:(Int)->Option (Bool)) (decimal_word:(ByteArray)->Option (Int)) (x0:ByteArray):Option Bool :=
 
 let v3:Bool:=!List.beq (ByteArray.toList x0) (ByteArray.toList { data:=#[] });
 let v4:Bool:=!v3||v3;
 let v5:Bool:=bif v3 then decide ((↑(ByteArray.size x0):Int)<=(20:Int)) else false;
 let v6:Bool:=!v5;
 let v7:Bool:=v6||v5;bif v4 then bif v4 then bif v4 then bif v7&&(v6||inB (0:Int) (ByteArray.size x0)) then bif v7 then obind (bif v5 then decimal_letter (byteAt x0 (0:Nat))
  else some false) fun (t:Bool) =>
 let v9:Bool:=bif v5 then t else false;
 let v10:Bool:=!v9||v9;bif v7 then bif v10 then obind (bif v9 then decimal_word x0 else some (0:Int)) fun (t:Int)=>bif v10 then bif v10&&v10 then bif v10 then some (bif v9
  then decide (t=(↑(ByteArray.size x0):Int)) else false) else none else none else none else none else none else none else none else none else none else none
noncomputable def decimal_IsName (x0:ByteArray):Option Bool:=decimal_IsName_b lpK jnK decimal_letter decimal_word x0
noncomputable def c61:Ctr:=⟨[.str],[],[],.one .bool,fun x _ _=>decimal_IsName x.1⟩
theorem e61 (lp:Lp) (jn:Jn) (decimal_letter:(Int)->Option (Bool)) (decimal_word:(ByteArray)->Option (Int)):∀(x:TsS c61.as) (F:TsF c61.fs) (y:TsS c61.cs),decimal_IsName_b lp jn decimal_letter decimal_word x.1=runC lp jn (ctxOf prog shs inls its [(99,⟨[.str],[],[],.one i64,fun x _ _=>decimal_word x.1⟩),(98,⟨[(.int .u8)],[],[],.one .bool,fun x _ _=>decimal_letter x.1⟩)] [(113,r113),(39,r39),(69,r69),(68,r68),(67,r67)]) hints 4 61 f61 c61 x F y:=fun x F y=>by kernel_rfl
theorem l61:(ctxOf prog shs inls its [(99,c99),(98,c98)] [(113,r113),(39,r39),(69,r69),(68,r68),(67,r67)]).ok:=ctxOf_cons (ctxOf_cons (q113) (by kernel_rfl) ok98) (by kernel_rfl) ok99
theorem ok61:c61.ok prog 61:=Ctr.of_den l61 hmix (hl:=hints) (d:=4) func61 rfl (by decide) (e61 lpK jnK decimal_letter decimal_word)
noncomputable def batten_between_b (_:Lp) (_:Jn) (x0:Int) (x1:Int) (x2:Int):Option Bool :=
 
 let v5:Bool:=decide (x0>=x1);
 let v6:Bool:=!v5||v5;bif v6&&v6 then bif v6 then some (bif v5 then decide (x0<=x2) else false) else none else none
noncomputable def batten_between (x0:Int) (x1:Int) (x2:Int):Option Bool:=batten_between_b lpK jnK x0 x1 x2
noncomputable def c62:Ctr:=⟨[i64,i64,i64],[],[],.one .bool,fun x _ _=>batten_between x.1 x.2.1 x.2.2.1⟩
theorem e62 (lp:Lp) (jn:Jn):∀(x:TsS c62.as) (F:TsF c62.fs) (y:TsS c62.cs),batten_between_b lp jn x.1 x.2.1 x.2.2.1=runC lp jn (ctxOf prog shs inls its [] [(113,r113),(39,r39),(69,r69),(68,r68),(67,r67)]) hints 4 62 f62 c62 x F y:=fun x F y=>by kernel_rfl
theorem l62:(ctxOf prog shs inls its [] [(113,r113),(39,r39),(69,r69),(68,r68),(67,r67)]).ok:=q113
theorem ok62:c62.ok prog 62:=Ctr.of_den l62 hmix (hl:=hints) (d:=4) func62 rfl (by decide) (e62 lpK jnK)
noncomputable def batten_lines_b (lp:Lp) (_:Jn) (batten_between:(Int)->(Int)->(Int)->Option (Bool)) (x0:List Int) (x1:Int):Option Bool :=
 obind (batten_between (↑(List.length x0):Int) (2:Int) (10:Int)) fun (t:Bool) =>
 let v5:Bool:=!t;
 let v6:Bool:=!v5;
 let v7:Bool:=!v6;
 let v8:Bool:=v7||v6;
 let v9:Bool:=bif v5 then true else decide (List.getD x0 (0:Nat) (0:Int)<(0:Int));
 let v10:Bool:=!v9;
 let v11:Bool:=!v10;
 let v12:Bool:=v11||v10;bif v8&&(v7||inB (0:Int) (List.length x0)) then bif v8 then bif v8 then bif v5||v6 then bif v12 then bif v12 then bif v12&&(v12&&(v11||inB
  (IntKind.wrap .i64 ((↑(List.length x0):Int) - (1:Int))) (List.length x0))) then bif v12 then bif v12&&v12 then bif v9||v10 then bif bif v9 then true else decide
  (List.getD x0 (Int.toNat (IntKind.wrap .i64 ((↑(List.length x0):Int) - (1:Int)))) (0:Int)>x1) then some false else lp (Int×PUnit) Bool (fun (again:Int×PUnit ->
  Option Bool) (x:Int×PUnit)=>bif decide (x.1<(↑(List.length x0):Int)) then bif inB x.1 (List.length x0) then bif inB (IntKind.wrap .i64 (x.1 - (1:Int)))
  (List.length x0) then bif decide (List.getD x0 (Int.toNat x.1) (0:Int)<=List.getD x0 (Int.toNat (IntKind.wrap .i64 (x.1 - (1:Int)))) (0:Int)) then some false else
  again (IntKind.wrap .i64 (x.1+(1:Int)),PUnit.unit) else none else none else some true) ((1:Int),PUnit.unit) else none else none else none else none else none else none
  else none else none else none else none
noncomputable def batten_lines (x0:List Int) (x1:Int):Option Bool:=batten_lines_b lpK jnK batten_between x0 x1
noncomputable def c63:Ctr:=⟨[(.sl i64),i64],[],[],.one .bool,fun x _ _=>batten_lines x.1 x.2.1⟩
theorem e63 (lp:Lp) (jn:Jn) (batten_between:(Int)->(Int)->(Int)->Option (Bool)):∀(x:TsS c63.as) (F:TsF c63.fs) (y:TsS c63.cs),batten_lines_b lp jn batten_between x.1 x.2.1=runC lp jn (ctxOf prog shs inls its [(62,⟨[i64,i64,i64],[],[],.one .bool,fun x _ _=>batten_between x.1 x.2.1 x.2.2.1⟩)] [(113,r113),(39,r39),(69,r69),(68,r68),(67,r67)]) hints 4 63 f63 c63 x F y:=fun x F y=>by kernel_rfl
theorem l63:(ctxOf prog shs inls its [(62,c62)] [(113,r113),(39,r39),(69,r69),(68,r68),(67,r67)]).ok:=ctxOf_cons (q113) (by kernel_rfl) ok62
theorem ok63:c63.ok prog 63:=Ctr.of_den l63 hmix (hl:=hints) (d:=4) func63 rfl (by decide) (e63 lpK jnK batten_between)
noncomputable def slices_IndexFunc_66_b (lp:Lp) (_:Jn) (x0:List (ByteArray×Int×Int×Int×Int×Int×Int)) (f0:(((ByteArray×Int×Int×Int×Int×Int×Int)×Unit)->Option Bool)):Option Int :=
 lp (Int×PUnit) Int (fun (again:Int×PUnit->Option Int) (x:Int×PUnit)=>bif decide (x.1<(↑(List.length x0):Int)) then bif inB x.1 (List.length x0) then obind (f0
  (List.getD x0 (Int.toNat x.1) ({ data:={ toList:=[] } },(0:Int),(0:Int),(0:Int),(0:Int),(0:Int),(0:Int)),PUnit.unit)) fun (t:Bool)=>bif t then some x.1
  else again (IntKind.wrap .i64 (x.1+(1:Int)),PUnit.unit) else none else some (-1:Int)) ((0:Int),PUnit.unit)
noncomputable def slices_IndexFunc_66 (x0:List (ByteArray×Int×Int×Int×Int×Int×Int)) (f0:(((ByteArray×Int×Int×Int×Int×Int×Int)×Unit)->Option Bool)):Option Int:=slices_IndexFunc_66_b lpK jnK x0 f0
noncomputable def c66:Ctr:=⟨[(.sl T27)],[([T27],.bool)],[],.one i64,fun x F _=>slices_IndexFunc_66 x.1 F.1⟩
theorem e66 (lp:Lp) (jn:Jn):∀(x:TsS c66.as) (F:TsF c66.fs) (y:TsS c66.cs),slices_IndexFunc_66_b lp jn x.1 F.1=runC lp jn (ctxOf prog shs inls its [] [(113,r113),(39,r39),(69,r69),(68,r68),(67,r67)]) hints 4 66 f66 c66 x F y:=fun x F y=>by kernel_rfl
theorem l66:(ctxOf prog shs inls its [] [(113,r113),(39,r39),(69,r69),(68,r68),(67,r67)]).ok:=q113
theorem ok66:c66.ok prog 66:=Ctr.of_den l66 hmix (hl:=hints) (d:=4) func66 rfl (by decide) (e66 lpK jnK)
noncomputable def slices_ContainsFunc_25_b (_:Lp) (_:Jn) (slices_IndexFunc_66:(List (ByteArray×Int×Int×Int×Int×Int×Int))->((((ByteArray×Int×Int×Int×Int×Int×Int)×Unit)->Option Bool))->Option (Int)) (x0:List (ByteArray×Int×Int×Int×Int×Int×Int)) (f0:(((ByteArray×Int×Int×Int×Int×Int×Int)×Unit)->Option Bool)):Option Bool :=
 obind (slices_IndexFunc_66 x0 f0) fun (t:Int)=>some (decide (t>=(0:Int)))
noncomputable def slices_ContainsFunc_25 (x0:List (ByteArray×Int×Int×Int×Int×Int×Int)) (f0:(((ByteArray×Int×Int×Int×Int×Int×Int)×Unit)->Option Bool)):Option Bool:=slices_ContainsFunc_25_b lpK jnK slices_IndexFunc_66 x0 f0
noncomputable def c25:Ctr:=⟨[(.sl T27)],[([T27],.bool)],[],.one .bool,fun x F _=>slices_ContainsFunc_25 x.1 F.1⟩
theorem e25 (lp:Lp) (jn:Jn) (slices_IndexFunc_66:(List (ByteArray×Int×Int×Int×Int×Int×Int))->((((ByteArray×Int×Int×Int×Int×Int×Int)×Unit)->Option Bool))->Option (Int)):∀(x:TsS c25.as) (F:TsF c25.fs) (y:TsS c25.cs),slices_ContainsFunc_25_b lp jn slices_IndexFunc_66 x.1 F.1=runC lp jn (ctxOf prog shs inls its [(66,⟨[(.sl T27)],[([T27],.bool)],[],.one i64,fun x F _=>slices_IndexFunc_66 x.1 F.1⟩)] [(113,r113),(39,r39),(69,r69),(68,r68),(67,r67)]) hints 4 25 f25 c25 x F y:=fun x F y=>by kernel_rfl
theorem l25:(ctxOf prog shs inls its [(66,c66)] [(113,r113),(39,r39),(69,r69),(68,r68),(67,r67)]).ok:=ctxOf_cons (q113) (by kernel_rfl) ok66
theorem ok25:c25.ok prog 25:=Ctr.of_den l25 hmix (hl:=hints) (d:=4) func25 rfl (by decide) (e25 lpK jnK slices_IndexFunc_66)
noncomputable def batten_alone_b (_:Lp) (_:Jn) (decimal_IsName:(ByteArray)->Option (Bool)) (batten_between:(Int)->(Int)->(Int)->Option (Bool)) (x0:ByteArray×Int×Int×Int×Int×Int×Int):Option Bool :=
 obind (decimal_IsName x0.1) fun (t:Bool) =>
 let v4:Bool:=!t||t;bif v4 then bif v4 then obind (bif t then batten_between x0.2.2.2.1 (0:Int) (1048576:Int) else some false) fun (t_1:Bool) =>
 let v6:Bool:=bif t then t_1 else false;
 let v7:Bool:=!v6||v6;bif v4 then bif v7 then bif v7 then obind (bif v6 then batten_between x0.2.2.2.2.1 (0:Int) (1048576:Int) else some false) fun (t:Bool) =>
 let v9:Bool:=bif v6 then t else false;
 let v10:Bool:=!v9||v9;bif v7 then bif v10 then bif v10 then obind (bif v9 then batten_between x0.2.2.2.2.2.1 (0:Int) (1048576:Int) else some false) fun (t:Bool) =>
 let v12:Bool:=bif v9 then t else false;
 let v13:Bool:=!v12||v12;bif v10 then bif v13 then bif v13 then obind (bif v12 then batten_between x0.2.2.2.2.2.2 (0:Int) (1048576:Int) else some false) fun (t :
  Bool)=>bif v13 then some (bif v12 then t else false) else none else none else none else none else none else none else none else none else none else none else none else none
noncomputable def batten_alone (x0:ByteArray×Int×Int×Int×Int×Int×Int):Option Bool:=batten_alone_b lpK jnK decimal_IsName batten_between x0
noncomputable def c27:Ctr:=⟨[T27],[],[],.one .bool,fun x _ _=>batten_alone x.1⟩
theorem e27 (lp:Lp) (jn:Jn) (decimal_IsName:(ByteArray)->Option (Bool)) (batten_between:(Int)->(Int)->(Int)->Option (Bool)):∀(x:TsS c27.as) (F:TsF c27.fs) (y:TsS c27.cs),batten_alone_b lp jn decimal_IsName batten_between x.1=runC lp jn (ctxOf prog shs inls its [(62,⟨[i64,i64,i64],[],[],.one .bool,fun x _ _=>batten_between x.1 x.2.1 x.2.2.1⟩),(61,⟨[.str],[],[],.one .bool,fun x _ _=>decimal_IsName x.1⟩)] [(113,r113),(39,r39),(69,r69),(68,r68),(67,r67)]) hints 4 27 f27 c27 x F y:=fun x F y=>by kernel_rfl
theorem l27:(ctxOf prog shs inls its [(62,c62),(61,c61)] [(113,r113),(39,r39),(69,r69),(68,r68),(67,r67)]).ok:=ctxOf_cons (ctxOf_cons (q113) (by kernel_rfl) ok61) (by kernel_rfl) ok62
theorem ok27:c27.ok prog 27:=Ctr.of_den l27 hmix (hl:=hints) (d:=4) func27 rfl (by decide) (e27 lpK jnK decimal_IsName batten_between)
noncomputable def batten_inside_b (_:Lp) (_:Jn) (batten_between:(Int)->(Int)->(Int)->Option (Bool)) (x0:ByteArray×Int×Int×Int×Int×Int×Int) (x1:Int):Option Bool :=
 
 let v4:Bool:=decide (x0.2.1>=(0:Int));
 let v5:Bool:=!v4||v4;bif v5 then bif v5 then obind (bif v4 then batten_between x0.2.2.1 (1:Int) (1048576:Int) else some false) fun (t:Bool) =>
 let v7:Bool:=bif v4 then t else false;
 let v8:Bool:=!v7||v7;
 let v9:Bool:=v8&&v8;bif v5 then bif v8 then bif v8 then bif v9 then bif v9 then bif v8 then some (bif v7 then decide (x0.2.1<=IntKind.wrap .i64 (x1 - x0.2.2.1))
  else false) else none else none else none else none else none else none else none else none
noncomputable def batten_inside (x0:ByteArray×Int×Int×Int×Int×Int×Int) (x1:Int):Option Bool:=batten_inside_b lpK jnK batten_between x0 x1
noncomputable def c28:Ctr:=⟨[T27,i64],[],[],.one .bool,fun x _ _=>batten_inside x.1 x.2.1⟩
theorem e28 (lp:Lp) (jn:Jn) (batten_between:(Int)->(Int)->(Int)->Option (Bool)):∀(x:TsS c28.as) (F:TsF c28.fs) (y:TsS c28.cs),batten_inside_b lp jn batten_between x.1 x.2.1=runC lp jn (ctxOf prog shs inls its [(62,⟨[i64,i64,i64],[],[],.one .bool,fun x _ _=>batten_between x.1 x.2.1 x.2.2.1⟩)] [(113,r113),(39,r39),(69,r69),(68,r68),(67,r67)]) hints 4 28 f28 c28 x F y:=fun x F y=>by kernel_rfl
theorem l28:(ctxOf prog shs inls its [(62,c62)] [(113,r113),(39,r39),(69,r69),(68,r68),(67,r67)]).ok:=ctxOf_cons (q113) (by kernel_rfl) ok62
theorem ok28:c28.ok prog 28:=Ctr.of_den l28 hmix (hl:=hints) (d:=4) func28 rfl (by decide) (e28 lpK jnK batten_between)
noncomputable def batten_twice_100_b (lp:Lp) (_:Jn) (x0:List (ByteArray×Int×Int×Int×Int×Int×Int)) (f0:(((ByteArray×Int×Int×Int×Int×Int×Int)×Unit)->Option ByteArray)):Option Bool :=
 lp (Int×List ByteArray×PUnit) Bool (fun (again:Int×List ByteArray×PUnit->Option Bool) (x:Int×List ByteArray×PUnit)=>bif decide (x.1<(↑(List.length x0):Int)) then
  bif inB x.1 (List.length x0) then obind (f0 (List.getD x0 (Int.toNat x.1) ({ data:={ toList:=[] } },(0:Int),(0:Int),(0:Int),(0:Int),(0:Int),(0:Int)),
  PUnit.unit)) fun (t:ByteArray)=>again (IntKind.wrap .i64 (x.1+(1:Int)),addK str t x.2.1,PUnit.unit) else none else some (decide ((↑(List.length x.2.1):Int)
  < (↑(List.length x0):Int)))) ((0:Int),[],PUnit.unit)
noncomputable def batten_twice_100 (x0:List (ByteArray×Int×Int×Int×Int×Int×Int)) (f0:(((ByteArray×Int×Int×Int×Int×Int×Int)×Unit)->Option ByteArray)):Option Bool:=batten_twice_100_b lpK jnK x0 f0
noncomputable def c100:Ctr:=⟨[(.sl T27)],[([T27],.str)],[],.one .bool,fun x F _=>batten_twice_100 x.1 F.1⟩
theorem e100 (lp:Lp) (jn:Jn):∀(x:TsS c100.as) (F:TsF c100.fs) (y:TsS c100.cs),batten_twice_100_b lp jn x.1 F.1=runC lp jn (ctxOf prog shs inls its [] [(113,r113),(39,r39),(69,r69),(68,r68),(67,r67)]) hints 4 100 f100 c100 x F y:=fun x F y=>by kernel_rfl
theorem l100:(ctxOf prog shs inls its [] [(113,r113),(39,r39),(69,r69),(68,r68),(67,r67)]).ok:=q113
theorem ok100:c100.ok prog 100:=Ctr.of_den l100 hmix (hl:=hints) (d:=4) func100 rfl (by decide) (e100 lpK jnK)
noncomputable def batten_items_1_b (_:Lp) (_:Jn) (x0:ByteArray×Int×Int×Int×Int×Int×Int):Option ByteArray :=
 some x0.1
noncomputable def batten_items_1 (x0:ByteArray×Int×Int×Int×Int×Int×Int):Option ByteArray:=batten_items_1_b lpK jnK x0
noncomputable def c101:Ctr:=⟨[T27],[],[],.one .str,fun x _ _=>batten_items_1 x.1⟩
theorem e101 (lp:Lp) (jn:Jn):∀(x:TsS c101.as) (F:TsF c101.fs) (y:TsS c101.cs),batten_items_1_b lp jn x.1=runC lp jn (ctxOf prog shs inls its [] [(113,r113),(39,r39),(69,r69),(68,r68),(67,r67)]) hints 4 101 f101 c101 x F y:=fun x F y=>by kernel_rfl
theorem l101:(ctxOf prog shs inls its [] [(113,r113),(39,r39),(69,r69),(68,r68),(67,r67)]).ok:=q113
theorem ok101:c101.ok prog 101:=Ctr.of_den l101 hmix (hl:=hints) (d:=4) func101 rfl (by decide) (e101 lpK jnK)
noncomputable def batten_apart_b (_:Lp) (_:Jn) (x0:ByteArray×Int×Int×Int×Int×Int×Int) (x1:ByteArray×Int×Int×Int×Int×Int×Int):Option Bool :=
 
 let v4:Bool:=decide (IntKind.wrap .i64 (x0.2.1+x0.2.2.1)<=x1.2.1);
 let v5:Bool:=!v4;
 let v6:Bool:=!v5||v5;
 let v7:Bool:=v6&&v6;bif v6 then bif v6 then bif v7 then bif v6 then bif v7 then bif v4||v5 then some (bif v4 then true else decide (IntKind.wrap .i64 (x1.2.1 +
  x1.2.2.1)<=x0.2.1)) else none else none else none else none else none else none
noncomputable def batten_apart (x0:ByteArray×Int×Int×Int×Int×Int×Int) (x1:ByteArray×Int×Int×Int×Int×Int×Int):Option Bool:=batten_apart_b lpK jnK x0 x1
noncomputable def c30:Ctr:=⟨[T27,T27],[],[],.one .bool,fun x _ _=>batten_apart x.1 x.2.1⟩
theorem e30 (lp:Lp) (jn:Jn):∀(x:TsS c30.as) (F:TsF c30.fs) (y:TsS c30.cs),batten_apart_b lp jn x.1 x.2.1=runC lp jn (ctxOf prog shs inls its [] [(113,r113),(39,r39),(69,r69),(68,r68),(67,r67)]) hints 4 30 f30 c30 x F y:=fun x F y=>by kernel_rfl
theorem l30:(ctxOf prog shs inls its [] [(113,r113),(39,r39),(69,r69),(68,r68),(67,r67)]).ok:=q113
theorem ok30:c30.ok prog 30:=Ctr.of_den l30 hmix (hl:=hints) (d:=4) func30 rfl (by decide) (e30 lpK jnK)
noncomputable def batten_items_2_b (_:Lp) (_:Jn) (batten_apart:(ByteArray×Int×Int×Int×Int×Int×Int)->(ByteArray×Int×Int×Int×Int×Int×Int)->Option (Bool)) (x0:ByteArray×Int×Int×Int×Int×Int×Int) (y0:ByteArray×Int×Int×Int×Int×Int×Int):Option Bool :=
 obind (batten_apart y0 x0) fun (t:Bool)=>some !t
noncomputable def batten_items_2 (x0:ByteArray×Int×Int×Int×Int×Int×Int) (y0:ByteArray×Int×Int×Int×Int×Int×Int):Option Bool:=batten_items_2_b lpK jnK batten_apart x0 y0
noncomputable def c102:Ctr:=⟨[T27],[],[T27],.one .bool,fun x _ y=>batten_items_2 x.1 y.1⟩
theorem e102 (lp:Lp) (jn:Jn) (batten_apart:(ByteArray×Int×Int×Int×Int×Int×Int)->(ByteArray×Int×Int×Int×Int×Int×Int)->Option (Bool)):∀(x:TsS c102.as) (F:TsF c102.fs) (y:TsS c102.cs),batten_items_2_b lp jn batten_apart x.1 y.1=runC lp jn (ctxOf prog shs inls its [(30,⟨[T27,T27],[],[],.one .bool,fun x _ _=>batten_apart x.1 x.2.1⟩)] [(113,r113),(39,r39),(69,r69),(68,r68),(67,r67)]) hints 4 102 f102 c102 x F y:=fun x F y=>by kernel_rfl
theorem l102:(ctxOf prog shs inls its [(30,c30)] [(113,r113),(39,r39),(69,r69),(68,r68),(67,r67)]).ok:=ctxOf_cons (q113) (by kernel_rfl) ok30
theorem ok102:c102.ok prog 102:=Ctr.of_den l102 hmix (hl:=hints) (d:=4) func102 rfl (by decide) (e102 lpK jnK batten_apart)
noncomputable def batten_items_b (lp:Lp) (_:Jn) (slices_ContainsFunc_25:(List (ByteArray×Int×Int×Int×Int×Int×Int))->((((ByteArray×Int×Int×Int×Int×Int×Int)×Unit)->Option Bool))->Option (Bool)) (batten_alone:(ByteArray×Int×Int×Int×Int×Int×Int)->Option (Bool)) (batten_inside:(ByteArray×Int×Int×Int×Int×Int×Int)->(Int)->Option (Bool)) (batten_twice_100:(List (ByteArray×Int×Int×Int×Int×Int×Int))->((((ByteArray×Int×Int×Int×Int×Int×Int)×Unit)->Option ByteArray))->Option (Bool)) (batten_items_1:(ByteArray×Int×Int×Int×Int×Int×Int)->Option (ByteArray)) (batten_items_2:(ByteArray×Int×Int×Int×Int×Int×Int)->(ByteArray×Int×Int×Int×Int×Int×Int)->Option (Bool)) (x0:List (ByteArray×Int×Int×Int×Int×Int×Int)) (x1:Int):Option Bool :=
 
 let v4:Bool:=decide ((↑(List.length x0):Int)>(40:Int));
 let v5:Bool:=!v4;bif !v5||v5 then obind (bif v5 then batten_twice_100 x0 fun (x:(ByteArray×Int×Int×Int×Int×Int×Int)×PUnit)=>batten_items_1 x.1 else some false)
  fun (t:Bool)=>bif v4||v5 then bif bif v4 then true else t then some false else lp (Int×PUnit) Bool (fun (again:Int×PUnit->Option Bool) (x:Int×PUnit) =>
 let v9:ByteArray×Int×Int×Int×Int×Int×Int:=List.getD x0 (Int.toNat x.1) ({ data:={ toList:=[] } },(0:Int),(0:Int),(0:Int),(0:Int),(0:Int),(0:Int));
  bif decide (x.1<(↑(List.length x0):Int)) then bif inB x.1 (List.length x0) then obind (batten_alone v9) fun (t:Bool) =>
 let v11:Bool:=!t;
 let v12:Bool:=!v11;
 let v13:Bool:=!v12||v12;bif v13&&v13 then obind (bif v12 then batten_inside v9 x1 else some false) fun (t:Bool) =>
 let v15:Bool:=bif v11 then true else !t;
 let v16:Bool:=!v15;
 let v17:Bool:=!v16;
 let v18:Bool:=v17||v16;bif v13 then bif v11||v12 then bif v18&&(v18&&(v17||slB (0:Int) x.1 (List.length x0))) then bif v18&&v18 then obind (bif v16 then
  slices_ContainsFunc_25 (List.drop (0:Nat) (List.take (Int.toNat x.1) x0)) fun (x:(ByteArray×Int×Int×Int×Int×Int×Int)×PUnit)=>batten_items_2 x.1 v9 else some
  false) fun (t:Bool)=>bif v15||v16 then bif bif v15 then true else t then some false else again (IntKind.wrap .i64 (x.1+(1:Int)),PUnit.unit) else none else none else
  none else none else none else none else none else some true) ((0:Int),PUnit.unit) else none else none
noncomputable def batten_items (x0:List (ByteArray×Int×Int×Int×Int×Int×Int)) (x1:Int):Option Bool:=batten_items_b lpK jnK slices_ContainsFunc_25 batten_alone batten_inside batten_twice_100 batten_items_1 batten_items_2 x0 x1
noncomputable def c64:Ctr:=⟨[(.sl T27),i64],[],[],.one .bool,fun x _ _=>batten_items x.1 x.2.1⟩
theorem e64 (lp:Lp) (jn:Jn) (slices_ContainsFunc_25:(List (ByteArray×Int×Int×Int×Int×Int×Int))->((((ByteArray×Int×Int×Int×Int×Int×Int)×Unit)->Option Bool))->Option (Bool)) (batten_alone:(ByteArray×Int×Int×Int×Int×Int×Int)->Option (Bool)) (batten_inside:(ByteArray×Int×Int×Int×Int×Int×Int)->(Int)->Option (Bool)) (batten_twice_100:(List (ByteArray×Int×Int×Int×Int×Int×Int))->((((ByteArray×Int×Int×Int×Int×Int×Int)×Unit)->Option ByteArray))->Option (Bool)) (batten_items_1:(ByteArray×Int×Int×Int×Int×Int×Int)->Option (ByteArray)) (batten_items_2:(ByteArray×Int×Int×Int×Int×Int×Int)->(ByteArray×Int×Int×Int×Int×Int×Int)->Option (Bool)):∀(x:TsS c64.as) (F:TsF c64.fs) (y:TsS c64.cs),batten_items_b lp jn slices_ContainsFunc_25 batten_alone batten_inside batten_twice_100 batten_items_1 batten_items_2 x.1 x.2.1=runC lp jn (ctxOf prog shs inls its [(102,⟨[T27],[],[T27],.one .bool,fun x _ y=>batten_items_2 x.1 y.1⟩),(101,⟨[T27],[],[],.one .str,fun x _ _=>batten_items_1 x.1⟩),(100,⟨[(.sl T27)],[([T27],.str)],[],.one .bool,fun x F _=>batten_twice_100 x.1 F.1⟩),(28,⟨[T27,i64],[],[],.one .bool,fun x _ _=>batten_inside x.1 x.2.1⟩),(27,⟨[T27],[],[],.one .bool,fun x _ _=>batten_alone x.1⟩),(25,⟨[(.sl T27)],[([T27],.bool)],[],.one .bool,fun x F _=>slices_ContainsFunc_25 x.1 F.1⟩)] [(113,r113),(39,r39),(69,r69),(68,r68),(67,r67)]) hints 4 64 f64 c64 x F y:=fun x F y=>by kernel_rfl
theorem l64:(ctxOf prog shs inls its [(102,c102),(101,c101),(100,c100),(28,c28),(27,c27),(25,c25)] [(113,r113),(39,r39),(69,r69),(68,r68),(67,r67)]).ok:=ctxOf_cons (ctxOf_cons (ctxOf_cons (ctxOf_cons (ctxOf_cons (ctxOf_cons (q113) (by kernel_rfl) ok25) (by kernel_rfl) ok27) (by kernel_rfl) ok28) (by kernel_rfl) ok100) (by kernel_rfl) ok101) (by kernel_rfl) ok102
theorem ok64:c64.ok prog 64:=Ctr.of_den l64 hmix (hl:=hints) (d:=4) func64 rfl (by decide) (e64 lpK jnK slices_ContainsFunc_25 batten_alone batten_inside batten_twice_100 batten_items_1 batten_items_2)
noncomputable def batten_twice_103_b (lp:Lp) (_:Jn) (x0:List (ByteArray×Int×Int)) (f0:(((ByteArray×Int×Int)×Unit)->Option ByteArray)):Option Bool :=
 lp (Int×List ByteArray×PUnit) Bool (fun (again:Int×List ByteArray×PUnit->Option Bool) (x:Int×List ByteArray×PUnit)=>bif decide (x.1<(↑(List.length x0):Int)) then
  bif inB x.1 (List.length x0) then obind (f0 (List.getD x0 (Int.toNat x.1) ({ data:={ toList:=[] } },(0:Int),(0:Int)),PUnit.unit)) fun (t:ByteArray)=>again
  (IntKind.wrap .i64 (x.1+(1:Int)),addK str t x.2.1,PUnit.unit) else none else some (decide ((↑(List.length x.2.1):Int)<(↑(List.length x0):Int)))) ((0:Int),
  [],PUnit.unit)
noncomputable def batten_twice_103 (x0:List (ByteArray×Int×Int)) (f0:(((ByteArray×Int×Int)×Unit)->Option ByteArray)):Option Bool:=batten_twice_103_b lpK jnK x0 f0
noncomputable def c103:Ctr:=⟨[(.sl T86)],[([T86],.str)],[],.one .bool,fun x F _=>batten_twice_103 x.1 F.1⟩
theorem e103 (lp:Lp) (jn:Jn):∀(x:TsS c103.as) (F:TsF c103.fs) (y:TsS c103.cs),batten_twice_103_b lp jn x.1 F.1=runC lp jn (ctxOf prog shs inls its [] [(113,r113),(39,r39),(69,r69),(68,r68),(67,r67)]) hints 4 103 f103 c103 x F y:=fun x F y=>by kernel_rfl
theorem l103:(ctxOf prog shs inls its [] [(113,r113),(39,r39),(69,r69),(68,r68),(67,r67)]).ok:=q113
theorem ok103:c103.ok prog 103:=Ctr.of_den l103 hmix (hl:=hints) (d:=4) func103 rfl (by decide) (e103 lpK jnK)
noncomputable def batten_bricks_1_b (_:Lp) (_:Jn) (x0:ByteArray×Int×Int):Option ByteArray :=
 some x0.1
noncomputable def batten_bricks_1 (x0:ByteArray×Int×Int):Option ByteArray:=batten_bricks_1_b lpK jnK x0
noncomputable def c104:Ctr:=⟨[T86],[],[],.one .str,fun x _ _=>batten_bricks_1 x.1⟩
theorem e104 (lp:Lp) (jn:Jn):∀(x:TsS c104.as) (F:TsF c104.fs) (y:TsS c104.cs),batten_bricks_1_b lp jn x.1=runC lp jn (ctxOf prog shs inls its [] [(113,r113),(39,r39),(69,r69),(68,r68),(67,r67)]) hints 4 104 f104 c104 x F y:=fun x F y=>by kernel_rfl
theorem l104:(ctxOf prog shs inls its [] [(113,r113),(39,r39),(69,r69),(68,r68),(67,r67)]).ok:=q113
theorem ok104:c104.ok prog 104:=Ctr.of_den l104 hmix (hl:=hints) (d:=4) func104 rfl (by decide) (e104 lpK jnK)
noncomputable def batten_bricks_b (lp:Lp) (_:Jn) (decimal_IsName:(ByteArray)->Option (Bool)) (batten_between:(Int)->(Int)->(Int)->Option (Bool)) (batten_twice_103:(List (ByteArray×Int×Int))->((((ByteArray×Int×Int)×Unit)->Option ByteArray))->Option (Bool)) (batten_bricks_1:(ByteArray×Int×Int)->Option (ByteArray)) (x0:List (ByteArray×Int×Int)):Option Bool :=
 
 let v3:Bool:=decide ((↑(List.length x0):Int)>(8:Int));
 let v4:Bool:=!v3;bif !v4||v4 then obind (bif v4 then batten_twice_103 x0 fun (x:(ByteArray×Int×Int)×PUnit)=>batten_bricks_1 x.1 else some false) fun (t:Bool)=>bif
  v3||v4 then bif bif v3 then true else t then some false else lp (Int×Int×PUnit) Bool (fun (again:Int×Int×PUnit->Option Bool) (x:Int×Int×PUnit) =>
 let v8:ByteArray×Int×Int:=List.getD x0 (Int.toNat x.2.1) ({ data:={ toList:=[] } },(0:Int),(0:Int));bif decide (x.2.1<(↑(List.length x0):Int)) then bif inB
  x.2.1 (List.length x0) then obind (decimal_IsName v8.1) fun (t:Bool) =>
 let v10:Bool:=!t;
 let v11:Bool:=!v10;
 let v12:Bool:=!v11||v11;bif v12 then bif v12 then obind (bif v11 then batten_between v8.2.1 (1:Int) (1048576:Int) else some false) fun (t:Bool) =>
 let v14:Bool:=bif v10 then true else !t;
 let v15:Bool:=!v14;
 let v16:Bool:=!v15||v15;bif v12 then bif v10||v11 then bif v16 then bif v16 then obind (bif v15 then batten_between v8.2.2 (0:Int) (60:Int) else some false) fun (t :
  Bool)=>bif v16 then bif v14||v15 then bif bif v14 then true else !t then some false else again (IntKind.wrap .i64 (x.1+v8.2.2),IntKind.wrap .i64 (x.2.1 +
  (1:Int)),PUnit.unit) else none else none else none else none else none else none else none else none else none else some (decide (x.1<=(60:Int)))) ((0:Int),(0:Int),
  PUnit.unit) else none else none
noncomputable def batten_bricks (x0:List (ByteArray×Int×Int)):Option Bool:=batten_bricks_b lpK jnK decimal_IsName batten_between batten_twice_103 batten_bricks_1 x0
noncomputable def c65:Ctr:=⟨[(.sl T86)],[],[],.one .bool,fun x _ _=>batten_bricks x.1⟩
theorem e65 (lp:Lp) (jn:Jn) (decimal_IsName:(ByteArray)->Option (Bool)) (batten_between:(Int)->(Int)->(Int)->Option (Bool)) (batten_twice_103:(List (ByteArray×Int×Int))->((((ByteArray×Int×Int)×Unit)->Option ByteArray))->Option (Bool)) (batten_bricks_1:(ByteArray×Int×Int)->Option (ByteArray)):∀(x:TsS c65.as) (F:TsF c65.fs) (y:TsS c65.cs),batten_bricks_b lp jn decimal_IsName batten_between batten_twice_103 batten_bricks_1 x.1=runC lp jn (ctxOf prog shs inls its [(104,⟨[T86],[],[],.one .str,fun x _ _=>batten_bricks_1 x.1⟩),(103,⟨[(.sl T86)],[([T86],.str)],[],.one .bool,fun x F _=>batten_twice_103 x.1 F.1⟩),(62,⟨[i64,i64,i64],[],[],.one .bool,fun x _ _=>batten_between x.1 x.2.1 x.2.2.1⟩),(61,⟨[.str],[],[],.one .bool,fun x _ _=>decimal_IsName x.1⟩)] [(113,r113),(39,r39),(69,r69),(68,r68),(67,r67)]) hints 4 65 f65 c65 x F y:=fun x F y=>by kernel_rfl
theorem l65:(ctxOf prog shs inls its [(104,c104),(103,c103),(62,c62),(61,c61)] [(113,r113),(39,r39),(69,r69),(68,r68),(67,r67)]).ok:=ctxOf_cons (ctxOf_cons (ctxOf_cons (ctxOf_cons (q113) (by kernel_rfl) ok61) (by kernel_rfl) ok62) (by kernel_rfl) ok103) (by kernel_rfl) ok104
theorem ok65:c65.ok prog 65:=Ctr.of_den l65 hmix (hl:=hints) (d:=4) func65 rfl (by decide) (e65 lpK jnK decimal_IsName batten_between batten_twice_103 batten_bricks_1)
noncomputable def batten_Valid_b (_:Lp) (_:Jn) (decimal_IsName:(ByteArray)->Option (Bool)) (batten_between:(Int)->(Int)->(Int)->Option (Bool)) (batten_lines:(List Int)->(Int)->Option (Bool)) (batten_items:(List (ByteArray×Int×Int×Int×Int×Int×Int))->(Int)->Option (Bool)) (batten_bricks:(List (ByteArray×Int×Int))->Option (Bool)) (x0:ByteArray×Int×Int×Int×Int×(List Int)×Int×Int×Int×Int×Int×(List (ByteArray×Int×Int×Int×Int×Int×Int))×List (ByteArray×Int×Int)):Option Bool :=
 
 let v3:Bool:=decide ((0:Int)<=x0.2.2.1);
 let v4:Bool:=decide (x0.2.2.2.1<=(1048576:Int));
 let v5:Bool:=decide (Int.tmod x0.2.2.2.2.1 (1000:Int)=(0:Int));
 let v6:Bool:=decide (x0.2.2.1<=x0.2.2.2.1);obind (decimal_IsName x0.1) fun (t:Bool) =>
 let v8:Bool:=!t||t;bif v8 then bif v8 then obind (bif t then batten_between x0.2.1 (0:Int) (1048576:Int) else some false) fun (t_1:Bool) =>
 let v10:Bool:=bif t then t_1 else false;
 let v11:Bool:=bif v10 then v3 else false;
 let v12:Bool:=!v10||v10;
 let v13:Bool:=bif v11 then v6 else false;
 let v14:Bool:=bif v13 then v4 else false;
 let v15:Bool:=!v11||v11;
 let v16:Bool:=!v13||v13;
 let v17:Bool:=!v14||v14;bif v8 then bif v12 then bif v12 then bif v12 then bif v15 then bif v15 then bif v15&&v15 then bif v15 then bif v16 then bif v16 then bif v16 then bif v17
  then bif v17 then obind (bif v14 then batten_between x0.2.2.2.2.1 (1000:Int) (1048576:Int) else some false) fun (t:Bool) =>
 let v19:Bool:=bif v14 then t else false;
 let v20:Bool:=!v19;
 let v21:Bool:=bif v19 then v5 else false;
 let v22:Bool:=v20||v19;
 let v23:Bool:=!v21||v21;bif v17 then bif v22 then bif v22&&(v20||true) then bif v22 then bif v22 then bif v23 then bif v23 then bif v23&&v23 then obind (bif v21 then
  batten_lines x0.2.2.2.2.2.1 x0.2.2.2.2.1 else some false) fun (t:Bool) =>
 let v25:Bool:=bif v21 then t else false;
 let v26:Bool:=!v25||v25;bif v23 then bif v26 then bif v26 then obind (bif v25 then batten_between x0.2.2.2.2.2.2.1 (0:Int) (1048576:Int) else some false) fun (t :
  Bool) =>
 let v28:Bool:=bif v25 then t else false;
 let v29:Bool:=!v28||v28;bif v26 then bif v29 then bif v29 then obind (bif v28 then batten_between x0.2.2.2.2.2.2.2.1 (0:Int) (1048576:Int) else some false) fun
  (t:Bool) =>
 let v31:Bool:=bif v28 then t else false;
 let v32:Bool:=!v31||v31;bif v29 then bif v32 then bif v32 then obind (bif v31 then batten_between x0.2.2.2.2.2.2.2.2.1 (1:Int) (2:Int) else some false) fun (t
  : Bool) =>
 let v34:Bool:=bif v31 then t else false;
 let v35:Bool:=!v34||v34;bif v32 then bif v35 then bif v35 then obind (bif v34 then batten_between x0.2.2.2.2.2.2.2.2.2.1 (1:Int) (67108864:Int) else some
  false) fun (t:Bool) =>
 let v37:Bool:=bif v34 then t else false;
 let v38:Bool:=!v37||v37;bif v35 then bif v38 then bif v38 then obind (bif v37 then batten_between x0.2.2.2.2.2.2.2.2.2.2.1 (0:Int) (67108864:Int) else
  some false) fun (t:Bool) =>
 let v40:Bool:=bif v37 then t else false;
 let v41:Bool:=!v40||v40;bif v38 then bif v41 then bif v41 then bif v41&&v41 then obind (bif v40 then batten_items x0.2.2.2.2.2.2.2.2.2.2.2.1
  x0.2.2.2.2.1 else some false) fun (t:Bool) =>
 let v43:Bool:=bif v40 then t else false;
 let v44:Bool:=!v43||v43;bif v41 then bif v44 then bif v44 then obind (bif v43 then batten_bricks x0.2.2.2.2.2.2.2.2.2.2.2.2 else some false) fun (t:Bool)
  =>bif v44 then some (bif v43 then t else false) else none else none else none else none else none else none else none else none else none else none else none else none else none else
  none else none else none else none else none else none else none else none else none else none else none else none else none else none else none else none else none else none else none
  else none else none else none else none else none else none else none else none else none else none else none else none else none else none
noncomputable def batten_Valid (x0:ByteArray×Int×Int×Int×Int×(List Int)×Int×Int×Int×Int×Int×(List (ByteArray×Int×Int×Int×Int×Int×Int))×List (ByteArray×Int×Int)):Option Bool:=batten_Valid_b lpK jnK decimal_IsName batten_between batten_lines batten_items batten_bricks x0
noncomputable def c24:Ctr:=⟨[T35],[],[],.one .bool,fun x _ _=>batten_Valid x.1⟩
theorem e24 (lp:Lp) (jn:Jn) (decimal_IsName:(ByteArray)->Option (Bool)) (batten_between:(Int)->(Int)->(Int)->Option (Bool)) (batten_lines:(List Int)->(Int)->Option (Bool)) (batten_items:(List (ByteArray×Int×Int×Int×Int×Int×Int))->(Int)->Option (Bool)) (batten_bricks:(List (ByteArray×Int×Int))->Option (Bool)):∀(x:TsS c24.as) (F:TsF c24.fs) (y:TsS c24.cs),batten_Valid_b lp jn decimal_IsName batten_between batten_lines batten_items batten_bricks x.1=runC lp jn (ctxOf prog shs inls its [(65,⟨[(.sl T86)],[],[],.one .bool,fun x _ _=>batten_bricks x.1⟩),(64,⟨[(.sl T27),i64],[],[],.one .bool,fun x _ _=>batten_items x.1 x.2.1⟩),(63,⟨[(.sl i64),i64],[],[],.one .bool,fun x _ _=>batten_lines x.1 x.2.1⟩),(62,⟨[i64,i64,i64],[],[],.one .bool,fun x _ _=>batten_between x.1 x.2.1 x.2.2.1⟩),(61,⟨[.str],[],[],.one .bool,fun x _ _=>decimal_IsName x.1⟩)] [(113,r113),(39,r39),(69,r69),(68,r68),(67,r67)]) hints 4 24 f24 c24 x F y:=fun x F y=>by kernel_rfl
theorem l24:(ctxOf prog shs inls its [(65,c65),(64,c64),(63,c63),(62,c62),(61,c61)] [(113,r113),(39,r39),(69,r69),(68,r68),(67,r67)]).ok:=ctxOf_cons (ctxOf_cons (ctxOf_cons (ctxOf_cons (ctxOf_cons (q113) (by kernel_rfl) ok61) (by kernel_rfl) ok62) (by kernel_rfl) ok63) (by kernel_rfl) ok64) (by kernel_rfl) ok65
theorem ok24:c24.ok prog 24:=Ctr.of_den l24 hmix (hl:=hints) (d:=4) func24 rfl (by decide) (e24 lpK jnK decimal_IsName batten_between batten_lines batten_items batten_bricks)
noncomputable def batten_pipe_b (_:Lp) (_:Jn) (x0:ByteArray×Int×Int×Int×Int×(List Int)×Int×Int×Int×Int×Int×(List (ByteArray×Int×Int×Int×Int×Int×Int))×List (ByteArray×Int×Int)):Option Int :=
 some (IntKind.wrap .i64 (x0.2.2.2.2.2.2.1*IntKind.wrap .i64 (Int.tdiv x0.2.2.2.2.1 (1000:Int))))
noncomputable def batten_pipe (x0:ByteArray×Int×Int×Int×Int×(List Int)×Int×Int×Int×Int×Int×(List (ByteArray×Int×Int×Int×Int×Int×Int))×List (ByteArray×Int×Int)):Option Int:=batten_pipe_b lpK jnK x0
noncomputable def c70:Ctr:=⟨[T35],[],[],.one i64,fun x _ _=>batten_pipe x.1⟩
theorem e70 (lp:Lp) (jn:Jn):∀(x:TsS c70.as) (F:TsF c70.fs) (y:TsS c70.cs),batten_pipe_b lp jn x.1=runC lp jn (ctxOf prog shs inls its [] [(113,r113),(39,r39),(69,r69),(68,r68),(67,r67)]) hints 4 70 f70 c70 x F y:=fun x F y=>by kernel_rfl
theorem l70:(ctxOf prog shs inls its [] [(113,r113),(39,r39),(69,r69),(68,r68),(67,r67)]).ok:=q113
theorem ok70:c70.ok prog 70:=Ctr.of_den l70 hmix (hl:=hints) (d:=4) func70 rfl (by decide) (e70 lpK jnK)
noncomputable def batten_weight_b (lp:Lp) (_:Jn) (batten_pipe:(ByteArray×Int×Int×Int×Int×(List Int)×Int×Int×Int×Int×Int×(List (ByteArray×Int×Int×Int×Int×Int×Int))×List (ByteArray×Int×Int))->Option (Int)) (x0:ByteArray×Int×Int×Int×Int×(List Int)×Int×Int×Int×Int×Int×(List (ByteArray×Int×Int×Int×Int×Int×Int))×List (ByteArray×Int×Int)):Option Int :=
 obind (batten_pipe x0) fun (t:Int)=>lp (Int×Int×PUnit) Int (fun (again:Int×Int×PUnit->Option Int) (x:Int×Int×PUnit)=>bif decide (x.2.1<(↑(List.length
  x0.2.2.2.2.2.2.2.2.2.2.2.1):Int)) then bif inB x.2.1 (List.length x0.2.2.2.2.2.2.2.2.2.2.2.1) then again (IntKind.wrap .i64
  (x.1+(List.getD x0.2.2.2.2.2.2.2.2.2.2.2.1 (Int.toNat x.2.1) ({ data:={ toList:=[] } },(0:Int),(0:Int),(0:Int),(0:Int),(0:Int),(0 :
  Int))).2.2.2.1),IntKind.wrap .i64 (x.2.1+(1:Int)),PUnit.unit) else none else some x.1) (t,(0:Int),PUnit.unit)
noncomputable def batten_weight (x0:ByteArray×Int×Int×Int×Int×(List Int)×Int×Int×Int×Int×Int×(List (ByteArray×Int×Int×Int×Int×Int×Int))×List (ByteArray×Int×Int)):Option Int:=batten_weight_b lpK jnK batten_pipe x0
noncomputable def c36:Ctr:=⟨[T35],[],[],.one i64,fun x _ _=>batten_weight x.1⟩
theorem e36 (lp:Lp) (jn:Jn) (batten_pipe:(ByteArray×Int×Int×Int×Int×(List Int)×Int×Int×Int×Int×Int×(List (ByteArray×Int×Int×Int×Int×Int×Int))×List (ByteArray×Int×Int))->Option (Int)):∀(x:TsS c36.as) (F:TsF c36.fs) (y:TsS c36.cs),batten_weight_b lp jn batten_pipe x.1=runC lp jn (ctxOf prog shs inls its [(70,⟨[T35],[],[],.one i64,fun x _ _=>batten_pipe x.1⟩)] [(113,r113),(39,r39),(69,r69),(68,r68),(67,r67)]) hints 4 36 f36 c36 x F y:=fun x F y=>by kernel_rfl
theorem l36:(ctxOf prog shs inls its [(70,c70)] [(113,r113),(39,r39),(69,r69),(68,r68),(67,r67)]).ok:=ctxOf_cons (q113) (by kernel_rfl) ok70
theorem ok36:c36.ok prog 36:=Ctr.of_den l36 hmix (hl:=hints) (d:=4) func36 rfl (by decide) (e36 lpK jnK batten_pipe)
noncomputable def batten_Weight_b (_:Lp) (_:Jn) (batten_Valid:(ByteArray×Int×Int×Int×Int×(List Int)×Int×Int×Int×Int×Int×(List (ByteArray×Int×Int×Int×Int×Int×Int))×List (ByteArray×Int×Int))->Option (Bool)) (batten_weight:(ByteArray×Int×Int×Int×Int×(List Int)×Int×Int×Int×Int×Int×(List (ByteArray×Int×Int×Int×Int×Int×Int))×List (ByteArray×Int×Int))->Option (Int)) (x0:ByteArray×Int×Int×Int×Int×(List Int)×Int×Int×Int×Int×Int×(List (ByteArray×Int×Int×Int×Int×Int×Int))×List (ByteArray×Int×Int)):Option (Int×Int×Unit) :=
 obind (batten_Valid x0) fun (t:Bool)=>bif !t then some ((0:Int),(1:Int),PUnit.unit) else obind (batten_weight x0) fun (t:Int)=>some (t,(0:Int),PUnit.unit)
noncomputable def batten_Weight (x0:ByteArray×Int×Int×Int×Int×(List Int)×Int×Int×Int×Int×Int×(List (ByteArray×Int×Int×Int×Int×Int×Int))×List (ByteArray×Int×Int)):Option (Int×Int×Unit):=batten_Weight_b lpK jnK batten_Valid batten_weight x0
noncomputable def c10:Ctr:=⟨[T35],[],[],.tup [i64,i64],fun x _ _=>batten_Weight x.1⟩
theorem e10 (lp:Lp) (jn:Jn) (batten_Valid:(ByteArray×Int×Int×Int×Int×(List Int)×Int×Int×Int×Int×Int×(List (ByteArray×Int×Int×Int×Int×Int×Int))×List (ByteArray×Int×Int))->Option (Bool)) (batten_weight:(ByteArray×Int×Int×Int×Int×(List Int)×Int×Int×Int×Int×Int×(List (ByteArray×Int×Int×Int×Int×Int×Int))×List (ByteArray×Int×Int))->Option (Int)):∀(x:TsS c10.as) (F:TsF c10.fs) (y:TsS c10.cs),batten_Weight_b lp jn batten_Valid batten_weight x.1=runC lp jn (ctxOf prog shs inls its [(36,⟨[T35],[],[],.one i64,fun x _ _=>batten_weight x.1⟩),(24,⟨[T35],[],[],.one .bool,fun x _ _=>batten_Valid x.1⟩)] [(113,r113),(39,r39),(69,r69),(68,r68),(67,r67)]) hints 4 10 f10 c10 x F y:=fun x F y=>by kernel_rfl
theorem l10:(ctxOf prog shs inls its [(36,c36),(24,c24)] [(113,r113),(39,r39),(69,r69),(68,r68),(67,r67)]).ok:=ctxOf_cons (ctxOf_cons (q113) (by kernel_rfl) ok24) (by kernel_rfl) ok36
theorem ok10:c10.ok prog 10:=Ctr.of_den l10 hmix (hl:=hints) (d:=4) func10 rfl (by decide) (e10 lpK jnK batten_Valid batten_weight)
noncomputable def arbor_Needed_b (_:Lp) (_:Jn) (batten_Weight:(ByteArray×Int×Int×Int×Int×(List Int)×Int×Int×Int×Int×Int×(List (ByteArray×Int×Int×Int×Int×Int×Int))×List (ByteArray×Int×Int))->Option (Int×Int×Unit)) (x0:ByteArray×Int×Int×Int×Int×(List Int)×Int×Int×Int×Int×Int×(List (ByteArray×Int×Int×Int×Int×Int×Int))×List (ByteArray×Int×Int)):Option (Int×Int×Unit) :=
 obind (batten_Weight x0) fun (t:Int×Int×PUnit)=>bif !decide (t.2.1=(0:Int)) then some ((0:Int),t.2.1,PUnit.unit) else some (IntKind.wrap .i64 (IntKind.wrap
  IntKind.i64 (t.1*x0.2.2.2.2.2.2.2.2.1) - x0.2.2.2.2.2.2.2.1),(0:Int),PUnit.unit)
noncomputable def arbor_Needed (x0:ByteArray×Int×Int×Int×Int×(List Int)×Int×Int×Int×Int×Int×(List (ByteArray×Int×Int×Int×Int×Int×Int))×List (ByteArray×Int×Int)):Option (Int×Int×Unit):=arbor_Needed_b lpK jnK batten_Weight x0
noncomputable def c32:Ctr:=⟨[T35],[],[],.tup [i64,i64],fun x _ _=>arbor_Needed x.1⟩
theorem e32 (lp:Lp) (jn:Jn) (batten_Weight:(ByteArray×Int×Int×Int×Int×(List Int)×Int×Int×Int×Int×Int×(List (ByteArray×Int×Int×Int×Int×Int×Int))×List (ByteArray×Int×Int))->Option (Int×Int×Unit)):∀(x:TsS c32.as) (F:TsF c32.fs) (y:TsS c32.cs),arbor_Needed_b lp jn batten_Weight x.1=runC lp jn (ctxOf prog shs inls its [(10,⟨[T35],[],[],.tup [i64,i64],fun x _ _=>batten_Weight x.1⟩)] [(113,r113),(39,r39),(69,r69),(68,r68),(67,r67)]) hints 4 32 f32 c32 x F y:=fun x F y=>by kernel_rfl
theorem l32:(ctxOf prog shs inls its [(10,c10)] [(113,r113),(39,r39),(69,r69),(68,r68),(67,r67)]).ok:=ctxOf_cons (q113) (by kernel_rfl) ok10
theorem ok32:c32.ok prog 32:=Ctr.of_den l32 hmix (hl:=hints) (d:=4) func32 rfl (by decide) (e32 lpK jnK batten_Weight)
noncomputable def arbor_there_b (lp:Lp) (_:Jn) (x0:ByteArray×Int×Int×Int×Int×(List Int)×Int×Int×Int×Int×Int×(List (ByteArray×Int×Int×Int×Int×Int×Int))×List (ByteArray×Int×Int)):Option (Int×Int×Unit) :=
 lp (Int×Int×Int×PUnit) (Int×Int×PUnit) (fun (again:Int×Int×Int×PUnit->Option (Int×Int×PUnit)) (x:Int×Int×Int×PUnit)=>bif decide (x.2.2.1 <
  (↑(List.length x0.2.2.2.2.2.2.2.2.2.2.2.2):Int)) then bif inB x.2.2.1 (List.length x0.2.2.2.2.2.2.2.2.2.2.2.2) then again
  (IntKind.wrap .i64 (x.1+IntKind.wrap .i64 ((List.getD x0.2.2.2.2.2.2.2.2.2.2.2.2 (Int.toNat x.2.2.1) ({ data:={ toList:=[] } },(0 :
  Int),(0:Int))).2.1*(List.getD x0.2.2.2.2.2.2.2.2.2.2.2.2 (Int.toNat x.2.2.1) ({ data:={ toList:=[] } },(0:Int),(0:Int))).2.2)),
  IntKind.wrap .i64 (x.2.1+(List.getD x0.2.2.2.2.2.2.2.2.2.2.2.2 (Int.toNat x.2.2.1) ({ data:={ toList:=[] } },(0:Int),(0 :
  Int))).2.2),IntKind.wrap .i64 (x.2.2.1+(1:Int)),PUnit.unit) else none else some (x.1,x.2.1,PUnit.unit)) ((0:Int),(0:Int),(0:Int),PUnit.unit)
noncomputable def arbor_there (x0:ByteArray×Int×Int×Int×Int×(List Int)×Int×Int×Int×Int×Int×(List (ByteArray×Int×Int×Int×Int×Int×Int))×List (ByteArray×Int×Int)):Option (Int×Int×Unit):=arbor_there_b lpK jnK x0
noncomputable def c33:Ctr:=⟨[T35],[],[],.tup [i64,i64],fun x _ _=>arbor_there x.1⟩
theorem e33 (lp:Lp) (jn:Jn):∀(x:TsS c33.as) (F:TsF c33.fs) (y:TsS c33.cs),arbor_there_b lp jn x.1=runC lp jn (ctxOf prog shs inls its [] [(113,r113),(39,r39),(69,r69),(68,r68),(67,r67)]) hints 4 33 f33 c33 x F y:=fun x F y=>by kernel_rfl
theorem l33:(ctxOf prog shs inls its [] [(113,r113),(39,r39),(69,r69),(68,r68),(67,r67)]).ok:=q113
theorem ok33:c33.ok prog 33:=Ctr.of_den l33 hmix (hl:=hints) (d:=4) func33 rfl (by decide) (e33 lpK jnK)
noncomputable def arbor_Balance_b (_:Lp) (_:Jn) (arbor_Needed:(ByteArray×Int×Int×Int×Int×(List Int)×Int×Int×Int×Int×Int×(List (ByteArray×Int×Int×Int×Int×Int×Int))×List (ByteArray×Int×Int))->Option (Int×Int×Unit)) (arbor_there:(ByteArray×Int×Int×Int×Int×(List Int)×Int×Int×Int×Int×Int×(List (ByteArray×Int×Int×Int×Int×Int×Int))×List (ByteArray×Int×Int))->Option (Int×Int×Unit)) (x0:ByteArray×Int×Int×Int×Int×(List Int)×Int×Int×Int×Int×Int×(List (ByteArray×Int×Int×Int×Int×Int×Int))×List (ByteArray×Int×Int)):Option (Int×Int×Unit) :=
 obind (arbor_Needed x0) fun (t:Int×Int×PUnit)=>bif !decide (t.2.1=(0:Int)) then some ((0:Int),t.2.1,PUnit.unit) else obind (arbor_there x0) fun (t_1:Int×Int ×
  PUnit)=>some (IntKind.wrap .i64 (t.1 - t_1.1),(0:Int),PUnit.unit)
noncomputable def arbor_Balance (x0:ByteArray×Int×Int×Int×Int×(List Int)×Int×Int×Int×Int×Int×(List (ByteArray×Int×Int×Int×Int×Int×Int))×List (ByteArray×Int×Int)):Option (Int×Int×Unit):=arbor_Balance_b lpK jnK arbor_Needed arbor_there x0
noncomputable def c8:Ctr:=⟨[T35],[],[],.tup [i64,i64],fun x _ _=>arbor_Balance x.1⟩
theorem e8 (lp:Lp) (jn:Jn) (arbor_Needed:(ByteArray×Int×Int×Int×Int×(List Int)×Int×Int×Int×Int×Int×(List (ByteArray×Int×Int×Int×Int×Int×Int))×List (ByteArray×Int×Int))->Option (Int×Int×Unit)) (arbor_there:(ByteArray×Int×Int×Int×Int×(List Int)×Int×Int×Int×Int×Int×(List (ByteArray×Int×Int×Int×Int×Int×Int))×List (ByteArray×Int×Int))->Option (Int×Int×Unit)):∀(x:TsS c8.as) (F:TsF c8.fs) (y:TsS c8.cs),arbor_Balance_b lp jn arbor_Needed arbor_there x.1=runC lp jn (ctxOf prog shs inls its [(33,⟨[T35],[],[],.tup [i64,i64],fun x _ _=>arbor_there x.1⟩),(32,⟨[T35],[],[],.tup [i64,i64],fun x _ _=>arbor_Needed x.1⟩)] [(113,r113),(39,r39),(69,r69),(68,r68),(67,r67)]) hints 4 8 f8 c8 x F y:=fun x F y=>by kernel_rfl
theorem l8:(ctxOf prog shs inls its [(33,c33),(32,c32)] [(113,r113),(39,r39),(69,r69),(68,r68),(67,r67)]).ok:=ctxOf_cons (ctxOf_cons (q113) (by kernel_rfl) ok32) (by kernel_rfl) ok33
theorem ok8:c8.ok prog 8:=Ctr.of_den l8 hmix (hl:=hints) (d:=4) func8 rfl (by decide) (e8 lpK jnK arbor_Needed arbor_there)
noncomputable def top_writtenSet_b (_:Lp) (_:Jn):Option (ByteArray×Int×Int×Int×Int×(List Int)×Int×Int×Int×Int×Int×(List (ByteArray×Int×Int×Int×Int×Int×Int))×List (ByteArray×Int×Int)) :=
 some ({ data:=#[(115:UInt8)] },(0:Int),(0:Int),(8000:Int),(1000:Int),[(0:Int),(1000:Int)],(60:Int),(40:Int),(1:Int),(100:Int),(10:Int),[],[({ data :=
  #[(98:UInt8)] },(7:Int),(2:Int))])
noncomputable def top_writtenSet:Option (ByteArray×Int×Int×Int×Int×(List Int)×Int×Int×Int×Int×Int×(List (ByteArray×Int×Int×Int×Int×Int×Int))×List (ByteArray×Int×Int)):=top_writtenSet_b lpK jnK
noncomputable def c15:Ctr:=⟨[],[],[],.one T35,fun _ _ _=>top_writtenSet⟩
theorem e15 (lp:Lp) (jn:Jn):∀(x:TsS c15.as) (F:TsF c15.fs) (y:TsS c15.cs),top_writtenSet_b lp jn=runC lp jn (ctxOf prog shs inls its [] [(113,r113),(39,r39),(69,r69),(68,r68),(67,r67)]) hints 4 15 f15 c15 x F y:=fun x F y=>by kernel_rfl
theorem l15:(ctxOf prog shs inls its [] [(113,r113),(39,r39),(69,r69),(68,r68),(67,r67)]).ok:=q113
theorem ok15:c15.ok prog 15:=Ctr.of_den l15 hmix (hl:=hints) (d:=4) func15 rfl (by decide) (e15 lpK jnK)
noncomputable def brake_Valid_b (lp:Lp) (_:Jn) (decimal_IsName:(ByteArray)->Option (Bool)) (x0:List (ByteArray×Bool×Int)):Option Bool :=
 bif decide ((↑(List.length x0):Int)>(100:Int)) then some false else lp (Int×List (ByteArray×Bool)×PUnit) Bool (fun (again:Int×List (ByteArray×Bool)×PUnit->Option Bool)
  (x:Int×List (ByteArray×Bool)×PUnit)=>bif decide (x.1<(↑(List.length x0):Int)) then bif inB x.1 (List.length x0) then obind (decimal_IsName (List.getD x0 (Int.toNat
  x.1) ({ data:={ toList:=[] } },false,(0:Int))).1) fun (t:Bool) =>
 let v6:Bool:=!t;
 let v7:Bool:=!v6;
 let v8:Bool:=!v7||v7;bif v8 then bif v8&&v8 then bif v6||v7 then bif (!!bif v6 then true else getM str Sh.bool (List.getD x0 (Int.toNat x.1) ({ data:={ toList:=[] } },
  false,(0:Int))).1 false x.2.1)||!bif v6 then true else getM str Sh.bool (List.getD x0 (Int.toNat x.1) ({ data:={ toList:=[] } },false,(0:Int))).1 false x.2.1
  then bif (!!bif v6 then true else getM str Sh.bool (List.getD x0 (Int.toNat x.1) ({ data:={ toList:=[] } },false,(0:Int))).1 false x.2.1)||!bif v6 then true else getM
  str Sh.bool (List.getD x0 (Int.toNat x.1) ({ data:={ toList:=[] } },false,(0:Int))).1 false x.2.1 then bif (bif v6 then true else getM str Sh.bool (List.getD x0
  (Int.toNat x.1) ({ data:={ toList:=[] } },false,(0:Int))).1 false x.2.1)||!bif v6 then true else getM str Sh.bool (List.getD x0 (Int.toNat x.1) ({ data:={ toList
  :=[] } },false,(0:Int))).1 false x.2.1 then bif (!!bif bif v6 then true else getM str Sh.bool (List.getD x0 (Int.toNat x.1) ({ data:={ toList:=[] } },false,(0 :
  Int))).1 false x.2.1 then true else decide ((List.getD x0 (Int.toNat x.1) ({ data:={ toList:=[] } },false,(0:Int))).2.2<(-1048576:Int)))||!bif bif v6 then true
  else getM str Sh.bool (List.getD x0 (Int.toNat x.1) ({ data:={ toList:=[] } },false,(0:Int))).1 false x.2.1 then true else decide ((List.getD x0 (Int.toNat x.1) ({
  data:={ toList:=[] } },false,(0:Int))).2.2<(-1048576:Int)) then bif (!!bif bif v6 then true else getM str Sh.bool (List.getD x0 (Int.toNat x.1) ({ data:={ toList :=
  [] } },false,(0:Int))).1 false x.2.1 then true else decide ((List.getD x0 (Int.toNat x.1) ({ data:={ toList:=[] } },false,(0:Int))).2.2<(-1048576:Int))) ||
  !bif bif v6 then true else getM str Sh.bool (List.getD x0 (Int.toNat x.1) ({ data:={ toList:=[] } },false,(0:Int))).1 false x.2.1 then true else decide ((List.getD x0
  (Int.toNat x.1) ({ data:={ toList:=[] } },false,(0:Int))).2.2<(-1048576:Int)) then bif (bif bif v6 then true else getM str Sh.bool (List.getD x0 (Int.toNat x.1) ({
  data:={ toList:=[] } },false,(0:Int))).1 false x.2.1 then true else decide ((List.getD x0 (Int.toNat x.1) ({ data:={ toList:=[] } },false,(0:Int))).2.2 <
  (-1048576:Int)))||!bif bif v6 then true else getM str Sh.bool (List.getD x0 (Int.toNat x.1) ({ data:={ toList:=[] } },false,(0:Int))).1 false x.2.1 then true else
  decide ((List.getD x0 (Int.toNat x.1) ({ data:={ toList:=[] } },false,(0:Int))).2.2<(-1048576:Int)) then bif bif bif bif v6 then true else getM str Sh.bool (List.getD
  x0 (Int.toNat x.1) ({ data:={ toList:=[] } },false,(0:Int))).1 false x.2.1 then true else decide ((List.getD x0 (Int.toNat x.1) ({ data:={ toList:=[] } },false,
  (0:Int))).2.2<(-1048576:Int)) then true else decide ((List.getD x0 (Int.toNat x.1) ({ data:={ toList:=[] } },false,(0:Int))).2.2>(1048576:Int)) then some
  false else again (IntKind.wrap .i64 (x.1+(1:Int)),putM str Sh.bool (List.getD x0 (Int.toNat x.1) ({ data:={ toList:=[] } },false,(0:Int))).1 true x.2.1,
  PUnit.unit) else none else none else none else none else none else none else none else none else none else none else some true) ((0:Int),[],PUnit.unit)
noncomputable def brake_Valid (x0:List (ByteArray×Bool×Int)):Option Bool:=brake_Valid_b lpK jnK decimal_IsName x0
noncomputable def c34:Ctr:=⟨[(.sl T43)],[],[],.one .bool,fun x _ _=>brake_Valid x.1⟩
theorem e34 (lp:Lp) (jn:Jn) (decimal_IsName:(ByteArray)->Option (Bool)):∀(x:TsS c34.as) (F:TsF c34.fs) (y:TsS c34.cs),brake_Valid_b lp jn decimal_IsName x.1=runC lp jn (ctxOf prog shs inls its [(61,⟨[.str],[],[],.one .bool,fun x _ _=>decimal_IsName x.1⟩)] [(113,r113),(39,r39),(69,r69),(68,r68),(67,r67)]) hints 4 34 f34 c34 x F y:=fun x F y=>by kernel_rfl
theorem l34:(ctxOf prog shs inls its [(61,c61)] [(113,r113),(39,r39),(69,r69),(68,r68),(67,r67)]).ok:=ctxOf_cons (q113) (by kernel_rfl) ok61
theorem ok34:c34.ok prog 34:=Ctr.of_den l34 hmix (hl:=hints) (d:=4) func34 rfl (by decide) (e34 lpK jnK decimal_IsName)
noncomputable def brake_change_b (_:Lp) (_:Jn) (x0:ByteArray×Int×Int×Int×Int×(List Int)×Int×Int×Int×Int×Int×(List (ByteArray×Int×Int×Int×Int×Int×Int))×List (ByteArray×Int×Int)) (x1:ByteArray×Bool×Int):Option Int :=
 bif x1.2.1 then some (IntKind.wrap .i64 (x0.2.2.2.2.2.2.2.2.1*x1.2.2)) else some (IntKind.wrap .i64 ((0:Int) - x1.2.2))
noncomputable def brake_change (x0:ByteArray×Int×Int×Int×Int×(List Int)×Int×Int×Int×Int×Int×(List (ByteArray×Int×Int×Int×Int×Int×Int))×List (ByteArray×Int×Int)) (x1:ByteArray×Bool×Int):Option Int:=brake_change_b lpK jnK x0 x1
noncomputable def c35:Ctr:=⟨[T35,T43],[],[],.one i64,fun x _ _=>brake_change x.1 x.2.1⟩
theorem e35 (lp:Lp) (jn:Jn):∀(x:TsS c35.as) (F:TsF c35.fs) (y:TsS c35.cs),brake_change_b lp jn x.1 x.2.1=runC lp jn (ctxOf prog shs inls its [] [(113,r113),(39,r39),(69,r69),(68,r68),(67,r67)]) hints 4 35 f35 c35 x F y:=fun x F y=>by kernel_rfl
theorem l35:(ctxOf prog shs inls its [] [(113,r113),(39,r39),(69,r69),(68,r68),(67,r67)]).ok:=q113
theorem ok35:c35.ok prog 35:=Ctr.of_den l35 hmix (hl:=hints) (d:=4) func35 rfl (by decide) (e35 lpK jnK)
noncomputable def brake_Change_b (_:Lp) (_:Jn) (batten_Valid:(ByteArray×Int×Int×Int×Int×(List Int)×Int×Int×Int×Int×Int×(List (ByteArray×Int×Int×Int×Int×Int×Int))×List (ByteArray×Int×Int))->Option (Bool)) (brake_Valid:(List (ByteArray×Bool×Int))->Option (Bool)) (brake_change:(ByteArray×Int×Int×Int×Int×(List Int)×Int×Int×Int×Int×Int×(List (ByteArray×Int×Int×Int×Int×Int×Int))×List (ByteArray×Int×Int))->(ByteArray×Bool×Int)->Option (Int)) (x0:ByteArray×Int×Int×Int×Int×(List Int)×Int×Int×Int×Int×Int×(List (ByteArray×Int×Int×Int×Int×Int×Int))×List (ByteArray×Int×Int)) (x1:ByteArray×Bool×Int):Option (Int×Int×Unit) :=
 obind (batten_Valid x0) fun (t:Bool) =>
 let v5:Bool:=!t;
 let v6:Bool:=!v5;
 let v7:Bool:=!v6||v6;bif v7 then bif v7 then obind (bif v6 then brake_Valid [x1] else some false) fun (t:Bool)=>bif v7 then bif v5||v6 then bif bif v5 then true else !t then
  some ((0:Int),(1:Int),PUnit.unit) else obind (brake_change x0 x1) fun (t:Int)=>some (t,(0:Int),PUnit.unit) else none else none else none else none
noncomputable def brake_Change (x0:ByteArray×Int×Int×Int×Int×(List Int)×Int×Int×Int×Int×Int×(List (ByteArray×Int×Int×Int×Int×Int×Int))×List (ByteArray×Int×Int)) (x1:ByteArray×Bool×Int):Option (Int×Int×Unit):=brake_Change_b lpK jnK batten_Valid brake_Valid brake_change x0 x1
noncomputable def c9:Ctr:=⟨[T35,T43],[],[],.tup [i64,i64],fun x _ _=>brake_Change x.1 x.2.1⟩
theorem e9 (lp:Lp) (jn:Jn) (batten_Valid:(ByteArray×Int×Int×Int×Int×(List Int)×Int×Int×Int×Int×Int×(List (ByteArray×Int×Int×Int×Int×Int×Int))×List (ByteArray×Int×Int))->Option (Bool)) (brake_Valid:(List (ByteArray×Bool×Int))->Option (Bool)) (brake_change:(ByteArray×Int×Int×Int×Int×(List Int)×Int×Int×Int×Int×Int×(List (ByteArray×Int×Int×Int×Int×Int×Int))×List (ByteArray×Int×Int))->(ByteArray×Bool×Int)->Option (Int)):∀(x:TsS c9.as) (F:TsF c9.fs) (y:TsS c9.cs),brake_Change_b lp jn batten_Valid brake_Valid brake_change x.1 x.2.1=runC lp jn (ctxOf prog shs inls its [(35,⟨[T35,T43],[],[],.one i64,fun x _ _=>brake_change x.1 x.2.1⟩),(34,⟨[(.sl T43)],[],[],.one .bool,fun x _ _=>brake_Valid x.1⟩),(24,⟨[T35],[],[],.one .bool,fun x _ _=>batten_Valid x.1⟩)] [(113,r113),(39,r39),(69,r69),(68,r68),(67,r67)]) hints 4 9 f9 c9 x F y:=fun x F y=>by kernel_rfl
theorem l9:(ctxOf prog shs inls its [(35,c35),(34,c34),(24,c24)] [(113,r113),(39,r39),(69,r69),(68,r68),(67,r67)]).ok:=ctxOf_cons (ctxOf_cons (ctxOf_cons (q113) (by kernel_rfl) ok24) (by kernel_rfl) ok34) (by kernel_rfl) ok35
theorem ok9:c9.ok prog 9:=Ctr.of_den l9 hmix (hl:=hints) (d:=4) func9 rfl (by decide) (e9 lpK jnK batten_Valid brake_Valid brake_change)
noncomputable def slices_IndexFunc_136_b (lp:Lp) (_:Jn) (x0:List Int) (f0:((Int×Unit)->Option Bool)):Option Int :=
 lp (Int×PUnit) Int (fun (again:Int×PUnit->Option Int) (x:Int×PUnit)=>bif decide (x.1<(↑(List.length x0):Int)) then bif inB x.1 (List.length x0) then obind (f0
  (List.getD x0 (Int.toNat x.1) (0:Int),PUnit.unit)) fun (t:Bool)=>bif t then some x.1 else again (IntKind.wrap .i64 (x.1+(1:Int)),PUnit.unit) else none else some
  (-1:Int)) ((0:Int),PUnit.unit)
noncomputable def slices_IndexFunc_136 (x0:List Int) (f0:((Int×Unit)->Option Bool)):Option Int:=slices_IndexFunc_136_b lpK jnK x0 f0
noncomputable def c136:Ctr:=⟨[(.sl i64)],[([i64],.bool)],[],.one i64,fun x F _=>slices_IndexFunc_136 x.1 F.1⟩
theorem e136 (lp:Lp) (jn:Jn):∀(x:TsS c136.as) (F:TsF c136.fs) (y:TsS c136.cs),slices_IndexFunc_136_b lp jn x.1 F.1=runC lp jn (ctxOf prog shs inls its [] [(113,r113),(39,r39),(69,r69),(68,r68),(67,r67)]) hints 4 136 f136 c136 x F y:=fun x F y=>by kernel_rfl
theorem l136:(ctxOf prog shs inls its [] [(113,r113),(39,r39),(69,r69),(68,r68),(67,r67)]).ok:=q113
theorem ok136:c136.ok prog 136:=Ctr.of_den l136 hmix (hl:=hints) (d:=4) func136 rfl (by decide) (e136 lpK jnK)
noncomputable def slices_ContainsFunc_122_b (_:Lp) (_:Jn) (slices_IndexFunc_136:(List Int)->(((Int×Unit)->Option Bool))->Option (Int)) (x0:List Int) (f0:((Int×Unit)->Option Bool)):Option Bool :=
 obind (slices_IndexFunc_136 x0 f0) fun (t:Int)=>some (decide (t>=(0:Int)))
noncomputable def slices_ContainsFunc_122 (x0:List Int) (f0:((Int×Unit)->Option Bool)):Option Bool:=slices_ContainsFunc_122_b lpK jnK slices_IndexFunc_136 x0 f0
noncomputable def c122:Ctr:=⟨[(.sl i64)],[([i64],.bool)],[],.one .bool,fun x F _=>slices_ContainsFunc_122 x.1 F.1⟩
theorem e122 (lp:Lp) (jn:Jn) (slices_IndexFunc_136:(List Int)->(((Int×Unit)->Option Bool))->Option (Int)):∀(x:TsS c122.as) (F:TsF c122.fs) (y:TsS c122.cs),slices_ContainsFunc_122_b lp jn slices_IndexFunc_136 x.1 F.1=runC lp jn (ctxOf prog shs inls its [(136,⟨[(.sl i64)],[([i64],.bool)],[],.one i64,fun x F _=>slices_IndexFunc_136 x.1 F.1⟩)] [(113,r113),(39,r39),(69,r69),(68,r68),(67,r67)]) hints 4 122 f122 c122 x F y:=fun x F y=>by kernel_rfl
theorem l122:(ctxOf prog shs inls its [(136,c136)] [(113,r113),(39,r39),(69,r69),(68,r68),(67,r67)]).ok:=ctxOf_cons (q113) (by kernel_rfl) ok136
theorem ok122:c122.ok prog 122:=Ctr.of_den l122 hmix (hl:=hints) (d:=4) func122 rfl (by decide) (e122 lpK jnK slices_IndexFunc_136)
noncomputable def brake_State_1_b (_:Lp) (_:Jn) (x0:Int):Option Bool :=
 
 let v3:Bool:=decide (x0<(-1073741824:Int));
 let v4:Bool:=!v3;bif !v4||v4 then bif v3||v4 then some (bif v3 then true else decide (x0>(1073741824:Int))) else none else none
noncomputable def brake_State_1 (x0:Int):Option Bool:=brake_State_1_b lpK jnK x0
noncomputable def c123:Ctr:=⟨[i64],[],[],.one .bool,fun x _ _=>brake_State_1 x.1⟩
theorem e123 (lp:Lp) (jn:Jn):∀(x:TsS c123.as) (F:TsF c123.fs) (y:TsS c123.cs),brake_State_1_b lp jn x.1=runC lp jn (ctxOf prog shs inls its [] [(113,r113),(39,r39),(69,r69),(68,r68),(67,r67)]) hints 4 123 f123 c123 x F y:=fun x F y=>by kernel_rfl
theorem l123:(ctxOf prog shs inls its [] [(113,r113),(39,r39),(69,r69),(68,r68),(67,r67)]).ok:=q113
theorem ok123:c123.ok prog 123:=Ctr.of_den l123 hmix (hl:=hints) (d:=4) func123 rfl (by decide) (e123 lpK jnK)
noncomputable def brake_State_b (_:Lp) (_:Jn) (arbor_Balance:(ByteArray×Int×Int×Int×Int×(List Int)×Int×Int×Int×Int×Int×(List (ByteArray×Int×Int×Int×Int×Int×Int))×List (ByteArray×Int×Int))->Option (Int×Int×Unit)) (slices_ContainsFunc_122:(List Int)->(((Int×Unit)->Option Bool))->Option (Bool)) (brake_State_1:(Int)->Option (Bool)) (x0:ByteArray×Int×Int×Int×Int×(List Int)×Int×Int×Int×Int×Int×(List (ByteArray×Int×Int×Int×Int×Int×Int))×List (ByteArray×Int×Int)) (x1:Int) (x2:Int):Option (Int×Int×Unit) :=
 obind (arbor_Balance x0) fun (t:Int×Int×PUnit)=>bif !decide (t.2.1=(0:Int)) then some ((0:Int),t.2.1,PUnit.unit) else obind (slices_ContainsFunc_122 [x1,x2] fun (x
  : Int×PUnit)=>brake_State_1 x.1) fun (t_1:Bool)=>bif t_1 then some ((0:Int),(2:Int),PUnit.unit) else some (IntKind.wrap .i64 (IntKind.wrap .i64 (t.1 +
  IntKind.wrap .i64 (x0.2.2.2.2.2.2.2.2.1*x1)) - x2),(0:Int),PUnit.unit)
noncomputable def brake_State (x0:ByteArray×Int×Int×Int×Int×(List Int)×Int×Int×Int×Int×Int×(List (ByteArray×Int×Int×Int×Int×Int×Int))×List (ByteArray×Int×Int)) (x1:Int) (x2:Int):Option (Int×Int×Unit):=brake_State_b lpK jnK arbor_Balance slices_ContainsFunc_122 brake_State_1 x0 x1 x2
noncomputable def c86:Ctr:=⟨[T35,i64,i64],[],[],.tup [i64,i64],fun x _ _=>brake_State x.1 x.2.1 x.2.2.1⟩
theorem e86 (lp:Lp) (jn:Jn) (arbor_Balance:(ByteArray×Int×Int×Int×Int×(List Int)×Int×Int×Int×Int×Int×(List (ByteArray×Int×Int×Int×Int×Int×Int))×List (ByteArray×Int×Int))->Option (Int×Int×Unit)) (slices_ContainsFunc_122:(List Int)->(((Int×Unit)->Option Bool))->Option (Bool)) (brake_State_1:(Int)->Option (Bool)):∀(x:TsS c86.as) (F:TsF c86.fs) (y:TsS c86.cs),brake_State_b lp jn arbor_Balance slices_ContainsFunc_122 brake_State_1 x.1 x.2.1 x.2.2.1=runC lp jn (ctxOf prog shs inls its [(123,⟨[i64],[],[],.one .bool,fun x _ _=>brake_State_1 x.1⟩),(122,⟨[(.sl i64)],[([i64],.bool)],[],.one .bool,fun x F _=>slices_ContainsFunc_122 x.1 F.1⟩),(8,⟨[T35],[],[],.tup [i64,i64],fun x _ _=>arbor_Balance x.1⟩)] [(113,r113),(39,r39),(69,r69),(68,r68),(67,r67)]) hints 4 86 f86 c86 x F y:=fun x F y=>by kernel_rfl
theorem l86:(ctxOf prog shs inls its [(123,c123),(122,c122),(8,c8)] [(113,r113),(39,r39),(69,r69),(68,r68),(67,r67)]).ok:=ctxOf_cons (ctxOf_cons (ctxOf_cons (q113) (by kernel_rfl) ok8) (by kernel_rfl) ok122) (by kernel_rfl) ok123
theorem ok86:c86.ok prog 86:=Ctr.of_den l86 hmix (hl:=hints) (d:=4) func86 rfl (by decide) (e86 lpK jnK arbor_Balance slices_ContainsFunc_122 brake_State_1)
noncomputable def slices_IndexFunc_72_b (lp:Lp) (_:Jn) (x0:List (ByteArray×Int×Int×Int×Int×(List Int)×Int×Int×Int×Int×Int×(List (ByteArray×Int×Int×Int×Int×Int×Int))×List (ByteArray×Int×Int))) (f0:(((ByteArray×Int×Int×Int×Int×(List Int)×Int×Int×Int×Int×Int×(List (ByteArray×Int×Int×Int×Int×Int×Int))×List (ByteArray×Int×Int))×Unit)->Option Bool)):Option Int :=
 lp (Int×PUnit) Int (fun (again:Int×PUnit->Option Int) (x:Int×PUnit)=>bif decide (x.1<(↑(List.length x0):Int)) then bif inB x.1 (List.length x0) then obind (f0
  (List.getD x0 (Int.toNat x.1) ({ data:={ toList:=[] } },(0:Int),(0:Int),(0:Int),(0:Int),[],(0:Int),(0:Int),(0:Int),(0:Int),(0:Int),[],[]),
  PUnit.unit)) fun (t:Bool)=>bif t then some x.1 else again (IntKind.wrap .i64 (x.1+(1:Int)),PUnit.unit) else none else some (-1:Int)) ((0:Int),PUnit.unit)
noncomputable def slices_IndexFunc_72 (x0:List (ByteArray×Int×Int×Int×Int×(List Int)×Int×Int×Int×Int×Int×(List (ByteArray×Int×Int×Int×Int×Int×Int))×List (ByteArray×Int×Int))) (f0:(((ByteArray×Int×Int×Int×Int×(List Int)×Int×Int×Int×Int×Int×(List (ByteArray×Int×Int×Int×Int×Int×Int))×List (ByteArray×Int×Int))×Unit)->Option Bool)):Option Int:=slices_IndexFunc_72_b lpK jnK x0 f0
noncomputable def c72:Ctr:=⟨[(.sl T35)],[([T35],.bool)],[],.one i64,fun x F _=>slices_IndexFunc_72 x.1 F.1⟩
theorem e72 (lp:Lp) (jn:Jn):∀(x:TsS c72.as) (F:TsF c72.fs) (y:TsS c72.cs),slices_IndexFunc_72_b lp jn x.1 F.1=runC lp jn (ctxOf prog shs inls its [] [(113,r113),(39,r39),(69,r69),(68,r68),(67,r67)]) hints 4 72 f72 c72 x F y:=fun x F y=>by kernel_rfl
theorem l72:(ctxOf prog shs inls its [] [(113,r113),(39,r39),(69,r69),(68,r68),(67,r67)]).ok:=q113
theorem ok72:c72.ok prog 72:=Ctr.of_den l72 hmix (hl:=hints) (d:=4) func72 rfl (by decide) (e72 lpK jnK)
noncomputable def house_find_1_b (_:Lp) (_:Jn) (x0:ByteArray×Int×Int×Int×Int×(List Int)×Int×Int×Int×Int×Int×(List (ByteArray×Int×Int×Int×Int×Int×Int))×List (ByteArray×Int×Int)) (y0:ByteArray):Option Bool :=
 some (List.beq (ByteArray.toList x0.1) (ByteArray.toList y0))
noncomputable def house_find_1 (x0:ByteArray×Int×Int×Int×Int×(List Int)×Int×Int×Int×Int×Int×(List (ByteArray×Int×Int×Int×Int×Int×Int))×List (ByteArray×Int×Int)) (y0:ByteArray):Option Bool:=house_find_1_b lpK jnK x0 y0
noncomputable def c73:Ctr:=⟨[T35],[],[.str],.one .bool,fun x _ y=>house_find_1 x.1 y.1⟩
theorem e73 (lp:Lp) (jn:Jn):∀(x:TsS c73.as) (F:TsF c73.fs) (y:TsS c73.cs),house_find_1_b lp jn x.1 y.1=runC lp jn (ctxOf prog shs inls its [] [(113,r113),(39,r39),(69,r69),(68,r68),(67,r67)]) hints 4 73 f73 c73 x F y:=fun x F y=>by kernel_rfl
theorem l73:(ctxOf prog shs inls its [] [(113,r113),(39,r39),(69,r69),(68,r68),(67,r67)]).ok:=q113
theorem ok73:c73.ok prog 73:=Ctr.of_den l73 hmix (hl:=hints) (d:=4) func73 rfl (by decide) (e73 lpK jnK)
noncomputable def house_find_b (_:Lp) (_:Jn) (slices_IndexFunc_72:(List (ByteArray×Int×Int×Int×Int×(List Int)×Int×Int×Int×Int×Int×(List (ByteArray×Int×Int×Int×Int×Int×Int))×List (ByteArray×Int×Int)))->((((ByteArray×Int×Int×Int×Int×(List Int)×Int×Int×Int×Int×Int×(List (ByteArray×Int×Int×Int×Int×Int×Int))×List (ByteArray×Int×Int))×Unit)->Option Bool))->Option (Int)) (house_find_1:(ByteArray×Int×Int×Int×Int×(List Int)×Int×Int×Int×Int×Int×(List (ByteArray×Int×Int×Int×Int×Int×Int))×List (ByteArray×Int×Int))->(ByteArray)->Option (Bool)) (x0:ByteArray×Int×(List (ByteArray×Int×Int×Int×Int×(List Int)×Int×Int×Int×Int×Int×(List (ByteArray×Int×Int×Int×Int×Int×Int))×List (ByteArray×Int×Int)))×List (ByteArray×Int×Int×Int)) (x1:ByteArray):Option Int :=
 obind (slices_IndexFunc_72 x0.2.2.1 fun (x:(ByteArray×Int×Int×Int×Int×List Int×Int×Int×Int×Int×Int×List (ByteArray×Int×Int×Int×Int×Int×Int)×List
  (ByteArray×Int×Int))×PUnit)=>house_find_1 x.1 x1) fun (t:Int)=>some t
noncomputable def house_find (x0:ByteArray×Int×(List (ByteArray×Int×Int×Int×Int×(List Int)×Int×Int×Int×Int×Int×(List (ByteArray×Int×Int×Int×Int×Int×Int))×List (ByteArray×Int×Int)))×List (ByteArray×Int×Int×Int)) (x1:ByteArray):Option Int:=house_find_b lpK jnK slices_IndexFunc_72 house_find_1 x0 x1
noncomputable def c38:Ctr:=⟨[T25,.str],[],[],.one i64,fun x _ _=>house_find x.1 x.2.1⟩
theorem e38 (lp:Lp) (jn:Jn) (slices_IndexFunc_72:(List (ByteArray×Int×Int×Int×Int×(List Int)×Int×Int×Int×Int×Int×(List (ByteArray×Int×Int×Int×Int×Int×Int))×List (ByteArray×Int×Int)))->((((ByteArray×Int×Int×Int×Int×(List Int)×Int×Int×Int×Int×Int×(List (ByteArray×Int×Int×Int×Int×Int×Int))×List (ByteArray×Int×Int))×Unit)->Option Bool))->Option (Int)) (house_find_1:(ByteArray×Int×Int×Int×Int×(List Int)×Int×Int×Int×Int×Int×(List (ByteArray×Int×Int×Int×Int×Int×Int))×List (ByteArray×Int×Int))->(ByteArray)->Option (Bool)):∀(x:TsS c38.as) (F:TsF c38.fs) (y:TsS c38.cs),house_find_b lp jn slices_IndexFunc_72 house_find_1 x.1 x.2.1=runC lp jn (ctxOf prog shs inls its [(73,⟨[T35],[],[.str],.one .bool,fun x _ y=>house_find_1 x.1 y.1⟩),(72,⟨[(.sl T35)],[([T35],.bool)],[],.one i64,fun x F _=>slices_IndexFunc_72 x.1 F.1⟩)] [(113,r113),(39,r39),(69,r69),(68,r68),(67,r67)]) hints 4 38 f38 c38 x F y:=fun x F y=>by kernel_rfl
theorem l38:(ctxOf prog shs inls its [(73,c73),(72,c72)] [(113,r113),(39,r39),(69,r69),(68,r68),(67,r67)]).ok:=ctxOf_cons (ctxOf_cons (q113) (by kernel_rfl) ok72) (by kernel_rfl) ok73
theorem ok38:c38.ok prog 38:=Ctr.of_den l38 hmix (hl:=hints) (d:=4) func38 rfl (by decide) (e38 lpK jnK slices_IndexFunc_72 house_find_1)
noncomputable def grid_isName_b (_:Lp) (_:Jn) (decimal_IsName:(ByteArray)->Option (Bool)) (x0:ByteArray):Option Bool :=
 obind (decimal_IsName x0) fun (t:Bool)=>some t
noncomputable def grid_isName (x0:ByteArray):Option Bool:=grid_isName_b lpK jnK decimal_IsName x0
noncomputable def c105:Ctr:=⟨[.str],[],[],.one .bool,fun x _ _=>grid_isName x.1⟩
theorem e105 (lp:Lp) (jn:Jn) (decimal_IsName:(ByteArray)->Option (Bool)):∀(x:TsS c105.as) (F:TsF c105.fs) (y:TsS c105.cs),grid_isName_b lp jn decimal_IsName x.1=runC lp jn (ctxOf prog shs inls its [(61,⟨[.str],[],[],.one .bool,fun x _ _=>decimal_IsName x.1⟩)] [(113,r113),(39,r39),(69,r69),(68,r68),(67,r67)]) hints 4 105 f105 c105 x F y:=fun x F y=>by kernel_rfl
theorem l105:(ctxOf prog shs inls its [(61,c61)] [(113,r113),(39,r39),(69,r69),(68,r68),(67,r67)]).ok:=ctxOf_cons (q113) (by kernel_rfl) ok61
theorem ok105:c105.ok prog 105:=Ctr.of_den l105 hmix (hl:=hints) (d:=4) func105 rfl (by decide) (e105 lpK jnK decimal_IsName)
noncomputable def grid_within_b (_:Lp) (_:Jn) (x0:Int):Option Bool :=
 
 let v3:Bool:=decide (x0>=(0:Int));
 let v4:Bool:=!v3||v3;bif v4 then bif v4 then some (bif v3 then decide (x0<=(1048576:Int)) else false) else none else none
noncomputable def grid_within (x0:Int):Option Bool:=grid_within_b lpK jnK x0
noncomputable def c106:Ctr:=⟨[i64],[],[],.one .bool,fun x _ _=>grid_within x.1⟩
theorem e106 (lp:Lp) (jn:Jn):∀(x:TsS c106.as) (F:TsF c106.fs) (y:TsS c106.cs),grid_within_b lp jn x.1=runC lp jn (ctxOf prog shs inls its [] [(113,r113),(39,r39),(69,r69),(68,r68),(67,r67)]) hints 4 106 f106 c106 x F y:=fun x F y=>by kernel_rfl
theorem l106:(ctxOf prog shs inls its [] [(113,r113),(39,r39),(69,r69),(68,r68),(67,r67)]).ok:=q113
theorem ok106:c106.ok prog 106:=Ctr.of_den l106 hmix (hl:=hints) (d:=4) func106 rfl (by decide) (e106 lpK jnK)
noncomputable def slices_IndexFunc_130_b (lp:Lp) (_:Jn) (x0:List (ByteArray×Int×Int×Int)) (f0:(((ByteArray×Int×Int×Int)×Unit)->Option Bool)):Option Int :=
 lp (Int×PUnit) Int (fun (again:Int×PUnit->Option Int) (x:Int×PUnit)=>bif decide (x.1<(↑(List.length x0):Int)) then bif inB x.1 (List.length x0) then obind (f0
  (List.getD x0 (Int.toNat x.1) ({ data:={ toList:=[] } },(0:Int),(0:Int),(0:Int)),PUnit.unit)) fun (t:Bool)=>bif t then some x.1 else again (IntKind.wrap
  IntKind.i64 (x.1+(1:Int)),PUnit.unit) else none else some (-1:Int)) ((0:Int),PUnit.unit)
noncomputable def slices_IndexFunc_130 (x0:List (ByteArray×Int×Int×Int)) (f0:(((ByteArray×Int×Int×Int)×Unit)->Option Bool)):Option Int:=slices_IndexFunc_130_b lpK jnK x0 f0
noncomputable def c130:Ctr:=⟨[(.sl T68)],[([T68],.bool)],[],.one i64,fun x F _=>slices_IndexFunc_130 x.1 F.1⟩
theorem e130 (lp:Lp) (jn:Jn):∀(x:TsS c130.as) (F:TsF c130.fs) (y:TsS c130.cs),slices_IndexFunc_130_b lp jn x.1 F.1=runC lp jn (ctxOf prog shs inls its [] [(113,r113),(39,r39),(69,r69),(68,r68),(67,r67)]) hints 4 130 f130 c130 x F y:=fun x F y=>by kernel_rfl
theorem l130:(ctxOf prog shs inls its [] [(113,r113),(39,r39),(69,r69),(68,r68),(67,r67)]).ok:=q113
theorem ok130:c130.ok prog 130:=Ctr.of_den l130 hmix (hl:=hints) (d:=4) func130 rfl (by decide) (e130 lpK jnK)
noncomputable def slices_ContainsFunc_107_b (_:Lp) (_:Jn) (slices_IndexFunc_130:(List (ByteArray×Int×Int×Int))->((((ByteArray×Int×Int×Int)×Unit)->Option Bool))->Option (Int)) (x0:List (ByteArray×Int×Int×Int)) (f0:(((ByteArray×Int×Int×Int)×Unit)->Option Bool)):Option Bool :=
 obind (slices_IndexFunc_130 x0 f0) fun (t:Int)=>some (decide (t>=(0:Int)))
noncomputable def slices_ContainsFunc_107 (x0:List (ByteArray×Int×Int×Int)) (f0:(((ByteArray×Int×Int×Int)×Unit)->Option Bool)):Option Bool:=slices_ContainsFunc_107_b lpK jnK slices_IndexFunc_130 x0 f0
noncomputable def c107:Ctr:=⟨[(.sl T68)],[([T68],.bool)],[],.one .bool,fun x F _=>slices_ContainsFunc_107 x.1 F.1⟩
theorem e107 (lp:Lp) (jn:Jn) (slices_IndexFunc_130:(List (ByteArray×Int×Int×Int))->((((ByteArray×Int×Int×Int)×Unit)->Option Bool))->Option (Int)):∀(x:TsS c107.as) (F:TsF c107.fs) (y:TsS c107.cs),slices_ContainsFunc_107_b lp jn slices_IndexFunc_130 x.1 F.1=runC lp jn (ctxOf prog shs inls its [(130,⟨[(.sl T68)],[([T68],.bool)],[],.one i64,fun x F _=>slices_IndexFunc_130 x.1 F.1⟩)] [(113,r113),(39,r39),(69,r69),(68,r68),(67,r67)]) hints 4 107 f107 c107 x F y:=fun x F y=>by kernel_rfl
theorem l107:(ctxOf prog shs inls its [(130,c130)] [(113,r113),(39,r39),(69,r69),(68,r68),(67,r67)]).ok:=ctxOf_cons (q113) (by kernel_rfl) ok130
theorem ok107:c107.ok prog 107:=Ctr.of_den l107 hmix (hl:=hints) (d:=4) func107 rfl (by decide) (e107 lpK jnK slices_IndexFunc_130)
noncomputable def grid_Valid_1_b (_:Lp) (_:Jn) (x0:ByteArray×Int×Int×Int) (y0:ByteArray×Int×Int×Int):Option Bool :=
 some (List.beq (ByteArray.toList x0.1) (ByteArray.toList y0.1))
noncomputable def grid_Valid_1 (x0:ByteArray×Int×Int×Int) (y0:ByteArray×Int×Int×Int):Option Bool:=grid_Valid_1_b lpK jnK x0 y0
noncomputable def c108:Ctr:=⟨[T68],[],[T68],.one .bool,fun x _ y=>grid_Valid_1 x.1 y.1⟩
theorem e108 (lp:Lp) (jn:Jn):∀(x:TsS c108.as) (F:TsF c108.fs) (y:TsS c108.cs),grid_Valid_1_b lp jn x.1 y.1=runC lp jn (ctxOf prog shs inls its [] [(113,r113),(39,r39),(69,r69),(68,r68),(67,r67)]) hints 4 108 f108 c108 x F y:=fun x F y=>by kernel_rfl
theorem l108:(ctxOf prog shs inls its [] [(113,r113),(39,r39),(69,r69),(68,r68),(67,r67)]).ok:=q113
theorem ok108:c108.ok prog 108:=Ctr.of_den l108 hmix (hl:=hints) (d:=4) func108 rfl (by decide) (e108 lpK jnK)
noncomputable def grid_Valid_b (lp:Lp) (_:Jn) (grid_isName:(ByteArray)->Option (Bool)) (grid_within:(Int)->Option (Bool)) (slices_ContainsFunc_107:(List (ByteArray×Int×Int×Int))->((((ByteArray×Int×Int×Int)×Unit)->Option Bool))->Option (Bool)) (grid_Valid_1:(ByteArray×Int×Int×Int)->(ByteArray×Int×Int×Int)->Option (Bool)) (x0:List (ByteArray×Int×Int×Int)):Option Bool :=
 bif decide ((↑(List.length x0):Int)>(20:Int)) then some false else lp (Int×PUnit) Bool (fun (again:Int×PUnit->Option Bool) (x:Int×PUnit) =>
 let v5:ByteArray×Int×Int×Int:=List.getD x0 (Int.toNat x.1) ({ data:={ toList:=[] } },(0:Int),(0:Int),(0:Int));bif decide (x.1<(↑(List.length x0):Int)) then
  bif inB x.1 (List.length x0) then obind (grid_isName v5.1) fun (t:Bool) =>
 let v7:Bool:=!t;
 let v8:Bool:=!v7;
 let v9:Bool:=!v8||v8;bif v9 then bif v9 then obind (bif v8 then grid_within v5.2.1 else some false) fun (t:Bool) =>
 let v11:Bool:=bif v7 then true else !t;
 let v12:Bool:=!v11;
 let v13:Bool:=!v12||v12;bif v9 then bif v7||v8 then bif v13 then bif v13 then obind (bif v12 then grid_within v5.2.2.1 else some false) fun (t:Bool) =>
 let v15:Bool:=bif v11 then true else !t;
 let v16:Bool:=!v15;
 let v17:Bool:=!v16||v16;
 let v18:Bool:=bif v15 then true else decide (v5.2.1>v5.2.2.1);
 let v19:Bool:=!v18;
 let v20:Bool:=bif v18 then true else decide (v5.2.2.2<(0:Int));
 let v21:Bool:=!v20;
 let v22:Bool:=!v19||v19;
 let v23:Bool:=!v21||v21;bif v13 then bif v11||v12 then bif v17 then bif v17 then bif v17&&v17 then bif v15||v16 then bif v22 then bif v22 then bif v18||v19 then bif v23
  then bif v23 then bif v20||v21 then bif bif v20 then true else decide (v5.2.2.2>(67108864:Int)) then some false else bif slB (0:Int) x.1 (List.length x0) then obind
  (slices_ContainsFunc_107 (List.drop (0:Nat) (List.take (Int.toNat x.1) x0)) fun (x:(ByteArray×Int×Int×Int)×PUnit)=>grid_Valid_1 x.1 v5) fun (t:Bool)=>bif t then
  some false else again (IntKind.wrap .i64 (x.1+(1:Int)),PUnit.unit) else none else none else none else none else none else none else none else none else none else none else
  none else none else none else none else none else none else none else none else none else none else some true) ((0:Int),PUnit.unit)
noncomputable def grid_Valid (x0:List (ByteArray×Int×Int×Int)):Option Bool:=grid_Valid_b lpK jnK grid_isName grid_within slices_ContainsFunc_107 grid_Valid_1 x0
noncomputable def c71:Ctr:=⟨[(.sl T68)],[],[],.one .bool,fun x _ _=>grid_Valid x.1⟩
theorem e71 (lp:Lp) (jn:Jn) (grid_isName:(ByteArray)->Option (Bool)) (grid_within:(Int)->Option (Bool)) (slices_ContainsFunc_107:(List (ByteArray×Int×Int×Int))->((((ByteArray×Int×Int×Int)×Unit)->Option Bool))->Option (Bool)) (grid_Valid_1:(ByteArray×Int×Int×Int)->(ByteArray×Int×Int×Int)->Option (Bool)):∀(x:TsS c71.as) (F:TsF c71.fs) (y:TsS c71.cs),grid_Valid_b lp jn grid_isName grid_within slices_ContainsFunc_107 grid_Valid_1 x.1=runC lp jn (ctxOf prog shs inls its [(108,⟨[T68],[],[T68],.one .bool,fun x _ y=>grid_Valid_1 x.1 y.1⟩),(107,⟨[(.sl T68)],[([T68],.bool)],[],.one .bool,fun x F _=>slices_ContainsFunc_107 x.1 F.1⟩),(106,⟨[i64],[],[],.one .bool,fun x _ _=>grid_within x.1⟩),(105,⟨[.str],[],[],.one .bool,fun x _ _=>grid_isName x.1⟩)] [(113,r113),(39,r39),(69,r69),(68,r68),(67,r67)]) hints 4 71 f71 c71 x F y:=fun x F y=>by kernel_rfl
theorem l71:(ctxOf prog shs inls its [(108,c108),(107,c107),(106,c106),(105,c105)] [(113,r113),(39,r39),(69,r69),(68,r68),(67,r67)]).ok:=ctxOf_cons (ctxOf_cons (ctxOf_cons (ctxOf_cons (q113) (by kernel_rfl) ok105) (by kernel_rfl) ok106) (by kernel_rfl) ok107) (by kernel_rfl) ok108
theorem ok71:c71.ok prog 71:=Ctr.of_den l71 hmix (hl:=hints) (d:=4) func71 rfl (by decide) (e71 lpK jnK grid_isName grid_within slices_ContainsFunc_107 grid_Valid_1)
noncomputable def house_Valid_b (lp:Lp) (_:Jn) (decimal_IsName:(ByteArray)->Option (Bool)) (batten_Valid:(ByteArray×Int×Int×Int×Int×(List Int)×Int×Int×Int×Int×Int×(List (ByteArray×Int×Int×Int×Int×Int×Int))×List (ByteArray×Int×Int))->Option (Bool)) (house_find:(ByteArray×Int×(List (ByteArray×Int×Int×Int×Int×(List Int)×Int×Int×Int×Int×Int×(List (ByteArray×Int×Int×Int×Int×Int×Int))×List (ByteArray×Int×Int)))×List (ByteArray×Int×Int×Int))->(ByteArray)->Option (Int)) (grid_Valid:(List (ByteArray×Int×Int×Int))->Option (Bool)) (x0:ByteArray×Int×(List (ByteArray×Int×Int×Int×Int×(List Int)×Int×Int×Int×Int×Int×(List (ByteArray×Int×Int×Int×Int×Int×Int))×List (ByteArray×Int×Int)))×List (ByteArray×Int×Int×Int)):Option Bool :=
 
 let v3:Bool:=decide (x0.2.1<(1:Int));
 let v4:Bool:=decide (x0.2.1>(1048576:Int));
 let v5:Bool:=decide ((↑(List.length x0.2.2.1):Int)>(60:Int));obind (decimal_IsName x0.1) fun (t:Bool) =>
 let v7:Bool:=!t;
 let v8:Bool:=!v7;
 let v9:Bool:=bif v7 then true else v3;
 let v10:Bool:=!v9;
 let v11:Bool:=!v8||v8;
 let v12:Bool:=bif v9 then true else v4;
 let v13:Bool:=!v12;
 let v14:Bool:=bif v12 then true else v5;
 let v15:Bool:=!v14;
 let v16:Bool:=!v10||v10;
 let v17:Bool:=!v13||v13;
 let v18:Bool:=!v15||v15;bif v11 then bif v11 then bif v7||v8 then bif v16 then bif v16 then bif v9||v10 then bif v17 then bif v17 then bif v17 then bif v12||v13 then bif v18
  then bif v18 then obind (bif v15 then grid_Valid x0.2.2.2 else some false) fun (t:Bool)=>bif v18 then bif v14||v15 then bif bif v14 then true else !t then some false else lp
  (Int×PUnit) Bool (fun (again:Int×PUnit->Option Bool) (x:Int×PUnit) =>
 let v22:ByteArray×Int×Int×Int×Int×List Int×Int×Int×Int×Int×Int×List (ByteArray×Int×Int×Int×Int×Int×Int)×List (ByteArray×Int×Int):=List.getD
  x0.2.2.1 (Int.toNat x.1) ({ data:={ toList:=[] } },(0:Int),(0:Int),(0:Int),(0:Int),[],(0:Int),(0:Int),(0:Int),(0:Int),(0:Int),[],[]);
 let v23:Bool:=decide (v22.2.2.2.1>x0.2.1);bif decide (x.1<(↑(List.length x0.2.2.1):Int)) then bif inB x.1 (List.length x0.2.2.1) then obind
  (batten_Valid v22) fun (t:Bool) =>
 let v25:Bool:=!t;
 let v26:Bool:=!v25;
 let v27:Bool:=bif v25 then true else v23;
 let v28:Bool:=!v27;
 let v29:Bool:=!v26||v26;
 let v30:Bool:=!v28||v28;
 let v31:Bool:=v30&&v30;bif v29 then bif v29 then bif v29&&v29 then bif v25||v26 then bif v30 then bif v31 then obind (bif v28 then house_find x0 v22.1 else some (0:Int))
  fun (t:Int)=>bif v31 then bif v27||v28 then bif bif v27 then true else !decide (t=x.1) then some false else again (IntKind.wrap .i64 (x.1+(1:Int)),PUnit.unit)
  else none else none else none else none else none else none else none else none else none else some true) ((0:Int),PUnit.unit) else none else none else none else none else none else
  none else none else none else none else none else none else none else none else none
noncomputable def house_Valid (x0:ByteArray×Int×(List (ByteArray×Int×Int×Int×Int×(List Int)×Int×Int×Int×Int×Int×(List (ByteArray×Int×Int×Int×Int×Int×Int))×List (ByteArray×Int×Int)))×List (ByteArray×Int×Int×Int)):Option Bool:=house_Valid_b lpK jnK decimal_IsName batten_Valid house_find grid_Valid x0
noncomputable def c37:Ctr:=⟨[T25],[],[],.one .bool,fun x _ _=>house_Valid x.1⟩
theorem e37 (lp:Lp) (jn:Jn) (decimal_IsName:(ByteArray)->Option (Bool)) (batten_Valid:(ByteArray×Int×Int×Int×Int×(List Int)×Int×Int×Int×Int×Int×(List (ByteArray×Int×Int×Int×Int×Int×Int))×List (ByteArray×Int×Int))->Option (Bool)) (house_find:(ByteArray×Int×(List (ByteArray×Int×Int×Int×Int×(List Int)×Int×Int×Int×Int×Int×(List (ByteArray×Int×Int×Int×Int×Int×Int))×List (ByteArray×Int×Int)))×List (ByteArray×Int×Int×Int))->(ByteArray)->Option (Int)) (grid_Valid:(List (ByteArray×Int×Int×Int))->Option (Bool)):∀(x:TsS c37.as) (F:TsF c37.fs) (y:TsS c37.cs),house_Valid_b lp jn decimal_IsName batten_Valid house_find grid_Valid x.1=runC lp jn (ctxOf prog shs inls its [(71,⟨[(.sl T68)],[],[],.one .bool,fun x _ _=>grid_Valid x.1⟩),(38,⟨[T25,.str],[],[],.one i64,fun x _ _=>house_find x.1 x.2.1⟩),(24,⟨[T35],[],[],.one .bool,fun x _ _=>batten_Valid x.1⟩),(61,⟨[.str],[],[],.one .bool,fun x _ _=>decimal_IsName x.1⟩)] [(113,r113),(39,r39),(69,r69),(68,r68),(67,r67)]) hints 4 37 f37 c37 x F y:=fun x F y=>by kernel_rfl
theorem l37:(ctxOf prog shs inls its [(71,c71),(38,c38),(24,c24),(61,c61)] [(113,r113),(39,r39),(69,r69),(68,r68),(67,r67)]).ok:=ctxOf_cons (ctxOf_cons (ctxOf_cons (ctxOf_cons (q113) (by kernel_rfl) ok61) (by kernel_rfl) ok24) (by kernel_rfl) ok38) (by kernel_rfl) ok71
theorem ok37:c37.ok prog 37:=Ctr.of_den l37 hmix (hl:=hints) (d:=4) func37 rfl (by decide) (e37 lpK jnK decimal_IsName batten_Valid house_find grid_Valid)
noncomputable def source_short_1_b (_:Lp) (_:Jn) (x0:Int):Option Bool :=
 
 let v3:Bool:=decide (x0<=(-1000000000000000:Int));
 let v4:Bool:=!v3;bif !v4||v4 then bif v3||v4 then some (bif v3 then true else decide (x0>=(1000000000000000:Int))) else none else none
noncomputable def source_short_1 (x0:Int):Option Bool:=source_short_1_b lpK jnK x0
noncomputable def c124:Ctr:=⟨[i64],[],[],.one .bool,fun x _ _=>source_short_1 x.1⟩
theorem e124 (lp:Lp) (jn:Jn):∀(x:TsS c124.as) (F:TsF c124.fs) (y:TsS c124.cs),source_short_1_b lp jn x.1=runC lp jn (ctxOf prog shs inls its [] [(113,r113),(39,r39),(69,r69),(68,r68),(67,r67)]) hints 4 124 f124 c124 x F y:=fun x F y=>by kernel_rfl
theorem l124:(ctxOf prog shs inls its [] [(113,r113),(39,r39),(69,r69),(68,r68),(67,r67)]).ok:=q113
theorem ok124:c124.ok prog 124:=Ctr.of_den l124 hmix (hl:=hints) (d:=4) func124 rfl (by decide) (e124 lpK jnK)
noncomputable def source_short_b (_:Lp) (_:Jn) (slices_ContainsFunc_122:(List Int)->(((Int×Unit)->Option Bool))->Option (Bool)) (source_short_1:(Int)->Option (Bool)) (x0:List Int):Option Bool :=
 obind (slices_ContainsFunc_122 x0 fun (x:Int×PUnit)=>source_short_1 x.1) fun (t:Bool)=>some !t
noncomputable def source_short (x0:List Int):Option Bool:=source_short_b lpK jnK slices_ContainsFunc_122 source_short_1 x0
noncomputable def c89:Ctr:=⟨[(.sl i64)],[],[],.one .bool,fun x _ _=>source_short x.1⟩
theorem e89 (lp:Lp) (jn:Jn) (slices_ContainsFunc_122:(List Int)->(((Int×Unit)->Option Bool))->Option (Bool)) (source_short_1:(Int)->Option (Bool)):∀(x:TsS c89.as) (F:TsF c89.fs) (y:TsS c89.cs),source_short_b lp jn slices_ContainsFunc_122 source_short_1 x.1=runC lp jn (ctxOf prog shs inls its [(124,⟨[i64],[],[],.one .bool,fun x _ _=>source_short_1 x.1⟩),(122,⟨[(.sl i64)],[([i64],.bool)],[],.one .bool,fun x F _=>slices_ContainsFunc_122 x.1 F.1⟩)] [(113,r113),(39,r39),(69,r69),(68,r68),(67,r67)]) hints 4 89 f89 c89 x F y:=fun x F y=>by kernel_rfl
theorem l89:(ctxOf prog shs inls its [(124,c124),(122,c122)] [(113,r113),(39,r39),(69,r69),(68,r68),(67,r67)]).ok:=ctxOf_cons (ctxOf_cons (q113) (by kernel_rfl) ok122) (by kernel_rfl) ok124
theorem ok89:c89.ok prog 89:=Ctr.of_den l89 hmix (hl:=hints) (d:=4) func89 rfl (by decide) (e89 lpK jnK slices_ContainsFunc_122 source_short_1)
noncomputable def slices_IndexFunc_125_b (lp:Lp) (_:Jn) (x0:List (ByteArray×ByteArray)) (f0:(((ByteArray×ByteArray)×Unit)->Option Bool)):Option Int :=
 lp (Int×PUnit) Int (fun (again:Int×PUnit->Option Int) (x:Int×PUnit)=>bif decide (x.1<(↑(List.length x0):Int)) then bif inB x.1 (List.length x0) then obind (f0
  (List.getD x0 (Int.toNat x.1) ({ data:={ toList:=[] } },{ data:={ toList:=[] } }),PUnit.unit)) fun (t:Bool)=>bif t then some x.1 else again (IntKind.wrap .i64
  (x.1+(1:Int)),PUnit.unit) else none else some (-1:Int)) ((0:Int),PUnit.unit)
noncomputable def slices_IndexFunc_125 (x0:List (ByteArray×ByteArray)) (f0:(((ByteArray×ByteArray)×Unit)->Option Bool)):Option Int:=slices_IndexFunc_125_b lpK jnK x0 f0
noncomputable def c125:Ctr:=⟨[(.sl T116)],[([T116],.bool)],[],.one i64,fun x F _=>slices_IndexFunc_125 x.1 F.1⟩
theorem e125 (lp:Lp) (jn:Jn):∀(x:TsS c125.as) (F:TsF c125.fs) (y:TsS c125.cs),slices_IndexFunc_125_b lp jn x.1 F.1=runC lp jn (ctxOf prog shs inls its [] [(113,r113),(39,r39),(69,r69),(68,r68),(67,r67)]) hints 4 125 f125 c125 x F y:=fun x F y=>by kernel_rfl
theorem l125:(ctxOf prog shs inls its [] [(113,r113),(39,r39),(69,r69),(68,r68),(67,r67)]).ok:=q113
theorem ok125:c125.ok prog 125:=Ctr.of_den l125 hmix (hl:=hints) (d:=4) func125 rfl (by decide) (e125 lpK jnK)
noncomputable def slices_ContainsFunc_90_b (_:Lp) (_:Jn) (slices_IndexFunc_125:(List (ByteArray×ByteArray))->((((ByteArray×ByteArray)×Unit)->Option Bool))->Option (Int)) (x0:List (ByteArray×ByteArray)) (f0:(((ByteArray×ByteArray)×Unit)->Option Bool)):Option Bool :=
 obind (slices_IndexFunc_125 x0 f0) fun (t:Int)=>some (decide (t>=(0:Int)))
noncomputable def slices_ContainsFunc_90 (x0:List (ByteArray×ByteArray)) (f0:(((ByteArray×ByteArray)×Unit)->Option Bool)):Option Bool:=slices_ContainsFunc_90_b lpK jnK slices_IndexFunc_125 x0 f0
noncomputable def c90:Ctr:=⟨[(.sl T116)],[([T116],.bool)],[],.one .bool,fun x F _=>slices_ContainsFunc_90 x.1 F.1⟩
theorem e90 (lp:Lp) (jn:Jn) (slices_IndexFunc_125:(List (ByteArray×ByteArray))->((((ByteArray×ByteArray)×Unit)->Option Bool))->Option (Int)):∀(x:TsS c90.as) (F:TsF c90.fs) (y:TsS c90.cs),slices_ContainsFunc_90_b lp jn slices_IndexFunc_125 x.1 F.1=runC lp jn (ctxOf prog shs inls its [(125,⟨[(.sl T116)],[([T116],.bool)],[],.one i64,fun x F _=>slices_IndexFunc_125 x.1 F.1⟩)] [(113,r113),(39,r39),(69,r69),(68,r68),(67,r67)]) hints 4 90 f90 c90 x F y:=fun x F y=>by kernel_rfl
theorem l90:(ctxOf prog shs inls its [(125,c125)] [(113,r113),(39,r39),(69,r69),(68,r68),(67,r67)]).ok:=ctxOf_cons (q113) (by kernel_rfl) ok125
theorem ok90:c90.ok prog 90:=Ctr.of_den l90 hmix (hl:=hints) (d:=4) func90 rfl (by decide) (e90 lpK jnK slices_IndexFunc_125)
noncomputable def source_Writable_1_b (_:Lp) (_:Jn) (decimal_IsName:(ByteArray)->Option (Bool)) (x0:ByteArray×ByteArray):Option Bool :=
 obind (decimal_IsName x0.1) fun (t:Bool) =>
 let v4:Bool:=!t;
 let v5:Bool:=!v4;
 let v6:Bool:=!v5;
 let v7:Bool:=v6||true;
 let v8:Bool:=v6||v5;bif v7 then bif v8&&v7 then bif v8 then obind (bif v5 then decimal_IsName x0.2 else some false) fun (t:Bool)=>bif v8 then bif v4||v5 then some (bif v4
  then true else !t) else none else none else none else none else none
noncomputable def source_Writable_1 (x0:ByteArray×ByteArray):Option Bool:=source_Writable_1_b lpK jnK decimal_IsName x0
noncomputable def c91:Ctr:=⟨[T116],[],[],.one .bool,fun x _ _=>source_Writable_1 x.1⟩
theorem e91 (lp:Lp) (jn:Jn) (decimal_IsName:(ByteArray)->Option (Bool)):∀(x:TsS c91.as) (F:TsF c91.fs) (y:TsS c91.cs),source_Writable_1_b lp jn decimal_IsName x.1=runC lp jn (ctxOf prog shs inls its [(61,⟨[.str],[],[],.one .bool,fun x _ _=>decimal_IsName x.1⟩)] [(113,r113),(39,r39),(69,r69),(68,r68),(67,r67)]) hints 4 91 f91 c91 x F y:=fun x F y=>by kernel_rfl
theorem l91:(ctxOf prog shs inls its [(61,c61)] [(113,r113),(39,r39),(69,r69),(68,r68),(67,r67)]).ok:=ctxOf_cons (q113) (by kernel_rfl) ok61
theorem ok91:c91.ok prog 91:=Ctr.of_den l91 hmix (hl:=hints) (d:=4) func91 rfl (by decide) (e91 lpK jnK decimal_IsName)
noncomputable def source_Writable_b (lp:Lp) (_:Jn) (decimal_IsName:(ByteArray)->Option (Bool)) (source_short:(List Int)->Option (Bool)) (slices_ContainsFunc_90:(List (ByteArray×ByteArray))->((((ByteArray×ByteArray)×Unit)->Option Bool))->Option (Bool)) (source_Writable_1:(ByteArray×ByteArray)->Option (Bool)) (x0:(List (ByteArray×ByteArray×Int×Int×(List (ByteArray×Int×Int×Int×Int))×Int×Int))×List (ByteArray×ByteArray)):Option Bool :=
 
 let v3:Bool:=decide ((↑(List.length x0.1):Int)>(60:Int));
 let v4:Bool:=!v3;
 let v5:Bool:=!v4||v4;bif v5 then bif v5 then bif v5 then bif v3||v4 then bif bif v3 then true else decide ((↑(List.length x0.2):Int)>(1000:Int)) then some false else lp
  (Int×Int×PUnit) Bool (fun (again:Int×Int×PUnit->Option Bool) (x:Int×Int×PUnit) =>
 let v8:Bool:=decide (x.1<=(100:Int));
 let v9:Bool:=!v8||v8;
 let v10:ByteArray×ByteArray×Int×Int×List (ByteArray×Int×Int×Int×Int)×Int×Int:=List.getD x0.1 (Int.toNat x.2.1) ({ data:={ toList:=[] } },{ data:={
  toList:=[] } },(0:Int),(0:Int),[],(0:Int),(0:Int));
 let v11:Bool:=decide (v10.2.2.1=(1:Int));
 let v12:Bool:=decide (v10.2.2.1=(2:Int));
 let v13:Bool:=bif v11 then List.beq (ByteArray.toList v10.2.1) (ByteArray.toList { data:=#[] }) else false;
 let v14:Bool:=!v13;
 let v15:Bool:=!v14;
 let v16:Bool:=!v11||v11;
 let v17:Bool:=bif v12 then true else decide (v10.2.2.1=(3:Int));
 let v18:Bool:=v14&&!v12;
 let v19:Bool:=v15||v14;
 let v20:Bool:=v14&&v17;
 let v21:Bool:=v15||v19;
 let v22:Bool:=!v18||v18;
 let v23:Bool:=!v20||v20;bif decide (x.2.1<(↑(List.length x0.1):Int)) then bif inB x.2.1 (List.length x0.1) then bif v16 then bif v16 then bif v16 then bif v19 then
  bif v19 then bif v19 then bif v22 then bif v22 then bif v21&&(v15||(v12||(v15||v18))) then bif v19 then bif v23 then bif v23 then obind (bif v20 then decimal_IsName v10.2.1
  else some false) fun (t:Bool) =>
 let v25:Bool:=!bif v13 then true else bif v17 then t else false;bif v21&&(v15||(!v17||(v15||v20))) then bif v13||v14 then obind (decimal_IsName v10.1) fun (t:Bool) =>
 let v27:Bool:=!t;
 let v28:Bool:=!v27;
 let v29:Bool:=bif v27 then true else v25;
 let v30:Bool:=!v29;
 let v31:Bool:=!v30||v30;bif !v28||v28 then bif v27||v28 then bif v31 then bif v31 then bif v31 then bif v31&&(v31&&v31) then bif v31 then obind (bif v30 then source_short
  [v10.2.2.2.1,v10.2.2.2.2.2.1,v10.2.2.2.2.2.2] else some false) fun (t:Bool)=>bif v31 then bif v29||v30 then bif bif v29 then true else !t then
  some false else lp (Int×PUnit) Bool (fun (again_1:Int×PUnit->Option Bool) (x_1:Int×PUnit) =>
 let v35:ByteArray×Int×Int×Int×Int:=List.getD v10.2.2.2.2.1 (Int.toNat x_1.1) ({ data:={ toList:=[] } },(0:Int),(0:Int),(0:Int),(0:Int));bif decide
  (x_1.1<(↑(List.length v10.2.2.2.2.1):Int)) then bif inB x_1.1 (List.length v10.2.2.2.2.1) then obind (decimal_IsName v35.1) fun (t:Bool) =>
 let v37:Bool:=!t;
 let v38:Bool:=!v37;
 let v39:Bool:=!v38||v38;bif v39 then bif v39 then bif v39 then bif v39 then bif v39&&(v39&&(v39&&v39)) then bif v39 then obind (bif v38 then source_short [v35.2.1,
  v35.2.2.1,v35.2.2.2.1,v35.2.2.2.2] else some false) fun (t:Bool)=>bif v39 then bif v37||v38 then bif bif v37 then true else !t then some false else again_1
  (IntKind.wrap .i64 (x_1.1+(1:Int)),PUnit.unit) else none else none else none else none else none else none else none else none else none else again (IntKind.wrap
  IntKind.i64 (x.1+(↑(List.length v10.2.2.2.2.1):Int)),IntKind.wrap .i64 (x.2.1+(1:Int)),PUnit.unit)) ((0:Int),PUnit.unit) else none else none else
  none else none else none else none else none else none else none else none else none else none else none else none else none else none else none else none else none else none else none
  else none else none else none else bif v9 then bif v9 then obind (bif v8 then slices_ContainsFunc_90 x0.2 fun (x:(ByteArray×ByteArray)×PUnit)=>source_Writable_1 x.1 else
  some false) fun (t:Bool)=>bif v9 then bif v9 then some (bif v8 then !t else false) else none else none else none else none) ((0:Int),(0:Int),PUnit.unit) else none else none
  else none else none
noncomputable def source_Writable (x0:(List (ByteArray×ByteArray×Int×Int×(List (ByteArray×Int×Int×Int×Int))×Int×Int))×List (ByteArray×ByteArray)):Option Bool:=source_Writable_b lpK jnK decimal_IsName source_short slices_ContainsFunc_90 source_Writable_1 x0
noncomputable def c51:Ctr:=⟨[T64],[],[],.one .bool,fun x _ _=>source_Writable x.1⟩
theorem e51 (lp:Lp) (jn:Jn) (decimal_IsName:(ByteArray)->Option (Bool)) (source_short:(List Int)->Option (Bool)) (slices_ContainsFunc_90:(List (ByteArray×ByteArray))->((((ByteArray×ByteArray)×Unit)->Option Bool))->Option (Bool)) (source_Writable_1:(ByteArray×ByteArray)->Option (Bool)):∀(x:TsS c51.as) (F:TsF c51.fs) (y:TsS c51.cs),source_Writable_b lp jn decimal_IsName source_short slices_ContainsFunc_90 source_Writable_1 x.1=runC lp jn (ctxOf prog shs inls its [(91,⟨[T116],[],[],.one .bool,fun x _ _=>source_Writable_1 x.1⟩),(90,⟨[(.sl T116)],[([T116],.bool)],[],.one .bool,fun x F _=>slices_ContainsFunc_90 x.1 F.1⟩),(89,⟨[(.sl i64)],[],[],.one .bool,fun x _ _=>source_short x.1⟩),(61,⟨[.str],[],[],.one .bool,fun x _ _=>decimal_IsName x.1⟩)] [(113,r113),(39,r39),(69,r69),(68,r68),(67,r67)]) hints 4 51 f51 c51 x F y:=fun x F y=>by kernel_rfl
theorem l51:(ctxOf prog shs inls its [(91,c91),(90,c90),(89,c89),(61,c61)] [(113,r113),(39,r39),(69,r69),(68,r68),(67,r67)]).ok:=ctxOf_cons (ctxOf_cons (ctxOf_cons (ctxOf_cons (q113) (by kernel_rfl) ok61) (by kernel_rfl) ok89) (by kernel_rfl) ok90) (by kernel_rfl) ok91
theorem ok51:c51.ok prog 51:=Ctr.of_den l51 hmix (hl:=hints) (d:=4) func51 rfl (by decide) (e51 lpK jnK decimal_IsName source_short slices_ContainsFunc_90 source_Writable_1)
noncomputable def bits_Len64_b (_:Lp) (jn:Jn) (x0:Int):Option Int :=
 jn (Int×Int×PUnit) Int (fun (x:Int×Int×PUnit)=>jn (Int×Int×PUnit) Int (fun (x:Int×Int×PUnit) =>
 let v5:Int:=IntKind.wrap IntKind.u8 x.1;
 let v6:Int:=IntKind.wrap IntKind.u8 (Int.fdiv x.1 ((2:Int) ^ (8:Nat)));bif decide (x.1>=(256:Int)) then bif decide ((0:Int)<=(8:Int)) then bif inB v6 (256:Nat) then
  some (IntKind.wrap .i64 (IntKind.wrap .i64 (x.2.1+(8:Int))+IntKind.wrap .i64 (byteAt { data:=List.toArray (List.append (List.append [(0:UInt8),(1 :
  UInt8),(2:UInt8),(2:UInt8),(3:UInt8),(3:UInt8),(3:UInt8),(3:UInt8),(4:UInt8),(4:UInt8),(4:UInt8),(4:UInt8),(4:UInt8),(4:UInt8),(4:UInt8),(4 :
  UInt8),(5:UInt8),(5:UInt8),(5:UInt8),(5:UInt8),(5:UInt8),(5:UInt8),(5:UInt8),(5:UInt8),(5:UInt8),(5:UInt8),(5:UInt8),(5:UInt8),(5:UInt8),(5 :
  UInt8),(5:UInt8),(5:UInt8),(6:UInt8),(6:UInt8),(6:UInt8),(6:UInt8),(6:UInt8),(6:UInt8),(6:UInt8),(6:UInt8),(6:UInt8),(6:UInt8),(6:UInt8),(6 :
  UInt8),(6:UInt8),(6:UInt8),(6:UInt8),(6:UInt8),(6:UInt8),(6:UInt8),(6:UInt8),(6:UInt8),(6:UInt8),(6:UInt8),(6:UInt8),(6:UInt8),(6:UInt8),(6 :
  UInt8),(6:UInt8),(6:UInt8),(6:UInt8),(6:UInt8),(6:UInt8),(6:UInt8)] [(7:UInt8),(7:UInt8),(7:UInt8),(7:UInt8),(7:UInt8),(7:UInt8),(7:UInt8),(7 :
  UInt8),(7:UInt8),(7:UInt8),(7:UInt8),(7:UInt8),(7:UInt8),(7:UInt8),(7:UInt8),(7:UInt8),(7:UInt8),(7:UInt8),(7:UInt8),(7:UInt8),(7:UInt8),(7 :
  UInt8),(7:UInt8),(7:UInt8),(7:UInt8),(7:UInt8),(7:UInt8),(7:UInt8),(7:UInt8),(7:UInt8),(7:UInt8),(7:UInt8),(7:UInt8),(7:UInt8),(7:UInt8),(7 :
  UInt8),(7:UInt8),(7:UInt8),(7:UInt8),(7:UInt8),(7:UInt8),(7:UInt8),(7:UInt8),(7:UInt8),(7:UInt8),(7:UInt8),(7:UInt8),(7:UInt8),(7:UInt8),(7 :
  UInt8),(7:UInt8),(7:UInt8),(7:UInt8),(7:UInt8),(7:UInt8),(7:UInt8),(7:UInt8),(7:UInt8),(7:UInt8),(7:UInt8),(7:UInt8),(7:UInt8),(7:UInt8),(7 :
  UInt8)]) (List.append [(8:UInt8),(8:UInt8),(8:UInt8),(8:UInt8),(8:UInt8),(8:UInt8),(8:UInt8),(8:UInt8),(8:UInt8),(8:UInt8),(8:UInt8),(8:UInt8),(8 :
  UInt8),(8:UInt8),(8:UInt8),(8:UInt8),(8:UInt8),(8:UInt8),(8:UInt8),(8:UInt8),(8:UInt8),(8:UInt8),(8:UInt8),(8:UInt8),(8:UInt8),(8:UInt8),(8 :
  UInt8),(8:UInt8),(8:UInt8),(8:UInt8),(8:UInt8),(8:UInt8),(8:UInt8),(8:UInt8),(8:UInt8),(8:UInt8),(8:UInt8),(8:UInt8),(8:UInt8),(8:UInt8),(8 :
  UInt8),(8:UInt8),(8:UInt8),(8:UInt8),(8:UInt8),(8:UInt8),(8:UInt8),(8:UInt8),(8:UInt8),(8:UInt8),(8:UInt8),(8:UInt8),(8:UInt8),(8:UInt8),(8 :
  UInt8),(8:UInt8),(8:UInt8),(8:UInt8),(8:UInt8),(8:UInt8),(8:UInt8),(8:UInt8),(8:UInt8),(8:UInt8)] [(8:UInt8),(8:UInt8),(8:UInt8),(8:UInt8),(8 :
  UInt8),(8:UInt8),(8:UInt8),(8:UInt8),(8:UInt8),(8:UInt8),(8:UInt8),(8:UInt8),(8:UInt8),(8:UInt8),(8:UInt8),(8:UInt8),(8:UInt8),(8:UInt8),(8 :
  UInt8),(8:UInt8),(8:UInt8),(8:UInt8),(8:UInt8),(8:UInt8),(8:UInt8),(8:UInt8),(8:UInt8),(8:UInt8),(8:UInt8),(8:UInt8),(8:UInt8),(8:UInt8),(8 :
  UInt8),(8:UInt8),(8:UInt8),(8:UInt8),(8:UInt8),(8:UInt8),(8:UInt8),(8:UInt8),(8:UInt8),(8:UInt8),(8:UInt8),(8:UInt8),(8:UInt8),(8:UInt8),(8 :
  UInt8),(8:UInt8),(8:UInt8),(8:UInt8),(8:UInt8),(8:UInt8),(8:UInt8),(8:UInt8),(8:UInt8),(8:UInt8),(8:UInt8),(8:UInt8),(8:UInt8),(8:UInt8),(8 :
  UInt8),(8:UInt8),(8:UInt8),(8:UInt8)])) } (Int.toNat v6)))) else none else none else bif inB v5 (256:Nat) then some (IntKind.wrap .i64 (x.2.1+IntKind.wrap
  IntKind.i64 (byteAt { data:=List.toArray (List.append (List.append [(0:UInt8),(1:UInt8),(2:UInt8),(2:UInt8),(3:UInt8),(3:UInt8),(3:UInt8),(3:UInt8),(4 :
  UInt8),(4:UInt8),(4:UInt8),(4:UInt8),(4:UInt8),(4:UInt8),(4:UInt8),(4:UInt8),(5:UInt8),(5:UInt8),(5:UInt8),(5:UInt8),(5:UInt8),(5:UInt8),(5 :
  UInt8),(5:UInt8),(5:UInt8),(5:UInt8),(5:UInt8),(5:UInt8),(5:UInt8),(5:UInt8),(5:UInt8),(5:UInt8),(6:UInt8),(6:UInt8),(6:UInt8),(6:UInt8),(6 :
  UInt8),(6:UInt8),(6:UInt8),(6:UInt8),(6:UInt8),(6:UInt8),(6:UInt8),(6:UInt8),(6:UInt8),(6:UInt8),(6:UInt8),(6:UInt8),(6:UInt8),(6:UInt8),(6 :
  UInt8),(6:UInt8),(6:UInt8),(6:UInt8),(6:UInt8),(6:UInt8),(6:UInt8),(6:UInt8),(6:UInt8),(6:UInt8),(6:UInt8),(6:UInt8),(6:UInt8),(6:UInt8)] [(7 :
  UInt8),(7:UInt8),(7:UInt8),(7:UInt8),(7:UInt8),(7:UInt8),(7:UInt8),(7:UInt8),(7:UInt8),(7:UInt8),(7:UInt8),(7:UInt8),(7:UInt8),(7:UInt8),(7 :
  UInt8),(7:UInt8),(7:UInt8),(7:UInt8),(7:UInt8),(7:UInt8),(7:UInt8),(7:UInt8),(7:UInt8),(7:UInt8),(7:UInt8),(7:UInt8),(7:UInt8),(7:UInt8),(7 :
  UInt8),(7:UInt8),(7:UInt8),(7:UInt8),(7:UInt8),(7:UInt8),(7:UInt8),(7:UInt8),(7:UInt8),(7:UInt8),(7:UInt8),(7:UInt8),(7:UInt8),(7:UInt8),(7 :
  UInt8),(7:UInt8),(7:UInt8),(7:UInt8),(7:UInt8),(7:UInt8),(7:UInt8),(7:UInt8),(7:UInt8),(7:UInt8),(7:UInt8),(7:UInt8),(7:UInt8),(7:UInt8),(7 :
  UInt8),(7:UInt8),(7:UInt8),(7:UInt8),(7:UInt8),(7:UInt8),(7:UInt8),(7:UInt8)]) (List.append [(8:UInt8),(8:UInt8),(8:UInt8),(8:UInt8),(8:UInt8),(8 :
  UInt8),(8:UInt8),(8:UInt8),(8:UInt8),(8:UInt8),(8:UInt8),(8:UInt8),(8:UInt8),(8:UInt8),(8:UInt8),(8:UInt8),(8:UInt8),(8:UInt8),(8:UInt8),(8 :
  UInt8),(8:UInt8),(8:UInt8),(8:UInt8),(8:UInt8),(8:UInt8),(8:UInt8),(8:UInt8),(8:UInt8),(8:UInt8),(8:UInt8),(8:UInt8),(8:UInt8),(8:UInt8),(8 :
  UInt8),(8:UInt8),(8:UInt8),(8:UInt8),(8:UInt8),(8:UInt8),(8:UInt8),(8:UInt8),(8:UInt8),(8:UInt8),(8:UInt8),(8:UInt8),(8:UInt8),(8:UInt8),(8 :
  UInt8),(8:UInt8),(8:UInt8),(8:UInt8),(8:UInt8),(8:UInt8),(8:UInt8),(8:UInt8),(8:UInt8),(8:UInt8),(8:UInt8),(8:UInt8),(8:UInt8),(8:UInt8),(8 :
  UInt8),(8:UInt8),(8:UInt8)] [(8:UInt8),(8:UInt8),(8:UInt8),(8:UInt8),(8:UInt8),(8:UInt8),(8:UInt8),(8:UInt8),(8:UInt8),(8:UInt8),(8:UInt8),(8 :
  UInt8),(8:UInt8),(8:UInt8),(8:UInt8),(8:UInt8),(8:UInt8),(8:UInt8),(8:UInt8),(8:UInt8),(8:UInt8),(8:UInt8),(8:UInt8),(8:UInt8),(8:UInt8),(8 :
  UInt8),(8:UInt8),(8:UInt8),(8:UInt8),(8:UInt8),(8:UInt8),(8:UInt8),(8:UInt8),(8:UInt8),(8:UInt8),(8:UInt8),(8:UInt8),(8:UInt8),(8:UInt8),(8 :
  UInt8),(8:UInt8),(8:UInt8),(8:UInt8),(8:UInt8),(8:UInt8),(8:UInt8),(8:UInt8),(8:UInt8),(8:UInt8),(8:UInt8),(8:UInt8),(8:UInt8),(8:UInt8),(8 :
  UInt8),(8:UInt8),(8:UInt8),(8:UInt8),(8:UInt8),(8:UInt8),(8:UInt8),(8:UInt8),(8:UInt8),(8:UInt8),(8:UInt8)])) } (Int.toNat v5)))) else none) fun (j:Int ×
  Int×PUnit->Option Int)=>bif decide (x.1>=(65536:Int)) then bif decide ((0:Int)<=(16:Int)) then j (Int.fdiv x.1 ((2:Int) ^ (16:Nat)),IntKind.wrap .i64
  (x.2.1+(16:Int)),PUnit.unit) else none else j (x.1,x.2.1,PUnit.unit)) fun (j:Int×Int×PUnit->Option Int)=>bif decide (x0>=(4294967296:Int)) then bif decide
  ((0:Int)<=(32:Int)) then j (Int.fdiv x0 ((2:Int) ^ (32:Nat)),(32:Int),PUnit.unit) else none else j (x0,(0:Int),PUnit.unit)
noncomputable def bits_Len64 (x0:Int):Option Int:=bits_Len64_b lpK jnK x0
noncomputable def c141:Ctr:=⟨[(.int .u64)],[],[],.one i64,fun x _ _=>bits_Len64 x.1⟩
theorem e141 (lp:Lp) (jn:Jn):∀(x:TsS c141.as) (F:TsF c141.fs) (y:TsS c141.cs),bits_Len64_b lp jn x.1=runC lp jn (ctxOf prog shs inls its [] [(113,r113),(39,r39),(69,r69),(68,r68),(67,r67)]) hints 4 141 f141 c141 x F y:=fun x F y=>by kernel_rfl
theorem l141:(ctxOf prog shs inls its [] [(113,r113),(39,r39),(69,r69),(68,r68),(67,r67)]).ok:=q113
theorem ok141:c141.ok prog 141:=Ctr.of_den l141 hmix (hl:=hints) (d:=4) func141 rfl (by decide) (e141 lpK jnK)
noncomputable def slices_Equal_18_b (lp:Lp) (_:Jn) (x0:List Int) (x1:List Int):Option Bool :=
 bif !decide ((↑(List.length x0):Int)=(↑(List.length x1):Int)) then some false else lp (Int×PUnit) Bool (fun (again:Int×PUnit->Option Bool) (x:Int×PUnit)=>bif decide
  (x.1<(↑(List.length x0):Int)) then bif inB x.1 (List.length x0) then bif inB x.1 (List.length x1) then bif !decide (List.getD x0 (Int.toNat x.1) (0:Int)=List.getD x1
  (Int.toNat x.1) (0:Int)) then some false else again (IntKind.wrap .i64 (x.1+(1:Int)),PUnit.unit) else none else none else some true) ((0:Int),PUnit.unit)
noncomputable def slices_Equal_18 (x0:List Int) (x1:List Int):Option Bool:=slices_Equal_18_b lpK jnK x0 x1
noncomputable def c18:Ctr:=⟨[(.sl i64),(.sl i64)],[],[],.one .bool,fun x _ _=>slices_Equal_18 x.1 x.2.1⟩
theorem e18 (lp:Lp) (jn:Jn):∀(x:TsS c18.as) (F:TsF c18.fs) (y:TsS c18.cs),slices_Equal_18_b lp jn x.1 x.2.1=runC lp jn (ctxOf prog shs inls its [] [(113,r113),(39,r39),(69,r69),(68,r68),(67,r67)]) hints 4 18 f18 c18 x F y:=fun x F y=>by kernel_rfl
theorem l18:(ctxOf prog shs inls its [] [(113,r113),(39,r39),(69,r69),(68,r68),(67,r67)]).ok:=q113
theorem ok18:c18.ok prog 18:=Ctr.of_den l18 hmix (hl:=hints) (d:=4) func18 rfl (by decide) (e18 lpK jnK)
end Go.Proofs.YtlfdhaiigdllcaaGreatDoor
