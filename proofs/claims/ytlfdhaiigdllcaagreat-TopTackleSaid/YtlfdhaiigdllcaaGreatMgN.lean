/- top: the iterators' contracts: what the iterator over beams, and that over a list backwards, hand to the rounds. -/
import Derived.RangeFuncBox
import Derived.RangeFuncLeaves
import Derived.Shelf.Abstract
import Derived.TacticsInMore
import Derived.LoopNIn
import Derived.LoopIn
import Derived.Test.YtlfdhaiigdllcaaGreatMgM
open List renaming getD_eq_getElem?_getD→c_,getElem?_cons_succ→eS,getElem?_eq_getElem→dg,length_append→cL,length_cons→j_,size_toArray→i_
open Nat renaming add_zero→lE,ble→cl,le_refl→bY,lt_of_lt_of_le→fD

namespace Go.Proofs.YtlfdhaiigdllcaaGreat
open Tryz Dn Dn.Sh Go.RowKit
attribute [local go_sem] Oper.semAt_some
def ta (d:Int):List (ByteArray×Int×Int×Int)->Int->List (Int×Unit)
 | [],_=>[]
 | b ::r,i=>bif decide (b.2.1<=d)&&decide (d<=b.2.2.1) then (i,()) ::ta d r (i+1) else ta d r (i+1)
def yr (l:List (ByteArray×Int×Int×Int)) (d:Int):List (Int×Unit):=ta d l 0
def adz (l:List (ByteArray×Int×Int×Int)):Bool:=cl l.length 4398046511104
def Oh:ICtr:=⟨[.sl T85,i64],[i64],fun x=>adz x.1,fun x=>yr x.1 x.2.1⟩
def CM (l:List Int):Nat->List (Int×Int×Unit)
 | 0=>[]
 | k+1=>((k:Int),l.getD k 0,()) ::CM l k
def Ih (l:List Int):List (Int×Int×Unit):=CM l l.length
def ab2 (l:List Int):Bool:=cl l.length 4398046511104
def O9:ICtr:=⟨[.sl i64],[i64,i64],fun x=>ab2 x.1,fun x=>Ih x.1⟩
theorem Dp (l:List Int):∀k,(CM l k).length=k
 | 0=>rfl
 | k+1=>by rw[CM,j_,Dp]
theorem Kh {d:Int} {bs:List (ByteArray×Int×Int×Int)} {k:Nat} {b:ByteArray×Int×Int×Int} (h:bs[k]?=some b) :
  ta d (bs.drop k) k=(bif decide (b.2.1<=d)&&decide (d<=b.2.2.1) then [((k:Int),())] else [])++ta d (bs.drop (k+1)) (k+1:Nat):=by
 have hk:=(List.getElem?_eq_some_iff.1 h).1
 rw[List.drop_eq_getElem_cons hk,(List.getElem?_eq_some_iff.1 h).2]
 simp only[ta]
 cases decide (b.2.1<=d)&&decide (d<=b.2.2.1)<;>simp
theorem F6 {n:Nat} {P:Program} {o:Oper} {a:Act} {t:TypeId} {x:Operand} {ad:Addr} {v:Value} {w:World} {next:Act->World->Prop} {Q:Exit->Act->World->Prop} (ho:o.op=.load t x) (hx:a.eval x=.pointer (some ad)) (hl:(loadVar t ad).run P w=.ok v w) (hn:next (a.put o.dst v) w):o.wpIn Fence.wide n P a w next Q:=by
 refine ⟨fun _ _=>trivial,?_⟩
 have:(o.semAt Fence.wide.round a.eval).run P w=.ok (.value v) w:=by
  simp[Oper.semAt,execOp,ho,hx,Instr.loadAt,Instr.sureAddr,hl]
 rw[this]
 exact hn
theorem DV {n:Nat} {P:Program} {ops:Array Oper} {o:Oper} {rest:List Oper} {a:Act} {w:World} {Q:Exit->Act->World->Prop} (h:Region.wanted o (yielded ops a.tmps)=false) (hn:wpListIn Fence.wide n P ops Q rest (a.put o.dst undef) w):wpListIn Fence.wide n P ops Q (o ::rest) a w:=by
 rw[wpListIn,h]
 exact ⟨fun _ _=>trivial,hn⟩
theorem ad0 (ad:Addr):ad.add 0=ad:=by rcases ad with ⟨b,o,_ | s⟩<;>rfl
set_option maxRecDepth 100000 in
set_option maxHeartbeats 8000000 in
theorem MC:ICtr.ok Oh Tryz.prog 223:=by
 unfold ICtr.ok
 rintro l ⟨bs,d,⟨⟩⟩ ads J Jx W hp hJ hX hC hH hY h0
 obtain ⟨Z,hcaps,hH⟩:=hH
 obtain ⟨ad1,ads1,rfl,⟨cs1,hd1,hc1⟩,ad2,ads2,rfl,⟨cs2,hd2,hc2⟩,rfl⟩:=hcaps
 have hreach:bs.length*8<=140737488351232:=by
  have hb:cl bs.length 4398046511104=true:=hp
  have:=Nat.le_of_ble_eq_true hb
  omega
 refine callsIn_of_wp Tryz.func223 rfl trivial ?_
 simp only[Tryz.ntmps223,List.map_cons,List.map_nil,i_,j_,List.length_nil,Nat.reduceAdd,Nat.reduceSub,Array.replicate_succ,Array.replicate_zero,List.push_toArray,List.append_toArray,List.nil_append,List.cons_append]
 have hdat:=fun k W' hj=>hH (.sl T85) bs cs1 hd1 k W' hj
 obtain ⟨A,c,rfl,hlc,hA,hel⟩:=hd1
 have hcs:=hc1 0 _ rfl
 rw[ad0] at hcs
 gi_wp2
 gi_loopw [8] (fun i wr=>∃k:Nat,k<=bs.length/\i=.int .i64 k/\∃pre:List (Int×Unit),yr bs d=pre++ta d (bs.drop k) k/\J pre.length wr) (fun i _=>bs.length - (intOf i).toNat)
 case atStart=>exact ⟨0,Nat.zero_le _,rfl,[],rfl,h0⟩
 case round =>
  obtain ⟨k,hk,rfl,pre,hpre,hj⟩:=hrel
  by_cases hlt:k<bs.length
  ·have hbk:bs[k]?=some bs[k]:=dg hlt
   generalize hbe:bs[k]=b at hbk
   obtain ⟨Z1,A1,c1,e1,q1,q2,q3⟩:=hdat _ _ hj
   simp only[List.cons.injEq,Value.slice.injEq,and_true] at e1
   obtain ⟨rfl,-,rfl⟩:=e1
   obtain ⟨ad,rfl,-,q4⟩:=q3 (by omega)
   obtain ⟨ecs,q5,q6⟩:=q4 k b hbk
   obtain ⟨name,fr,to,mo⟩:=b
   simp only[Dat] at q5
   obtain ⟨_,_,rfl,rfl,_,_,rfl,rfl,_,_,rfl,rfl,rfl⟩:=q5
   have r0:=q6 0 _ rfl
   have r1:=q6 1 _ rfl
   have r2:=q6 2 _ rfl
   have r3:=q6 3 _ rfl
   simp only[Sh.size,Nat.reduceAdd] at r0 r1 r2 r3
   have hld:(loadVar 85 (ad.add (k*4))).run prog wr=.ok (.agg #[.string name,.int .i64 fr,.int .i64 to,.int .i64 mo]) wr :=
    vi (ag:=true) (cs:=[.string name,.int .i64 fr,.int .i64 to,.int .i64 mo]) (by kernel_rfl) (by kernel_rfl) (fun h=>by cases h) wr fun j v hv=>by
     rw[add_add]
     exact q6 j v hv
   have hj2:=hJ _ _ _ hj (Turned.alloc wr.heap.size wr (Obj.cells #[.string name,.int .i64 fr,.int .i64 to,.int .i64 mo] 85))
   obtain ⟨Z2,g1⟩:=hC _ _ hj2
   obtain ⟨_,_,g2,-,_,_,g3,⟨cs3,g4,g5⟩,-⟩:=g1
   injection g2 with g2a g2
   subst g2a
   subst g2
   injection g3 with g3 g3b
   subst g3
   subst g3b
   simp only[Dat] at g4
   subst g4
   have hcd:=g5 0 _ rfl
   rw[ad0] at hcd
   have hov0:=Kh (d:=d) hbk
   dsimp only at hov0
   clear g5 hC hdat q3 q4 q6 hel
   have fin:∀pre2,yr bs d=pre2++ta d (bs.drop (k+1)) (k+1:Nat)->∀W3,J pre2.length W3->∃k2:Nat,k2<=bs.length/\Value.int .i64 ((k:Int)+1)=.int .i64 k2/\∃pre:List (Int×Unit),yr bs d=pre++ta d (bs.drop k2) k2/\J pre.length W3 :=
    fun pre2 h W3 hj3=>⟨k+1,by omega,rfl,pre2,h,hj3⟩
   by_cases h1:fr<=d
   ·by_cases h2:d<=to
    ·have hov:yr bs d=(pre++[((k:Int),())])++ta d (bs.drop (k+1)) (k+1:Nat):=by rw[hpre,hov0];simp[h1,h2]
     have fin2:∀W3,J (pre.length+1) W3->_:=fun W3 hJ3=>fin (pre++[((k:Int),())]) hov W3 (by rw[cL];exact hJ3)
     obtain ⟨fn,tmps,assign,body,hy,hR⟩:=hY pre.length ((k:Int),()) [.int .i64 k] _ (by show (yr bs d)[pre.length]?=_;rw[hov];simp;rfl) hj2 (fun Z=>⟨_,_,rfl,⟨_,rfl,rfl,fun _=>rfl⟩,rfl⟩)
     clear hov hov0 hpre fin
     gi_wp2_with (refine F6 (t:=85) rfl rfl hld ?_)
     refine ⟨rfl,hR.mono ?_⟩
     rintro e W3 (⟨rfl,hJ3⟩ | ⟨rfl,hJx3⟩)
     ·gi_wp2
      go_roundw
      case rel =>
       exact fin2 W3 hJ3
      case measure=>simp[intOf];omega
     ·gi_wp2
      refine bodyPost_ret (results_none rfl _ _ _) rfl ?_
      exact ⟨⟨_,rfl⟩,.inr hJx3⟩
    ·have hov:yr bs d=pre++ta d (bs.drop (k+1)) (k+1:Nat):=by rw[hpre,hov0];simp[h1,h2]
     have fin2:=fin pre hov _ hj2
     clear hov hov0 hpre fin
     gi_wp2_with (first | refine F6 (t:=85) rfl rfl hld ?_ | (refine DV rfl ?_;go_simp))
     exact ⟨⟨_,_,_,fin2,rfl,rfl,rfl⟩,by simp[intOf];omega⟩
   ·have hov:yr bs d=pre++ta d (bs.drop (k+1)) (k+1:Nat):=by rw[hpre,hov0];simp[h1]
    have fin2:=fin pre hov _ hj2
    clear hov hov0 hpre fin
    gi_wp2_with (first | refine F6 (t:=85) rfl rfl hld ?_ | (refine DV rfl ?_;go_simp))
    exact ⟨⟨_,_,_,fin2,rfl,rfl,rfl⟩,by simp[intOf];omega⟩
  ·obtain rfl:k=bs.length:=by omega
   gi_wp2
   go_end0
   refine ⟨⟨_,rfl⟩,.inl ?_⟩
   show J (yr bs d).length _
   rw[hpre,List.drop_length]
   simpa [ta] using hj
theorem IB (l:List Int):∀(n j:Nat),j<n->(CM l n)[j]?=some (((n - 1 - j:Nat):Int),l.getD (n - 1 - j) 0,())
 | 0,_,h=>absurd h (Nat.not_lt_zero _)
 | n+1,0,_=>rfl
 | n+1,j+1,h=>by
  rw[CM,eS,IB l n j (by omega),show n+1 - 1 - (j+1)=n - 1 - j by omega]
set_option maxRecDepth 100000 in
set_option maxHeartbeats 8000000 in
theorem NS:ICtr.ok O9 Tryz.prog 266:=by
 unfold ICtr.ok
 rintro l ⟨bs,⟨⟩⟩ ads J Jx W hp hJ hX hC hH hY h0
 obtain ⟨Z,hcaps,hH⟩:=hH
 obtain ⟨ad1,ads1,rfl,⟨cs1,hd1,hc1⟩,rfl⟩:=hcaps
 have hreach:bs.length<=4398046511104:=by
  have hb:cl bs.length 4398046511104=true:=hp
  exact Nat.le_of_ble_eq_true hb
 refine callsIn_of_wp Tryz.func266 rfl trivial ?_
 simp only[Tryz.ntmps266,List.map_cons,List.map_nil,i_,j_,List.length_nil,Nat.reduceAdd,Nat.reduceSub,Array.replicate_succ,Array.replicate_zero,List.push_toArray,List.append_toArray,List.nil_append,List.cons_append]
 have hdat:=fun k W' hj=>hH (.sl i64) bs cs1 hd1 k W' hj
 obtain ⟨A,c,rfl,hlc,hA,hel⟩:=hd1
 have hcs:=hc1 0 _ rfl
 rw[ad0] at hcs
 gi_wp2
 gi_loopw [3] (fun i wr=>∃k:Nat,k<=bs.length/\i=.int .i64 ((k:Int) - 1)/\J (bs.length - k) wr) (fun i _=>(intOf i+1).toNat)
 case atStart=>exact ⟨bs.length,bY _,rfl,by rw[Nat.sub_self];exact h0⟩
 case round =>
  obtain ⟨k,hk,rfl,hj⟩:=hrel
  cases k with
  | zero =>
   gi_wp2
   go_end0
   refine ⟨⟨_,rfl⟩,.inl ?_⟩
   show J (Ih bs).length _
   rw[Ih,Dp]
   exact hj
  | succ k =>
   rw[show ((k+1:Nat):Int) - 1=(k:Int) by omega]
   have hbk:bs[k]?=some bs[k]:=dg (show k<bs.length by omega)
   obtain ⟨Z1,g1⟩:=hC _ _ hj
   obtain ⟨_,_,g2,⟨cs3,g3,g4⟩,-⟩:=g1
   injection g2 with g2a g2
   subst g2a
   obtain ⟨A1,c1,rfl,hlc1,-,q3⟩:=g3
   obtain ⟨ad,rfl,-,q4⟩:=q3 (fD (Nat.succ_pos k) hk)
   obtain ⟨ecs,q5,q6⟩:=q4 k _ hbk
   simp only[Dat] at q5
   subst q5
   have r0:=q6 0 _ rfl
   have hcd:=g4 0 _ rfl
   rw[ad0] at hcd
   simp only[Sh.size,Nat.mul_one,lE] at r0
   clear hC q3 q4 q6 g4 hel
   have hm:(Ih bs)[bs.length - (k+1)]?=some ((k:Int),bs[k],()):=by
    rw[Ih,IB bs _ _ (Nat.sub_lt (fD (Nat.succ_pos k) hk) (Nat.succ_pos k)),show bs.length - 1 - (bs.length - (k+1))=k by omega,c_,hbk]
    rfl
   obtain ⟨fn,tmps,assign,body,hy,hR⟩:=hY (bs.length - (k+1)) ((k:Int),bs[k],()) [.int .i64 k,.int .i64 bs[k]] _ hm hj (fun Z=>⟨_,_,rfl,⟨_,rfl,rfl,fun _=>rfl⟩,_,_,rfl,⟨_,rfl,rfl,fun _=>rfl⟩,rfl⟩)
   generalize bs[k]=v at *
   gi_wp2
   refine ⟨rfl,hR.mono ?_⟩
   rw[show bs.length - (k+1)+1=bs.length - k by omega]
   rintro e W3 (⟨rfl,hJ3⟩ | ⟨rfl,hJx3⟩)
   ·gi_wp2
    go_roundw
    case rel=>exact ⟨k,Nat.le_of_succ_le hk,rfl,hJ3⟩
    case measure=>simp[intOf]
   ·gi_wp2
    refine bodyPost_ret (results_none rfl _ _ _) rfl ?_
    exact ⟨⟨_,rfl⟩,.inr hJx3⟩
end Go.Proofs.YtlfdhaiigdllcaaGreat
