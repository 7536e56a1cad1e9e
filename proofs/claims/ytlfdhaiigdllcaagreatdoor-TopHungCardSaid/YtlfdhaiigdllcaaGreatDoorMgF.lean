/- A symbolic executor: parts of the call's own rows; the builtin copy. A symbolic executor: things of the call's own that are no mere rows: how they come, and how they change. -/
import Derived.Lib.AppendZeros
import Derived.Test.YtlfdhaiigdllcaaGreatDoorMgE

namespace Go.Proofs.YtlfdhaiigdllcaaGreatDoor
namespace Dn
open Go.RowKit
section
variable {P:Program} {N:Nat} {g:Look} {E:Env} {a:Act} {o:Oper}
theorem row_form0 {r:Nat} {ri:RowI} (h:RowOk E r ri):∃A cap,E.ρ r=.slice A ri.l.length cap/\ri.l.length<=cap/\(0<ri.l.length->∃q:Nat,(E.ρ r).ownBlock=some q/\A=some ⟨q,0,none⟩):=by
 obtain ⟨_,xs,⟨h1,h2⟩,h3,_⟩:=h
 rcases h2 with ⟨h2,h4⟩ | ⟨b,cap,cur,h2,_,h4,h5,h6,h7,h8⟩
 ·exact ⟨none,0,by rw[h2,h4],by omega,fun e=>by omega⟩
 ·exact ⟨_,cap,h2,h5,fun _=>⟨b,by rw[h2];rfl,rfl⟩⟩
theorem sliceRow_ok {t et:TypeId} {x:Operand} {lo hi:Option Operand} {r:Nat} {ri:RowI} {i j:Int} {get:Operand->Option SV} (ho:o.op=.slice t x lo hi none) (hg:Gets E a get o) (hx:RelV E (.c false [.row r]) (a.eval x))
  (ht:elemT P t=some et) (hz:sizeT P et=some ri.e.size) (hr:g.r r=some (.some ri)) (hi':bndC get 0 lo=some i) (hj:bndC get ri.n hi=some j) (hm:Mod N E a g) (hp:0<=i/\i<=j/\j<=ri.n) :
  CoreOk P N g E a o ⟨.c false [.sub r i.toNat j.toNat ri.e.size],.none,[slB i j ri.n]⟩:=by
 have hnn:=(hm.rows r ri hr).2.choose_spec.2.2
 obtain ⟨cs,hv,hrl,_⟩:=hx
 have hu:=elemT_eq ht
 have blo:=bndC_val hi' fun y hy s hs=>hg y s (by rw[ho,hy];simp[Op.operands]) hs
 have bhi:=bndC_val hj fun y hy s hs=>hg y s (by rw[ho,hy];simp[Op.operands]) hs
 match cs,hrl with
 | [z],hrl =>
  obtain ⟨⟨hz',hR,_⟩,_⟩:=hrl
  obtain ⟨A,cap,h1,h4,h5⟩:=row_form0 (hm.rows r ri hr)
  rw[hnn] at hp bhi
  have hb:=run_sliceBounds (P:=P) (a:=a) (isSlice:=true) (cap:=cap) blo bhi hp.1 hp.2.1 hp.2.2 h4 E.w
  refine CoreOk.value (E':=E) (v:=.slice (if cap=i.toNat then A else A.map (·.add (i.toNat*ri.e.size))) (j.toNat - i.toNat) (cap - i.toNat)) ?_ rfl (Keep.refl E) hm ⟨[_],rfl,⟨⟨⟨_,_,rfl,fun hlt=>?_⟩,hR⟩,trivial⟩,fun _=>rfl⟩
  ·simp only[execOp,ho,Option.map_none,hv,mkV,hz',h1,List.headD_cons,Bool.false_eq_true,if_false,Instr.sliceAt,Instr.slice,Sem.run_bind,run_underlying hu,Result.andThen_ok,hb,run_sizeOf hz,Sem.run_pure]
  ·obtain ⟨q,g1,g2⟩:=h5 (by omega)
   refine ⟨q,g1,?_⟩
   rw[if_neg (by omega),g2,Option.map_some,add_lit,Nat.zero_add]
theorem run_copy_at (w:World) (ts:Array TypeId) (dT ty elem:TypeId) (q off dLen dCap:Nat) (A:Option Addr) (sLen sCap size:Nat) (cur:Array Value) (t:TypeId) (cs:List Value)
  (hts:ts[0]?=some dT) (hu:P.underlying dT=some (.slice elem)) (hs:sizeT P elem=some size)
  (hg:w.heap[q]?=some (.cells cur t (0,0))) (hn:cs.length=Nat.min sLen dLen*size) (hA:A=none->cs=[])
  (hsrc:∀ad,A=some ad->∀j v,cs[j]?=some v->w.cell? (ad.add j)=some v) (hfit:off+cs.length<=cur.size) (h1:∀v ∈ cs,v.oneCell'=true) :
  (Builtin.copy_ ts ty #[.slice (some ⟨q,off,none⟩) dLen dCap,.slice A sLen sCap]).run P w =
   .ok (goInt (Nat.min sLen dLen)) (w.setRow q (cur.toList.take off++cs++cur.toList.drop (off+cs.length)).toArray):=by
 have hst:=run_storeCells_at P q off t cs 0 cur w hg (by simpa using hfit) h1
 cases A with
 | none =>
  have:=hA rfl
  subst this
  simp only[Builtin.copy_,hts,List.getElem?_toArray,List.getElem?_cons_zero,List.getElem?_cons_succ,Sem.run_bind,run_underlying hu,Result.andThen_ok,Builtin.lenOf,Sem.run_pure,run_sizeOf hs,Builtin.firstCells,hst]
  rfl
 | some ad =>
  have hl:=run_loadCells_list (P:=P) w ad cs (hsrc ad rfl)
  rw[hn] at hl
  simp only[Builtin.copy_,hts,List.getElem?_toArray,List.getElem?_cons_zero,List.getElem?_cons_succ,Sem.run_bind,run_underlying hu,Result.andThen_ok,Builtin.lenOf,Sem.run_pure,run_sizeOf hs,Builtin.firstCells,hl,hst]
  rfl
theorem run_copy_zero (w:World) (ts:Array TypeId) (dT ty elem:TypeId) (B:Option Addr) (dLen dCap:Nat) (A:Option Addr) (sLen sCap size:Nat)
  (hts:ts[0]?=some dT) (hu:P.underlying dT=some (.slice elem)) (hs:sizeT P elem=some size) (hn:Nat.min sLen dLen=0) :
  (Builtin.copy_ ts ty #[.slice B dLen dCap,.slice A sLen sCap]).run P w=.ok (goInt (0:Nat)) w:=by
 have hf:(Builtin.firstCells size 0 (.slice A sLen sCap)).run P w=.ok #[] w:=by
  cases A with
  | none=>rfl
  | some ad =>
   have hl:=run_loadCells_list (P:=P) w ad [] (fun j v h=>by simp at h)
   simp only[Builtin.firstCells,Nat.zero_mul]
   exact hl
 simp only[Builtin.copy_,hts,List.getElem?_toArray,List.getElem?_cons_zero,List.getElem?_cons_succ,Sem.run_bind,run_underlying hu,Result.andThen_ok,Builtin.lenOf,Sem.run_pure,run_sizeOf hs,hn,hf]
 cases B<;>rfl
theorem rset_same {r:Nat} {ri:RowI} (hr:g.r r=some (.some ri)):g.app (.rset r ri.e ri.l)=g:=by
 have h:(fun i=>if i=r then setL ri.e ri.l (g.r r) else g.r i)=g.r:=by
  funext i
  split
  ·rename_i e
   rw[e,hr]
   simp only[setL]
   rw[Sh.eq?_self]
  ·rfl
 show ({ g with r:=_ }:Look)=g
 rw[h]
theorem copy_ok {x y:Operand} {ts:Array TypeId} {t et:TypeId} {r lo n:Nat} {ri:RowI} {l:List ri.e.T} {p:List Bool} (ho:o.op=.call { callee:=.builtin .copy,args:=#[x,y],argTypes:=ts }) (hts:ts[0]?=some t)
  (hd0:∃A c,a.eval x=.slice A n c) (hd:0<n->∃q c,a.eval x=.slice (some ⟨q,lo*ri.e.size,none⟩) n c/\(E.ρ r).ownBlock=some q) (hsrc:Src E.w E.Z ri.e l (a.eval y))
  (ht:elemT P t=some et) (hz:sizeT P et=some ri.e.size) (hr:g.r r=some (.some ri)) (hle:lo+n<=ri.n) (hm:Mod N E a g) :
  CoreOk P N g E a o ⟨.c false [.v (.int .i64 (l.take n).length)],.rset r ri.e (ri.l.take lo++l.take n++ri.l.drop (lo+(l.take n).length)),p⟩:=by
 have hu:=elemT_eq ht
 have hnn:=(hm.rows r ri hr).2.choose_spec.2.2
 obtain ⟨A,c,zs,s1,s2,s3,s4⟩:=hsrc
 have hlen:(l.take n).length=Nat.min l.length n:=by rw[List.length_take];exact Nat.min_comm _ _
 by_cases hk:(l.take n).length=0
 ·have hnil:l.take n=[]:=List.eq_nil_of_length_eq_zero hk
  obtain ⟨B,c',d1⟩:=hd0
  rw[hnil]
  simp only[List.append_nil,List.length_nil,Nat.add_zero,List.take_append_drop]
  refine CoreOk.value (E':=E) (v:=goInt (0:Nat)) ?_ rfl (Keep.refl E) (by rw[rset_same hr];exact hm) ⟨[_],rfl,⟨rfl,trivial⟩,fun _=>rfl⟩
  have:=run_copy_zero (P:=P) E.w ts t o.type et B n c' A l.length c ri.e.size hts hu hz (by rw[<-hlen];exact hk)
  simp[execOp,ho,resolve,invoke,builtin,d1,s1,this]
 ·have hn0:0<n:=by
   rcases Nat.eq_zero_or_pos n with h | h
   ·subst h;simp at hk
   ·exact h
  obtain ⟨q',c',d1,d2⟩:=hd hn0
  obtain ⟨q,cap,cur,xs,h1,h2,h3,h4,h5,h6,h7,h8⟩:=row_form (hm.rows r ri hr) (by omega)
  rw[h1] at d2
  simp only[Value.ownBlock,Option.some.injEq] at d2
  subst d2
  let k:=(l.take n).length
  have hkl:k<=l.length:=by simp only[k,List.length_take];omega
  have hkn:k<=n:=by simp only[k,List.length_take];omega
  have htk:l.take n=l.take k:=by
   simp only[k,List.length_take]
   rcases Nat.le_total n l.length with h | h
   ·rw[Nat.min_eq_left h]
   ·rw[Nat.min_eq_right h,List.take_of_length_le h,List.take_of_length_le (Nat.le_refl _)]
  let vs:=zs.take (k*ri.e.size)
  have hvs:RowRel E.w E.Z ri.e (l.take n) vs:=by rw[htk];exact (rowRel_split k s2 hkl).1
  have hvl:vs.length=k*ri.e.size:=rowRel_len hvs
  have hone:=rowRel_one hvs
  have hxl:=rowRel_len h8
  have hcap:ri.l.length*ri.e.size<=cur.size:=by rw[h6];exact Nat.mul_le_mul_right _ h4
  have hin:lo*ri.e.size+vs.length<=ri.l.length*ri.e.size:=by
   rw[hvl,<-Nat.add_mul]
   exact Nat.mul_le_mul_right _ (by omega)
  have hrun:=run_copy_at (P:=P) E.w ts t o.type et q (lo*ri.e.size) n c' A l.length c ri.e.size cur ri.t vs hts hu hz h3 (by rw[hvl,<-hlen]) (fun e=>by
    have:=s3 e
    subst this
    simp at hk) (fun ad e j v hj=>s4 ad e j v (by
     rw[List.getElem?_take] at hj
     split at hj
     ·exact hj
     ·cases hj)) (by omega) hone
  have hzone:∀b,E.Z b->(E.w.setRow q (cur.toList.take (lo*ri.e.size)++vs++cur.toList.drop (lo*ri.e.size+vs.length)).toArray).heap[b]?=E.w.heap[b]?:=fun b hb=>setRow_other E.w q b _ fun e=>by
   have:=(hm.glob.rown r ri q hr (by rw[h1];rfl)).1
   exact this (e ▸ hb)
  have hnl:(ri.l.take lo++l.take n++ri.l.drop (lo+k)).length=ri.l.length:=by
   simp only[List.length_append,List.length_take,List.length_drop]
   have:k=min n l.length:=by simp only[k,List.length_take]
   omega
  have hown:∃xs',(E.w.setRow q (cur.toList.take (lo*ri.e.size)++vs++cur.toList.drop (lo*ri.e.size+vs.length)).toArray).ownsRow E.w0.heap.size ri.t ri.e.size (E.ρ r) (ri.l.take lo++l.take n++ri.l.drop (lo+k)).length xs' /\
    RowRel (E.w.setRow q (cur.toList.take (lo*ri.e.size)++vs++cur.toList.drop (lo*ri.e.size+vs.length)).toArray) E.Z ri.e (ri.l.take lo++l.take n++ri.l.drop (lo+k)) xs'/\ri.n=(ri.l.take lo++l.take n++ri.l.drop (lo+k)).length:=by
   rw[hnl]
   refine ⟨xs.take (lo*ri.e.size)++vs++xs.drop (lo*ri.e.size+vs.length),⟨?_,.inr ⟨q,cap,_,by rw[h1],h2,setRow_heap E.w _ _ _ ri.t (0,0) h3,h4,h5,?_,?_⟩⟩,?_,hnn⟩
   ·simp only[List.length_append,List.length_take,List.length_drop]
    omega
   ·simp only[List.size_toArray,List.length_append,List.length_take,List.length_drop,Array.length_toList]
    omega
   ·rw[<-h7]
    rw[List.take_append,List.take_of_length_le (by simp;omega)]
    have e1:List.take (lo*ri.e.size) (List.take (ri.l.length*ri.e.size) cur.toList)=cur.toList.take (lo*ri.e.size):=by
     rw[List.take_take];congr 1;omega
    rw[e1,List.drop_take]
    congr 2
    simp only[List.length_append,List.length_take,Array.length_toList]
    omega
   ·refine RowRel.mono (fun _ h=>h) hzone ?_
    have hA:=(rowRel_split lo h8 (by omega)).1
    have hB:=(rowRel_split (lo+k) h8 (by omega)).2
    rw[hvl,<-Nat.add_mul]
    exact rowRel_append (rowRel_append hA hvs) hB
  have hsm:=rset_mod hm hr (l':=ri.l.take lo++l.take n++ri.l.drop (lo+k)) (q:=q) (by rw[h1];rfl) (fun b hb=>setRow_other E.w _ b _ hb) rfl rfl rfl (by simp[World.setRow]) hown
  refine CoreOk.value (E':=E.wset (E.w.setRow q (cur.toList.take (lo*ri.e.size)++vs++cur.toList.drop (lo*ri.e.size+vs.length)).toArray)) (v:=goInt (Nat.min l.length n)) ?_ rfl hsm.2 hsm.1 ⟨[_],rfl,⟨by rw[hlen];rfl,trivial⟩,fun _=>rfl⟩
  simp[execOp,ho,resolve,invoke,builtin,d1,s1,hrun,Env.wset]
def sliceRC (P:Program) (get:Operand->Option SV) (rk:Rk) (t:TypeId) (x:Operand) (lo hi:Option Operand):Option Core:=match get x with
 | some (.c false [.row r])=>match rk r with
  | some (.some ri)=>match elemT P t,bndC get 0 lo,bndC get ri.n hi with
   | some et,some i,some j=>match sizeT P et with
    | some m=>match Nat.beq m ri.e.size with
     | true=>some ⟨.c false [.sub r i.toNat j.toNat ri.e.size],.none,[slB i j ri.n]⟩
     | false=>none
    | none=>none
   | _,_,_=>none
  | _=>none
 | _=>none
theorem sliceRC_ok {get:Operand->Option SV} {rk:Rk} {t:TypeId} {x:Operand} {lo hi:Option Operand} {r:Core} (ho:o.op=.slice t x lo hi none) (h:sliceRC P get rk t x lo hi=some r) (hp:allB r.p=true) (hg:Gets E a get o) (hm:Mod N E a g) (hrk:∀i r,rk i=some r->g.r i=some r):CoreOk P N g E a o r:=by
 unfold sliceRC at h
 split at h
 ·rename_i q hx
  split at h
  ·rename_i ri hri
   split at h
   ·rename_i et i j ht hi' hj
    split at h
    ·rename_i m hz
     split at h
     ·rename_i hne
      injection h with h;subst h
      have hne:m=ri.e.size:=by simpa using hne
      subst hne
      obtain ⟨p1,_⟩:=allB_cons hp
      exact sliceRow_ok ho hg (hg x _ (by rw[ho];simp[Op.operands]) hx) ht hz (hrk q _ hri) hi' hj hm (slB_iff.1 p1)
     ·cases h
    ·cases h
   ·cases h
  ·cases h
 ·cases h
def dstPart (rk:Rk):SV->Option (Nat×Nat×Nat×List Bool)
 | .c false [.row r]=>match rk r with
  | some (.some ri)=>some (r,0,ri.n,[])
  | _=>none
 | .c false [.sub r lo hi sz]=>match rk r with
  | some (.some ri)=>match Nat.beq sz ri.e.size with
   | true=>some (r,lo,hi - lo,[Nat.ble lo hi,Nat.ble hi ri.n])
   | false=>none
  | _=>none
 | _=>none
def copyC (P:Program) (get:Operand->Option SV) (rk:Rk) (xs:Array Operand) (ts:Array TypeId):Option Core:=match xs.toList,ts[0]? with
 | [x,y],some t=>match elemT P t,get x,get y with
  | some et,some vx,some vy=>match dstPart rk vx with
   | some d=>match rk d.1 with
    | some (.some ri)=>match sizeT P et,srcPart rk ri.e vy with
     | some m,some s=>match Nat.beq m ri.e.size with
      | true=>some ⟨.c false [.v (.int .i64 (s.1.take d.2.2.1).length)],.rset d.1 ri.e (ri.l.take d.2.1++s.1.take d.2.2.1++ri.l.drop (d.2.1+(s.1.take d.2.2.1).length)),d.2.2.2++s.2⟩
      | false=>none
     | _,_=>none
    | _=>none
   | none=>none
  | _,_,_=>none
 | _,_=>none
theorem dstPart_rel (hm:Mod N E a g) {rk:Rk} (hrk:∀i r,rk i=some r->g.r i=some r) {v:SV} {r lo n:Nat} {p:List Bool} {y:Value} (h:dstPart rk v=some (r,lo,n,p)) (hp:allB p=true) (hv:RelV E v y) :
  ∃ri,g.r r=some (.some ri)/\(∃A c,y=.slice A n c)/\(0<n->∃q c,y=.slice (some ⟨q,lo*ri.e.size,none⟩) n c/\(E.ρ r).ownBlock=some q)/\lo+n<=ri.n:=by
 unfold dstPart at h
 split at h
 ·split at h
  ·rename_i q _ ri hri
   injection h with h
   simp only[Prod.mk.injEq] at h
   obtain ⟨rfl,rfl,rfl,rfl⟩:=h
   have hr:=hrk q _ hri
   have hnn:=(hm.rows q ri hr).2.choose_spec.2.2
   obtain ⟨cs,rfl,hrl,_⟩:=hv
   match cs,hrl with
   | [z],hrl =>
    obtain ⟨⟨hz,_⟩,_⟩:=hrl
    refine ⟨ri,hr,?_,fun h0=>?_,by omega⟩
    ·obtain ⟨A,c,xs,h1,_⟩:=row_src (hm.rows q ri hr)
     exact ⟨A,c,by show z=_;rw[hz,h1,hnn]⟩
    ·obtain ⟨b,cap,cur,xs,h1,_⟩:=row_form (hm.rows q ri hr) (by omega)
     exact ⟨b,cap,by show z=_;rw[hz,h1,hnn,Nat.zero_mul],by rw[h1];rfl⟩
  ·cases h
 ·split at h
  ·rename_i q lo' hi sz _ ri hri
   split at h
   ·rename_i hsz
    injection h with h
    simp only[Prod.mk.injEq] at h
    obtain ⟨rfl,rfl,rfl,rfl⟩:=h
    obtain ⟨p1,p2⟩:=allB_cons hp
    have p1:=Nat.le_of_ble_eq_true p1
    have p2:hi<=ri.n:=Nat.le_of_ble_eq_true p2
    have hsz:sz=ri.e.size:=by simpa using hsz
    subst hsz
    obtain ⟨cs,rfl,hrl,_⟩:=hv
    match cs,hrl with
    | [z],hrl =>
     obtain ⟨⟨⟨A,c,h1,h2⟩,_⟩,_⟩:=hrl
     exact ⟨ri,hrk q _ hri,⟨A,c,h1⟩,fun h0=>by
      obtain ⟨b,g1,g2⟩:=h2 (by omega)
      exact ⟨b,c,by rw[<-g2];exact h1,g1⟩,by omega⟩
   ·cases h
  ·cases h
 ·cases h
theorem copyC_ok {get:Operand->Option SV} {rk:Rk} {xs:Array Operand} {ts:Array TypeId} {r:Core} (ho:o.op=.call { callee:=.builtin .copy,args:=xs,argTypes:=ts }) (h:copyC P get rk xs ts=some r)
  (hg:Gets E a get o) (hm:Mod N E a g) (hrk:∀i r,rk i=some r->g.r i=some r) (hp:allB r.p=true):CoreOk P N g E a o r:=by
 unfold copyC at h
 split at h
 ·rename_i x y t hxs hts
  have hxs:xs=#[x,y]:=by rw[<-Array.toArray_toList (xs:=xs),hxs]
  subst hxs
  split at h
  ·rename_i et vx vy ht hvx hvy
   split at h
   ·rename_i d hd
    split at h
    ·rename_i ri hri
     split at h
     ·rename_i m s hz hs
      split at h
      ·rename_i hne
       injection h with h
       subst h
       have hne:m=ri.e.size:=by simpa using hne
       subst hne
       obtain ⟨p1,p2⟩:=allB_append hp
       obtain ⟨q,lo,n,pd⟩:=d
       obtain ⟨l,ps⟩:=s
       obtain ⟨rj,h1,h2,h3,h4⟩:=dstPart_rel hm hrk hd p1 (hg x _ (by rw[ho];simp[Op.operands,Call.operands]) hvx)
       have h5:=hrk q _ hri
       rw[h1] at h5
       injection h5 with h5
       injection h5 with h5
       subst h5
       exact copy_ok ho hts h2 h3 (srcPart_rel hm hrk hs p2 (hg y _ (by rw[ho];simp[Op.operands,Call.operands]) hvy)) ht hz h1 h4 hm
      ·cases h
     ·cases h
    ·cases h
   ·cases h
  ·cases h
 ·cases h
def isCut (p : String) : Bool := p == "slices.go:428"
def cutC (P:Program) (get:Operand->Option SV) (rk:Rk) (b:Nat) (t:TypeId) (x:Operand) (hi:Option Operand):Option Core:=match get x,rk b with
 | some (.c false [.row r]),none=>match rk r with
  | some (.some ri)=>match elemT P t,bndC get ri.n hi with
   | some et,some j=>match sizeT P et with
    | some m=>match Nat.beq m ri.e.size with
     | true=>some ⟨.c false [.row b],.row b ⟨ri.t,ri.e,j.toNat,ri.l.take j.toNat⟩ (some r),[slB 0 j ri.n,decide (0<ri.n)]⟩
     | false=>none
    | none=>none
   | _,_=>none
  | _=>none
 | some (.c false [.v (.slice none 0 0)]),_=>match elemT P t,bndC get 0 hi with
  | some et,some j=>match sizeT P et with
   | some _=>some ⟨.c false [.v (.slice none 0 0)],.none,[slB 0 j 0]⟩
   | none=>none
  | _,_=>none
 | _,_=>none
theorem cutC_ok {get:Operand->Option SV} {rk:Rk} {b:Nat} {t:TypeId} {x:Operand} {hi:Option Operand} {r:Core} (ho:o.op=.slice t x none hi none) (h:cutC P get rk b t x hi=some r) (hp:allB r.p=true) (hg:Gets E a get o) (hm:Mod N E a g) (hrk:∀i r,rk i=some r->g.r i=some r) (hb:rk b=none->g.r b=none):CoreOk P N g E a o r:=by
 unfold cutC at h
 split at h
 ·rename_i q hx hbn
  split at h
  ·rename_i ri hri
   split at h
   ·rename_i et j ht hj
    split at h
    ·rename_i m hz
     split at h
     ·rename_i hne
      injection h with h;subst h
      have hne:m=ri.e.size:=by simpa using hne
      subst hne
      obtain ⟨p1,p2⟩:=allB_cons hp
      have hp':=slB_iff.1 p1
      have h0:0<ri.n:=of_decide_eq_true p2
      have hr:=hrk q _ hri
      have hnn:=(hm.rows q ri hr).2.choose_spec.2.2
      have hu:=elemT_eq ht
      have bhi:=bndC_val hj fun y hy s hs=>hg y s (by rw[ho,hy];simp[Op.operands]) hs
      obtain ⟨cs,hv,hrl,_⟩:=hg x _ (by rw[ho];simp[Op.operands]) hx
      match cs,hrl with
      | [z],hrl =>
       obtain ⟨⟨hz',hR,_⟩,_⟩:=hrl
       obtain ⟨q',cap,cur,xs,h1,h2,h3,h4,h5,h6,h7,h8⟩:=row_form (hm.rows q ri hr) (by omega)
       rw[hnn] at hp' h0 bhi
       have hbd:=run_sliceBounds (P:=P) (a:=a) (isSlice:=true) (cap:=cap) (.inl ⟨rfl,rfl⟩) bhi (Int.le_refl 0) hp'.2.1 hp'.2.2 h4 E.w
       simp only[Option.map_none] at hbd
       have hxl:=rowRel_len h8
       have hlt:(ri.l.take j.toNat).length=j.toNat:=by rw[List.length_take];omega
       have hmod:=row_mod0 hm (hb hbn) (old:=some q) (ob:=some q') (w':=E.w) (v':=.slice (some ⟨q',0,none⟩) j.toNat cap) (ri:=⟨ri.t,ri.e,j.toNat,ri.l.take j.toNat⟩)
        (fun q2 e=>by injection e with e;subst e;exact ⟨⟨ri,hr⟩,by rw[h1];rfl⟩) (fun e=>by cases e) ⟨rfl,rfl,rfl,Nat.le_refl _,fun _ _ _=>rfl⟩ (fun b' hb'=>.inl (by exact hb'))
        ⟨xs.take (j.toNat*ri.e.size),⟨by
          show (xs.take (j.toNat*ri.e.size)).length=(ri.l.take j.toNat).length*ri.e.size
          rw[hlt,List.length_take,hxl]
          exact Nat.min_eq_left (Nat.mul_le_mul_right _ (by omega)),.inr ⟨q',cap,cur,by rw[hlt],h2,h3,by rw[hlt];omega,h5,h6,by
          show cur.toList.take ((ri.l.take j.toNat).length*ri.e.size)=_
          rw[hlt,<-h7,List.take_take]
          congr 1
          exact (Nat.min_eq_left (Nat.mul_le_mul_right _ (by omega))).symm⟩⟩,(rowRel_split j.toNat h8 (by omega)).1,hlt.symm⟩
       refine CoreOk.value (E':=E.withRow b (.slice (some ⟨q',0,none⟩) j.toNat cap) E.w) (v:=.slice (some ⟨q',0,none⟩) j.toNat cap) ?_ rfl hmod.2 hmod.1 ⟨[_],rfl,⟨⟨?_,.inr rfl,rfl⟩,trivial⟩,fun _=>rfl⟩
       ·have hcap:¬ cap=0:=by omega
        simp only[execOp,ho,Option.map_none,hv,mkV,hz',h1,List.headD_cons,Bool.false_eq_true,if_false,Instr.sliceAt,Instr.slice,Sem.run_bind,run_underlying hu,Result.andThen_ok,hbd,run_sizeOf hz,Sem.run_pure]
        simp[hcap,Env.withRow,add_lit]
       ·show _=if b=b then _ else _
        rw[if_pos rfl]
     ·cases h
    ·cases h
   ·cases h
  ·cases h
 ·rename_i hx
  split at h
  ·rename_i et j ht hj
   split at h
   ·rename_i m hz
    injection h with h;subst h
    have hp':=slB_iff.1 hp
    have hu:=elemT_eq ht
    have bhi:=bndC_val (d:=((0:Nat):Int)) hj fun y hy s hs=>hg y s (by rw[ho,hy];simp[Op.operands]) hs
    have hv:=toV_rel (x:=.slice none 0 0) rfl (hg x _ (by rw[ho];simp[Op.operands]) hx)
    have hj0:j=0:=by omega
    subst hj0
    have hbd:=run_sliceBounds (P:=P) (a:=a) (isSlice:=true) (cap:=0) (.inl ⟨rfl,rfl⟩) bhi (Int.le_refl 0) (Int.le_refl 0) (by simp) (Nat.le_refl 0) E.w
    simp only[Option.map_none] at hbd
    refine CoreOk.value (E':=E) (v:=.slice none 0 0) ?_ rfl (Keep.refl E) hm ⟨[_],rfl,⟨rfl,trivial⟩,fun _=>rfl⟩
    simp only[execOp,ho,Option.map_none,hv,Instr.sliceAt,Instr.slice,Sem.run_bind,run_underlying hu,Result.andThen_ok,hbd,run_sizeOf hz,Sem.run_pure]
    simp
   ·cases h
  ·cases h
 ·cases h
def appendZC (C_sh:TypeId->Option Sh) (P:Program) (get:Operand->Option SV) (rk:Rk) (b:Nat) (xs:Array Operand) (ts:Array TypeId):Option Core:=match xs.toList,ts.toList,rk b with
 | [x,y],[t,t'],none=>match elemT P t,get x,get y,P.underlying t' with
  | some et,some (.c false [.v (.slice none 0 0)]),some (.c false [.v (.int _ n)]),some (.int _)=>match C_sh et,P.info? et,zeroT P et with
   | some e,some i,some cs=>match zerosOf e cs,Nat.beq i.size e.size&&Nat.ble 1 i.bytes with
    | some z,true=>some ⟨.c false [.row b],.row b ⟨et,e,n.toNat,List.replicate n.toNat z⟩ none,[decide (0<n),fitB n.toNat i.bytes]⟩
    | _,_=>none
   | _,_,_=>none
  | _,_,_,_=>none
 | _,_,_=>none
theorem appendZC_ok {sh:TypeId->Option Sh} {get:Operand->Option SV} {rk:Rk} {b:Nat} {xs:Array Operand} {ts:Array TypeId} {r:Core} (ho:o.op=.call { callee:=.builtin .append,args:=xs,argTypes:=ts }) (h:appendZC sh P get rk b xs ts=some r)
  (hp:allB r.p=true) (hg:Gets E a get o) (hm:Mod N E a g) (hb:rk b=none->g.r b=none):CoreOk P N g E a o r:=by
 unfold appendZC at h
 split at h
 ·rename_i x y t t' hxs hts hbn
  have hxs:xs=#[x,y]:=by rw[<-Array.toArray_toList (xs:=xs),hxs]
  have hts:ts=#[t,t']:=by rw[<-Array.toArray_toList (xs:=ts),hts]
  subst hxs;subst hts
  split at h
  ·rename_i et k n k2 hu hx hy hu2
   split at h
   ·rename_i e i cs he hi hz
    split at h
    ·rename_i z hzo hsz
     injection h with h
     subst h
     simp only[Bool.and_eq_true,Nat.beq_eq,Nat.ble_eq] at hsz
     obtain ⟨hp0,hp1⟩:=allB_cons hp
     have h0:0<n:=of_decide_eq_true hp0
     have hfit:n.toNat*i.bytes<=140737488355328:=fitB_iff.1 hp1
     have e1:=toV_rel (x:=.slice none 0 0) rfl (hg x _ (by rw[ho];simp[Op.operands,Call.operands]) hx)
     have e2:=toV_rel (x:=.int k n) rfl (hg y _ (by rw[ho];simp[Op.operands,Call.operands]) hy)
     obtain ⟨i',zv,hi',hzv,hcs,hone⟩:=zeroT_info hz
     rw[hi] at hi'
     injection hi' with hi'
     subst hi'
     have hn:n=((n.toNat:Nat):Int):=by omega
     have h63:n.toNat<=maxLen:=by
      have:n.toNat<=n.toNat*i.bytes:=Nat.le_mul_of_pos_right _ hsz.2
      simp only[maxLen]
      omega
     have hdat:=zerosOf_dat (E:=E) hzo
     have hzs:zv.cells.size=e.size:=by
      have:=hdat.len
      rw[<-hcs] at this
      simpa using this
     have hpos:=Sh.size_pos' e
     have r1:=Lib.run_append_nil_zeros (P:=P) E.w t t' o.type et i zv k k2 (elemT_eq hu) hu2 hi hzv n.toNat (by omega) (by omega) (by simp only[maxLen] at h63;omega) (by omega)
     let gc:=grownCap E.w n.toNat 0 et
     have g1:n.toNat<=gc:=grownCap_ge _ _ _ _
     have g2:gc<=maxLen:=grownCap_le_maxLen _ _ _ _ h63
     let w':=E.w.drew.alloc (.cells (Builtin.zeroCells zv.cells n.toNat++Builtin.zeroCells zv.cells (gc - n.toNat)) et)
     have hnew:w'.heap[E.w.heap.size]?=some (.cells (Builtin.zeroCells zv.cells n.toNat++Builtin.zeroCells zv.cells (gc - n.toNat)) et (0,0)):=heap_new E.w.drew _
     have hbel:Below E.w.heap.size E.w w':=⟨rfl,rfl,rfl,by show _<=(E.w.heap.push _).size;simp,fun q hq=>heap_push E.w.drew _ q hq⟩
     have hc:zv.cells=cs.toArray:=by rw[<-hcs]
     have hrow:RowRel w' E.Z e (List.replicate n.toNat z) (Builtin.zeroCells zv.cells n.toNat).toList:=by
      have:Builtin.zeroCells zv.cells n.toNat=madeCells cs.toArray (n.toNat*e.size):=by
       rw[<-hzs,hc]
       rfl
      rw[this]
      exact RowRel.mono (fun _ h=>h) (fun q hq=>hbel.block q (hm.glob.zlt q hq)) (madeCells_rel hdat n.toNat)
     have hmod:=newRow_mod (v':=.slice (some ⟨E.w.heap.size,0,none⟩) n.toNat gc) (ri:=⟨et,e,n.toNat,List.replicate n.toNat z⟩) (Z2:=E.Z) hm (hb hbn) hbel (fun _ h=>h) (fun _ h=>.inl h) (fun q hq hz=>by
      simp only[Value.ownBlock,Option.some.injEq] at hq
      have:=hm.glob.zlt q hz
      omega) ⟨(Builtin.zeroCells zv.cells n.toNat).toList,⟨by simp[size_zeroCells,hzs],.inr ⟨E.w.heap.size,gc,_,by simp,Nat.le_refl _,hnew,by simpa using g1,g2,by
       rw[Array.size_append,size_zeroCells,size_zeroCells,hzs,<-Nat.add_mul]
       show (n.toNat+(gc - n.toNat))*e.size=gc*e.size
       congr 1
       omega,by
       show (Builtin.zeroCells zv.cells n.toNat++Builtin.zeroCells zv.cells (gc - n.toNat)).toList.take ((List.replicate n.toNat z).length*e.size)=_
       rw[Array.toList_append,List.length_replicate]
       exact List.take_left' (by simp[size_zeroCells,hzs])⟩⟩,hrow,by simp⟩
     refine CoreOk.value (E':=E.made b (.slice (some ⟨E.w.heap.size,0,none⟩) n.toNat gc) w' E.Z) (v:=.slice (some ⟨E.w.heap.size,0,none⟩) n.toNat gc) ?_ rfl hmod.2 hmod.1 ⟨[_],rfl,⟨⟨?_,.inr rfl,rfl⟩,trivial⟩,fun _=>rfl⟩
     ·rw[<-hn] at r1
      simp only[execOp,ho,resolve,pure_bind]
      simp[invoke,builtin,e1,e2,r1]
      exact ⟨rfl,rfl⟩
     ·show _=if b=b then _ else _
      rw[if_pos rfl]
    ·cases h
   ·cases h
  ·cases h
 ·cases h
end
inductive XP where
 | set (t:TypeId) (k:Sh)
 | map (t:TypeId) (k e:Sh)
 | tab (t:TypeId) (s:Sh) (ti:TypeId) (e:Sh)
abbrev XP.T:XP->Type
 | .set _ k=>List k.T
 | .map _ k e=>List (k.T×e.T)
 | .tab _ s _ e=>List s.T×List (Option (List e.T))
def XP.mk:(p:XP)->p.T->XI
 | .set t k,l=>.set t k l
 | .map t k e,l=>.map t k e l
 | .tab t s ti e,x=>.tab t s x.1 ti e x.2
def XP.get:(p:XP)->XI->Option p.T
 | .set t k,.set t' k' l=>match Nat.beq t' t,Sh.eq? k' k with
  | true,some ⟨h⟩=>some (h ▸ l)
  | _,_=>none
 | .map t k e,.map t' k' e' l=>match Nat.beq t' t,Sh.eq? k' k,Sh.eq? e' e with
  | true,some ⟨h⟩,some ⟨h'⟩=>some (h ▸ h' ▸ l)
  | _,_,_=>none
 | .tab t s ti e,.tab t' s' l ti' e' a=>match Nat.beq t' t,Nat.beq ti' ti,Sh.eq? s' s,Sh.eq? e' e with
  | true,true,some ⟨h⟩,some ⟨h'⟩=>some (h ▸ l,h' ▸ a)
  | _,_,_,_=>none
 | _,_=>none
def XP.nil:(p:XP)->Option p.T
 | .tab _ _ _ _=>some ([],[])
 | _=>none
theorem XP.get_mk:∀{p:XP} {y:XI} {z:p.T},p.get y=some z->y=p.mk z
 | .set t k,.set t' k' l,z,h=>by
  simp only[XP.get] at h
  split at h
  ·rename_i hk he _
   have he:t'=t:=by simpa using he
   subst he;subst hk
   injection h with h
   subst h
   rfl
  ·cases h
 | .map t k e,.map t' k' e' l,z,h=>by
  simp only[XP.get] at h
  split at h
  ·rename_i hk hj he _ _
   have he:t'=t:=by simpa using he
   subst he;subst hk;subst hj
   injection h with h
   subst h
   rfl
  ·cases h
 | .tab t s ti e,.tab t' s' l ti' e' a,z,h=>by
  simp only[XP.get] at h
  split at h
  ·rename_i hk hj he hf _ _
   have he:t'=t:=by simpa using he
   have hf:ti'=ti:=by simpa using hf
   subst he;subst hf;subst hk;subst hj
   injection h with h
   subst h
   rfl
  ·cases h
 | .set _ _,.map _ _ _ _,_,h=>by cases h
 | .set _ _,.tab _ _ _ _ _ _,_,h=>by cases h
 | .map _ _ _,.set _ _ _,_,h=>by cases h
 | .map _ _ _,.tab _ _ _ _ _ _,_,h=>by cases h
 | .tab _ _ _ _,.set _ _ _,_,h=>by cases h
 | .tab _ _ _ _,.map _ _ _ _,_,h=>by cases h
section
variable {P:Program} {N:Nat} {g:Look} {E:Env} {a:Act} {o:Oper}
theorem XOk.live {E:Env} {q:Nat} {x:XI} (h:XOk E q x):E.R q:=by cases x<;>exact h.1
def Env.xput (E:Env) (k:Nat) (v:Value) (w:World) (F:Nat->Prop) (I:Nat->Value) (n:Nat):Env :=
 {E with w:=w,ρ:=fun i=>if i=k then v else E.ρ i,R:=fun i=>E.R i\/i=k,φ:=fun i=>if i=k then F else E.φ i,ι:=fun i=>if i=k then I else E.ι i,ν:=fun i=>if i=k then n else E.ν i }
def From (E:Env) (g:Look) (k:Nat) (u:List Nat) (b:Nat):Prop :=
 ((∃y,g.r k=some (.x y))/\E.φ k b)\/∃q ∈ u,(∃r,g.r q=some (.some r)/\(E.ρ q).ownBlock=some b)\/(∃y,g.r q=some (.x y)/\E.φ q b)
theorem from_facts (hm:Mod N E a g) {k:Nat} {u:List Nat} {b:Nat} (h:From E g k u b):¬ E.Z b/\E.w0.heap.size<=b/\b<E.w.heap.size/\(∀j l,g.h j=some l->E.β j≠b)/\(∀j r,g.r j=some (.some r)->(E.ρ j).ownBlock=some b->j ∈ u)/\(∀j y,g.r j=some (.x y)->E.φ j b->j=k\/j ∈ u):=by
 have hx:∀q y,g.r q=some (.x y)->E.φ q b->(q=k\/q ∈ u)->¬ E.Z b/\E.w0.heap.size<=b/\b<E.w.heap.size/\(∀j l,g.h j=some l->E.β j≠b)/\(∀j r,g.r j=some (.some r)->(E.ρ j).ownBlock=some b->j ∈ u)/\(∀j y,g.r j=some (.x y)->E.φ j b->j=k\/j ∈ u):=fun q y h1 h2 h3=>by
  obtain ⟨g1,g2,g3,g4,g5⟩:=hm.glob.xg.own q y b h1 h2
  exact ⟨g3,g1,g2,g4,fun j r hj hb=>absurd hb (g5 j r hj),fun j z hj hb=>by rw[hm.glob.xg.inj j q z y b hj h1 hb h2];exact h3⟩
 rcases h with ⟨⟨y,h1⟩,h2⟩ | ⟨q,hq,⟨r,h1,h2⟩ | ⟨y,h1,h2⟩⟩
 ·exact hx k y h1 h2 (.inl rfl)
 ·obtain ⟨g1,g2⟩:=hm.glob.rown q r b h1 h2
  obtain ⟨g3,g4⟩:=hm.row_lt h1 h2
  exact ⟨g1,g3,g4,g2,fun j r' hj hb=>by rw[hm.glob.rinj j q r' r b hj h1 hb h2];exact hq,fun j z hj hb=>absurd h2 ((hm.glob.xg.own j z b hj hb).2.2.2.2 q r h1)⟩
 ·exact hx q y h1 h2 (.inr hq)
theorem xset_mod (hm:Mod N E a g) {k:Nat} {x:XI} {u:List Nat} {w':World} {v:Value} {F:Nat->Prop} {I:Nat->Value} {n:Nat}
  (hold:g.r k=none\/((∃y,g.r k=some (.x y))/\v=E.ρ k/\(∀b,E.φ k b->F b)/\E.ν k<=n/\∀i,i<E.ν k->I i=E.ι k i)) (hku:k ∉ u)
  (hF:∀b,F b->(E.w.heap.size<=b/\b<w'.heap.size)\/From E g k u b) (hw:∀b,b<E.w.heap.size->¬ From E g k u b->w'.heap[b]?=E.w.heap[b]?)
  (hos:w'.os=E.w.os) (htp:w'.tape=E.w.tape) (hop:w'.output=E.w.output) (hsz:E.w.heap.size<=w'.heap.size)
  (hxo:XOk (E.xput k v w' F I n) k x):Mod N (E.xput k v w' F I n) a (g.app (.xset k x u))/\Keep E (E.xput k v w' F I n):=by
 have hX:Free E (From E g k u):=fun b hb=>⟨(from_facts hm hb).1,(from_facts hm hb).2.1⟩
 have hRk:E.R k->(∃y,g.r k=some (.x y))/\v=E.ρ k/\(∀b,E.φ k b->F b)/\E.ν k<=n/\∀i,i<E.ν k->I i=E.ι k i:=fun h=>by
  have:=hm.glob.rlive k h
  rcases hold with h' | h'
  ·rw[h'] at this;cases this
  ·exact h'
 have hx:Ext (From E g k u) E (E.xput k v w' F I n):=⟨rfl,rfl,rfl,rfl,fun _ h=>h,hw,fun _ _=>rfl,fun _ h=>h,fun r hr=>by
  show (if r=k then v else E.ρ r)=E.ρ r
  split
  ·rename_i e;subst e;exact (hRk hr).2.1
  ·rfl,fun r hr=>.inl hr,fun r hr=>by
  show (∀b,E.φ r b->(if r=k then F else E.φ r) b)/\E.ν r<=(if r=k then n else E.ν r)/\∀i,i<E.ν r->(if r=k then I else E.ι r) i=E.ι r i
  split
  ·rename_i e;subst e;exact (hRk hr).2.2
  ·exact ⟨fun _ h=>h,Nat.le_refl _,fun _ _=>rfl⟩⟩
 have gr:∀i,(g.app (.xset k x u)).r i=if i=k then some (.x x) else if i ∈ u then some .none else g.r i:=fun i=>rfl
 have live:∀i r,(g.app (.xset k x u)).r i=some (.some r)->g.r i=some (.some r)/\i≠k/\i ∉ u:=fun i r h=>by
  rw[gr] at h
  split at h
  ·cases h
  ·rename_i h1
   split at h
   ·cases h
   ·rename_i h2;exact ⟨h,h1,h2⟩
 have xlive:∀i y,(g.app (.xset k x u)).r i=some (.x y)->i≠k->g.r i=some (.x y)/\i ∉ u:=fun i y h hne=>by
  rw[gr,if_neg hne] at h
  split at h
  ·cases h
  ·rename_i h2;exact ⟨h,h2⟩
 have rho:∀i,i≠k->(E.xput k v w' F I n).ρ i=E.ρ i:=fun i hi=>by show (if i=k then v else E.ρ i)=_;rw[if_neg hi]
 have phi:∀i,i≠k->(E.xput k v w' F I n).φ i=E.φ i:=fun i hi=>by show (if i=k then F else E.φ i)=_;rw[if_neg hi]
 have phik:(E.xput k v w' F I n).φ k=F:=by show (if k=k then F else E.φ k)=_;rw[if_pos rfl]
 have hxg:XGlob (E.xput k v w' F I n) (g.app (.xset k x u)):=by
  refine ⟨fun i y b hi hb=>?_,fun i j y z b hi hj hb hb'=>?_⟩
  ·by_cases hik:i=k
   ·subst hik
    rw[phik] at hb
    rcases hF b hb with ⟨h1,h2⟩ | h1
    ·refine ⟨Nat.le_trans hm.glob.below.size h1,h2,fun hz=>?_,fun j l hj e=>?_,fun j r hj e=>?_⟩
     ·have:=hm.glob.zlt b hz;omega
     ·have:=hm.blk_lt hj;have e:E.β j=b:=e;omega
     ·obtain ⟨h3,h4,_⟩:=live j r hj
      rw[rho j h4] at e
      have:=(hm.row_lt h3 e).2;omega
    ·obtain ⟨g1,g2,g3,g4,g5,_⟩:=from_facts hm h1
     refine ⟨g2,Nat.lt_of_lt_of_le g3 hsz,g1,g4,fun j r hj e=>?_⟩
     obtain ⟨h3,h4,h5⟩:=live j r hj
     rw[rho j h4] at e
     exact h5 (g5 j r h3 e)
   ·obtain ⟨h1,h2⟩:=xlive i y hi hik
    rw[phi i hik] at hb
    obtain ⟨g1,g2,g3,g4,g5⟩:=hm.glob.xg.own i y b h1 hb
    refine ⟨g1,Nat.lt_of_lt_of_le g2 hsz,g3,g4,fun j r hj e=>?_⟩
    obtain ⟨h3,h4,_⟩:=live j r hj
    rw[rho j h4] at e
    exact g5 j r h3 e
  ·have other:∀j z,(g.app (.xset k x u)).r j=some (.x z)->j≠k->F b->E.φ j b->False:=fun j z hj hjk h1 h2=>by
    obtain ⟨h3,h4⟩:=xlive j z hj hjk
    rcases hF b h1 with ⟨h5,_⟩ | h5
    ·have:=(hm.glob.xg.own j z b h3 h2).2.1;omega
    ·rcases (from_facts hm h5).2.2.2.2.2 j z h3 h2 with h6 | h6
     ·exact hjk h6
     ·exact h4 h6
   by_cases hik:i=k
   ·by_cases hjk:j=k
    ·rw[hik,hjk]
    ·subst hik
     rw[phik] at hb
     rw[phi j hjk] at hb'
     exact (other j z hj hjk hb hb').elim
   ·by_cases hjk:j=k
    ·subst hjk
     rw[phik] at hb'
     rw[phi i hik] at hb
     exact (other i y hi hik hb' hb).elim
    ·rw[phi i hik] at hb
     rw[phi j hjk] at hb'
     exact hm.glob.xg.inj i j y z b (xlive i y hi hik).1 (xlive j z hj hjk).1 hb hb'
 have hgl:Glob (E.xput k v w' F I n) (g.app (.xset k x u)):=by
  refine ⟨⟨hos.trans hm.glob.below.os,htp.trans hm.glob.below.tape,hop.trans hm.glob.below.output,Nat.le_trans hm.glob.below.size hsz,fun b hb=>?_⟩,fun b hb=>Nat.lt_of_lt_of_le (hm.glob.zlt b hb) hsz,hm.glob.z0,hm.glob.zfrom,hm.glob.live,fun r hr=>?_,hm.glob.own,hm.glob.inj,fun i r b hi hb=>?_,fun i j r r' b hi hj hb hb'=>?_,hxg,hm.glob.gd⟩
  ·refine (hw b (Nat.lt_of_lt_of_le hb hm.glob.below.size) fun e=>?_).trans (hm.glob.below.block b hb)
   have:=(from_facts hm e).2.1
   have hb:b<E.w0.heap.size:=hb
   omega
  ·rw[gr]
   split
   ·rfl
   ·split
    ·rfl
    ·rename_i h1 _
     exact hm.glob.rlive r (hr.resolve_right h1)
  ·obtain ⟨h1,h2,_⟩:=live i r hi
   rw[rho i h2] at hb
   exact hm.glob.rown i r b h1 hb
  ·obtain ⟨h1,h2,_⟩:=live i r hi
   obtain ⟨h3,h4,_⟩:=live j r' hj
   rw[rho i h2] at hb
   rw[rho j h4] at hb'
   exact hm.glob.rinj i j r r' b h1 h3 hb hb'
 refine ⟨hm.move hX hx hgl rfl hm.size (fun i s h=>.inl ⟨h,rfl⟩) (fun i l h=>.inl ⟨h,fun e=>(from_facts hm e).2.2.2.1 i l h rfl⟩) (fun i r h=>.inl ⟨(live i r h).1,fun b hb e=>(live i r h).2.2 ((from_facts hm e).2.2.2.2.1 i r (live i r h).1 hb)⟩) (fun i y h=>?_),hx.keep hm.glob hX⟩
 by_cases hik:i=k
 ·subst hik
  rw[gr,if_pos rfl] at h
  injection h with h
  injection h with h
  subst h
  exact .inr hxo
 ·obtain ⟨h1,h2⟩:=xlive i y h hik
  refine .inl ⟨h1,by show (if i=k then n else E.ν i)=E.ν i;rw[if_neg hik],fun b hb e=>?_⟩
  rcases (from_facts hm e).2.2.2.2.2 i y h1 hb with h3 | h3
  ·exact hik h3
  ·exact h2 h3
end
end Dn
end Go.Proofs.YtlfdhaiigdllcaaGreatDoor
