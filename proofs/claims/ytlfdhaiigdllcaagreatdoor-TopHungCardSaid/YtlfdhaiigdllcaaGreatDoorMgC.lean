/- A symbolic executor: rows of the call's own: how they read, how they grow, how an element of one is changed. -/
import Derived.Maps.AppendAt
import Derived.Laws.OwnMore
import Derived.Test.YtlfdhaiigdllcaaGreatDoorMgB

namespace Go.Proofs.YtlfdhaiigdllcaaGreatDoor
namespace Dn
open Go.RowKit
section
variable {P:Program} {N:Nat} {g:Look} {E:Env} {a:Act} {o:Oper}
theorem rowRel_len {w:World} {Z:Nat->Prop} {e:Sh}:∀{l:List e.T} {xs:List Value},RowRel w Z e l xs->xs.length=l.length*e.size
 | [],_,h=>by simp only[RowRel] at h;subst h;simp
 | _ ::l,_,⟨c,r,h1,h2,h3⟩=>by
  subst h1
  rw[List.length_append,h2.len,rowRel_len h3,List.length_cons,Nat.add_mul,Nat.one_mul,Nat.add_comm]
theorem rowRel_one {w:World} {Z:Nat->Prop} {e:Sh}:∀{l:List e.T} {xs:List Value},RowRel w Z e l xs->∀v ∈ xs,v.oneCell'=true
 | [],_,h,v,hv=>by simp only[RowRel] at h;subst h;cases hv
 | _ ::l,_,⟨c,r,h1,h2,h3⟩,v,hv=>by
  subst h1
  rcases List.mem_append.1 hv with hv | hv
  ·exact h2.one v hv
  ·exact rowRel_one h3 v hv
theorem rowRel_append {w:World} {Z:Nat->Prop} {e:Sh}:∀{l m:List e.T} {xs ys:List Value},RowRel w Z e l xs->RowRel w Z e m ys->RowRel w Z e (l++m) (xs++ys)
 | [],_,_,_,h,h'=>by simp only[RowRel] at h;subst h;exact h'
 | _ ::l,_,_,_,⟨c,r,h1,h2,h3⟩,h'=>by
  subst h1
  exact ⟨c,r++_,by simp,h2,rowRel_append h3 h'⟩
theorem rowRel_get {w:World} {Z:Nat->Prop} {e:Sh}:∀{l:List e.T} {xs:List Value} {k:Nat} {x:e.T},RowRel w Z e l xs->l[k]?=some x->∃ecs,Dat w Z e x ecs/\xs=xs.take (k*e.size)++ecs++xs.drop (k*e.size+e.size)/\k*e.size+e.size<=xs.length
 | [],_,k,x,_,hk=>by simp at hk
 | y ::l,xs,0,x,⟨c,r,h1,h2,h3⟩,hk=>by
  simp only[List.getElem?_cons_zero,Option.some.injEq] at hk
  subst hk;subst h1
  have:=h2.len
  refine ⟨c,h2,?_,by simp[this]⟩
  simp only[Nat.zero_mul,List.take_zero,List.nil_append,Nat.zero_add]
  rw[<-this,List.drop_left]
 | y ::l,xs,k+1,x,⟨c,r,h1,h2,h3⟩,hk=>by
  simp only[List.getElem?_cons_succ] at hk
  obtain ⟨ecs,h4,h5,h6⟩:=rowRel_get h3 hk
  subst h1
  have hc:=h2.len
  refine ⟨ecs,h4,?_,by rw[List.length_append,hc,Nat.add_mul];omega⟩
  have e1:(k+1)*e.size=c.length+k*e.size:=by rw[Nat.add_mul,hc];omega
  have e2:(k+1)*e.size+e.size=c.length+(k*e.size+e.size):=by omega
  rw[e2,e1,List.take_length_add_append,List.drop_length_add_append,List.append_assoc,List.append_assoc]
  congr 1
  rw[<-List.append_assoc]
  exact h5
theorem rowRel_at {w:World} {Z:Nat->Prop} {e:Sh} {l:List e.T} {xs:List Value} {k:Nat} {x:e.T} (h:RowRel w Z e l xs) (hk:l[k]?=some x):∃ecs,Dat w Z e x ecs/\∀j v,ecs[j]?=some v->xs[k*e.size+j]?=some v:=by
 obtain ⟨ecs,h1,h2,h3⟩:=rowRel_get h hk
 refine ⟨ecs,h1,fun j v hj=>?_⟩
 have hl:=h1.len
 have hjl:=(List.getElem?_eq_some_iff.1 hj).1
 rw[h2,List.append_assoc,List.getElem?_append_right (by simp;omega),List.getElem?_append_left (by simp;omega)]
 simp only[List.length_take]
 rw[show k*e.size+j - min (k*e.size) xs.length=j by omega]
 exact hj
theorem rowRel_set {w:World} {Z:Nat->Prop} {e:Sh}:∀{l:List e.T} {xs:List Value} {k:Nat} {y:e.T} {ecs:List Value},RowRel w Z e l xs->k<l.length->Dat w Z e y ecs->RowRel w Z e (l.set k y) (xs.take (k*e.size)++ecs++xs.drop (k*e.size+e.size))
 | [],_,k,_,_,_,hk,_=>by simp at hk
 | z ::l,xs,0,y,ecs,⟨c,r,h1,h2,h3⟩,_,hy=>by
  subst h1
  have:=h2.len
  simp only[Nat.zero_mul,List.take_zero,List.nil_append,Nat.zero_add,List.set_cons_zero]
  rw[<-this,List.drop_left]
  exact ⟨ecs,r,rfl,hy,h3⟩
 | z ::l,xs,k+1,y,ecs,⟨c,r,h1,h2,h3⟩,hk,hy=>by
  subst h1
  have hc:=h2.len
  have ih:=rowRel_set h3 (by simpa using hk) hy
  have e1:(k+1)*e.size=c.length+k*e.size:=by rw[Nat.add_mul,hc];omega
  have e2:(k+1)*e.size+e.size=c.length+(k*e.size+e.size):=by omega
  rw[e2,e1,List.take_length_add_append,List.drop_length_add_append,List.set_cons_succ]
  exact ⟨c,_,by simp,h2,ih⟩
theorem rowRel_of_mem {w:World} {Z:Nat->Prop} {e:Sh}:∀{l:List e.T} {ad:Addr},(∀(k:Nat) (x:e.T),l[k]?=some x->∃ecs,Dat w Z e x ecs/\∀j v,ecs[j]?=some v->w.cell? (ad.add (k*e.size+j))=some v) ->
  ∃xs,RowRel w Z e l xs/\∀j u,xs[j]?=some u->w.cell? (ad.add j)=some u
 | [],_,_=>⟨[],rfl,fun j u h=>by simp at h⟩
 | x ::l,ad,h=>by
  obtain ⟨ecs,h1,h2⟩:=h 0 x rfl
  have hl:=h1.len
  obtain ⟨xs,h3,h4⟩:=rowRel_of_mem (l:=l) (ad:=ad.add e.size) fun k y hk=>by
   obtain ⟨ds,g1,g2⟩:=h (k+1) y hk
   refine ⟨ds,g1,fun j v hj=>?_⟩
   rw[add_add,<-Nat.add_assoc,show e.size+k*e.size=(k+1)*e.size by rw[Nat.add_mul];omega]
   exact g2 j v hj
  refine ⟨ecs++xs,⟨ecs,xs,rfl,h1,h3⟩,fun j u hj=>?_⟩
  by_cases hjl:j<ecs.length
  ·rw[List.getElem?_append_left hjl] at hj
   have:=h2 j u hj
   simpa using this
  ·rw[List.getElem?_append_right (by omega)] at hj
   have:=h4 _ u hj
   rw[add_add,show e.size+(j - ecs.length)=j by omega] at this
   exact this
def Src (w:World) (Z:Nat->Prop) (e:Sh) (l:List e.T) (v:Value):Prop :=
 ∃(A:Option Addr) (c:Nat) (xs:List Value),v=.slice A l.length c/\RowRel w Z e l xs/\(A=none->l=[])/\∀ad,A=some ad->∀j u,xs[j]?=some u->w.cell? (ad.add j)=some u
theorem dat_src {w:World} {Z:Nat->Prop} {e:Sh} {l:List e.T} {v:Value} (h:Dat w Z (.sl e) l [v]):Src w Z e l v:=by
 simp only[Dat] at h
 obtain ⟨A,c,hv,hc,_,h⟩:=h
 injection hv with hv _
 by_cases h0:0<l.length
 ·obtain ⟨ad,rfl,hz,h⟩:=h h0
  obtain ⟨xs,h1,h2⟩:=rowRel_of_mem h
  exact ⟨some ad,c,xs,hv,h1,fun h=>(by cases h),fun ad' e=>by injection e with e;subst e;exact h2⟩
 ·have hl:l=[]:=List.eq_nil_of_length_eq_zero (by omega)
  subst hl
  exact ⟨A,c,[],hv,rfl,fun _=>rfl,fun _ _ j u h=>by simp at h⟩
theorem row_src {r:Nat} {ri:RowI} (h:RowOk E r ri):Src E.w E.Z ri.e ri.l (E.ρ r):=by
 obtain ⟨_,xs,⟨h1,h2⟩,h3,_⟩:=h
 rcases h2 with ⟨h2,h4⟩ | ⟨b,cap,cur,h2,_,h4,h5,h6,h7,h8⟩
 ·exact ⟨none,0,xs,by rw[h2,h4],h3,fun _=>List.eq_nil_of_length_eq_zero h4,fun ad e=>by cases e⟩
 ·refine ⟨some ⟨b,0,none⟩,cap,xs,h2,h3,fun e=>(by cases e),fun ad e j u hj=>?_⟩
  injection e with e;subst e
  rw[add_lit,Nat.zero_add]
  have hjl:=(List.getElem?_eq_some_iff.1 hj).1
  rw[<-h8,List.getElem?_take] at hj
  split at hj
  ·simp only[World.cell?,h4]
   simpa using hj
  ·cases hj
theorem Sh.size_pos':∀s:Sh,0<s.size
 | .int _=>Nat.one_pos
 | .bool=>Nat.one_pos
 | .str=>Nat.one_pos
 | .sl _=>Nat.one_pos
 | .pair a b=>by have:=Sh.size_pos' a;simp only[Sh.size];omega
 | .agg e=>Sh.size_pos' e
 | .ref=>Nat.one_pos
def Env.withRow (E:Env) (k:Nat) (v:Value) (w:World):Env:={ E with w:=w,ρ:=fun i=>if i=k then v else E.ρ i,R:=fun i=>E.R i\/i=k }
theorem row_mod0 (hm:Mod N E a g) {k:Nat} (hk:g.r k=none) {old:Option Nat} {w':World} {v':Value} {ri:RowI} {ob:Option Nat} (hold:∀q,old=some q->(∃ro,g.r q=some (.some ro))/\ob=(E.ρ q).ownBlock) (hnone:old=none->ob=none)
  (hgr:E.w.grownBy w' ob) (hblk:∀b,v'.ownBlock=some b->ob=some b\/E.w.heap.size<=b)
  (hown:∃xs,w'.ownsRow E.w0.heap.size ri.t ri.e.size v' ri.l.length xs/\RowRel w' E.Z ri.e ri.l xs/\ri.n=ri.l.length):Mod N (E.withRow k v' w') a (g.app (.row k ri old))/\Keep E (E.withRow k v' w'):=by
 have hnk:¬ E.R k:=fun h=>by have:=hm.glob.rlive k h;rw[hk] at this;cases this
 have obOld:∀b,ob=some b->∃q ro,old=some q/\g.r q=some (.some ro)/\(E.ρ q).ownBlock=some b:=by
  intro b hb
  cases ho:old with
  | none=>rw[hnone ho] at hb;cases hb
  | some q =>
   obtain ⟨⟨ro,h2⟩,h3⟩:=hold q ho
   exact ⟨q,ro,rfl,h2,by rw[<-h3];exact hb⟩
 have hX:Free E fun b=>ob=some b:=fun b hb=>by
  obtain ⟨q,ro,_,h2,h3⟩:=obOld b hb
  exact ⟨(hm.glob.rown q ro b h2 h3).1,(hm.row_lt h2 h3).1⟩
 have hx:Ext (fun b=>ob=some b) E (E.withRow k v' w'):=⟨rfl,rfl,rfl,rfl,fun _ h=>h,fun b hb hn=>hgr.block b hb fun e=>hn e.symm,fun _ _=>rfl,fun _ h=>h,fun r hr=>by
  show (if r=k then v' else E.ρ r)=E.ρ r
  rw[if_neg (fun e:r=k=>hnk (by rw[<-e];exact hr))],fun r hr=>.inl hr,Env.same_x⟩
 have gh:(g.app (.row k ri old)).h=g.h:=by cases old<;>rfl
 have gs:(g.app (.row k ri old)).s=g.s:=by cases old<;>rfl
 have gr:∀i,(g.app (.row k ri old)).r i=if i=k then some (.some ri) else if old=some i then some .none else g.r i:=by
  intro i
  cases old with
  | none=>simp[Look.app,Look.setR]
  | some q =>
   simp only[Look.app,Look.setR,Option.some.injEq]
   by_cases h:i=k
   ·simp[h]
   ·by_cases h2:i=q
    ·simp[h2]
    ·simp[h,h2,Ne.symm h2]
 have live:∀i r,(g.app (.row k ri old)).r i=some (.some r)->i≠k->g.r i=some (.some r)/\old≠some i:=by
  intro i r hi hne
  rw[gr,if_neg hne] at hi
  split at hi
  ·cases hi
  ·rename_i h;exact ⟨hi,h⟩
 have rho:∀i,i≠k->(E.withRow k v' w').ρ i=E.ρ i:=fun i hi=>by show (if i=k then v' else E.ρ i)=_;rw[if_neg hi]
 have rhok:(E.withRow k v' w').ρ k=v':=by show (if k=k then v' else E.ρ k)=_;rw[if_pos rfl]
 have apart:∀j r b,g.r j=some (.some r)->old≠some j->(E.ρ j).ownBlock=some b->v'.ownBlock≠some b:=by
  intro j r b hj hne hb hv
  rcases hblk b hv with h | h
  ·obtain ⟨q,ro,h2,h3,h4⟩:=obOld b h
   exact hne (by rw[h2,hm.glob.rinj q j ro r b h3 hj h4 hb])
  ·have:=(hm.row_lt hj hb).2
   omega
 have hlt:∀b,v'.ownBlock=some b->b<w'.heap.size:=fun b hb=>by
  obtain ⟨xs,h2,_⟩:=hown
  exact (h2.lt b hb).2
 have xold:∀i x,(g.app (.row k ri old)).r i=some (.x x)->g.r i=some (.x x):=fun i x h=>by
  rw[gr] at h
  split at h
  ·cases h
  ·split at h
   ·cases h
   ·exact h
 have hxg:XGlob (E.withRow k v' w') (g.app (.row k ri old)):=hm.glob.xg.ext rfl hgr.size (fun i x h=>⟨⟨x,xold i x h⟩,fun _ h=>h⟩) (fun b h=>.inl h) (fun j l h=>.inr ⟨j,l,by rw[gh] at h;exact h,rfl⟩) (fun j r b h h'=>by
  by_cases hik:j=k
  ·subst hik
   rw[rhok] at h'
   rcases hblk b h' with h2 | h2
   ·obtain ⟨q,ro,_,h3,h4⟩:=obOld b h2
    exact .inr ⟨q,ro,h3,h4⟩
   ·exact .inl (by omega)
  ·rw[rho j hik] at h'
   exact .inr ⟨j,r,(live j r h hik).1,h'⟩)
 have hgl:Glob (E.withRow k v' w') (g.app (.row k ri old)):=by
  refine ⟨?_,fun b hb=>?_,hm.glob.z0,hm.glob.zfrom,fun b hb=>?_,fun r hr=>?_,fun i l hi=>?_,fun i j l l' hi hj=>?_,fun i r b hi hb=>?_,fun i j r r' b hi hj hb hb'=>?_,hxg,hm.glob.gd⟩
  ·refine ⟨hgr.os.trans hm.glob.below.os,hgr.tape.trans hm.glob.below.tape,hgr.output.trans hm.glob.below.output,Nat.le_trans hm.glob.below.size hgr.size,fun b hb=>?_⟩
   refine (hgr.block b (Nat.lt_of_lt_of_le hb hm.glob.below.size) fun e=>?_).trans (hm.glob.below.block b hb)
   have:=(hX b e.symm).2
   have hb:b<E.w0.heap.size:=hb
   omega
  ·exact Nat.lt_of_lt_of_le (hm.glob.zlt b hb) hgr.size
  ·rw[gh];exact hm.glob.live b hb
  ·rw[gr]
   rcases hr with hr | hr
   ·split
    ·rfl
    ·split
     ·rfl
     ·exact hm.glob.rlive r hr
   ·rw[if_pos hr];rfl
  ·rw[gh] at hi;exact hm.glob.own i l hi
  ·rw[gh] at hi hj;exact hm.glob.inj i j l l' hi hj
  ·by_cases hik:i=k
   ·subst hik
    rw[rhok] at hb
    refine ⟨fun hz=>?_,fun j l hj=>?_⟩
    ·rcases hblk b hb with h | h
     ·exact (hX b h).1 hz
     ·have:=hm.glob.zlt b hz;omega
    ·rw[gh] at hj
     intro e
     have e:E.β j=b:=e
     rcases hblk b hb with h | h
     ·obtain ⟨q,ro,_,h3,h4⟩:=obOld b h
      exact (hm.glob.rown q ro b h3 h4).2 j l hj e
     ·have:=hm.blk_lt hj;omega
   ·rw[rho i hik] at hb
    obtain ⟨h2,h3⟩:=live i r hi hik
    obtain ⟨h4,h5⟩:=hm.glob.rown i r b h2 hb
    exact ⟨h4,fun j l hj=>by rw[gh] at hj;exact h5 j l hj⟩
  ·by_cases hik:i=k
   ·subst hik
    by_cases hjk:j=i
    ·exact hjk.symm
    ·rw[rhok] at hb
     rw[rho j hjk] at hb'
     obtain ⟨h2,h3⟩:=live j r' hj hjk
     exact absurd hb (apart j r' b h2 h3 hb')
   ·rw[rho i hik] at hb
    obtain ⟨h2,h3⟩:=live i r hi hik
    by_cases hjk:j=k
    ·subst hjk
     rw[rhok] at hb'
     exact absurd hb' (apart i r b h2 h3 hb)
    ·rw[rho j hjk] at hb'
     exact hm.glob.rinj i j r r' b h2 (live j r' hj hjk).1 hb hb'
 refine ⟨hm.move hX hx hgl rfl hm.size (fun i s h=>.inl ⟨by rw[gs] at h;exact h,rfl⟩) (fun i l h=>.inl ?_) (fun i r hi=>?_) (fun i x h=>.inl ⟨xold i x h,rfl,fun b hb e=>by
   obtain ⟨q,ro,_,h3,h4⟩:=obOld b e
   exact (hm.glob.xg.own i x b (xold i x h) hb).2.2.2.2 q ro h3 h4⟩),hx.keep hm.glob hX⟩
 ·rw[gh] at h
  refine ⟨h,fun e=>?_⟩
  obtain ⟨q,ro,_,h3,h4⟩:=obOld _ e
  exact (hm.glob.rown q ro _ h3 h4).2 i l h rfl
 ·by_cases hik:i=k
  ·subst hik
   rw[gr,if_pos rfl] at hi
   injection hi with hi
   injection hi with hi
   subst hi
   obtain ⟨xs,h2,h3⟩:=hown
   exact .inr ⟨.inr rfl,xs,by rw[rhok];exact h2,h3⟩
  ·obtain ⟨h2,h3⟩:=live i r hi hik
   refine .inl ⟨h2,fun b hb e=>?_⟩
   obtain ⟨q,ro,h4,h5,h6⟩:=obOld b e
   exact h3 (by rw[h4,hm.glob.rinj q i ro r b h5 h2 h6 hb])
def Env.made (E:Env) (k:Nat) (v:Value) (w:World) (Z:Nat->Prop):Env:={ E with w:=w,Z:=Z,ρ:=fun i=>if i=k then v else E.ρ i,R:=fun i=>E.R i\/i=k }
theorem newRow_mod (hm:Mod N E a g) {k:Nat} (hk:g.r k=none) {w':World} {v':Value} {ri:RowI} {Z2:Nat->Prop} (hb:Below E.w.heap.size E.w w') (h1:∀q,E.Z q->Z2 q) (h2:∀q,Z2 q->E.Z q\/(E.w.heap.size<=q/\q<w'.heap.size)) (h3:∀q,v'.ownBlock=some q->¬ Z2 q)
  (hown:∃xs,w'.ownsRow E.w.heap.size ri.t ri.e.size v' ri.l.length xs/\RowRel w' Z2 ri.e ri.l xs/\ri.n=ri.l.length):Mod N (E.made k v' w' Z2) a (g.app (.row k ri none))/\Keep E (E.made k v' w' Z2):=by
 have hnk:¬ E.R k:=fun h=>by have:=hm.glob.rlive k h;rw[hk] at this;cases this
 have hx:Ext (fun _=>False) E (E.made k v' w' Z2):=⟨rfl,rfl,rfl,rfl,h1,fun b hb' _=>hb.block b hb',fun _ _=>rfl,fun _ h=>h,fun r hr=>by
  show (if r=k then v' else E.ρ r)=E.ρ r
  rw[if_neg (fun e:r=k=>hnk (by rw[<-e];exact hr))],fun r hr=>.inl hr,Env.same_x⟩
 have gr:∀i,(g.app (.row k ri none)).r i=if i=k then some (.some ri) else g.r i:=fun i=>rfl
 have gh:(g.app (.row k ri none)).h=g.h:=rfl
 have rho:∀i,i≠k->(E.made k v' w' Z2).ρ i=E.ρ i:=fun i hi=>by show (if i=k then v' else E.ρ i)=_;rw[if_neg hi]
 have rhok:(E.made k v' w' Z2).ρ k=v':=by show (if k=k then v' else E.ρ k)=_;rw[if_pos rfl]
 obtain ⟨ys,o1,o2,o3⟩:=hown
 have ge:∀q,v'.ownBlock=some q->E.w.heap.size<=q/\q<w'.heap.size:=fun q hq=>o1.lt q hq
 have live:∀i r,(g.app (.row k ri none)).r i=some (.some r)->i≠k->g.r i=some (.some r):=fun i r h hne=>by rw[gr,if_neg hne] at h;exact h
 have xold:∀i x,(g.app (.row k ri none)).r i=some (.x x)->g.r i=some (.x x):=fun i x h=>by
  rw[gr] at h
  split at h
  ·cases h
  ·exact h
 have hxg:XGlob (E.made k v' w' Z2) (g.app (.row k ri none)):=hm.glob.xg.ext rfl hb.size (fun i x h=>⟨⟨x,xold i x h⟩,fun _ h=>h⟩) (fun q h=>(h2 q h).imp id fun h=>.inl h.1) (fun j l h=>.inr ⟨j,l,h,rfl⟩) (fun j r q h h'=>by
  by_cases hik:j=k
  ·subst hik
   rw[rhok] at h'
   exact .inl (ge q h').1
  ·rw[rho j hik] at h'
   exact .inr ⟨j,r,live j r h hik,h'⟩)
 have hgl:Glob (E.made k v' w' Z2) (g.app (.row k ri none)):=by
  refine ⟨hm.glob.below.trans (hb.mono hm.glob.below.size),fun q hq=>?_,fun q hq=>h1 q (hm.glob.z0 q hq),fun q hq=>?_,hm.glob.live,fun r hr=>?_,fun i l hi=>?_,hm.glob.inj,fun i r q hi hq=>?_,fun i j r r' q hi hj hq hq'=>?_,hxg,hm.glob.gd⟩
  ·rcases h2 q hq with h | h
   ·exact Nat.lt_of_lt_of_le (hm.glob.zlt q h) hb.size
   ·exact h.2
  ·rcases h2 q hq with h | h
   ·exact hm.glob.zfrom q h
   ·exact .inr (Nat.le_trans hm.glob.below.size h.1)
  ·rw[gr]
   rcases hr with hr | hr
   ·split
    ·rfl
    ·exact hm.glob.rlive r hr
   ·rw[if_pos hr];rfl
  ·obtain ⟨g1,g2⟩:=hm.glob.own i l hi
   refine ⟨g1,fun hz=>?_⟩
   rcases h2 _ hz with h | h
   ·exact g2 h
   ·have:=hm.blk_lt hi;have h3:E.w.heap.size<=E.β i:=h.1;omega
  ·by_cases hik:i=k
   ·subst hik
    rw[rhok] at hq
    refine ⟨h3 q hq,fun j l hj e=>?_⟩
    have e:E.β j=q:=e
    have:=hm.blk_lt hj
    have:=(ge q hq).1
    omega
   ·rw[rho i hik] at hq
    obtain ⟨g1,g2⟩:=hm.glob.rown i r q (live i r hi hik) hq
    refine ⟨fun hz=>?_,g2⟩
    rcases h2 q hz with h | h
    ·exact g1 h
    ·have:=(hm.row_lt (live i r hi hik) hq).2;omega
  ·by_cases hik:i=k
   ·subst hik
    by_cases hjk:j=i
    ·exact hjk.symm
    ·rw[rhok] at hq
     rw[rho j hjk] at hq'
     have:=(hm.row_lt (live j r' hj hjk) hq').2
     have:=(ge q hq).1
     omega
   ·rw[rho i hik] at hq
    by_cases hjk:j=k
    ·subst hjk
     rw[rhok] at hq'
     have:=(hm.row_lt (live i r hi hik) hq).2
     have:=(ge q hq').1
     omega
    ·rw[rho j hjk] at hq'
     exact hm.glob.rinj i j r r' q (live i r hi hik) (live j r' hj hjk) hq hq'
 refine ⟨hm.move (Free.none E) hx hgl rfl hm.size (fun i s h=>.inl ⟨h,rfl⟩) (fun i l h=>.inl ⟨h,id⟩) (fun i r hi=>?_) (fun i x h=>.inl ⟨xold i x h,rfl,fun _ _=>id⟩),hx.keep hm.glob (Free.none E)⟩
 by_cases hik:i=k
 ·subst hik
  rw[gr,if_pos rfl] at hi
  injection hi with hi
  injection hi with hi
  subst hi
  refine .inr ⟨.inr rfl,ys,?_,o2,o3⟩
  rw[rhok]
  obtain ⟨p1,p2⟩:=o1
  refine ⟨p1,p2.imp id fun ⟨q,cap,cur,q1,q2,q3⟩=>⟨q,cap,cur,q1,Nat.le_trans hm.glob.below.size q2,q3⟩⟩
 ·exact .inl ⟨live i r hi hik,fun _ _=>id⟩
abbrev Rk:=Nat->Option RowS
def srcOf (rk:Rk) (e:Sh):SV->Option (List e.T)
 | .c false [.sl e' l]=>match Sh.eq? e' e with
  | some ⟨h⟩=>some (h ▸ l)
  | none=>none
 | .c false [.v (.slice none 0 0)]=>some []
 | .c false [.row r]=>match rk r with
  | some (.some ri)=>match Sh.eq? ri.e e with
   | some ⟨h⟩=>some (h ▸ ri.l)
   | none=>none
  | _=>none
 | _=>none
theorem src_rel (hm:Mod N E a g) {rk:Rk} (hrk:∀i r,rk i=some r->g.r i=some r) {e:Sh} {v:SV} {l:List e.T} {y:Value} (h:srcOf rk e v=some l) (hv:RelV E v y):Src E.w E.Z e l y:=by
 unfold srcOf at h
 split at h
 ·split at h
  ·rename_i e' l' _ he _
   subst he
   injection h with h
   subst h
   obtain ⟨cs,rfl,hr,_⟩:=hv
   match cs,hr with
   | [z],hr=>exact dat_src hr.1
  ·cases h
 ·injection h with h
  subst h
  have:=toV_rel (x:=.slice none 0 0) rfl hv
  exact ⟨none,0,[],this,rfl,fun _=>rfl,fun ad e=>by cases e⟩
 ·split at h
  ·rename_i r _ ri hri
   split at h
   ·rename_i he _
    subst he
    injection h with h
    subst h
    obtain ⟨cs,rfl,hr,_⟩:=hv
    match cs,hr with
    | [z],hr =>
     obtain ⟨⟨hz,_⟩,_⟩:=hr
     rw[hz]
     exact row_src (hm.rows r _ (hrk r _ hri))
   ·cases h
  ·cases h
 ·cases h
theorem rowRel_split {w:World} {Z:Nat->Prop} {e:Sh}:∀{l:List e.T} {xs:List Value} (k:Nat),RowRel w Z e l xs->k<=l.length->RowRel w Z e (l.take k) (xs.take (k*e.size))/\RowRel w Z e (l.drop k) (xs.drop (k*e.size))
 | l,xs,0,h,_=>⟨by simp[RowRel],by simpa using h⟩
 | [],_,k+1,_,hk=>by simp at hk
 | x ::l,xs,k+1,h,hk=>by
  obtain ⟨c,r,rfl,h1,h2⟩:=h
  have hc:=h1.len
  obtain ⟨h3,h4⟩:=rowRel_split k h2 (by simpa using hk)
  have e1:(k+1)*e.size=c.length+k*e.size:=by rw[hc,Nat.add_mul];omega
  rw[e1,List.take_length_add_append,List.drop_length_add_append]
  exact ⟨⟨c,_,rfl,h1,h3⟩,h4⟩
theorem sub_src {r lo hi:Nat} {ri:RowI} (h:RowOk E r ri) (hl:lo<=hi) (hh:hi<=ri.n) {y:Value} {c q:Nat} (hq:(E.ρ r).ownBlock=some q) (hy:y=.slice (some ⟨q,lo*ri.e.size,none⟩) (hi - lo) c):Src E.w E.Z ri.e ((ri.l.take hi).drop lo) y:=by
 have hnn:=h.2.choose_spec.2.2
 obtain ⟨_,xs,⟨h1,h2⟩,h3,_⟩:=h
 rcases h2 with ⟨h2,_⟩ | ⟨b,cap,cur,h2,_,h4,h5,h6,h7,h8⟩
 ·rw[h2] at hq;cases hq
 ·rw[h2] at hq
  simp only[Value.ownBlock,Option.some.injEq] at hq
  subst hq
  have g1:=(rowRel_split hi h3 (by omega)).1
  have g2:=(rowRel_split lo g1 (by rw[List.length_take];omega)).2
  refine ⟨some ⟨b,lo*ri.e.size,none⟩,c,_,by rw[hy];congr 1;rw[List.length_drop,List.length_take];omega,g2,fun e=>(by cases e),fun ad e j u hj=>?_⟩
  injection e with e;subst e
  rw[List.getElem?_drop,List.getElem?_take] at hj
  split at hj
  ·rw[<-h8,List.getElem?_take] at hj
   split at hj
   ·rw[add_lit]
    simp only[World.cell?,h4]
    simpa using hj
   ·cases hj
  ·cases hj
theorem sub_src0 {r lo hi:Nat} {ri:RowI} (h:RowOk E r ri) (hl:lo<=hi) (hh:hi<=ri.n) {y:Value} {A:Option Addr} {c:Nat} (hy:y=.slice A (hi - lo) c) (hq:lo<hi->∃g:Nat,(E.ρ r).ownBlock=some g/\A=some ⟨g,lo*ri.e.size,none⟩):Src E.w E.Z ri.e ((ri.l.take hi).drop lo) y:=by
 by_cases hlt:lo<hi
 ·obtain ⟨q,h1,h2⟩:=hq hlt
  subst h2
  exact sub_src h hl hh h1 hy
 ·have e:lo=hi:=by omega
  subst e
  have hnil:(ri.l.take lo).drop lo=[]:=by
   rw[List.drop_eq_nil_iff,List.length_take]
   omega
  rw[hnil]
  exact ⟨A,c,[],by rw[hy];simp,rfl,fun _=>rfl,fun ad _ j u hj=>by simp at hj⟩
def srcPart (rk:Rk) (e:Sh) (v:SV):Option (List e.T×List Bool):=match srcOf rk e v with
 | some l=>some (l,[])
 | none=>match v with
  | .c false [.sub r lo hi sz]=>match rk r with
   | some (.some ri)=>match Sh.eq? ri.e e,Nat.beq sz ri.e.size with
    | some ⟨h⟩,true=>some (h ▸ (ri.l.take hi).drop lo,[Nat.ble lo hi,Nat.ble hi ri.n])
    | _,_=>none
   | _=>none
  | _=>none
theorem srcPart_rel (hm:Mod N E a g) {rk:Rk} (hrk:∀i r,rk i=some r->g.r i=some r) {e:Sh} {v:SV} {l:List e.T} {p:List Bool} {y:Value} (h:srcPart rk e v=some (l,p)) (hp:allB p=true) (hv:RelV E v y):Src E.w E.Z e l y:=by
 unfold srcPart at h
 split at h
 ·rename_i l' hl
  injection h with h
  simp only[Prod.mk.injEq] at h
  obtain ⟨rfl,rfl⟩:=h
  exact src_rel hm hrk hl hv
 ·split at h
  ·split at h
   ·rename_i q lo hi sz _ _ ri hri
    split at h
    ·rename_i he _ hsz
     subst he
     injection h with h
     simp only[Prod.mk.injEq] at h
     obtain ⟨rfl,rfl⟩:=h
     obtain ⟨p1,p2⟩:=allB_cons hp
     have p1:=Nat.le_of_ble_eq_true p1
     have p2:hi<=ri.n:=Nat.le_of_ble_eq_true p2
     have hsz:sz=ri.e.size:=by simpa using hsz
     subst hsz
     obtain ⟨cs,rfl,hrl,_⟩:=hv
     match cs,hrl with
     | [z],hrl =>
      obtain ⟨⟨⟨A,c,h1,h2⟩,_⟩,_⟩:=hrl
      exact sub_src0 (hm.rows q ri (hrk q _ hri)) p1 p2 h1 h2
    ·cases h
   ·cases h
  ·cases h
def dstOf (rk:Rk) (et:TypeId) (e:Sh):SV->Option (Option Nat×List e.T)
 | .c false [.v (.slice none 0 0)]=>some (none,[])
 | .c false [.row r]=>match rk r with
  | some (.some ri)=>match Nat.beq ri.t et,Sh.eq? ri.e e with
   | true,some ⟨h⟩=>some (some r,h ▸ ri.l)
   | _,_=>none
  | _=>none
 | _=>none
theorem dst_rel (hm:Mod N E a g) {rk:Rk} (hrk:∀i r,rk i=some r->g.r i=some r) {et:TypeId} {e:Sh} {v:SV} {old:Option Nat} {l:List e.T} {y:Value} (h:dstOf rk et e v=some (old,l)) (hv:RelV E v y) :
  (∀q,old=some q->(∃ro,g.r q=some (.some ro))/\y.ownBlock=(E.ρ q).ownBlock)/\(old=none->y.ownBlock=none)/\∃xs,E.w.ownsRow E.w0.heap.size et e.size y l.length xs/\RowRel E.w E.Z e l xs:=by
 unfold dstOf at h
 split at h
 ·simp only[Option.some.injEq,Prod.mk.injEq] at h
  obtain ⟨rfl,rfl⟩:=h
  have:=toV_rel (x:=.slice none 0 0) rfl hv
  subst this
  exact ⟨fun q e=>(by cases e),fun _=>rfl,[],World.ownsRow_nil _ _ _ _,rfl⟩
 ·split at h
  ·rename_i r _ ri hri
   split at h
   ·rename_i he ht _
    simp only[Option.some.injEq,Prod.mk.injEq] at h
    obtain ⟨rfl,rfl⟩:=h
    obtain ⟨rt,re,rn,rl⟩:=ri
    simp only at he ht ⊢
    subst he
    have ht:rt=et:=by simpa using ht
    subst ht
    obtain ⟨cs,rfl,hr,_⟩:=hv
    match cs,hr with
    | [z],hr =>
     obtain ⟨⟨hz,_⟩,_⟩:=hr
     subst hz
     refine ⟨fun q e=>?_,fun e=>(by cases e),?_⟩
     ·injection e with e;subst e
      exact ⟨⟨_,hrk r _ hri⟩,rfl⟩
     ·obtain ⟨_,xs,h1,h2,_⟩:=hm.rows r _ (hrk r _ hri)
      exact ⟨xs,h1,h2⟩
   ·cases h
  ·cases h
 ·cases h
def appendC (P:Program) (sh:TypeId->Option Sh) (get:Operand->Option SV) (rk:Rk) (b:Nat) (xs:Array Operand) (ts:Array TypeId):Option Core:=match xs.toList,ts.toList,rk b with
 | [x,y],[t,t'],none=>match Nat.beq t t',elemT P t,get x,get y with
  | true,some et,some vx,some vy=>match sh et,P.info? et with
   | some e,some i=>match i.zero,Nat.beq i.size e.size&&Nat.ble 1 i.bytes,dstOf rk et e vx,srcPart rk e vy with
    | some z,true,some (old,l),some (m,ps)=>match Nat.beq z.cells.size e.size with
     | true=>some ⟨.c false [.row b],.row b ⟨et,e,l.length+m.length,l++m⟩ old,fitB (l.length+m.length) i.bytes ::ps⟩
     | false=>none
    | _,_,_,_=>none
   | _,_=>none
  | _,_,_,_=>none
 | _,_,_=>none
theorem ownsRow_oneCell {w:World} {base:Nat} {e:TypeId} {size n:Nat} {v:Value} {xs:List Value} (h:w.ownsRow base e size v n xs):v.oneCell'=true:=by
 rcases h.2 with ⟨rfl,_⟩ | ⟨g,cap,cur,rfl,_⟩<;>rfl
theorem appendC_ok {sh:TypeId->Option Sh} {get:Operand->Option SV} {rk:Rk} {b:Nat} {xs:Array Operand} {ts:Array TypeId} {r:Core} (ho:o.op=.call { callee:=.builtin .append,args:=xs,argTypes:=ts }) (h:appendC P sh get rk b xs ts=some r)
  (hg:Gets E a get o) (hm:Mod N E a g) (hrk:∀i r,rk i=some r->g.r i=some r) (hb:rk b=none->g.r b=none) (hp:allB r.p=true):CoreOk P N g E a o r:=by
 unfold appendC at h
 split at h
 ·rename_i x y t t' hxs hts hbn
  have hxs:xs=#[x,y]:=by rw[<-Array.toArray_toList (xs:=xs),hxs]
  have hts:ts=#[t,t']:=by rw[<-Array.toArray_toList (xs:=ts),hts]
  subst hxs;subst hts
  split at h
  ·rename_i et vx vy htt hu hvx hvy
   split at h
   ·rename_i e i he hi
    split at h
    ·rename_i z old l m ps hz hsz hd hs
     split at h
     ·rename_i hzs
      injection h with h
      subst h
      obtain ⟨hp,hps⟩:=allB_cons hp
      have htt:t=t':=by simpa using htt
      subst htt
      simp only[Bool.and_eq_true,Nat.beq_eq,Nat.ble_eq] at hsz
      have hzs:z.cells.size=e.size:=by simpa using hzs
      have hx:=hg x vx (by rw[ho];simp[Op.operands,Call.operands]) hvx
      have hy:=hg y vy (by rw[ho];simp[Op.operands,Call.operands]) hvy
      obtain ⟨d1,d2,ws,d3,d4⟩:=dst_rel hm hrk hd hx
      obtain ⟨A,c,ys,hyv,s1,s2,s3⟩:=srcPart_rel hm hrk hs hps hy
      have hp:(l.length+m.length)*i.bytes<=140737488355328:=fitB_iff.1 hp
      have h63:l.length+m.length<=maxLen:=by
       have:l.length+m.length<=(l.length+m.length)*i.bytes:=Nat.le_mul_of_pos_right _ hsz.2
       simp only[maxLen]
       omega
      have key:∃v' w',(Builtin.append_ #[t,t] o.type #[a.eval x,a.eval y]).run P E.w=.ok v' w'/\w'.ownsRow E.w0.heap.size et e.size v' (l.length+m.length) (ws++ys)/\E.w.grownBy w' (a.eval x).ownBlock /\
        (v'.ownBlock=(a.eval x).ownBlock\/v'.ownBlock=some E.w.heap.size):=by
       cases A with
       | none =>
        have hm0:m=[]:=s2 rfl
        subst hm0
        have hy0:ys=[]:=by simpa [RowRel] using s1
        subst hy0
        refine ⟨a.eval x,E.w,?_,by simpa using d3,⟨rfl,rfl,rfl,Nat.le_refl _,fun _ _ _=>rfl⟩,.inl rfl⟩
        rw[hyv]
        have hu':=elemT_eq hu
        rcases d3.2 with ⟨hxn,_⟩ | ⟨q,cap,cur,hxq,_,_,hnc,_⟩
        ·rw[hxn]
         simp[Builtin.append_,run_underlying hu',sizeOf,typeInfo,hi,Builtin.lenOf,Builtin.firstCells]
        ·rw[hxq]
         simp[Builtin.append_,run_underlying hu',sizeOf,typeInfo,hi,Builtin.lenOf,Builtin.firstCells,hnc,storeCells]
       | some ad =>
        obtain ⟨v',w',r1,r2,r3,_,r5⟩:=run_append_own_at (P:=P) (w:=E.w) E.w0.heap.size t o.type et i z e.size i.bytes (elemT_eq hu) hi hz hsz.1 rfl hzs (Sh.size_pos' e) (a.eval x) l.length ws d3 ad m.length c ys (rowRel_len s1) (s3 ad rfl) (rowRel_one s1) h63 hp hm.glob.below.size
        exact ⟨v',w',by rw[hyv];exact r1,r2,r3,r5⟩
      obtain ⟨v',w',r1,r2,r3,r4⟩:=key
      have hzone:∀k,E.Z k->w'.heap[k]?=E.w.heap[k]?:=fun k hk=>r3.block k (hm.glob.zlt k hk) fun e=>by
       cases hold:old with
       | none=>rw[d2 hold] at e;cases e
       | some q =>
        obtain ⟨⟨ro,h3⟩,h4⟩:=d1 q hold
        exact (hm.glob.rown q ro k h3 (by rw[<-h4];exact e.symm)).1 hk
      have hmod:=row_mod0 hm (hb hbn) (ri:=⟨et,e,l.length+m.length,l++m⟩) d1 d2 r3 (fun k hk=>r4.elim (fun h=>.inl (by rw[<-h];exact hk)) (fun h=>.inr (by rw[h] at hk;injection hk with hk;exact Nat.le_of_eq hk)))
       ⟨ws++ys,by simpa using r2,rowRel_append (RowRel.mono (fun _ h=>h) hzone d4) (RowRel.mono (fun _ h=>h) hzone s1),by simp⟩
      refine CoreOk.value (E':=E.withRow b v' w') (v:=v') ?_ rfl hmod.2 hmod.1 ⟨[v'],rfl,⟨⟨?_,.inr rfl,ownsRow_oneCell r2⟩,trivial⟩,fun _=>rfl⟩
      ·simp only[execOp,ho,resolve,pure_bind]
       simp[invoke,builtin,r1,Env.withRow]
      ·show v'=if b=b then v' else _
       rw[if_pos rfl]
     ·cases h
    ·cases h
   ·cases h
  ·cases h
 ·cases h
theorem row_form {r:Nat} {ri:RowI} (h:RowOk E r ri) (h0:0<ri.l.length):∃q cap cur xs,E.ρ r=.slice (some ⟨q,0,none⟩) ri.l.length cap/\E.w0.heap.size<=q/\E.w.heap[q]?=some (.cells cur ri.t (0,0))/\ri.l.length<=cap/\cap<=maxLen/\cur.size=cap*ri.e.size /\
  cur.toList.take (ri.l.length*ri.e.size)=xs/\RowRel E.w E.Z ri.e ri.l xs:=by
 obtain ⟨_,xs,⟨_,h2⟩,h3,_⟩:=h
 rcases h2 with ⟨_,h4⟩ | ⟨b,cap,cur,h2,h4,h5,h6,h7,h8,h9⟩
 ·omega
 ·exact ⟨b,cap,cur,xs,h2,h4,h5,h6,h7,h8,h9,h3⟩
theorem lenRow_ok {x:Operand} {t:TypeId} {r:Nat} {ri:RowI} {et:TypeId} {ts:Array TypeId} (ho:o.op=.call { callee:=.builtin .len,args:=#[x],argTypes:=ts }) (hts:ts[0]?=some t) (ht:elemT P t=some et)
  (hx:RelV E (.c false [.row r]) (a.eval x)) (hr:∃rj,g.r r=some (.some rj)/\rj.e=ri.e/\rj.n=ri.n) (hm:Mod N E a g):CoreOk P N g E a o ⟨.c false [.v (.int .i64 ri.n)],.none,[]⟩:=by
 obtain ⟨rj,hr,_,en⟩:=hr
 have hnn:=(hm.rows r rj hr).2.choose_spec.2.2
 obtain ⟨cs,hv,hrl,_⟩:=hx
 have hu:=elemT_eq ht
 match cs,hrl with
 | [z],hrl =>
  obtain ⟨⟨hz,_⟩,_⟩:=hrl
  obtain ⟨A,c,xs,h1,_⟩:=row_src (hm.rows r rj hr)
  rw[h1] at hz
  refine CoreOk.value (E':=E) (v:=.int .i64 ri.n) ?_ rfl (Keep.refl E) hm ⟨[_],rfl,⟨rfl,trivial⟩,fun _=>rfl⟩
  rw[<-en,hnn]
  simp[execOp,ho,resolve,invoke,builtin,Builtin.len_,hv,hz,mkV,hts,run_underlying hu,goInt]
theorem indexRow_ok {t et:TypeId} {x y:Operand} {r:Nat} {ri:RowI} {k:IntKind} {i:Int} (ho:o.op=.indexAddr t x y) (hx:RelV E (.c false [.row r]) (a.eval x)) (hy:RelV E (.c false [.v (.int k i)]) (a.eval y))
  (ht:elemT P t=some et) (hz:sizeT P et=some ri.e.size) (hr:∃rj,g.r r=some (.some rj)/\rj.e=ri.e/\rj.n=ri.n) (hm:Mod N E a g) (hp:0<=i/\i<ri.n):CoreOk P N g E a o ⟨.c false [.re r i.toNat ri.e.size 0],.none,[inB i ri.n]⟩:=by
 obtain ⟨rj,hr,ee,en⟩:=hr
 have hnn:=(hm.rows r rj hr).2.choose_spec.2.2
 rw[<-en,hnn] at hp
 obtain ⟨cs,hv,hrl,_⟩:=hx
 have hyv:=toV_rel (x:=.int k i) rfl hy
 have hu:=elemT_eq ht
 match cs,hrl with
 | [z],hrl =>
  obtain ⟨⟨hz',hR,_⟩,_⟩:=hrl
  obtain ⟨q,cap,cur,xs,h1,h2,h3,h4,h5,h6,h7,h8⟩:=row_form (hm.rows r rj hr) (by omega)
  have hi:i.toNat<rj.l.length:=by omega
  refine CoreOk.value (E':=E) (v:=.pointer (some ⟨q,i.toNat*ri.e.size+0,none⟩)) ?_ rfl (Keep.refl E) hm ⟨[_],rfl,⟨⟨q,by rw[h1];rfl,rfl,hR⟩,trivial⟩,fun _=>rfl⟩
  simp[execOp,ho,hv,hz',h1,hyv,mkV,Instr.indexAt,asIntOf,run_underlying hu,hp.1,hp.2,run_sizeOf hz,add_lit]
theorem fieldRe_ok {t:TypeId} {x:Operand} {f d:Nat} {r i sz off:Nat} (ho:o.op=.fieldAddr t x f) (hx:RelV E (.c false [.re r i sz off]) (a.eval x)) (hf:fieldT P t f=some d) (hm:Mod N E a g) :
  CoreOk P N g E a o ⟨.c false [.re r i sz (off+d)],.none,[]⟩:=by
 obtain ⟨cs,hv,hr,_⟩:=hx
 match cs,hr with
 | [z],hr =>
  obtain ⟨⟨q,h1,h2,h3⟩,_⟩:=hr
  refine CoreOk.value (E':=E) (v:=.pointer (some ⟨q,i*sz+(off+d),none⟩)) ?_ rfl (Keep.refl E) hm ⟨[_],rfl,⟨⟨q,h1,rfl,h3⟩,trivial⟩,fun _=>rfl⟩
  simp[execOp,ho,hv,mkV,h2,run_fieldAt hf,add_lit,Nat.add_assoc]
theorem loadRe_ok {t:TypeId} {x:Operand} {r i off:Nat} {ri:RowI} {s:SV} (ho:o.op=.load t x) (hx:RelV E (.c false [.re r i ri.e.size off]) (a.eval x)) (hr:g.r r=some (.some ri))
  (hs:partC P t (ri.e.cells (ri.l.getD i ri.e.dflt)) off=some s) (hm:Mod N E a g) (hp0:i<ri.n):CoreOk P N g E a o ⟨s,.none,[Nat.blt i ri.n]⟩:=by
 have hp:i<ri.l.length:=by rw[<-(hm.rows r ri hr).2.choose_spec.2.2];exact hp0
 obtain ⟨cs,hv,hrl,_⟩:=hx
 match cs,hrl with
 | [y],hrl =>
  obtain ⟨⟨q',h1',hy,_⟩,_⟩:=hrl
  obtain ⟨q,cap,cur,xs,h1,h2,h3,h4,h5,h6,h7,h8⟩:=row_form (hm.rows r ri hr) (by omega)
  rw[h1] at h1'
  simp only[Value.ownBlock,Option.some.injEq] at h1'
  subst h1'
  have hget:ri.l[i]?=some (ri.l.getD i ri.e.dflt):=by simp[List.getD,List.getElem?_eq_getElem hp]
  obtain ⟨ecs,g1,g2⟩:=rowRel_at h8 hget
  obtain ⟨v,hrun,hrel⟩:=partC_run hs g1.rel (ad:=⟨q,i*ri.e.size,none⟩) E.w (fun j u hj=>by
   rw[add_lit]
   have:=g2 j u hj
   rw[<-h7,List.getElem?_take] at this
   split at this
   ·simp only[World.cell?,h3]
    simpa using this
   ·cases this)
  refine CoreOk.value (E':=E) (v:=v) ?_ rfl (Keep.refl E) hm hrel
  rw[add_lit] at hrun
  simp[execOp,ho,hv,mkV,hy,Instr.loadAt,Instr.sureAddr,hrun]
theorem rset_mod (hm:Mod N E a g) {r:Nat} {ri:RowI} {l':List ri.e.T} (hr:g.r r=some (.some ri)) {q:Nat} (hq:(E.ρ r).ownBlock=some q) {w':World} (hk:∀k,k≠q->w'.heap[k]?=E.w.heap[k]?) (hos:w'.os=E.w.os) (htp:w'.tape=E.w.tape)
  (hop:w'.output=E.w.output) (hsz:w'.heap.size=E.w.heap.size) (hown:∃xs,w'.ownsRow E.w0.heap.size ri.t ri.e.size (E.ρ r) l'.length xs/\RowRel w' E.Z ri.e l' xs/\ri.n=l'.length):Mod N (E.wset w') a (g.app (.rset r ri.e l'))/\Keep E (E.wset w'):=by
 have hX:Free E fun k=>k=q:=fun k e=>by
  subst e
  exact ⟨(hm.glob.rown r ri k hr hq).1,(hm.row_lt hr hq).1⟩
 have hx:Ext (fun k=>k=q) E (E.wset w'):=⟨rfl,rfl,rfl,rfl,fun _ h=>h,fun k _ h=>hk k h,fun _ _=>rfl,fun _ h=>h,fun _ _=>rfl,fun _ h=>h,Env.same_x⟩
 have gr:∀i,(g.app (.rset r ri.e l')).r i=if i=r then some (.some ⟨ri.t,ri.e,ri.n,l'⟩) else g.r i:=fun i=>by
  show (if i=r then setL ri.e l' (g.r r) else g.r i)=_
  rw[hr]
  simp only[setL]
  rw[Sh.eq?_self]
 have old:∀i x,(g.app (.rset r ri.e l')).r i=some (.some x)->∃y,g.r i=some (.some y):=by
  intro i x h
  rw[gr] at h
  split at h
  ·rename_i e;subst e;exact ⟨ri,hr⟩
  ·exact ⟨x,h⟩
 have xold:∀i x,(g.app (.rset r ri.e l')).r i=some (.x x)->g.r i=some (.x x):=fun i x h=>by
  rw[gr] at h
  split at h
  ·cases h
  ·exact h
 have hxg:XGlob (E.wset w') (g.app (.rset r ri.e l')):=hm.glob.xg.ext rfl (by show _<=w'.heap.size;rw[hsz];exact Nat.le_refl _) (fun i x h=>⟨⟨x,xold i x h⟩,fun _ h=>h⟩) (fun b h=>.inl h) (fun j l h=>.inr ⟨j,l,h,rfl⟩) (fun j x b h h'=>.inr (by
  obtain ⟨y,hy⟩:=old j x h
  exact ⟨j,y,hy,h'⟩))
 have hg:Glob (E.wset w') (g.app (.rset r ri.e l')):=by
  refine ⟨⟨hos.trans hm.glob.below.os,htp.trans hm.glob.below.tape,hop.trans hm.glob.below.output,by show _<=w'.heap.size;rw[hsz];exact hm.glob.below.size,fun k hk'=>?_⟩,fun k h=>?_,hm.glob.z0,hm.glob.zfrom,hm.glob.live,fun i h=>?_,hm.glob.own,hm.glob.inj,
   fun i x k hi hk'=>?_,fun i j x y b hi hj hb hb'=>?_,hxg,hm.glob.gd⟩
  ·refine (hk k (fun e=>?_)).trans (hm.glob.below.block k hk')
   have:=(hX k e).2
   have h2:k<E.w0.heap.size:=hk'
   omega
  ·show k<w'.heap.size
   rw[hsz]
   exact hm.glob.zlt k h
  ·rw[gr]
   split
   ·rfl
   ·exact hm.glob.rlive i h
  ·obtain ⟨y,hy⟩:=old i x hi
   exact hm.glob.rown i y k hy hk'
  ·obtain ⟨x',hx'⟩:=old i x hi
   obtain ⟨y',hy'⟩:=old j y hj
   exact hm.glob.rinj i j x' y' b hx' hy' hb hb'
 refine ⟨hm.move hX hx hg rfl hm.size (fun i s h=>.inl ⟨h,rfl⟩) (fun i l h=>.inl ⟨h,fun e=>(hm.glob.rown r ri q hr hq).2 i l h e⟩) (fun i x h=>?_) (fun i x h=>.inl ⟨xold i x h,rfl,fun b hb e=>(hm.glob.xg.own i x b (xold i x h) hb).2.2.2.2 r ri hr (by rw[e];exact hq)⟩),hx.keep hm.glob hX⟩
 rw[gr] at h
 split at h
 ·rename_i e;subst e
  injection h with h
  injection h with h
  subst h
  exact .inr ⟨(hm.rows i ri hr).1,hown⟩
 ·rename_i e
  exact .inl ⟨h,fun b hb e'=>e (by subst e';exact hm.glob.rinj i r x ri b h hr hb hq)⟩
theorem seg_set {α:Type} (A C B vs:List α) (off:Nat) (h:off+vs.length<=C.length) :
  (A++C++B).take (A.length+off)++vs++(A++C++B).drop (A.length+off+vs.length)=A++(C.take off++vs++C.drop (off+vs.length))++B:=by
 rw[List.append_assoc A C B,List.take_length_add_append,Nat.add_assoc,List.drop_length_add_append,List.take_append_of_le_length (by omega),List.drop_append_of_le_length h]
 simp[List.append_assoc]
theorem storeRe_ok {t:TypeId} {x y:Operand} {r i off n:Nat} {ri:RowI} {ag:Bool} {l':List At} {z:ri.e.T} (ho:o.op=.store t x y) (hx:RelV E (.c false [.re r i ri.e.size off]) (a.eval x)) (hy:RelV E (.c ag l') (a.eval y)) (hr:g.r r=some (.some ri))
  (hz:sizeT P t=some n) (hl:l'.all at1=true) (hn:Nat.beq l'.length n=true) (hfit:Nat.ble (off+n) ri.e.size=true)
  (hw:ri.e.take ((ri.e.cells (ri.l.getD i ri.e.dflt)).take off++l'++(ri.e.cells (ri.l.getD i ri.e.dflt)).drop (off+l'.length))=some (z,[])) (hm:Mod N E a g) (hp0:i<ri.n) :
  CoreOk P N g E a o ⟨.c false [.u],.rset r ri.e (ri.l.set i z),[Nat.blt i ri.n]⟩:=by
 have hp:i<ri.l.length:=by rw[<-(hm.rows r ri hr).2.choose_spec.2.2];exact hp0
 obtain ⟨cs,hv,hrl,_⟩:=hx
 obtain ⟨vs,hv',hr',h1'⟩:=hy
 have hone:=ats1_one hl hr'
 simp only[Nat.beq_eq] at hn
 simp only[Nat.ble_eq] at hfit
 have hlen:=hr'.length
 match cs,hrl with
 | [p],hrl =>
  obtain ⟨⟨q',g1',hp',_⟩,_⟩:=hrl
  obtain ⟨q,cap,cur,xs,h1,h2,h3,h4,h5,h6,h7,h8⟩:=row_form (hm.rows r ri hr) (by omega)
  rw[h1] at g1'
  simp only[Value.ownBlock,Option.some.injEq] at g1'
  subst g1'
  have hget:ri.l[i]?=some (ri.l.getD i ri.e.dflt):=by simp[List.getD,List.getElem?_eq_getElem hp]
  obtain ⟨ecs,e1,e2,e3⟩:=rowRel_get h8 hget
  have hel:=e1.len
  have hxl:=rowRel_len h8
  have hcap:ri.l.length*ri.e.size<=cur.size:=by rw[h6];exact Nat.mul_le_mul_right _ h4
  have hst:=run_storeCells_at P q (i*ri.e.size+off) ri.t vs 0 cur E.w h3 (by omega) hone
  simp only[Nat.add_zero] at hst
  obtain ⟨c1,c2,hc,hd,hc2⟩:=take_rel hw (((e1.rel.take off).append hr').append (e1.rel.drop _))
  have hc2:c2=[]:=by
   match c2,hc2 with
   | [],_=>rfl
  subst hc2
  rw[List.append_nil,hlen] at hc
  subst hc
  have hxs:xs.take (i*ri.e.size+off)++vs++xs.drop (i*ri.e.size+off+vs.length)=xs.take (i*ri.e.size)++(ecs.take off++vs++ecs.drop (off+vs.length))++xs.drop (i*ri.e.size+ri.e.size):=by
   have hA:(xs.take (i*ri.e.size)).length=i*ri.e.size:=by simp;omega
   have:=seg_set (xs.take (i*ri.e.size)) ecs (xs.drop (i*ri.e.size+ri.e.size)) vs off (by omega)
   rw[<-e2,hA] at this
   exact this
  have hzone:∀k,E.Z k->(E.w.setRow q (cur.toList.take (i*ri.e.size+off)++vs++cur.toList.drop (i*ri.e.size+off+vs.length)).toArray).heap[k]?=E.w.heap[k]?:=fun k hk=>setRow_other E.w q k _ fun e=>by
   have:=(hm.glob.rown r ri q hr (by rw[h1];rfl)).1
   exact this (e ▸ hk)
  have hown:∃xs',(E.w.setRow q (cur.toList.take (i*ri.e.size+off)++vs++cur.toList.drop (i*ri.e.size+off+vs.length)).toArray).ownsRow E.w0.heap.size ri.t ri.e.size (E.ρ r) (ri.l.set i z).length xs'/\RowRel (E.w.setRow q (cur.toList.take (i*ri.e.size+off)++vs++cur.toList.drop (i*ri.e.size+off+vs.length)).toArray) E.Z ri.e (ri.l.set i z) xs'/\ri.n=(ri.l.set i z).length:=by
   refine ⟨xs.take (i*ri.e.size)++(ecs.take off++vs++ecs.drop (off+vs.length))++xs.drop (i*ri.e.size+ri.e.size),⟨?_,.inr ⟨q,cap,_,by rw[h1];simp,h2,setRow_heap E.w _ _ _ ri.t (0,0) h3,by simpa using h4,h5,?_,?_⟩⟩,?_,by simpa using (hm.rows r ri hr).2.choose_spec.2.2⟩
   ·rw[<-hxs]
    simp only[List.length_append,List.length_take,List.length_drop,List.length_set]
    omega
   ·simp only[List.size_toArray,List.length_append,List.length_take,List.length_drop,Array.length_toList]
    omega
   ·rw[<-hxs,<-h7]
    simp only[List.length_set]
    have hin:i*ri.e.size+off+vs.length<=ri.l.length*ri.e.size:=by omega
    rw[List.take_append,List.take_of_length_le (by simp;omega)]
    have e1:List.take (i*ri.e.size+off) (List.take (ri.l.length*ri.e.size) cur.toList)=cur.toList.take (i*ri.e.size+off):=by
     rw[List.take_take];congr 1;omega
    rw[e1,List.drop_take]
    congr 2
    simp only[List.length_append,List.length_take,Array.length_toList]
    omega
   ·refine RowRel.mono (fun _ h=>h) hzone ?_
    exact rowRel_set h8 hp hd
  have hsm:=rset_mod hm hr (l':=ri.l.set i z) (q:=q) (by rw[h1];rfl) (fun k hk=>setRow_other E.w _ k _ hk) rfl rfl rfl (by simp[World.setRow]) hown
  refine CoreOk.skip (E':=E.wset (E.w.setRow q (cur.toList.take (i*ri.e.size+off)++vs++cur.toList.drop (i*ri.e.size+off+vs.length)).toArray)) ?_ rfl hsm.2 hsm.1 ⟨[_],rfl,⟨trivial,trivial⟩,fun _=>rfl⟩
  have hsz:vs.length=n:=by omega
  have hv0:a.eval x=.pointer (some ⟨q,i*ri.e.size+off,none⟩):=by rw[hv,hp'];rfl
  simp only[execOp,ho,hv0,hv',Instr.storeAt,Instr.sureAddr,storeVar,pure_bind,Sem.run_bind,run_sizeOf hz,Result.andThen_ok]
  have hc:=cells_mkV h1' hone
  simp only[hc,List.size_toArray,hsz,ne_eq,not_true_eq_false,if_false]
  simp[hst,Env.wset,hsz]
def Sh.flat:Sh->Bool
 | .sl _=>false
 | .ref=>false
 | .pair a b=>a.flat&&b.flat
 | .agg e=>e.flat
 | _=>true
def flats:List Sh->Bool
 | []=>true
 | s ::r=>s.flat&&flats r
def RSh.flat:RSh->Bool
 | .one s=>s.flat
 | .tup l=>flats l
theorem Dat.flat {w w':World} {Z Z':Nat->Prop}:∀{s:Sh} {x:s.T} {cs:List Value},s.flat=true->Dat w Z s x cs->Dat w' Z' s x cs
 | .int _,_,_,_,h=>h
 | .bool,_,_,_,h=>h
 | .str,_,_,_,h=>h
 | .sl _,_,_,hf,_=>by cases hf
 | .pair a b,_,_,hf,h=>by
  simp only[Sh.flat,Bool.and_eq_true] at hf
  simp only[Dat] at h ⊢
  obtain ⟨c1,c2,h1,h2,h3⟩:=h
  exact ⟨c1,c2,h1,Dat.flat hf.1 h2,Dat.flat hf.2 h3⟩
 | .agg e,x,_,hf,h=>Dat.flat (s:=e) (x:=x) hf h
theorem RowRel.flat {w:World} {Z Z':Nat->Prop} {e:Sh} (hf:e.flat=true):∀{l:List e.T} {xs:List Value},RowRel w Z e l xs->RowRel w Z' e l xs
 | [],_,h=>h
 | _ ::_,_,⟨c,r,h1,h2,h3⟩=>⟨c,r,h1,Dat.flat hf h2,RowRel.flat hf h3⟩
theorem DatVs.flat {w w':World} {Z Z':Nat->Prop}:∀{l:List Sh} {x:TsS l} {vs:List Value},flats l=true->DatVs w Z l x vs->DatVs w' Z' l x vs
 | [],_,_,_,h=>h
 | s ::r,x,vs,hf,h=>by
  simp only[flats,Bool.and_eq_true] at hf
  simp only[DatVs] at h ⊢
  obtain ⟨v,vs',h1,⟨cs,h2,h3,h4⟩,h5⟩:=h
  exact ⟨v,vs',h1,⟨cs,Dat.flat hf.1 h2,h3,h4⟩,DatVs.flat hf.2 h5⟩
theorem RetV.flat {w w':World} {Z Z':Nat->Prop} {r:RSh} {x:r.T} {v:Value} (hf:r.flat=true) (h:RetV w Z r x v):RetV w' Z' r x v:=by
 cases r with
 | one s=>obtain ⟨cs,h1,h2,h3⟩:=h;exact ⟨cs,Dat.flat hf h1,h2,h3⟩
 | tup l=>obtain ⟨vs,h1,h2⟩:=h;exact ⟨vs,h1,DatVs.flat hf h2⟩
def rowsL:List At->List Nat
 | []=>[]
 | .row r ::l=>r ::rowsL l
 | _ ::l=>rowsL l
def rowsT:List (Bool×List At)->List Nat
 | []=>[]
 | c ::l=>rowsL c.2++rowsT l
def rowsS:SV->List Nat
 | .c _ l=>rowsL l
 | .tup l=>rowsT l
def rowsVs:List SV->List Nat
 | []=>[]
 | s ::l=>rowsS s++rowsVs l
def guardB {R:Type}:List Bool->Option R->Option R
 | [],x=>x
 | b ::l,x=>bif allB (b ::l) then x else none
theorem guardB_some {R:Type} {p:List Bool} {x:Option R} {z:R} (h:guardB p x=some z):allB p=true/\x=some z:=by
 cases p with
 | nil=>exact ⟨rfl,h⟩
 | cons b l =>
  simp only[guardB] at h
  cases hb:allB (b ::l) with
  | true=>rw[hb] at h;exact ⟨rfl,h⟩
  | false=>rw[hb] at h;cases h
def rowD {α:Type} (a:List (Option (List α))) (i:Nat):List α:=(a.getD i none).getD []
theorem rowD_get {e:Sh} {a:List (Option (List e.T))} {i:Nat} (h:0<(rowD a i).length):a[i]?=some (some (rowD a i)):=by
 unfold rowD at h ⊢
 rw[List.getD_eq_getElem?_getD] at h ⊢
 cases ha:a[i]? with
 | none=>rw[ha] at h;simp at h
 | some o =>
  cases o with
  | none=>rw[ha] at h;simp at h
  | some l=>rfl
def liveB {α:Type} (a:List (Option (List α))) (i:Nat):Bool:=(a.getD i none).isSome
theorem liveB_get {e:Sh} {a:List (Option (List e.T))} {i:Nat} (h:liveB a i=true):a[i]?=some (some (rowD a i)):=by
 unfold rowD liveB at *
 rw[List.getD_eq_getElem?_getD] at h ⊢
 cases ha:a[i]? with
 | none=>rw[ha] at h;simp at h
 | some o =>
  cases o with
  | none=>rw[ha] at h;simp at h
  | some l=>rfl
theorem odat_len {q:Nat}:∀{s:Sh} {x:s.T} {cs:List Value},ODat E q s x cs->cs.length=s.size
 | .ref,i,cs,⟨h1,_,_⟩=>by subst h1;rfl
 | .pair a b,x,cs,h=>by
  simp only[ODat] at h
  obtain ⟨c1,c2,rfl,h1,h2⟩:=h
  simp[Sh.size,odat_len h1,odat_len h2]
 | .agg e,x,cs,h=>odat_len (s:=e) (x:=x) h
 | .int _,_,_,h=>Dat.len h
 | .bool,_,_,h=>Dat.len h
 | .str,_,_,h=>Dat.len h
 | .sl _,_,_,h=>Dat.len h
theorem ownsRow_form {w:World} {base:Nat} {t:TypeId} {sz n:Nat} {v:Value} {xs:List Value} (h:w.ownsRow base t sz v n xs) (h0:0<n):∃q cap cur,v=.slice (some ⟨q,0,none⟩) n cap/\base<=q/\w.heap[q]?=some (.cells cur t (0,0))/\n<=cap/\cap<=maxLen/\cur.size=cap*sz/\cur.toList.take (n*sz)=xs:=by
 obtain ⟨_,h2⟩:=h
 rcases h2 with ⟨_,h4⟩ | ⟨b,cap,cur,h2,h4,h5,h6,h7,h8,h9⟩
 ·omega
 ·exact ⟨b,cap,cur,h2,h4,h5,h6,h7,h8,h9⟩
theorem ownsRow_slice {w:World} {base:Nat} {t:TypeId} {sz n:Nat} {v:Value} {xs:List Value} (h:w.ownsRow base t sz v n xs):∃A c,v=.slice A n c:=by
 rcases h.2 with ⟨h2,h4⟩ | ⟨b,cap,cur,h2,_⟩
 ·exact ⟨none,0,by rw[h2,h4]⟩
 ·exact ⟨_,_,h2⟩
abbrev unref (e:Sh):Sh->Sh
 | .ref=>.sl e
 | .pair a b=>.pair (unref e a) (unref e b)
 | .agg s=>.agg (unref e s)
 | .int k=>.int k
 | .bool=>.bool
 | .str=>.str
 | .sl s=>.sl s
def frz {e:Sh} (a:List (Option (List e.T))):(s:Sh)->s.T->(unref e s).T
 | .ref,i=>rowD a i
 | .pair s t,x=>(frz a s x.1,frz a t x.2)
 | .agg s,x=>frz a s x
 | .int _,x=>x
 | .bool,x=>x
 | .str,x=>x
 | .sl _,x=>x
def frzT {e:Sh} (a:List (Option (List e.T))) (s:Sh) (l:List s.T):List (unref e s).T:=l.map (frz a s)
def liveS {e:Sh} (a:List (Option (List e.T))):(s:Sh)->s.T->Bool
 | .ref,i=>liveB a i
 | .pair s t,x=>liveS a s x.1&&liveS a t x.2
 | .agg s,x=>liveS a s x
 | _,_=>true
def liveT {e:Sh} (a:List (Option (List e.T))) (s:Sh) (l:List s.T):Bool:=l.all fun x=>liveS a s x
theorem unref_size (e:Sh):∀s:Sh,(unref e s).size=s.size
 | .ref=>rfl
 | .pair a b=>by simp only[unref,Sh.size,unref_size e a,unref_size e b]
 | .agg s=>unref_size e s
 | .int _=>rfl
 | .bool=>rfl
 | .str=>rfl
 | .sl _=>rfl
theorem own_dat {w:World} {Z:Nat->Prop} {base:Nat} {t:TypeId} {e:Sh} {v:Value} {l:List e.T} {xs:List Value} (h:w.ownsRow base t e.size v l.length xs) (h2:RowRel w Z e l xs) (hb:∀b,v.ownBlock=some b->Z b):Dat w Z (.sl e) l [v]:=by
 by_cases h0:0<l.length
 ·obtain ⟨q,cap,cur,h1,h3,h4,h5,h6,h7,h8⟩:=ownsRow_form h h0
  refine ⟨some ⟨q,0,none⟩,cap,by rw[h1],h5,fun h=>(by cases h),fun _=>⟨⟨q,0,none⟩,rfl,hb q (by rw[h1];rfl),fun k x hx=>?_⟩⟩
  obtain ⟨ecs,g1,g2⟩:=rowRel_at h2 hx
  refine ⟨ecs,g1,fun j v hj=>?_⟩
  rw[add_lit,Nat.zero_add]
  have:=g2 j v hj
  rw[<-h8,List.getElem?_take] at this
  split at this
  ·simp only[World.cell?,h4]
   simpa using this
  ·cases this
 ·have hl:l.length=0:=by omega
  obtain ⟨_,h2⟩:=h
  rcases h2 with ⟨h2,_⟩ | ⟨q,cap,cur,h2,_,_,h3,_⟩
  ·exact ⟨none,0,by rw[h2,hl],by omega,fun _=>rfl,fun h=>absurd h h0⟩
  ·exact ⟨some ⟨q,0,none⟩,cap,by rw[h2],h3,fun h=>(by cases h),fun h=>absurd h h0⟩
theorem odat_dat {E:Env} {Z':Nat->Prop} {q:Nat} {e:Sh} {ar:List (Option (List e.T))} (hZ:∀b,E.Z b->Z' b) (hin:∀i l',ar[i]?=some (some l')->Dat E.w Z' (.sl e) l' [E.ι q i]):∀{s:Sh} {x:s.T} {cs:List Value},ODat E q s x cs->liveS ar s x=true->Dat E.w Z' (unref e s) (frz ar s x) cs
 | .ref,i,cs,⟨h1,_,_⟩,hl=>by subst h1;exact hin i _ (liveB_get hl)
 | .pair a b,x,cs,h,hl=>by
  simp only[ODat] at h
  simp only[liveS,Bool.and_eq_true] at hl
  obtain ⟨c1,c2,rfl,h1,h2⟩:=h
  exact ⟨c1,c2,rfl,odat_dat hZ hin h1 hl.1,odat_dat hZ hin h2 hl.2⟩
 | .agg s,x,cs,h,hl=>odat_dat (s:=s) (x:=x) hZ hin h hl
 | .int _,_,_,h,_=>Dat.mono hZ (fun _ _=>rfl) h
 | .bool,_,_,h,_=>Dat.mono hZ (fun _ _=>rfl) h
 | .str,_,_,h,_=>Dat.mono hZ (fun _ _=>rfl) h
 | .sl s,x,cs,h,_=>Dat.mono (s:=.sl s) (x:=x) hZ (fun _ _=>rfl) h
theorem tab_row {E:Env} {Z':Nat->Prop} {q:Nat} {e:Sh} {ar:List (Option (List e.T))} (hZ:∀b,E.Z b->Z' b) (hin:∀i l',ar[i]?=some (some l')->Dat E.w Z' (.sl e) l' [E.ι q i]) {s:Sh}:∀{l:List s.T} {xs:List Value},TabRel E q s l xs->liveT ar s l=true->RowRel E.w Z' (unref e s) (frzT ar s l) xs
 | [],_,h,_=>h
 | _ ::_,_,⟨c,r,h1,h2,h3⟩,hl=>by
  simp only[liveT,List.all_cons,Bool.and_eq_true] at hl
  exact ⟨c,r,h1,odat_dat hZ hin h2 hl.1,tab_row hZ hin h3 hl.2⟩
def thawA (rk:Rk):At->At
 | .row r=>match rk r with
  | some (.some ri)=>.sl ri.e ri.l
  | some (.x (.tab _ s l _ e a))=>.sl (unref e s) (frzT a s l)
  | _=>.row r
 | x=>x
def thawL (rk:Rk):List At->List At
 | []=>[]
 | x ::l=>thawA rk x ::thawL rk l
def thawT (rk:Rk):List (Bool×List At)->List (Bool×List At)
 | []=>[]
 | c ::l=>(c.1,thawL rk c.2) ::thawT rk l
def thawS (rk:Rk):SV->SV
 | .c ag l=>.c ag (thawL rk l)
 | .tup l=>.tup (thawT rk l)
def thawVs (rk:Rk):List SV->List SV
 | []=>[]
 | s ::l=>thawS rk s ::thawVs rk l
def liveR (rk:Rk):List Nat->List Bool
 | []=>[]
 | r ::u=>match rk r with
  | some (.x (.tab _ s l _ _ a))=>liveT a s l ::liveR rk u
  | _=>liveR rk u
def liveOk (rk:Rk) (r:Nat):Prop:=∀t s l ti (e:Sh) (a:List (Option (List e.T))),rk r=some (.x (.tab t s l ti e a))->liveT a s l=true
theorem liveR_ok {rk:Rk}:∀{u:List Nat},allB (liveR rk u)=true->∀r ∈ u,liveOk rk r
 | q ::u,h,r,hr=>by
  simp only[liveR] at h
  split at h
  ·rename_i t s l ti e a hq
   obtain ⟨h1,h2⟩:=allB_cons h
   rcases List.mem_cons.1 hr with rfl | hr
   ·intro t' s' l' ti' e' a' hq'
    rw[hq] at hq'
    cases hq'
    exact h1
   ·exact liveR_ok h2 r hr
  ·rename_i hn
   rcases List.mem_cons.1 hr with rfl | hr
   ·intro t' s' l' ti' e' a' hq'
    exact (hn _ _ _ _ _ _ hq').elim
   ·exact liveR_ok h r hr
def noX (rk:Rk):Rk:=fun i=>match rk i with
 | some (.x _)=>none
 | y=>y
theorem noX_sub {rk:Rk} {i:Nat} {r:RowS} (h:noX rk i=some r):rk i=some r:=by
 unfold noX at h
 split at h
 ·cases h
 ·exact h
theorem noX_live {rk:Rk} (r:Nat):liveOk (noX rk) r:=fun t s l ti e a h=>by
 have h2:=noX_sub h
 unfold noX at h
 rw[h2] at h
 cases h
def Env.zp (E:Env) (g:Look) (u:List Nat):Nat->Prop:=fun b=>E.Z b\/∃r ∈ u,(∃ri,g.r r=some (.some ri)/\(E.ρ r).ownBlock=some b)\/∃x,g.r r=some (.x x)/\E.φ r b
def Env.zone (E:Env) (g:Look) (u:List Nat):Env:={ E with Z:=E.zp g u }
theorem row_dat (hm:Mod N E a g) {u:List Nat} {r:Nat} {ri:RowI} (hr:g.r r=some (.some ri)) (hu:r ∈ u):Dat E.w (E.zp g u) (.sl ri.e) ri.l [E.ρ r]:=by
 obtain ⟨_,xs,h1,h2,_⟩:=hm.rows r ri hr
 exact own_dat h1 (RowRel.mono (fun _ h=>.inl h) (fun _ _=>rfl) h2) fun b hb=>.inr ⟨r,hu,.inl ⟨ri,hr,hb⟩⟩
theorem tab_dat (hm:Mod N E a g) {u:List Nat} {r:Nat} {t:TypeId} {s:Sh} {l:List s.T} {ti:TypeId} {e:Sh} {ar:List (Option (List e.T))} (hr:g.r r=some (.x (.tab t s l ti e ar))) (hu:r ∈ u) (hl:liveT ar s l=true):Dat E.w (E.zp g u) (.sl (unref e s)) (frzT ar s l) [E.ρ r]:=by
 obtain ⟨_,⟨xs,h1,h2⟩,h3,_,h5,_⟩:=hm.xs r _ hr
 have hz:∀b,E.φ r b->E.zp g u b:=fun b hb=>.inr ⟨r,hu,.inr ⟨_,hr,hb⟩⟩
 refine own_dat (t:=t) (base:=E.w0.heap.size) (xs:=xs) (by rw[unref_size,frzT,List.length_map];exact h1) (tab_row (fun _ h=>.inl h) (fun i l' hi=>?_) h2 hl) fun b hb=>hz b (h3 b hb)
 obtain ⟨⟨ys,g1,g2⟩,_,g4⟩:=h5 i l' hi
 exact own_dat g1 (RowRel.mono (fun _ h=>.inl h) (fun _ _=>rfl) g2) fun b hb=>hz b (g4 b hb).1
theorem thawA_rel (hm:Mod N E a g) {rk:Rk} (hrk:∀i r,rk i=some r->g.r i=some r) {u:List Nat} (hlv:∀r ∈ u,liveOk rk r):∀{x:At} {v:Value},RelA E x v->(∀r,x=.row r->r ∈ u)->RelA (E.zone g u) (thawA rk x) v
 | .u,_,_,_=>trivial
 | .v _,_,h,_=>h
 | .ptr _ _,_,h,_=>h
 | .clo _ _,_,h,_=>h
 | .sl e l,v,h,_=>Dat.mono (fun _ h=>.inl h) (fun _ _=>rfl) h
 | .row r,v,h,hu=>by
  obtain ⟨h1,h2,h3⟩:=h
  simp only[thawA]
  split
  ·rename_i ri hri
   subst h1
   exact row_dat hm (hrk r _ hri) (hu r rfl)
  ·rename_i t s l ti e ar hri
   subst h1
   exact tab_dat hm (hrk r _ hri) (hu r rfl) (hlv r (hu r rfl) _ _ _ _ _ _ hri)
  ·exact ⟨h1,h2,h3⟩
 | .rf s x o,v,h,_=>by
  obtain ⟨ad,cs,h1,h2,h3,h4⟩:=h
  exact ⟨ad,cs,h1,h2.imp (fun h=>.inl h) id,Dat.mono (fun _ h=>.inl h) (fun _ _=>rfl) h3,h4⟩
 | .re _ _ _ _,_,h,_=>h
 | .sub _ _ _ _,_,h,_=>h
 | .ae _ _ _ _ _ _,_,h,_=>h
 | .sn e l,v,h,_=>⟨h.1,Dat.mono (fun _ h=>.inl h) (fun _ _=>rfl) h.2⟩
 | .ir _ _,_,h,_=>h
 | .ie _ _ _ _ _,_,h,_=>h
 | .fn _ _ _,_,h,_=>by
  obtain ⟨q,cap,h1,h2,h3⟩:=h
  exact ⟨q,cap,h1,h2,fun w' Z' x y vals hA hZ=>h3 w' Z' x y vals ⟨hA.1,fun ad u hz hc=>hA.2 ad u (.inl hz) hc⟩ fun b hb=>hZ b (.inl hb)⟩
theorem thawL_rel (hm:Mod N E a g) {rk:Rk} (hrk:∀i r,rk i=some r->g.r i=some r) {u:List Nat} (hlv:∀r ∈ u,liveOk rk r):∀{l:List At} {vs:List Value},RelL E l vs->(∀r ∈ rowsL l,r ∈ u)->RelL (E.zone g u) (thawL rk l) vs
 | [],[],_,_=>trivial
 | x ::l,v ::vs,h,hu=>by
  refine ⟨thawA_rel hm hrk hlv h.1 fun r e=>hu r (by rw[e];simp[rowsL]),thawL_rel hm hrk hlv h.2 fun r hr=>hu r ?_⟩
  cases x<;>first | exact hr | exact List.mem_cons_of_mem _ hr
 | [],_ ::_,h,_=>h.elim
 | _ ::_,[],h,_=>h.elim
theorem thawC_rel (hm:Mod N E a g) {rk:Rk} (hrk:∀i r,rk i=some r->g.r i=some r) {u:List Nat} (hlv:∀r ∈ u,liveOk rk r) {ag:Bool} {l:List At} {v:Value} (h:RelC E ag l v) (hu:∀r ∈ rowsL l,r ∈ u):RelC (E.zone g u) ag (thawL rk l) v :=
 let ⟨cs,h1,h2,h3⟩:=h
 ⟨cs,h1,thawL_rel hm hrk hlv h2 hu,h3⟩
theorem thawT_rel (hm:Mod N E a g) {rk:Rk} (hrk:∀i r,rk i=some r->g.r i=some r) {u:List Nat} (hlv:∀r ∈ u,liveOk rk r):∀{l:List (Bool×List At)} {vs:List Value},RelT E l vs->(∀r ∈ rowsT l,r ∈ u)->RelT (E.zone g u) (thawT rk l) vs
 | [],[],_,_=>trivial
 | _ ::_,_ ::_,h,hu=>⟨thawC_rel hm hrk hlv h.1 fun r hr=>hu r (List.mem_append_left _ hr),thawT_rel hm hrk hlv h.2 fun r hr=>hu r (List.mem_append_right _ hr)⟩
 | [],_ ::_,h,_=>h.elim
 | _ ::_,[],h,_=>h.elim
theorem thawS_rel (hm:Mod N E a g) {rk:Rk} (hrk:∀i r,rk i=some r->g.r i=some r) {u:List Nat} (hlv:∀r ∈ u,liveOk rk r):∀{s:SV} {v:Value},RelV E s v->(∀r ∈ rowsS s,r ∈ u)->RelV (E.zone g u) (thawS rk s) v
 | .c _ _,_,h,hu=>thawC_rel hm hrk hlv h hu
 | .tup _,_,⟨vs,h1,h2⟩,hu=>⟨vs,h1,thawT_rel hm hrk hlv h2 hu⟩
theorem zp_lt (hm:Mod N E a g) (u:List Nat):∀b,E.zp g u b->b<E.w.heap.size:=fun b hb=>by
 rcases hb with hb | ⟨r,_,⟨ri,h1,h2⟩ | ⟨x,h1,h2⟩⟩
 ·exact hm.glob.zlt b hb
 ·exact (hm.row_lt h1 h2).2
 ·exact (hm.glob.xg.own r x b h1 h2).2.1
theorem zone_mod (hm:Mod N E a g) (u:List Nat):Mod N (E.zone g u) a (g.app (.rkill u))/\Keep E (E.zone g u):=by
 have hx:Ext (fun _=>False) E (E.zone g u):=⟨rfl,rfl,rfl,rfl,fun _ h=>.inl h,fun _ _ _=>rfl,fun _ _=>rfl,fun _ h=>h,fun _ _=>rfl,fun _ h=>h,Env.same_x⟩
 have gr:∀i,(g.app (.rkill u)).r i=if i ∈ u then some .none else g.r i:=fun i=>rfl
 have live:∀i r,(g.app (.rkill u)).r i=some (.some r)->g.r i=some (.some r)/\i ∉ u:=fun i r h=>by
  rw[gr] at h
  split at h
  ·cases h
  ·rename_i hu;exact ⟨h,hu⟩
 have xold:∀i x,(g.app (.rkill u)).r i=some (.x x)->g.r i=some (.x x)/\i ∉ u:=fun i x h=>by
  rw[gr] at h
  split at h
  ·cases h
  ·rename_i hu;exact ⟨h,hu⟩
 have hxg:XGlob (E.zone g u) (g.app (.rkill u)):=by
  refine ⟨fun i x b h hb=>?_,fun i j x y b h h'=>hm.glob.xg.inj i j x y b (xold i x h).1 (xold j y h').1⟩
  obtain ⟨h1,h2⟩:=xold i x h
  obtain ⟨g1,g2,g3,g4,g5⟩:=hm.glob.xg.own i x b h1 hb
  refine ⟨g1,g2,fun hz=>?_,g4,fun j r hj=>g5 j r (live j r hj).1⟩
  rcases hz with hz | ⟨r,hr,⟨ri,k1,k2⟩ | ⟨y,k1,k2⟩⟩
  ·exact g3 hz
  ·exact g5 r ri k1 k2
  ·exact h2 (by rw[hm.glob.xg.inj i r x y b h1 k1 hb k2];exact hr)
 refine ⟨hm.move (Free.none E) hx ⟨hm.glob.below,zp_lt hm u,fun b h=>.inl (hm.glob.z0 b h),fun b h=>?_,hm.glob.live,fun r h=>?_,fun i l h=>⟨(hm.glob.own i l h).1,fun hz=>?_⟩,hm.glob.inj,fun i r b h hb=>?_,fun i j r r' b h h' hb hb'=>hm.glob.rinj i j r r' b (live i r h).1 (live j r' h').1 hb hb',hxg,hm.glob.gd⟩
  rfl hm.size (fun i s h=>.inl ⟨h,rfl⟩) (fun i l h=>.inl ⟨h,id⟩) (fun i r h=>.inl ⟨(live i r h).1,fun _ _=>id⟩) (fun i x h=>.inl ⟨(xold i x h).1,rfl,fun _ _=>id⟩),hx.keep hm.glob (Free.none E)⟩
 ·rcases h with h | ⟨r,_,⟨ri,h1,h2⟩ | ⟨x,h1,h2⟩⟩
  ·exact hm.glob.zfrom b h
  ·exact .inr (hm.row_lt h1 h2).1
  ·exact .inr (hm.glob.xg.own r x b h1 h2).1
 ·rw[gr]
  split
  ·rfl
  ·exact hm.glob.rlive r h
 ·rcases hz with hz | ⟨r,_,⟨ri,h1,h2⟩ | ⟨x,h1,h2⟩⟩
  ·exact (hm.glob.own i l h).2 hz
  ·exact (hm.glob.rown r ri _ h1 h2).2 i l h rfl
  ·exact (hm.glob.xg.own r x _ h1 h2).2.2.2.1 i l h rfl
 ·obtain ⟨h1,h2⟩:=live i r h
  obtain ⟨h3,h4⟩:=hm.glob.rown i r b h1 hb
  refine ⟨fun hz=>?_,h4⟩
  rcases hz with hz | ⟨q,hq,⟨ri,h5,h6⟩ | ⟨x,h5,h6⟩⟩
  ·exact h3 hz
  ·exact h2 (by rw[hm.glob.rinj i q r ri b h1 h5 hb h6];exact hq)
  ·exact (hm.glob.xg.own q x b h5 h6).2.2.2.2 i r h1 hb
end
end Dn
end Go.Proofs.YtlfdhaiigdllcaaGreatDoor
