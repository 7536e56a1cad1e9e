/- A symbolic executor: arrays, parts of slices, structs that are built, strings by their bytes, new rows of a length. -/
import Derived.Laws.DeepStrings4
import Derived.Laws.Cover3
import Derived.Test.YtegbncajloeepaaGreatMgC

namespace Go.Proofs.YtegbncajloeepaaGreat
namespace Dn
open Go.RowKit
section
variable {P:Program} {N:Nat} {g:Look} {E:Env} {a:Act} {o:Oper}
def els (e:Sh):Nat->List At->Option (List e.T)
 | 0,_=>some []
 | n+1,l=>match e.take l with
  | some (x,r)=>match els e n r with
   | some xs=>some (x ::xs)
   | none=>none
  | none=>none
def si (e:Sh):List e.T->List At
 | []=>[]
 | x ::l=>e.cells x++si e l
def qS {α:Type}:List α->Nat->Nat->α->List α
 | [],_,_,_=>[]
 | x ::l,k,i,z=>(bif Nat.beq i k then z else x) ::qS l (k+1) i z
theorem zN {α:Type}:∀{l:List α} {k i:Nat} {z:α},qS l k (k+i) z=l.set i z
 | [],_,_,_=>rfl
 | x ::l,k,0,z=>by
  simp only[qS,Nat.add_zero,List.set_cons_zero]
  have:Nat.beq k k=true:=Nat.beq_refl k
  rw[this]
  have h:∀(l:List α) (j:Nat),k<j->qS l j k z=l:=by
   intro l
   induction l with
   | nil=>intro j _;rfl
   | cons y l ih =>
    intro j hj
    have hn:Nat.beq k j=false:=by
     cases h:Nat.beq k j with
     | false=>rfl
     | true=>have:=Nat.eq_of_beq_eq_true h;omega
    simp only[qS,hn,cond_false,ih (j+1) (by omega)]
  rw[h l (k+1) (by omega)]
  rfl
 | x ::l,k,i+1,z=>by
  have hn:Nat.beq (k+(i+1)) k=false:=by
   cases h:Nat.beq (k+(i+1)) k with
   | false=>rfl
   | true=>have:=Nat.eq_of_beq_eq_true h;omega
  simp only[qS,hn,cond_false,List.set_cons_succ]
  rw[show k+(i+1)=(k+1)+i by omega,zN]
theorem vg {e:Sh}:∀{n:Nat} {l:List At} {xs:List e.T},els e n l=some xs->xs.length=n
 | 0,_,_,h=>by simp only[els,Option.some.injEq] at h;subst h;rfl
 | n+1,l,xs,h=>by
  simp only[els] at h
  split at h
  ·split at h
   ·rename_i ys hy
    injection h with h
    subst h
    simp[vg hy]
   ·cases h
  ·cases h
theorem vO {e:Sh}:∀{n:Nat} {l:List At} {xs:List e.T} {vs:List Value},els e n l=some xs->cB E l vs->∀k x,xs[k]?=some x->∃ecs,Dat E.w E.Z e x ecs/\∀j v,ecs[j]?=some v->vs[k*e.size+j]?=some v
 | 0,_,_,_,h,_,k,x,hk=>by simp only[els,Option.some.injEq] at h;subst h;simp at hk
 | n+1,l,xs,vs,h,hr,k,x,hk=>by
  simp only[els] at h
  split at h
  ·rename_i y r hy
   split at h
   ·rename_i ys hys
    injection h with h
    subst h
    obtain ⟨c1,c2,rfl,hd,h2⟩:=dP hy hr
    have hl:=hd.len
    cases k with
    | zero =>
     simp only[List.getElem?_cons_zero,Option.some.injEq] at hk
     subst hk
     refine ⟨c1,hd,fun j v hj=>?_⟩
     have:=(List.getElem?_eq_some_iff.1 hj).1
     rw[Nat.zero_mul,Nat.zero_add,List.getElem?_append_left this]
     exact hj
    | succ k =>
     simp only[List.getElem?_cons_succ] at hk
     obtain ⟨ecs,g1,g2⟩:=vO hys h2 k x hk
     refine ⟨ecs,g1,fun j v hj=>?_⟩
     rw[List.getElem?_append_right (by rw[hl,Nat.add_mul];omega),hl,show (k+1)*e.size+j - e.size=k*e.size+j by rw[Nat.add_mul];omega]
     exact g2 j v hj
   ·cases h
  ·cases h
theorem HH {e:Sh}:∀{n:Nat} {l:List At} {xs:List e.T} {vs:List Value} {k:Nat} {z:e.T} {zs:List Value},els e n l=some xs->cB E l vs->l.length=n*e.size->k<n->Dat E.w E.Z e z zs ->
  cB E (si e (qS xs 0 k z)) (vs.take (k*e.size)++zs++vs.drop (k*e.size+e.size))
 | 0,_,_,_,k,_,_,_,_,_,hk,_=>by omega
 | n+1,l,xs,vs,k,z,zs,h,hr,hl,hk,hz=>by
  have hs:qS xs 0 k z=xs.set k z:=by
   have:=zN (l:=xs) (k:=0) (i:=k) (z:=z)
   rwa [Nat.zero_add] at this
  rw[hs]
  clear hs
  simp only[els] at h
  split at h
  ·rename_i y r hy
   split at h
   ·rename_i ys hys
    injection h with h
    subst h
    obtain ⟨c1,c2,rfl,hd,h2⟩:=dP hy hr
    have hl1:=hd.len
    have hl2:=hr.length
    have hl3:=h2.length
    have hlr:r.length=n*e.size:=by
     rw[List.length_append,hl1] at hl2
     rw[hl,Nat.add_mul] at hl2
     omega
    cases k with
    | zero =>
     simp only[List.set_cons_zero,si,Nat.zero_mul,List.take_zero,List.nil_append,Nat.zero_add]
     rw[<-hl1,List.drop_left]
     refine cB.append hz.rel ?_
     have all:∀{n:Nat} {l:List At} {xs:List e.T} {vs:List Value},els e n l=some xs->cB E l vs->l.length=n*e.size->cB E (si e xs) vs:=by
      intro n
      induction n with
      | zero =>
       intro l xs vs h hr hl
       simp only[els,Option.some.injEq] at h
       subst h
       rw[Nat.zero_mul] at hl
       match l,vs,hr,hl with
       | [],[],_,_=>trivial
      | succ n ih =>
       intro l xs vs h hr hl
       simp only[els] at h
       split at h
       ·rename_i y r hy
        split at h
        ·rename_i ys hys
         injection h with h
         subst h
         obtain ⟨c1,c2,rfl,hd,h2⟩:=dP hy hr
         have:=hd.len
         have:=hr.length
         have:=h2.length
         exact hd.rel.append (ih hys h2 (by
          rw[List.length_append] at *
          rw[hl,Nat.add_mul] at *
          omega))
        ·cases h
       ·cases h
     exact all hys h2 hlr
    | succ k =>
     simp only[List.set_cons_succ,si]
     have e1:(k+1)*e.size=c1.length+k*e.size:=by rw[Nat.add_mul,hl1];omega
     have e2:(k+1)*e.size+e.size=c1.length+(k*e.size+e.size):=by omega
     rw[e2,e1,List.take_length_add_append,List.drop_length_add_append,List.append_assoc,List.append_assoc]
     refine cB.append hd.rel ?_
     have ih:=HH hys h2 hlr (k:=k) (by omega) hz
     have hs:qS ys 0 k z=ys.set k z:=by
      have:=zN (l:=ys) (k:=0) (i:=k) (z:=z)
      rwa [Nat.zero_add] at this
     rw[hs,List.append_assoc] at ih
     exact ih
   ·cases h
  ·cases h
def CX (P:Program) (t:TypeId):Option (Nat×TypeId):=match P.underlying t with
 | some (.array n e)=>some (n,e)
 | _=>none
theorem HY {t:TypeId} {n:Nat} {e:TypeId} (h:CX P t=some (n,e)):P.underlying t=some (.array n e):=by
 unfold CX at h
 split at h
 ·injection h with h;injection h with h1 h2;subst h1;subst h2;assumption
 ·cases h
theorem pF {t et:TypeId} {n sz:Nat} {k:IntKind} {i:Int} {ad:Addr} (ht:CX P t=some (n,et)) (hz:dF P et=some sz) (hp:0<=i/\i<n) (w:World) :
  (Instr.indexAt t (.pointer (some ad)) (.int k i)).run P w=.ok (.pointer (some (ad.add (i.toNat*sz)))) w:=by
 have hu:=HY ht
 simp[Instr.indexAt,asIntOf,run_underlying hu,Instr.sureAddr,hp.1,hp.2,cA hz]
theorem FSs {t et:TypeId} {x y:Operand} {b off n:Nat} {e:Sh} {k:IntKind} {i:Int} (ho:o.op=.indexAddr t x y) (hx:cn E (.c false [.ptr b off]) (a.eval x)) (hy:cn E (.c false [.v (.int k i)]) (a.eval y))
  (ht:CX P t=some (n,et)) (hz:dF P et=some e.size) (hm:Mod N E a g) (hp:0<=i/\i<n):an P N g E a o ⟨.c false [.ae b off e n i.toNat 0],.none,[inB i n]⟩:=by
 obtain ⟨cs,hv,hr,_⟩:=hx
 have hyv:=eq (x:=.int k i) rfl hy
 match cs,hr with
 | [z],hr =>
  obtain ⟨⟨hz',hL⟩,_⟩:=hr
  refine an.value (E':=E) (v:=.pointer (some ⟨E.β b,off+i.toNat*e.size,none⟩)) ?_ rfl (Keep.refl E) hm ⟨[_],rfl,⟨⟨rfl,hL⟩,trivial⟩,fun _=>rfl⟩
  simp[execOp,ho,hv,hyv,hz',mkV,gA,pF ht hz hp,dt]
theorem Hk {t et:TypeId} {x y:Operand} {s:Sh} {d:s.T} {off n:Nat} {e:Sh} {k:IntKind} {i:Int} {xs:List e.T} (ho:o.op=.indexAddr t x y) (hx:cn E (.c false [.rf s d off]) (a.eval x)) (hy:cn E (.c false [.v (.int k i)]) (a.eval y))
  (ht:CX P t=some (n,et)) (hz:dF P et=some e.size) (hxs:els e n ((s.cells d).drop off)=some xs) (hm:Mod N E a g) (hp:0<=i/\i<n):an P N g E a o ⟨.c false [.rf e (xs.getD i.toNat e.dflt) 0],.none,[inB i n]⟩:=by
 obtain ⟨cs,hv,hr,_⟩:=hx
 have hyv:=eq (x:=.int k i) rfl hy
 match cs,hr with
 | [z],hr =>
  obtain ⟨⟨ad,ds,hz',h1,h2,h3⟩,_⟩:=hr
  have hlen:=vg hxs
  have hget:xs[i.toNat]?=some (xs.getD i.toNat e.dflt):=by simp[List.getD,List.getElem?_eq_getElem (show i.toNat<xs.length by omega)]
  obtain ⟨ecs,g1,g2⟩:=vO hxs (h2.rel.drop off) _ _ hget
  refine an.value (E':=E) (v:=.pointer (some ((ad.add off).add (i.toNat*e.size)))) ?_ rfl (Keep.refl E) hm ⟨[_],rfl,⟨⟨(ad.add off).add (i.toNat*e.size),ecs,by simp[Addr.add],?_,g1,fun j v hj=>?_⟩,trivial⟩,fun _=>rfl⟩
  ·simp[execOp,ho,hv,hyv,hz',mkV,pF ht hz hp]
  ·rw[mW,mW];exact h1
  ·rw[add_add,add_add]
   have:=g2 j v hj
   rw[List.getElem?_drop] at this
   exact h3 _ v this
theorem Ef {t et:TypeId} {x y:Operand} {r q sz off n:Nat} {ez:Nat} {k:IntKind} {i:Int} (ho:o.op=.indexAddr t x y) (hx:cn E (.c false [.re r q sz off]) (a.eval x)) (hy:cn E (.c false [.v (.int k i)]) (a.eval y))
  (ht:CX P t=some (n,et)) (hz:dF P et=some ez) (hm:Mod N E a g) (hp:0<=i/\i<n):an P N g E a o ⟨.c false [.re r q sz (off+i.toNat*ez)],.none,[inB i n]⟩:=by
 obtain ⟨cs,hv,hr,_⟩:=hx
 have hyv:=eq (x:=.int k i) rfl hy
 match cs,hr with
 | [z],hr =>
  obtain ⟨⟨b,h1,h2,h3⟩,_⟩:=hr
  refine an.value (E':=E) (v:=.pointer (some ⟨b,q*sz+(off+i.toNat*ez),none⟩)) ?_ rfl (Keep.refl E) hm ⟨[_],rfl,⟨⟨b,h1,rfl,h3⟩,trivial⟩,fun _=>rfl⟩
  simp[execOp,ho,hv,hyv,h2,mkV,pF ht hz hp,dt,Nat.add_assoc]
theorem FY {t:TypeId} {x:Operand} {f b off n i d dd:Nat} {e:Sh} (ho:o.op=.fieldAddr t x f) (hx:cn E (.c false [.ae b off e n i d]) (a.eval x)) (hf:rC P t f=some dd) (hm:Mod N E a g) :
  an P N g E a o ⟨.c false [.ae b off e n i (d+dd)],.none,[]⟩:=by
 obtain ⟨cs,hv,hr,_⟩:=hx
 match cs,hr with
 | [y],hr =>
  obtain ⟨⟨hy,hl⟩,_⟩:=hr
  refine an.value (E':=E) (v:=.pointer (some ⟨E.β b,off+i*e.size+(d+dd),none⟩)) ?_ rfl (Keep.refl E) hm ⟨[_],rfl,⟨⟨rfl,hl⟩,trivial⟩,fun _=>rfl⟩
  simp[execOp,ho,hv,mkV,hy,gA,lJ hf,dt,Nat.add_assoc]
theorem IT {t:TypeId} {x:Operand} {b off n i d:Nat} {e:Sh} {l:List At} {xs:List e.T} {s:SV} (ho:o.op=.load t x) (hx:cn E (.c false [.ae b off e n i d]) (a.eval x)) (hb:g.h b=some l)
  (hxs:els e n (l.drop off)=some xs) (hs:lz P t (e.cells (xs.getD i e.dflt)) d=some s) (hm:Mod N E a g) (hp:i<n):an P N g E a o ⟨s,.none,[Nat.blt i n]⟩:=by
 obtain ⟨cs,hv,hr,_⟩:=hx
 match cs,hr with
 | [y],hr =>
  obtain ⟨⟨hy,_⟩,_⟩:=hr
  obtain ⟨ds,hd,hc⟩:=sX (hm.blks b l hb)
  have hlen:=vg hxs
  have hget:xs[i]?=some (xs.getD i e.dflt):=by simp[List.getD,List.getElem?_eq_getElem (show i<xs.length by omega)]
  obtain ⟨ecs,g1,g2⟩:=vO hxs (hd.drop off) _ _ hget
  obtain ⟨v,hrun,hrel⟩:=mL hs g1.rel (ad:=⟨E.β b,off+i*e.size,none⟩) E.w (fun j u hj=>by
   have:=g2 j u hj
   rw[List.getElem?_drop] at this
   have:=hc _ u this
   rw[dt,Nat.zero_add] at this
   rw[dt,Nat.add_assoc]
   exact this)
  refine an.value (E':=E) (v:=v) ?_ rfl (Keep.refl E) hm hrel
  rw[dt] at hrun
  simp[execOp,ho,hv,mkV,hy,gA,Instr.loadAt,Instr.sureAddr,hrun]
theorem Gv {t:TypeId} {x y:Operand} {b off n i d m:Nat} {e:Sh} {l:List At} {xs:List e.T} {ag:Bool} {l':List At} {z:e.T} (ho:o.op=.store t x y) (hx:cn E (.c false [.ae b off e n i d]) (a.eval x)) (hy:cn E (.c ag l') (a.eval y)) (hb:g.h b=some l)
  (hz:dF P t=some m) (hl:l'.all at1=true) (hn:Nat.beq l'.length m=true) (hfit:Nat.ble (d+m) e.size=true) (hxs:els e n ((l.drop off).take (n*e.size))=some xs) (hll:Nat.ble (off+n*e.size) l.length=true)
  (hw:e.take ((e.cells (xs.getD i e.dflt)).take d++l'++(e.cells (xs.getD i e.dflt)).drop (d+l'.length))=some (z,[])) (hm:Mod N E a g) (hp:i<n) :
  an P N g E a o ⟨.c false [.u],.store b (l.take off++si e (qS xs 0 i z)++l.drop (off+n*e.size)),[Nat.blt i n]⟩:=by
 obtain ⟨cs,hv,hr,_⟩:=hx
 obtain ⟨vs,hv',hr',h1'⟩:=hy
 have hone:=lP hl hr'
 simp only[Nat.beq_eq] at hn
 simp only[Nat.ble_eq] at hfit hll
 have hlen':=hr'.length
 match cs,hr with
 | [p],hr =>
  obtain ⟨⟨hpv,_⟩,_⟩:=hr
  obtain ⟨_,ds,t',hh,hd,hd1⟩:=hm.blks b l hb
  have hdl:=hd.length
  have hlx:=vg hxs
  have hget:xs[i]?=some (xs.getD i e.dflt):=by simp[List.getD,List.getElem?_eq_getElem (show i<xs.length by omega)]
  have hseg:=(hd.drop off).take (n*e.size)
  obtain ⟨ecs,g1,g2⟩:=vO hxs hseg _ _ hget
  have hel:=g1.len
  have hin:i*e.size+e.size<=n*e.size:=by
   have:(i+1)*e.size<=n*e.size:=Nat.mul_le_mul_right _ (by omega)
   rw[Nat.add_mul] at this
   omega
  have hecs:ecs=(ds.drop (off+i*e.size)).take e.size:=by
   apply List.ext_getElem?
   intro j
   rw[List.getElem?_take,List.getElem?_drop]
   by_cases hj:j<e.size
   ·rw[if_pos hj]
    have hjl:j<ecs.length:=by omega
    have:=g2 j ecs[j] (List.getElem?_eq_getElem hjl)
    rw[List.getElem?_take,List.getElem?_drop] at this
    rw[if_pos (by omega)] at this
    rw[List.getElem?_eq_getElem hjl,<-this]
    congr 1
    omega
   ·rw[if_neg hj,List.getElem?_eq_none (by omega)]
  obtain ⟨c1,c2,hc,hdz,hc2⟩:=dP hw (((g1.rel.take d).append hr').append (g1.rel.drop _))
  have hc2:c2=[]:=by
   match c2,hc2 with
   | [],_=>rfl
  subst hc2
  rw[List.append_nil,hlen'] at hc
  subst hc
  have hst:=run_storeCells_at P (E.β b) (off+i*e.size+d) t' vs 0 ds.toArray E.w hh (by simp;omega) hone
  simp only[Nat.add_zero] at hst
  have hcut:=HH hxs hseg (by simp only[List.length_take,List.length_drop];omega) hp hdz
  have hr2:cB E (l.take off++si e (qS xs 0 i z)++l.drop (off+n*e.size)) (ds.take (off+i*e.size+d)++vs++ds.drop (off+i*e.size+d+vs.length)):=by
   have:=((hd.take off).append hcut).append (hd.drop (off+n*e.size))
   refine (congrArg (cB E _) ?_).mp this
   rw[hecs]
   have hL:off+n*e.size<=ds.length:=by omega
   have hv1:d+vs.length<=e.size:=by omega
   have lA:(ds.take off).length=off:=by simp;omega
   have lC:((ds.drop off).take (n*e.size)).length=n*e.size:=by simp;omega
   have hds:ds.take off++(ds.drop off).take (n*e.size)++ds.drop (off+n*e.size)=ds:=by
    rw[List.append_assoc,<-List.drop_drop,List.take_append_drop,List.take_append_drop]
   have s1:=vd (ds.take off) ((ds.drop off).take (n*e.size)) (ds.drop (off+n*e.size)) vs (i*e.size+d) (by omega)
   rw[hds,lA] at s1
   have lA':(((ds.drop off).take (n*e.size)).take (i*e.size)).length=i*e.size:=by rw[List.length_take,lC];omega
   have hseg':((ds.drop off).take (n*e.size)).take (i*e.size)++(((ds.drop off).take (n*e.size)).drop (i*e.size)).take e.size++((ds.drop off).take (n*e.size)).drop (i*e.size+e.size)=(ds.drop off).take (n*e.size):=by
    rw[List.append_assoc,<-List.drop_drop,List.take_append_drop,List.take_append_drop]
   have hC':(((ds.drop off).take (n*e.size)).drop (i*e.size)).take e.size=(ds.drop (off+i*e.size)).take e.size:=by
    rw[List.drop_take,List.take_take,List.drop_drop,Nat.min_eq_left (by omega)]
   have s2:=vd (((ds.drop off).take (n*e.size)).take (i*e.size)) ((((ds.drop off).take (n*e.size)).drop (i*e.size)).take e.size) (((ds.drop off).take (n*e.size)).drop (i*e.size+e.size)) vs d (by
    rw[hC',List.length_take,List.length_drop];omega)
   rw[hseg',lA',hC'] at s2
   rw[s2,<-Nat.add_assoc off] at s1
   exact s1.symm
  have h12:∀v ∈ ds.take (off+i*e.size+d)++vs++ds.drop (off+i*e.size+d+vs.length),v.oneCell'=true:=by
   intro v hv
   simp only[List.mem_append] at hv
   rcases hv with (hv | hv) | hv
   ·exact hd1 v (List.mem_of_mem_take hv)
   ·exact hone v hv
   ·exact hd1 v (List.mem_of_mem_drop hv)
  have hsm:=AK hm hb t' (setRow_heap E.w _ _ _ t' (0,0) hh) (fun k hk=>setRow_other E.w _ k _ hk) rfl rfl rfl (by simp[World.setRow]) hr2 h12
  refine an.skip (E':=E.wset (E.w.setRow (E.β b) ((ds.take (off+i*e.size+d)++vs++ds.drop (off+i*e.size+d+vs.length)).toArray))) ?_ rfl hsm.2 hsm.1 ⟨[_],rfl,⟨trivial,trivial⟩,fun _=>rfl⟩
  have hsz:vs.length=m:=by omega
  have hv0:a.eval x=.pointer (some ⟨E.β b,off+i*e.size+d,none⟩):=by rw[hv,hpv];rfl
  simp only[execOp,ho,hv0,hv',Instr.storeAt,Instr.sureAddr,storeVar,pure_bind,Sem.run_bind,cA hz,Result.andThen_ok]
  have hc:=jf h1' hone
  simp only[hc,List.size_toArray,hsz,ne_eq,not_true_eq_false,if_false]
  simp[hst,Env.wset,hsz]
theorem Kn {t et:Nat} {ps:Array (Nat×Operand)} {e:Sh} {b:Nat} (ho:o.op=.buildSlice t 0 ps) (hps:ps=#[]) (ht:eV P t=some et) (hz:dF P et=some e.size) (hb:g.r b=none) (hm:Mod N E a g) :
  an P N g E a o ⟨.c false [.row b],.row b ⟨et,e,0,[]⟩ none,[]⟩:=by
 subst hps
 have hu:=di ht
 have hbel:Below E.w.heap.size E.w (E.w.alloc (.cells #[] et)):=(Below.refl _ _).alloc (Nat.le_refl _) _
 obtain ⟨m1,m2⟩:=kP (v':=.slice (some ⟨E.w.heap.size,0,none⟩) 0 0) (ri:=⟨et,e,0,[]⟩) (Z2:=E.Z) hm hb hbel (fun _ h=>h) (fun _ h=>.inl h) (fun q hq hz=>by
  simp only[Value.ownBlock,Option.some.injEq] at hq
  have:=hm.glob.zlt q hz
  omega) ⟨[],⟨by simp,.inr ⟨E.w.heap.size,0,#[],rfl,Nat.le_refl _,px _ _,Nat.le_refl _,Nat.zero_le _,by simp,by simp⟩⟩,rfl,rfl⟩
 refine an.value (E':=E.made b (.slice (some ⟨E.w.heap.size,0,none⟩) 0 0) (E.w.alloc (.cells #[] et)) E.Z) (v:=.slice (some ⟨E.w.heap.size,0,none⟩) 0 0) ?_ rfl m2 m1 ⟨[_],rfl,⟨⟨?_,.inr rfl,rfl⟩,trivial⟩,fun _=>rfl⟩
 ·simp only[execOp,ho,Instr.buildSlice,Sem.run_bind,run_underlying hu,Result.andThen_ok,cA hz]
  have h0:∀f:Nat->Value,Array.map f (Array.range 0)=#[]:=fun f=>by apply Array.eq_empty_of_size_eq_zero;simp
  simp[Instr.fill,h0]
  rfl
 ·show _=if b=b then _ else _
  rw[if_pos rfl]
def slB (lo hi:Int) (n:Nat):Bool:=decide (0<=lo)&&decide (lo<=hi)&&decide (hi<=n)
theorem sR {lo hi:Int} {n:Nat}:slB lo hi n=true↔0<=lo/\lo<=hi/\hi<=n:=by simp[slB,and_assoc]
def tv (get:Operand->Option SV) (d:Int):Option Operand->Option Int
 | none=>some d
 | some x=>match get x with
  | some (.c false [.v (.int _ i)])=>some i
  | _=>none
theorem jV {k:IntKind} {i:Int} {y:Nat} {c:BoundsCode} (h0:0<=i) (h1:i<=y) (w:World):(Instr.sliceBound (.int k i) y c).run P w=.ok i.toNat w:=by
 simp[Instr.sliceBound,asIntOf,h0,h1]
theorem lF {get:Operand->Option SV} {d i:Int} {x:Option Operand} (h:tv get d x=some i) (hg:∀y,x=some y->∀s,get y=some s->cn E s (a.eval y)):(x=none/\i=d)\/∃y k,x=some y/\a.eval y=.int k i:=by
 unfold tv at h
 split at h
 ·injection h with h;exact .inl ⟨rfl,h.symm⟩
 ·rename_i y
  split at h
  ·rename_i k j hj
   injection h with h
   subst h
   exact .inr ⟨y,k,rfl,eq (x:=.int k j) rfl (hg y rfl _ hj)⟩
  ·cases h
theorem ip {isSlice:Bool} {len cap:Nat} {lo hi:Option Operand} {l h:Int} (hlo:(lo=none/\l=0)\/∃y k,lo=some y/\a.eval y=.int k l) (hhi:(hi=none/\h=len)\/∃y k,hi=some y/\a.eval y=.int k h)
  (h0:0<=l) (h1:l<=h) (h2:h<=len) (hc:len<=cap) (w:World):(Instr.sliceBounds isSlice len cap (lo.map a.eval) (hi.map a.eval) none).run P w=.ok (l.toNat,h.toNat,cap) w:=by
 rcases hhi with ⟨rfl,rfl⟩ | ⟨y,k,rfl,hy⟩
 ·rcases hlo with ⟨rfl,rfl⟩ | ⟨y',k',rfl,hy'⟩
  ·simp[Instr.sliceBounds]
  ·simp only[Instr.sliceBounds,Option.map_none,Option.map_some,hy',pure_bind,Sem.run_bind,jV h0 h1 w,Result.andThen_ok,Sem.run_pure,z9]
 ·have hh:=fun c=>jV (P:=P) (k:=k) (i:=h) (y:=cap) (c:=c) (by omega) (by omega) w
  rcases hlo with ⟨rfl,rfl⟩ | ⟨y',k',rfl,hy'⟩
  ·simp only[Instr.sliceBounds,Option.map_none,Option.map_some,hy,pure_bind,Sem.run_bind,hh,Result.andThen_ok,Sem.run_pure]
   rfl
  ·have hl:=fun c=>jV (P:=P) (k:=k') (i:=l) (y:=h.toNat) (c:=c) h0 (by omega) w
   simp only[Instr.sliceBounds,Option.map_some,hy,hy',pure_bind,Sem.run_bind,hh,hl,Result.andThen_ok,Sem.run_pure]
theorem F4 {t et:TypeId} {x:Operand} {lo hi:Option Operand} {e:Sh} {l:List e.T} {i j:Int} {get:Operand->Option SV} (ho:o.op=.slice t x lo hi none) (hg:fO E a get o) (hx:cn E (.c false [.sl e l]) (a.eval x))
  (ht:eV P t=some et) (hz:dF P et=some e.size) (hi':tv get 0 lo=some i) (hj:tv get l.length hi=some j) (hm:Mod N E a g) (hp:0<=i/\i<=j/\j<=l.length) :
  an P N g E a o ⟨.c false [.sl e ((l.take j.toNat).drop i.toNat)],.none,[slB i j l.length]⟩:=by
 obtain ⟨cs,hv,hr,_⟩:=hx
 have hu:=di ht
 have blo:=lF hi' fun y hy s hs=>hg y s (by rw[ho,hy];simp[Op.operands]) hs
 have bhi:=lF hj fun y hy s hs=>hg y s (by rw[ho,hy];simp[Op.operands]) hs
 match cs,hr with
 | [z],hr =>
  have hd:Dat E.w E.Z (.sl e) l [z]:=hr.1
  simp only[Dat] at hd
  obtain ⟨A,c,hz',hc,hA,hd⟩:=hd
  injection hz' with hz' _
  subst hz'
  have hlen:((l.take j.toNat).drop i.toNat).length=j.toNat - i.toNat:=by simp;omega
  refine an.value (E':=E) (v:=.slice (if c=i.toNat then A else A.map (·.add (i.toNat*e.size))) (j.toNat - i.toNat) (c - i.toNat)) ?_ rfl (Keep.refl E) hm ⟨[_],rfl,⟨?_,trivial⟩,fun _=>rfl⟩
  ·have hb:=ip (P:=P) (a:=a) (isSlice:=true) (cap:=c) blo bhi hp.1 hp.2.1 hp.2.2 hc E.w
   simp only[execOp,ho,Option.map_none,hv,mkV,List.headD_cons,Bool.false_eq_true,if_false,Instr.sliceAt,Instr.slice,Sem.run_bind,run_underlying hu,Result.andThen_ok,hb,cA hz,Sem.run_pure]
  ·show Dat _ _ (.sl e) _ _
   simp only[Dat]
   refine ⟨_,_,by rw[hlen],by omega,fun hn=>?_,fun h0=>?_⟩
   ·split at hn
    ·omega
    ·cases hA':A with
     | none=>have:=hA hA';omega
     | some ad=>rw[hA'] at hn;cases hn
   ·obtain ⟨ad,rfl,hZ,hd⟩:=hd (by omega)
    refine ⟨ad.add (i.toNat*e.size),?_,by rw[mW];exact hZ,fun k y hk=>?_⟩
    ·rw[if_neg (by omega)];rfl
    ·have hk':l[i.toNat+k]?=some y:=by
      rw[List.getElem?_drop,List.getElem?_take] at hk
      split at hk
      ·exact hk
      ·cases hk
     obtain ⟨ecs,g1,g2⟩:=hd _ y hk'
     refine ⟨ecs,g1,fun q v hq=>?_⟩
     rw[add_add,<-Nat.add_assoc,<-Nat.add_mul]
     exact g2 q v hq
theorem DK {t:TypeId} {x:Operand} {lo hi:Option Operand} {s:ByteArray} {i j:Int} {get:Operand->Option SV} (ho:o.op=.slice t x lo hi none) (hg:fO E a get o) (hx:cn E (.c false [.v (.string s)]) (a.eval x))
  (ht:P.underlying t=some .string) (hi':tv get 0 lo=some i) (hj:tv get s.size hi=some j) (hm:Mod N E a g) (hp:0<=i/\i<=j/\j<=s.size) :
  an P N g E a o ⟨.c false [.v (.string (s.extract i.toNat j.toNat))],.none,[slB i j s.size]⟩:=by
 have hv:=eq (x:=.string s) rfl hx
 have blo:=lF hi' fun y hy s hs=>hg y s (by rw[ho,hy];simp[Op.operands]) hs
 have bhi:=lF hj fun y hy s hs=>hg y s (by rw[ho,hy];simp[Op.operands]) hs
 refine an.value (E':=E) (v:=.string (s.extract i.toNat j.toNat)) ?_ rfl (Keep.refl E) hm ⟨[_],rfl,⟨rfl,trivial⟩,fun _=>rfl⟩
 have hb:=ip (P:=P) (a:=a) (isSlice:=false) (cap:=s.size) blo bhi hp.1 hp.2.1 hp.2.2 (Nat.le_refl _) E.w
 simp only[execOp,ho,Option.map_none,hv,Instr.sliceAt,Instr.slice,Sem.run_bind,run_underlying ht,Result.andThen_ok,Option.isSome_none,Bool.false_eq_true,if_false,hb,Sem.run_pure]
end
end Dn
end Go.Proofs.YtegbncajloeepaaGreat
