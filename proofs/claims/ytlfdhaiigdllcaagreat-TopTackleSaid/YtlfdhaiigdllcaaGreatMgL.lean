/- A symbolic executor: what is handed in at the law's own door is data of a shape: each argument that reads has such a datum, well formed. A symbolic executor: contracts of functions that change what is the call's own: blocks that parameters lead to, rows and tables that go in by value. A symbolic executor: functions that change what is theirs: their contracts out of their bodies; functions walked in place that call them. -/
import Derived.ProofKit
import Derived.Deep.Slices
import Derived.OpenShut
import Derived.Test.YtlfdhaiigdllcaaGreatMgK
open Array renaming getElem?_eq_getElem→k_,toArray_toList→mV
open List renaming append_nil→gO,getElem?_eq_getElem→dg,length_cons→j_,mem_append_left→gC,mem_append_right→bX,size_toArray→i_,take_of_length_le→oK
open Nat renaming beq→g_,ble→cl,le_refl→bY,zero_add→d_
open Option.some renaming injEq→a_
open Prod.mk renaming injEq→dO

namespace Go.Proofs.YtlfdhaiigdllcaaGreat
noncomputable section
namespace Dn
noncomputable section
open Go.RowKit Go.WideShapes Go.ChangeShapes
def Sh.wf:(s:Sh)->s.T->Prop
 | .int k,n=>(Lit.int k n).wf=true
 | .bool,_=>True
 | .str,b=>b.size<=maxLen
 | .sl e,l=>l.length<=maxLen/\∀x ∈ l,e.wf x
 | .pair a b,x=>a.wf x.1/\b.wf x.2
 | .agg e,x=>e.wf x
 | .ref,_=>False
theorem Sh.size_pos:∀s:Sh,0<s.size
 | .int _=>Nat.one_pos
 | .bool=>Nat.one_pos
 | .str=>Nat.one_pos
 | .sl _=>Nat.one_pos
 | .pair a b=>by have:=Sh.size_pos a;simp only[Sh.size];omega
 | .agg e=>Sh.size_pos e
 | .ref=>Nat.one_pos
def lg (P:Program) (n:Nat):TypeId ⊕ (Nat×List Field)->Option TypeId
 | .inl t=>some t
 | .inr (off,[f])=>match g_ f.offset off&&g_ (P.cellsOf f.type) n with
  | true=>some f.type
  | false=>none
 | _=>none
def J0 (P:Program) (k:IntKind) (t:TypeId):Bool:=match P.underlying t with
 | some (.int k')=>decide (k'=k)
 | _=>false
def FL (P:Program) (t:TypeId):Bool:=match P.underlying t with
 | some .bool=>true
 | _=>false
def Jh (P:Program) (t:TypeId):Bool:=match P.underlying t with
 | some .string=>true
 | _=>false
def zU (P:Program) (u:TypeId):Nat->Nat->List Field
 | 0,_=>[]
 | n + 1, i => { name := "", type := u, offset := i * P.cellsOf u, embedded := false, tag := "", pkgPath := "", byteOffset := 0 } :: zU P u n (i + 1)
def chk (P:Program):Sh->TypeId ⊕ (Nat×List Field)->Bool
 | .int k,x=>match lg P 1 x with
  | some t=>J0 P k t
  | none=>false
 | .bool,x=>match lg P 1 x with
  | some t=>FL P t
  | none=>false
 | .str,x=>match lg P 1 x with
  | some t=>Jh P t
  | none=>false
 | .sl e,x=>match lg P 1 x with
  | some t=>match P.underlying t with
   | some (.slice u)=>g_ (P.cellsOf u) e.size&&chk P e (.inl u)
   | _=>false
  | none=>false
 | .pair a b,.inr (off,f ::g ::r)=>g_ f.offset off&&g_ (P.cellsOf f.type) a.size&&chk P a (.inl f.type)&&chk P b (.inr (off+a.size,g ::r))
 | .pair _ _,_=>false
 | .agg e,x=>match lg P e.size x with
  | some t=>match P.underlying t with
   | some (.struct fs)=>g_ (P.cellsOf t) e.size&&chk P e (.inr (0,fs.toList))
   | some (.array n u)=>g_ (P.cellsOf t) e.size&&chk P e (.inr (0,zU P u n 0))
   | _=>false
  | none=>false
 | .ref,_=>false
section
variable {H:Type} {enc:TypeId×Value->H} {P:Program} {w:World} {sp:Nat->Bool} {held:Bool}
def vp (w:World):Nat->Prop:=fun b=>b<w.heap.size
theorem sN {n off:Nat} {fl:List Field} {t:TypeId} (h:lg P n (.inr (off,fl))=some t):∃f,fl=[f]/\f.offset=off/\P.cellsOf f.type=n/\f.type=t:=by
 unfold lg at h
 split at h
 ·rename_i heq;cases heq
 ·rename_i o f heq
  injection heq with heq
  simp only[dO] at heq
  obtain ⟨rfl,rfl⟩:=heq
  split at h
  ·rename_i hb
   simp only[z10,Nat.beq_eq] at hb
   injection h with h
   exact ⟨f,rfl,hb.1,hb.2,h⟩
  ·cases h
 ·cases h
theorem Pm:∀{s:Sh} {off:Nat} {fl:List Field},(∀a b,s≠.pair a b)->chk P s (.inr (off,fl))=true->∃f,fl=[f]/\f.offset=off/\P.cellsOf f.type=s.size/\chk P s (.inl f.type)=true:=by
 intro s off fl hs h
 cases s with
 | pair a b=>exact absurd rfl (hs a b)
 | ref=>simp[chk] at h
 | int k =>
  simp only[chk] at h
  split at h
  ·rename_i t ht
   obtain ⟨f,rfl,h1,h2,rfl⟩:=sN ht
   exact ⟨f,rfl,h1,h2,by simpa only[chk,lg] using h⟩
  ·cases h
 | bool =>
  simp only[chk] at h
  split at h
  ·rename_i t ht
   obtain ⟨f,rfl,h1,h2,rfl⟩:=sN ht
   exact ⟨f,rfl,h1,h2,by simpa only[chk,lg] using h⟩
  ·cases h
 | str =>
  simp only[chk] at h
  split at h
  ·rename_i t ht
   obtain ⟨f,rfl,h1,h2,rfl⟩:=sN ht
   exact ⟨f,rfl,h1,h2,by simpa only[chk,lg] using h⟩
  ·cases h
 | sl e =>
  simp only[chk] at h
  split at h
  ·rename_i t ht
   obtain ⟨f,rfl,h1,h2,rfl⟩:=sN ht
   exact ⟨f,rfl,h1,h2,by simpa only[chk,lg] using h⟩
  ·cases h
 | agg e =>
  simp only[chk] at h
  split at h
  ·rename_i t ht
   obtain ⟨f,rfl,h1,h2,rfl⟩:=sN ht
   exact ⟨f,rfl,h1,h2,by simpa only[chk,lg] using h⟩
  ·cases h
def xt (enc:TypeId×Value->H) (P:Program) (w:World) (sp:Nat->Bool) (held:Bool) (s:Sh):Prop :=
 ∀t fuel cs r,chk P s (.inl t)=true->DataW.trod enc P w 0 sp held fuel t cs=some r->∃y:s.T,Dat w (vp w) s y cs/\s.wf y
def Ip (enc:TypeId×Value->H) (P:Program) (w:World) (sp:Nat->Bool) (held:Bool) (s:Sh):Prop :=
 ∀off fl (cs:List Value),chk P s (.inr (off,fl))=true->(∀f ∈ fl,∃n r,DataW.trod enc P w 0 sp held n f.type ((cs.drop f.offset).take (P.cellsOf f.type))=some r)->cs.length=off+s.size ->
  ∃y:s.T,Dat w (vp w) s y (cs.drop off)/\s.wf y
theorem nV {s:Sh} (hs:∀a b,s≠.pair a b) (h:xt enc P w sp held s):Ip enc P w sp held s:=by
 intro off fl cs hc hf hl
 obtain ⟨f,rfl,rfl,h2,h3⟩:=Pm hs hc
 obtain ⟨n,r,hr⟩:=hf f (by simp)
 rw[h2,oK (by simp;omega)] at hr
 exact h _ _ _ _ h3 hr
theorem wN {u:TypeId}:∀{n i:Nat} {f:Field},f ∈ zU P u n i->∃j,j<n/\f.type=u/\f.offset=(i+j)*P.cellsOf u
 | n+1,i,f,h=>by
  rcases List.mem_cons.1 h with rfl | h
  ·exact ⟨0,by omega,rfl,by simp⟩
  ·obtain ⟨j,h1,h2,h3⟩:=wN h
   exact ⟨j+1,by omega,h2,by rw[h3];congr 1;omega⟩
 | 0,_,_,h=>by cases h
theorem py:∀s:Sh,xt enc P w sp held s/\Ip enc P w sp held s
 | .ref=>⟨fun t fuel cs r hc _=>by simp[chk] at hc,fun off fl cs hc _ _=>by simp[chk] at hc⟩
 | .int k=>by
  have h:xt enc P w sp held (.int k):=by
   intro t fuel cs r hc hr
   simp only[chk,lg,J0] at hc
   split at hc
   ·rename_i k' ht
    have hk:k'=k:=by simpa using hc
    subst hk
    obtain ⟨n,rfl,_,hw⟩:=DataW.trod_int ht hr
    exact ⟨n,rfl,hw⟩
   ·cases hc
  exact ⟨h,nV (by simp) h⟩
 | .bool=>by
  have h:xt enc P w sp held .bool:=by
   intro t fuel cs r hc hr
   simp only[chk,lg,FL] at hc
   split at hc
   ·rename_i ht
    obtain ⟨n,rfl,_⟩:=DataW.trod_bool ht hr
    exact ⟨n,rfl,trivial⟩
   ·cases hc
  exact ⟨h,nV (by simp) h⟩
 | .str=>by
  have h:xt enc P w sp held .str:=by
   intro t fuel cs r hc hr
   simp only[chk,lg,Jh] at hc
   split at hc
   ·rename_i ht
    obtain ⟨n,rfl,_,hw⟩:=DataW.trod_string ht hr
    exact ⟨n,rfl,hw⟩
   ·cases hc
  exact ⟨h,nV (by simp) h⟩
 | .sl e=>by
  have h:xt enc P w sp held (.sl e):=by
   intro t fuel cs r hc hr
   simp only[chk,lg] at hc
   split at hc
   ·rename_i u ht
    simp only[z10,Nat.beq_eq] at hc
    obtain ⟨hz,hce⟩:=hc
    rcases Deep.open_slice ht hr with ⟨rfl,_⟩ | ⟨ad,len,cap,m,n,D,Pl,rfl,_,hl,hm,hmm,_,hx⟩
    ·exact ⟨([]:List e.T),⟨none,0,rfl,bY _,fun _=>rfl,fun h0=>absurd h0 (by simp)⟩,by simp[maxLen],by simp⟩
    ·have hle:len<=m:=by rw[hmm];split<;>omega
     have one:∀i,i<len->∃y:e.T,(∃ecs,Dat w (vp w) e y ecs/\w.cells? 0 (ad.add (i*e.size)) e.size=some ecs)/\e.wf y:=by
      intro i hi
      obtain ⟨cs',h1,h2⟩:=hx i (by omega)
      rw[hz] at h1
      obtain ⟨y,h3,h4⟩:=(py e).1 _ _ _ _ hce h2
      exact ⟨y,⟨cs',h3,h1⟩,h4⟩
     have:Inhabited e.T:=⟨e.dflt⟩
     obtain ⟨f,hf⟩:=Deep.choose_lt one
     refine ⟨((List.range len).map f:List e.T),⟨some ad,cap,by simp,by simpa using hl,fun h=>(by cases h),fun h0=>⟨ad,rfl,?_,fun k x hk=>?_⟩⟩,by simp;omega,fun x hxm=>?_⟩
     ·have h0:0<len:=by simpa using h0
      obtain ⟨⟨ecs,h1,h2⟩,_⟩:=hf 0 h0
      have hlen:=h1.len
      have hpos:0<e.size:=Sh.size_pos e
      obtain ⟨_,_,h3⟩:=World.cells?_some h2
      have h3:=h3 0 hpos
      have:(ecs[0]?).isSome=true:=by simp;omega
      rw[<-h3] at this
      unfold vp
      refine Decidable.byContradiction fun hge=>?_
      have hnone:w.heap[((ad.add (0*e.size)).add 0).block]?=none:=by
       rw[Array.getElem?_eq_none_iff]
       have:((ad.add (0*e.size)).add 0).block=ad.block:=by simp[Addr.add]
       rw[this]
       omega
      unfold World.cell? at this
      rw[hnone] at this
      simp at this
     ·obtain ⟨hk1,rfl⟩:k<len/\f k=x:=by
       rw[List.getElem?_map] at hk
       cases hr:(List.range len)[k]? with
       | none=>rw[hr] at hk;cases hk
       | some j =>
        rw[hr] at hk
        have:=List.getElem?_eq_some_iff.1 hr
        obtain ⟨h1,h2⟩:=this
        simp at h1 h2
        subst h2
        exact ⟨h1,by simpa using hk⟩
      obtain ⟨⟨ecs,h1,h2⟩,_⟩:=hf k hk1
      obtain ⟨_,hl',h3⟩:=World.cells?_some h2
      refine ⟨ecs,h1,fun j v hj=>?_⟩
      have hjl:=(List.getElem?_eq_some_iff.1 hj).1
      rw[<-Deep.add_add,h3 j (by omega)]
      exact hj
     ·obtain ⟨i,hi,rfl⟩:=List.mem_map.1 hxm
      exact (hf i (by simpa using hi)).2
   ·cases hc
  exact ⟨h,nV (by simp) h⟩
 | .pair a b=>by
  refine ⟨fun t fuel cs r hc=>by simp[chk] at hc,fun off fl cs hc hf hl=>?_⟩
  match fl,hc with
  | f ::g ::r,hc =>
   simp only[chk,z10,Nat.beq_eq] at hc
   obtain ⟨⟨⟨h1,h2⟩,h3⟩,h4⟩:=hc
   simp only[Sh.size] at hl
   obtain ⟨n,y,hy⟩:=hf f (by simp)
   obtain ⟨ya,g1,g2⟩:=(py a).1 _ _ _ _ h3 hy
   obtain ⟨yb,g3,g4⟩:=(py b).2 _ _ cs h4 (fun f' hf'=>hf f' (List.mem_cons_of_mem _ hf')) (by omega)
   refine ⟨((ya,yb):a.T×b.T),⟨_,_,?_,g1,g3⟩,g2,g4⟩
   rw[h1,h2,<-List.drop_drop,List.take_append_drop]
 | .agg e=>by
  have h:xt enc P w sp held (.agg e):=by
   intro t fuel cs r hc hr
   simp only[chk,lg] at hc
   split at hc
   ·rename_i fs ht
    simp only[z10,Nat.beq_eq] at hc
    obtain ⟨hz,hc⟩:=hc
    obtain ⟨xs,n,_,_,hl,hxl,hx⟩:=DataW.trod_struct ht hr
    obtain ⟨y,h1,h2⟩:=(py e).2 0 _ cs hc (fun f hf=>by
     obtain ⟨i,hi,rfl⟩:=List.getElem_of_mem hf
     have hi':i<fs.size:=by simpa using hi
     have:=hx i fs[i] (k_ hi')
     rw[dg (by omega)] at this
     exact ⟨n,_,by simpa using this⟩) (by rw[d_,<-hz];exact hl)
    exact ⟨y,h1,h2⟩
   ·rename_i n u ht
    simp only[z10,Nat.beq_eq] at hc
    obtain ⟨hz,hc⟩:=hc
    obtain ⟨xs,m,_,_,hl,hxl,hx⟩:=DataW.trod_array ht hr
    obtain ⟨y,h1,h2⟩:=(py e).2 0 _ cs hc (fun f hf=>by
     obtain ⟨j,hj,h1,h2⟩:=wN hf
     have:=hx j hj
     rw[dg (by omega)] at this
     exact ⟨m,_,by rw[h1,h2,d_];exact this⟩) (by rw[d_,<-hz];exact hl)
    exact ⟨y,h1,h2⟩
   ·cases hc
  exact ⟨h,nV (by simp) h⟩
theorem MS {s:Sh} {t:TypeId} {v:Value} {d:DataW H} {ps:List MemPlace} {r:Reach} {b0:Nat} (hc:chk P s (.inl t)=true) (hv:Value.okWide P w r b0 t v) (h:DataW.Trod enc P w 0 sp held t v d ps):∃y:s.T,tA w (vp w) s y v/\s.wf y:=by
 obtain ⟨fuel,hf⟩:=h
 obtain ⟨y,h1,h2⟩:=(py s).1 _ _ _ _ hc hf
 refine ⟨y,⟨v.cells.toList,h1,?_,fun _=>?_⟩,h2⟩
 ·cases s with
  | agg e =>
   simp only[chk,lg] at hc
   split at hc
   ·rename_i fs ht
    obtain ⟨cs,rfl,_⟩:=okWide_struct ht hv
    simp[Value.cells,mkV,Sh.isAgg]
   ·rename_i n u ht
    simp only[Value.okWide,ht] at hv
    obtain ⟨cs,rfl,_⟩:=hv
    simp[Value.cells,mkV,Sh.isAgg]
   ·cases hc
  | pair a b=>simp[chk] at hc
  | ref=>simp[chk] at hc
  | int k =>
   simp only[chk,lg,J0] at hc
   split at hc
   ·rename_i k' ht
    cases v<;>first | (simp[Value.okWide,ht,Cell.okWide,Cell.ok] at hv;done) | (simp[Value.cells,mkV,Sh.isAgg];done)
   ·cases hc
  | bool =>
   simp only[chk,lg,FL] at hc
   split at hc
   ·rename_i ht
    cases v<;>first | (simp[Value.okWide,ht,Cell.okWide,Cell.ok] at hv;done) | (simp[Value.cells,mkV,Sh.isAgg];done)
   ·cases hc
  | str =>
   simp only[chk,lg,Jh] at hc
   split at hc
   ·rename_i ht
    cases v<;>first | (simp[Value.okWide,ht,Cell.okWide,Cell.ok] at hv;done) | (simp[Value.cells,mkV,Sh.isAgg];done)
   ·cases hc
  | sl e =>
   simp only[chk,lg] at hc
   split at hc
   ·rename_i u ht
    cases v<;>first | (simp[Value.okWide,ht,Cell.okWide,Cell.ok] at hv;done) | (simp[Value.cells,mkV,Sh.isAgg];done)
   ·cases hc
 ·rename_i ha
  have:=h1.len
  cases s<;>simp[Sh.isAgg] at ha<;>simp[Sh.size] at this<;>first | simpa using this | (simp[chk] at hc)
def wU (P:Program):List Sh->List TypeId->Bool
 | [],[]=>true
 | s ::r,t ::ts=>chk P s (.inl t)&&P.readableRec t&&decide (t<P.types.size)&&wU P r ts
 | _,_=>false
def wfs:(l:List Sh)->TsS l->Prop
 | [],_=>True
 | s ::r,x=>s.wf x.1/\wfs r x.2
theorem wO {r:Reach} {b0:Nat}:∀{as:List Sh} {ts:List TypeId} {vs:List Value} {ds:List (DataW H)} {ps:List MemPlace},wU P as ts=true ->
  (∀(j:Nat) t v,ts[j]?=some t->vs[j]?=some v->Value.okWide P w r b0 t v)->DataW.TrodAll enc P w 0 sp held ts vs ds ps->∃x:TsS as,fm w (vp w) as x vs/\wfs as x
 | [],[],[],_,_,_,_,_=>⟨(),rfl,trivial⟩
 | s ::r',t ::ts,v ::vs,d ::ds,ps,hc,hv,h=>by
  simp only[wU,z10] at hc
  obtain ⟨p,q,h1,h2,_⟩:=h
  obtain ⟨y,g1,g2⟩:=MS hc.1.1.1 (hv 0 t v rfl rfl) h1
  obtain ⟨x,g3,g4⟩:=wO hc.2 (fun j t' v' ht hv'=>hv (j+1) t' v' ht hv') h2
  exact ⟨((y,x):s.T×TsS r'),by simp only[fm];exact ⟨v,vs,rfl,g1,g3⟩,g2,g4⟩
 | [],[],_ ::_,_,_,_,_,h=>by simp[DataW.TrodAll] at h
 | _ ::_,_ ::_,[],_,_,_,_,h=>by simp[DataW.TrodAll] at h
 | _ ::_,_ ::_,_ ::_,[],_,_,_,h=>by simp[DataW.TrodAll] at h
 | [],_ ::_,_,_,_,hc,_,_=>by simp[wU] at hc
 | _ ::_,[],_,_,_,hc,_,_=>by simp[wU] at hc
theorem wT (hl:laidOutB P=true) {W':World} (hb:Below w.heap.size w W') {sp':Nat->Bool}:∀{as:List Sh} {ts:List TypeId} {vs:List Value} {ds:List (DataW H)} {ps:List MemPlace},wU P as ts=true ->
  DataW.TrodAll enc P w 0 (fun _=>true) true ts vs ds ps->(∀p ∈ ps,p.block<w.heap.size)->(∀p ∈ ps,sp' p.block=true)->DataW.TrodAll enc P W' 0 sp' true ts vs ds ps
 | [],[],[],[],_,_,h,_,_=>h
 | s ::r',t ::ts,v ::vs,d ::ds,ps,hc,h,hlt,hs=>by
  simp only[wU,z10,decide_eq_true_eq] at hc
  obtain ⟨p,q,h1,h2,rfl⟩:=h
  exact ⟨p,q,WideElems.Trod_stays hl hc.1.1.2 hc.1.2 h1 (fun x hx=>hb.same (hlt x (gC _ hx))) (fun x hx=>hs x (gC _ hx)),
   wT hl hb hc.2 h2 (fun x hx=>hlt x (bX _ hx)) (fun x hx=>hs x (bX _ hx)),rfl⟩
 | [],[],[],_ ::_,_,_,h,_,_=>by simp[DataW.TrodAll] at h
 | [],[],_ ::_,_,_,_,h,_,_=>by simp[DataW.TrodAll] at h
 | _ ::_,_ ::_,[],_,_,_,h,_,_=>by simp[DataW.TrodAll] at h
 | _ ::_,_ ::_,_ ::_,[],_,_,h,_,_=>by simp[DataW.TrodAll] at h
 | [],_ ::_,_,_,_,hc,_,_,_=>by simp[wU] at hc
 | _ ::_,[],_,_,_,hc,_,_,_=>by simp[wU] at hc
theorem vP:∀{ts:List TypeId} {vs:List Value} {ds:List (DataW H)} {ps:List MemPlace},DataW.TrodAll enc P w 0 sp held ts vs ds ps->ds.length=ts.length
 | [],[],[],_,_=>rfl
 | _ ::_,_ ::_,_ ::_,_,h=>by
  obtain ⟨_,_,_,h2,_⟩:=h
  simp[vP h2]
 | [],[],_ ::_,_,h=>by simp[DataW.TrodAll] at h
 | [],_ ::_,_,_,h=>by simp[DataW.TrodAll] at h
 | _ ::_,[],_,_,h=>by simp[DataW.TrodAll] at h
 | _ ::_,_ ::_,[],_,h=>by simp[DataW.TrodAll] at h
theorem Sq {fn:Func} {f:FuncId} {s:ChangeSpec} {as:List Sh} {m:TsS as->TsF []->TsS []->Option Bool} {t4:TypeId} (hl:laidOutB P=true)
  (hok:Ctr.ok P f ⟨as,[],[],.one .bool,m⟩) (hm:∀x,wfs as x->m x () ()=some true) (hp:wU P as fn.params.toList=true) (hres:fn.resultTypes=#[t4]) (hb:P.underlying t4=some .bool)
  (hvars:s.vars=[]) (hfn:∀ds:List (DataW H),ds.length=fn.params.toList.length->s.fn H ds={ results:=[.lit (.bool true)],args:=ds })
  {W:World} {base:Nat} {args:Array Value} {ds gs:List (DataW H)} {before:List MemPlace} (hv:∀(j:Nat) t v,fn.params[j]?=some t->args[j]?=some v->Value.okWide P W .any base t v)
  (hW:DataW.Whole enc P fn.params.toList s.vars false W args.toList ds gs before):Calls P f args W fun e W'=>∃v,e=.returned v/\s.post enc P fn false true false false W args v W':=by
 have hlt:=fun p hp=>hW.lt (p:=p) hp
 obtain ⟨p,q,hA,hV,rfl,hfz,hnd⟩:=id hW
 obtain ⟨x,hx,hwf⟩:=wO hp (fun j t v ht hv'=>hv j t v (by simpa using ht) (by simpa using hv')) hA
 have hlen:=vP hA
 rw[hvars] at hV
 obtain ⟨rfl,rfl⟩:=trodVars_none hV
 have:=hok x () () true (hm x hwf) W (vp W) args.toList [] [] (fun _ h=>h) hx rfl rfl
 simp only[gO,mV] at this
 refine this.mono fun e W' he=>?_
 obtain ⟨v,rfl,hr,hbelow⟩:=he
 obtain ⟨cs,hc,rfl,_⟩:tA W' (fresh (vp W) W W') .bool true v:=hr
 simp only[Dat] at hc
 subst hc
 simp only[gO] at hlt hW hfz hnd
 refine ⟨_,rfl,?_⟩
 have hf:=hfn ds hlen
 have hold:∀y ∈ p,(fun b=>decide (b<W.heap.size)) y.block=true:=fun y hy=>by simpa using hlt y hy
 have res:∀(b:Nat) (sp:Nat->Bool) (hd:Bool),DataW.TrodAll enc P W' b sp hd fn.resultTypes.toList ((Value.bool true).resultList fn.resultTypes.size) [.lit (.bool true)] []:=fun b sp hd=>by
  rw[hres]
  exact trodAll_mk1 (shut_bool hb true)
 have arg:∀sp:Nat->Bool,(∀y ∈ p,sp y.block=true)->DataW.TrodAll enc P W' 0 sp true fn.params.toList args.toList ds p:=fun sp hs=>wT hl hbelow hp hA hlt hs
 have vars:∀sp:Nat->Bool,DataW.TrodVars (H:=H) enc P W' sp s.vars [] []:=fun sp=>by rw[hvars];rfl
 refine ⟨ds,[],p,[],p,[],hW,?_,?_,?_,World.keptBut_mono (fun y hy=>⟨hy,by simpa using hy⟩) (hbelow.frame (· ∈ p)),fun h=>by cases h⟩
 ·rw[gO,hf];exact res _ _ _
 ·rw[gO,hf];exact arg _ hold
 ·rw[gO,hf];exact vars _
end
end
end Dn
namespace Dn
noncomputable section
open Go.RowKit
inductive PK where
 | d (s:Sh)
 | b (ps:List Pat)
 | v (ag:Bool) (ps:List Pat)
def rhI:Nat->List PK->List (Plc×List Pat)
 | _,[]=>[]
 | j,.d s ::r=>(.slot j s.isAgg,[.d s]) ::rhI (j+1) r
 | j,.b ps ::r=>(.blk j,ps) ::rhI (j+1) r
 | j,.v ag ps ::r=>(.slot j ag,ps) ::rhI (j+1) r
def rhB:Nat->List PK->List (Plc×List Pat)
 | _,[]=>[]
 | j,.d _ ::r=>rhB (j+1) r
 | j,.b ps ::r=>(.blk j,ps) ::rhB (j+1) r
 | j,.v _ _ ::r=>rhB (j+1) r
def rhS:Nat->List (Bool×List Pat)->List (Plc×List Pat)
 | _,[]=>[]
 | j,p ::r=>(.slot j p.1,p.2) ::rhS (j+1) r
def yH:Nat->List PK->List (Nat×Option SlotV)
 | _,[]=>[]
 | j,.d _ ::r=>yH (j+1) r
 | j,.b _ ::r=>(j,some ⟨none,.c false [.ptr j 0]⟩) ::yH (j+1) r
 | j,.v _ _ ::r=>yH (j+1) r
def mH:Nat->List PK->List Nat
 | _,[]=>[]
 | j,.d _ ::r=>j ::mH (j+1) r
 | j,.b _ ::r=>mH (j+1) r
 | j,.v _ _ ::r=>j ::mH (j+1) r
structure SCtr where
 ks:List PK
 rs:List (Bool×List Pat)
 m:TsR (rhI 0 ks)->Option (TsR (rhB 0 ks++rhS 0 rs))
abbrev SCtr.out (c:SCtr):List (Plc×List Pat):=rhB 0 c.ks++rhS 0 c.rs
def SCtr.init (c:SCtr) (x:TsR (rhI 0 c.ks)):St :=
 {s:=jo (rhI 0 c.ks) x 0++sO (mH 0 c.ks) (yH 0 c.ks),h:=fo (rhI 0 c.ks) x 0,r:=eT (rhI 0 c.ks) x 0,next:=c.ks.length+oi (rhI 0 c.ks) }
def SCtr.fin (c:SCtr) (y:TsR c.out):St:={ s:=[],h:=fo c.out y 0,r:=eT c.out y 0,next:=0 }
def zL:(rh:List (Plc×List Pat))->TsR rh->Nat->List SV
 | [],_,_=>[]
 | (.slot _ ag,ps) ::r,x,k=>.c ag (pM ps x k) ::zL r (oJ ps x) (k+ic ps)
 | (.blk _,ps) ::r,x,k=>zL r (oJ ps x) (k+ic ps)
 | (.row _,ps) ::r,x,k=>zL r (oJ ps x) k
def Env.bare (E:Env):Env:={ E with L:=fun _=>False,R:=fun _=>False }
def SCtr.ok (P:Program) (f:FuncId) (c:SCtr):Prop:=∀x y,c.m x=some y->∀(E:Env) (vs:List Value),E.P=P->E.rg=false->vs.length=c.ks.length->Mod vs.length E { tmps:=vs.toArray,defers:=[] } (c.init x).look ->
 Calls P f vs.toArray E.w fun e w'=>∃(us:List Value) (E':Env),e=.returned (if h:us.length=1 then us[0] else .tuple us.toArray)/\E'.w=w'/\io E E'/\Keep E.bare E'/\(∀j,E.L j->E'.β j=E.β j)/\MemOk E' (c.fin y).look/\hG E' (zL c.out y 0) us
def PM (used:List Nat):At->At
 | .v x=>.v x
 | .sl e l=>.sl e l
 | .sn e l=>.sn e l
 | .row r=>match lz r used with
  | true=>.row r
  | false=>.u
 | _=>.u
def yu (used:List Nat):List At->List At
 | []=>[]
 | x ::r=>PM used x ::yu used r
def Pe (used:List Nat):SV->SV
 | .c ag l=>.c ag (yu used l)
 | .tup l=>.tup (l.map fun c=>(c.1,yu used c.2))
def Lg:SV->Option Nat
 | .c false [.ptr b 0]=>some b
 | _=>none
theorem S9 {v:SV} {b:Nat} (h:Lg v=some b):v=.c false [.ptr b 0]:=by
 unfold Lg at h
 split at h
 ·injection h with h;rw[h]
 ·cases h
def aa7 (h:Nat->Option (List At)) (v:SV):List Nat:=match Lg v with
 | some b=>match h b with
  | some cs=>gL cs
  | none=>[]
 | none=>[]
def yX (h:Nat->Option (List At)):List PK->List SV->List Nat
 | .b _ ::r,v ::l=>aa7 h v++yX h r l
 | .v _ _ ::r,v ::l=>Ar v++yX h r l
 | .d _ ::r,_ ::l=>yX h r l
 | _,_=>[]
structure ArgIn where
 s:List (Nat×Option SlotV)
 h:List (Nat×List At)
 b:List (Nat×Nat)
def fJ (used:List Nat) (σ:St):Nat->List PK->List SV->Option ArgIn
 | _,[],[]=>some ⟨[],[],[]⟩
 | j,.d _ ::r,v ::l=>match fJ used σ (j+1) r l,wG used (Ar v) with
  | some a,true=>some ⟨(j,some ⟨none,Pe used (AH (noX (look σ.r)) v)⟩) ::a.s,a.h,a.b⟩
  | _,_=>none
 | j,.v _ _ ::r,v ::l=>match fJ used σ (j+1) r l with
  | some a=>some ⟨(j,some ⟨none,Pe used v⟩) ::a.s,a.h,a.b⟩
  | none=>none
 | j,.b _ ::r,v ::l=>match Lg v,fJ used σ (j+1) r l with
  | some b,some a=>match look σ.h b with
   | some cs=>some ⟨(j,some ⟨none,.c false [.ptr j 0]⟩) ::a.s,(j,yu used cs) ::a.h,(j,b) ::a.b⟩
   | none=>none
  | _,_=>none
 | _,_,_=>none
def mS (m:List (Nat×Nat)):List (Nat×List At)->List (Nat×List At)
 | []=>[]
 | p ::r=>match look m p.1 with
  | some b=>(b,p.2) ::mS m r
  | none=>mS m r
def Bn:Sh->Bool
 | .ref=>true
 | .sl _=>false
 | .pair a b=>Bn a&&Bn b
 | .agg e=>Bn e
 | _=>true
def XP.flat:XP->Bool
 | .set _ k=>k.flat
 | .map _ k e=>k.flat&&e.flat
 | .tab _ s _ e=>Bn s&&e.flat
def nL:List Pat->Bool
 | []=>true
 | .d s ::r=>s.flat&&nL r
 | .row _ e ::r=>e.flat&&nL r
 | .x p ::r=>p.flat&&nL r
def mP:List (Plc×List Pat)->Bool
 | []=>true
 | (.row _,_) ::_=>false
 | (.slot _ _,ps) ::r=>nL ps&&mP r
 | (.blk _,ps) ::r=>nL ps&&mP r
def jD:List (Nat×Nat)->List Nat
 | []=>[]
 | p ::r=>p.2 ::jD r
def vk (used:List Nat):List (Nat×RowS)->List (Nat×RowS)
 | []=>[]
 | p ::r=>match lz p.1 used with
  | true=>p ::vk used r
  | false=>vk used r
def uL:List At->List At
 | []=>[]
 | _ ::r=>.u ::uL r
def uH:List (Nat×List At)->List (Nat×List At)
 | []=>[]
 | p ::r=>(p.1,uL p.2) ::uH r
def xj (ks:List PK) (h:List (Nat×List At)):St:={ s:=yH 0 ks,h:=uH h,r:=[],next:=0 }
def K1 {R:Type} (c:SCtr) (args:List SV) (σ:St) (K:List SV->St->Option R):Option R :=
 match fJ (yX (look σ.h) c.ks args) σ 0 c.ks args with
 | some a=>match nI (rhI 0 c.ks) [] { s:=a.s,h:=a.h,r:=vk (yX (look σ.h) c.ks args) σ.r,next:=0 } with
  | some x=>match wG σ.ro (jD a.b)&&wG σ.roR (yX (look σ.h) c.ks args)&&vK (jD a.b)&&vK (yX (look σ.h) c.ks args)&&BC σ.r σ.next (oi c.out)&&mP c.out&&jI (rhI 0 c.ks) (mH 0 c.ks) [] (xj c.ks a.h) with
   | true=>ah (c.m x) fun y=>K (zL c.out y σ.next)
     {σ with h:=mS a.b (fo c.out y σ.next)++σ.h,r:=eT c.out y σ.next++(oM (yX (look σ.h) c.ks args)++σ.r),next:=σ.next+oi c.out }
   | false=>none
  | none=>none
 | none=>none
section
variable {E:Env} {σ:St}
def rb (E:Env) (g:Look) (bs used:List Nat) (b:Nat):Prop:=E.Z b\/(∃j l,g.h j=some l/\j ∉ bs/\E.β j=b)\/(∃q r,g.r q=some (.some r)/\q ∉ used/\(E.ρ q).ownBlock=some b)\/(∃q x,g.r q=some (.x x)/\q ∉ used/\E.φ q b)
theorem tv {used:List Nat} {i:Nat}:∀{l:List (Nat×RowS)},look (vk used l) i=if i ∈ used then look l i else none
 | []=>by simp[vk,look]
 | p ::r=>by
  simp only[vk]
  split
  ·rename_i hm
   rw[ai,ai,tv]
   by_cases e:i=p.1
   ·rw[if_pos e,if_pos e,e,if_pos (eA.1 hm)]
   ·rw[if_neg e,if_neg e]
  ·rename_i hm
   rw[ai,tv]
   by_cases hi:i ∈ used
   ·rw[if_pos hi,if_pos hi,if_neg]
    intro e
    rw[e,<-eA,hm] at hi
    cases hi
   ·rw[if_neg hi,if_neg hi]
theorem xM {E:Env}:∀{l m:List At} {cs:List Value},dy E (l++m) cs->∃c1 c2,cs=c1++c2/\dy E l c1/\dy E m c2
 | [],_,cs,h=>⟨[],cs,rfl,trivial,h⟩
 | _ ::l,m,c ::cs,h=>by
  obtain ⟨c1,c2,h1,h2,h3⟩:=xM (l:=l) h.2
  exact ⟨c ::c1,c2,by rw[h1];rfl,⟨h.1,h2⟩,h3⟩
 | _ ::_,_,[],h=>h.elim
theorem R8 {E E1:Env} {used:List Nat} (hw:E1.w=E.w) (hZ:∀b,E.Z b->E1.Z b) (hρ:E1.ρ=E.ρ) (hR:∀r,r ∈ used->E.R r->E1.R r):∀{x:At} {v:Value},kW E x v->kW E1 (PM used x) v
 | .u,_,_=>trivial
 | .v _,_,h=>h
 | .ptr _ _,_,_=>trivial
 | .clo _ _,_,_=>trivial
 | .sl e l,v,h=>by
  show Dat E1.w E1.Z (.sl e) l [v]
  rw[hw]
  exact Dat.mono hZ (fun _ _=>rfl) h
 | .row r,v,⟨h1,h2,h3⟩=>by
  simp only[PM]
  split
  ·rename_i hm
   exact ⟨by rw[hρ];exact h1,hR r (eA.1 hm) h2,h3⟩
  ·trivial
 | .rf _ _ _,_,_=>trivial
 | .re _ _ _ _,_,_=>trivial
 | .sub _ _ _ _,_,_=>trivial
 | .ae _ _ _ _ _ _,_,_=>trivial
 | .sn e l,v,h=>by
  refine ⟨h.1,?_⟩
  show Dat E1.w E1.Z (.sl e) l [v]
  rw[hw]
  exact Dat.mono hZ (fun _ _=>rfl) h.2
 | .ir _ _,_,_=>trivial
 | .ie _ _ _ _ _,_,_=>trivial
 | .fn _ _ _,_,_=>trivial
theorem vS {E E1:Env} {used:List Nat} (hw:E1.w=E.w) (hZ:∀b,E.Z b->E1.Z b) (hρ:E1.ρ=E.ρ) (hR:∀r,r ∈ used->E.R r->E1.R r):∀{l:List At} {vs:List Value},dy E l vs->dy E1 (yu used l) vs
 | [],[],_=>trivial
 | _ ::_,_ ::_,h=>⟨R8 hw hZ hρ hR h.1,vS hw hZ hρ hR h.2⟩
 | [],_ ::_,h=>h.elim
 | _ ::_,[],h=>h.elim
theorem Eo {E E1:Env} {used:List Nat} (hw:E1.w=E.w) (hZ:∀b,E.Z b->E1.Z b) (hρ:E1.ρ=E.ρ) (hR:∀r,r ∈ used->E.R r->E1.R r):∀{l:List (Bool×List At)} {vs:List Value},kF E l vs->kF E1 (l.map fun c=>(c.1,yu used c.2)) vs
 | [],[],_=>trivial
 | _ ::_,_ ::_,⟨⟨cs,h1,h2,h3⟩,h⟩=>⟨⟨cs,h1,vS hw hZ hρ hR h2,h3⟩,Eo hw hZ hρ hR h⟩
 | [],_ ::_,h=>h.elim
 | _ ::_,[],h=>h.elim
theorem DL {E E1:Env} {used:List Nat} (hw:E1.w=E.w) (hZ:∀b,E.Z b->E1.Z b) (hρ:E1.ρ=E.ρ) (hR:∀r,r ∈ used->E.R r->E1.R r):∀{s:SV} {v:Value},dh E s v->dh E1 (Pe used s) v
 | .c _ _,_,⟨cs,h1,h2,h3⟩=>⟨cs,h1,vS hw hZ hρ hR h2,h3⟩
 | .tup _,_,⟨vs,h1,h2⟩=>⟨vs,h1,Eo hw hZ hρ hR h2⟩
theorem XOk.zone {E E1:Env} {q:Nat} {x:XI} (hw:E1.w=E.w) (h0:E1.w0=E.w0) (hZ:∀b,E.Z b->E1.Z b) (hR:E1.R q) (hρ:E1.ρ q=E.ρ q) (hφ:E1.φ q=E.φ q) (hι:E1.ι q=E.ι q) (hν:E1.ν q=E.ν q) (h:XOk E q x):XOk E1 q x:=by
 have hd:∀(s:Sh) (z:s.T) (cs:List Value),Dat E.w E.Z s z cs->Dat E1.w E1.Z s z cs:=fun s z cs hd=>by rw[hw];exact Dat.mono hZ (fun _ _=>rfl) hd
 cases x with
 | set t k l =>
  obtain ⟨_,b,es,ck,h1,h2,h3,h4⟩:=h
  exact ⟨hR,b,es,ck,by rw[hρ];exact h1,by rw[hφ];exact h2,by rw[hw];exact h3,by rw[hw];exact gd.mono hZ (fun _ _=>rfl) h4⟩
 | map t k e l =>
  obtain ⟨_,b,es,ck,h1,h2,h3,h4⟩:=h
  exact ⟨hR,b,es,ck,by rw[hρ];exact h1,by rw[hφ];exact h2,by rw[hw];exact h3,by rw[hw];exact fN.mono hZ (fun _ _=>rfl) h4⟩
 | tab t s l ti e a =>
  obtain ⟨_,⟨xs,h1,h2⟩,h3,h4,h5,h6⟩:=h
  refine ⟨hR,⟨xs,by rw[hw,h0,hρ];exact h1,pw (E:=E) (fun i _=>by rw[hι]) (by rw[hν];exact bY _) hd h2⟩,by rw[hρ,hφ];exact h3,by rw[hν];exact h4,fun j l' hj=>?_,by rw[hι];exact h6⟩
  obtain ⟨⟨ys,g1,g2⟩,g3⟩:=h5 j l' hj
  unfold qf
  rw[hw,h0,hρ,hφ,hι]
  exact ⟨⟨ys,g1,aM.mono hZ (fun _ _=>rfl) g2⟩,g3⟩
theorem wy {m:List (Nat×Nat)} {j b:Nat} (h:look m j=some b):b ∈ jD m:=by
 induction m with
 | nil=>simp[look] at h
 | cons p r ih =>
  rw[ai] at h
  simp only[jD,List.mem_cons]
  split at h
  ·injection h with h;exact .inl h.symm
  ·exact .inr (ih h)
theorem MD {m:List (Nat×Nat)} (hn:(jD m).Nodup) {i j b:Nat} (hi:look m i=some b) (hj:look m j=some b):i=j:=by
 induction m with
 | nil=>simp[look] at hi
 | cons p r ih =>
  simp only[jD] at hn
  obtain ⟨h1,h2⟩:=List.nodup_cons.1 hn
  rw[ai] at hi hj
  split at hi
  ·rename_i e
   injection hi with hi
   split at hj
   ·rename_i e';rw[e,e']
   ·exact absurd (by rw[hi];exact wy hj) h1
  ·split at hj
   ·injection hj with hj
    exact absurd (by rw[hj];exact wy hi) h1
   ·exact ih h2 hi hj
structure ArgOk (σ:St) (used:List Nat) (j:Nat) (ks:List PK) (a:ArgIn):Prop where
 h:∀i l,look a.h i=some l->j<=i/\∃b cs,look a.b i=some b/\look σ.h b=some cs/\l=yu used cs
 b:∀i b,look a.b i=some b->j<=i/\(look σ.h b).isSome=true/\(look a.h i).isSome=true
 keys:∀i,(look a.h i).isSome=true↔i ∈ cP (rhB j ks)
 ptr:∀i,i ∉ mH j ks->look a.s i=look (yH j ks) i
theorem nC {used:List Nat}:∀{ks:List PK} {args:List SV} {j:Nat} {a:ArgIn},fJ used σ j ks args=some a->ArgOk σ used j ks a/\args.length=ks.length
 | [],[],j,a,h=>by
  simp only[fJ,a_] at h
  subst h
  exact ⟨⟨fun i l h=>by simp[look] at h,fun i b h=>by simp[look] at h,fun i=>by simp[look,rhB,cP],fun i _=>rfl⟩,rfl⟩
 | .d s ::r,v ::l,j,a,h=>by
  simp only[fJ] at h
  split at h
  ·rename_i a' ha _
   injection h with h
   subst h
   obtain ⟨⟨h1,h2,h3,h4⟩,h5⟩:=nC ha
   refine ⟨⟨fun i l hi=>?_,fun i b hi=>?_,h3,fun i hi=>?_⟩,by simp[h5]⟩
   ·obtain ⟨g1,g2⟩:=h1 i l hi;exact ⟨by omega,g2⟩
   ·obtain ⟨g1,g2⟩:=h2 i b hi;exact ⟨by omega,g2⟩
   ·simp only[mH,List.mem_cons,not_or] at hi
    rw[ai,if_neg hi.1]
    exact h4 i hi.2
  ·cases h
 | .v ag ps ::r,v ::l,j,a,h=>by
  simp only[fJ] at h
  split at h
  ·rename_i a' ha
   injection h with h
   subst h
   obtain ⟨⟨h1,h2,h3,h4⟩,h5⟩:=nC ha
   refine ⟨⟨fun i l hi=>?_,fun i b hi=>?_,h3,fun i hi=>?_⟩,by simp[h5]⟩
   ·obtain ⟨g1,g2⟩:=h1 i l hi;exact ⟨by omega,g2⟩
   ·obtain ⟨g1,g2⟩:=h2 i b hi;exact ⟨by omega,g2⟩
   ·simp only[mH,List.mem_cons,not_or] at hi
    rw[ai,if_neg hi.1]
    exact h4 i hi.2
  ·cases h
 | .b ps ::r,v ::l,j,a,h=>by
  simp only[fJ] at h
  split at h
  ·rename_i b a' hb ha
   split at h
   ·rename_i cs hcs
    injection h with h
    subst h
    obtain ⟨⟨h1,h2,h3,h4⟩,h5⟩:=nC ha
    refine ⟨⟨fun i l hi=>?_,fun i b' hi=>?_,fun i=>?_,fun i hi=>?_⟩,by simp[h5]⟩
    ·rw[ai] at hi
     split at hi
     ·rename_i e
      injection hi with hi
      exact ⟨by omega,b,cs,by rw[ai,if_pos e],hcs,hi.symm⟩
     ·rename_i e
      obtain ⟨g1,b',cs',g2,g3⟩:=h1 i l hi
      exact ⟨by omega,b',cs',by rw[ai,if_neg e];exact g2,g3⟩
    ·rw[ai] at hi ⊢
     split at hi
     ·rename_i e
      injection hi with hi
      subst hi
      exact ⟨by omega,by rw[hcs];rfl,by rw[if_pos e];rfl⟩
     ·rename_i e
      obtain ⟨g1,g2,g3⟩:=h2 i b' hi
      exact ⟨by omega,g2,by rw[if_neg e];exact g3⟩
    ·simp only[rhB,cP,List.mem_cons]
     rw[ai]
     by_cases e:i=j
     ·simp[e]
     ·rw[if_neg e,h3 i];simp[e]
    ·simp only[mH] at hi
     simp only[yH]
     rw[ai,ai]
     by_cases e:i=j
     ·simp[e]
     ·rw[if_neg e,if_neg e];exact h4 i hi
   ·cases h
  ·cases h
 | [],_ ::_,_,_,h=>by simp[fJ] at h
 | .d _ ::_,[],_,_,h=>by simp[fJ] at h
 | .b _ ::_,[],_,_,h=>by simp[fJ] at h
 | .v _ _ ::_,[],_,_,h=>by simp[fJ] at h
def Env.argE (E:Env) (g:Look) (used:List Nat) (a:ArgIn):Env :=
 {E with Z:=rb E g (jD a.b) used,β:=fun j=>E.β ((look a.b j).getD 0),L:=fun j=>(look a.h j).isSome=true,R:=fun r=>r ∈ used/\E.R r,rg:=false }
theorem pg (hm:MemOk E σ.look) {used:List Nat} {a0:ArgIn} (hsub:∀i b,look a0.b i=some b->True):∀{ks:List PK} {args:List SV} {j:Nat} {a:ArgIn} {vs:List Value},fJ used σ j ks args=some a->hG E args vs->(∀i b,look a.b i=some b->look a0.b i=some b/\(look a0.h i).isSome=true) ->
  ∀i t,look a.s i=some (some t)->∃v,j<=i/\vs[i - j]?=some v/\kx (E.argE σ.look used a0) t v
 | [],[],j,a,vs,h,_,_,i,t,hi=>by
  simp only[fJ,a_] at h
  subst h
  simp[look] at hi
 | .d s ::r,v ::l,j,a,u ::vs,h,hr,hs,i,t,hi=>by
  simp only[fJ] at h
  split at h
  ·rename_i a' ha hoff
   injection h with h
   subst h
   rw[ai] at hi
   split at hi
   ·rename_i e
    simp only[a_] at hi
    subst hi;subst e
    refine ⟨u,bY _,by simp,?_⟩
    have hm0:Mod 0 E { tmps:=#[],defers:=[] } { σ.look with s:=fun _=>none }:=⟨hm.glob.of rfl rfl,trivial,rfl,fun i s hi=>(by cases hi),hm.blks,hm.rows,hm.xs⟩
    have h1:=we hm0 (rk:=noX (look σ.r)) (fun _ _ h=>FT h) (u:=Ar v) (fun r _=>Gx r) hr.1 (fun _ h=>h)
    refine DL (E:=E.zone { σ.look with s:=fun _=>none } (Ar v)) (E1:=E.argE σ.look used a0) rfl (fun b hb=>?_) rfl (fun r hr1 hr2=>⟨hr1,hr2⟩) h1
    rcases hb with hb | ⟨q,hq,⟨ri,h2,h3⟩ | ⟨x,h2,h3⟩⟩
    ·exact .inl hb
    ·exact .inr (.inr (.inl ⟨q,ri,h2,jf hoff q hq,h3⟩))
    ·exact .inr (.inr (.inr ⟨q,x,h2,jf hoff q hq,h3⟩))
   ·obtain ⟨w,g1,g2,g3⟩:=pg hm hsub ha hr.2 hs i t hi
    exact ⟨w,by omega,by rw[show i - j=(i - (j+1))+1 by omega];simpa using g2,g3⟩
  ·cases h
 | .v ag ps ::r,v ::l,j,a,u ::vs,h,hr,hs,i,t,hi=>by
  simp only[fJ] at h
  split at h
  ·rename_i a' ha
   injection h with h
   subst h
   rw[ai] at hi
   split at hi
   ·rename_i e
    simp only[a_] at hi
    subst hi;subst e
    exact ⟨u,bY _,by simp,DL (E:=E) (E1:=E.argE σ.look used a0) rfl (fun b hb=>.inl hb) rfl (fun r hr1 hr2=>⟨hr1,hr2⟩) hr.1⟩
   ·obtain ⟨w,g1,g2,g3⟩:=pg hm hsub ha hr.2 hs i t hi
    exact ⟨w,by omega,by rw[show i - j=(i - (j+1))+1 by omega];simpa using g2,g3⟩
  ·cases h
 | .b ps ::r,v ::l,j,a,u ::vs,h,hr,hs,i,t,hi=>by
  simp only[fJ] at h
  split at h
  ·rename_i b a' hb ha
   split at h
   ·rename_i cs hcs
    injection h with h
    subst h
    rw[ai] at hi
    split at hi
    ·rename_i e
     simp only[a_] at hi
     subst hi;subst e
     refine ⟨u,bY _,by simp,?_⟩
     have hv:=S9 hb
     subst hv
     obtain ⟨cs',h1,h2,h3⟩:=hr.1
     obtain ⟨k1,k2⟩:=hs i b (by rw[ai,if_pos rfl])
     match cs',h2 with
     | [y],h2 =>
      obtain ⟨⟨h4,h5⟩,_⟩:=h2
      refine (show jG (E.argE σ.look used a0) false [.ptr i 0] u from ⟨[y],h1,⟨⟨?_,k2⟩,trivial⟩,h3⟩)
      rw[h4]
      simp[jk,Env.argE,k1]
    ·rename_i e
     obtain ⟨w,g1,g2,g3⟩:=pg hm hsub ha hr.2 (fun k b' hk=>hs k b' (by
      rw[ai,if_neg]
      ·exact hk
      ·intro e'
       have:=((nC ha).1.b k b' hk).1
       omega)) i t hi
     exact ⟨w,by omega,by rw[show i - j=(i - (j+1))+1 by omega];simpa using g2,g3⟩
   ·cases h
  ·cases h
 | [],_ ::_,_,_,_,h,_,_,_,_,_=>by simp[fJ] at h
 | .d _ ::_,[],_,_,_,h,_,_,_,_,_=>by simp[fJ] at h
 | .b _ ::_,[],_,_,_,h,_,_,_,_,_=>by simp[fJ] at h
 | .v _ _ ::_,[],_,_,_,h,_,_,_,_,_=>by simp[fJ] at h
 | _ ::_,_ ::_,_,_,[],_,hr,_,_,_,_=>hr.elim
theorem Rs (hm:MemOk E σ.look) {used:List Nat} {ks:List PK} {args:List SV} {a:ArgIn} {vs:List Value} (ha:fJ used σ 0 ks args=some a) (hr:hG E args vs) (hnb:(jD a.b).Nodup) :
  Mod vs.length (E.argE σ.look used a) { tmps:=vs.toArray,defers:=[] } (St.look { s:=a.s,h:=a.h,r:=vk used σ.r,next:=0 }):=by
 obtain ⟨hA,_⟩:=nC ha
 let E1:=E.argE σ.look used a
 have G:=hm.glob
 have hh:∀i l,look a.h i=some l->∃b cs,look a.b i=some b/\look σ.h b=some cs/\l=yu used cs/\E1.β i=E.β b:=fun i l hi=>by
  obtain ⟨_,b,cs,h1,h2,h3⟩:=hA.h i l hi
  exact ⟨b,cs,h1,h2,h3,by simp[E1,Env.argE,h1]⟩
 have hrr:∀i x,look (vk used σ.r) i=some x->look σ.r i=some x/\i ∈ used:=fun i x hi=>by
  rw[tv] at hi
  split at hi
  ·rename_i h;exact ⟨hi,h⟩
  ·cases hi
 have blt:∀i l,look σ.h i=some l->E.w0.heap.size<=E.β i/\E.β i<E.w.heap.size:=fun i l hi=>by
  refine ⟨(G.own i l hi).1,?_⟩
  obtain ⟨_,cs,t,h1,_⟩:=hm.blks i l hi
  exact (Array.getElem?_eq_some_iff.1 h1).1
 have rlt:∀i r b,look σ.r i=some (.some r)->(E.ρ i).ownBlock=some b->E.w0.heap.size<=b/\b<E.w.heap.size:=fun i r b hi hb=>by
  obtain ⟨_,xs,h1,_⟩:=hm.rows i r hi
  exact h1.lt b hb
 have xlt:∀i x b,look σ.r i=some (.x x)->E.φ i b->E.w0.heap.size<=b/\b<E.w.heap.size:=fun i x b hi hb=>⟨(G.xg.own i x b hi hb).1,(G.xg.own i x b hi hb).2.1⟩
 have zsz:∀b,rb E σ.look (jD a.b) used b->b<E.w.heap.size/\(E.Z0 b\/E.w0.heap.size<=b):=fun b hb=>by
  rcases hb with hb | ⟨j,l,h1,_,rfl⟩ | ⟨q,r,h1,_,h2⟩ | ⟨q,x,h1,_,h2⟩
  ·exact ⟨G.zlt b hb,G.zfrom b hb⟩
  ·exact ⟨(blt j l h1).2,.inr (blt j l h1).1⟩
  ·exact ⟨(rlt q r b h1 h2).2,.inr (rlt q r b h1 h2).1⟩
  ·exact ⟨(xlt q x b h1 h2).2,.inr (xlt q x b h1 h2).1⟩
 have nb:∀i b cs,look a.b i=some b->look σ.h b=some cs->¬ rb E σ.look (jD a.b) used (E.β b):=fun i b cs h1 h2 hz=>by
  rcases hz with hz | ⟨j,l,k1,k2,k3⟩ | ⟨q,r,k1,_,k2⟩ | ⟨q,x,k1,_,k2⟩
  ·exact (G.own b cs h2).2 hz
  ·have:=G.inj j b l cs k1 h2 k3
   subst this
   exact k2 (wy h1)
  ·exact (G.rown q r _ k1 k2).2 b cs h2 rfl
  ·exact (G.xg.own q x _ k1 k2).2.2.2.1 b cs h2 rfl
 have nr:∀i r b,look σ.r i=some (.some r)->i ∈ used->(E.ρ i).ownBlock=some b->¬ rb E σ.look (jD a.b) used b:=fun i r b h1 h2 h3 hz=>by
  rcases hz with hz | ⟨j,l,k1,k2,k3⟩ | ⟨q,r',k1,k3,k2⟩ | ⟨q,x,k1,_,k2⟩
  ·exact (G.rown i r b h1 h3).1 hz
  ·exact (G.rown i r b h1 h3).2 j l k1 k3
  ·exact k3 (by rw[G.rinj q i r' r b k1 h1 k2 h3];exact h2)
  ·exact (G.xg.own q x b k1 k2).2.2.2.2 i r h1 h3
 have nx:∀i y b,look σ.r i=some (.x y)->i ∈ used->E.φ i b->¬ rb E σ.look (jD a.b) used b:=fun i y b h1 h2 h3 hz=>by
  obtain ⟨_,_,g3,g4,g5⟩:=G.xg.own i y b h1 h3
  rcases hz with hz | ⟨j,l,k1,k2,k3⟩ | ⟨q,r',k1,k3,k2⟩ | ⟨q,x,k1,k3,k2⟩
  ·exact g3 hz
  ·exact g4 j l k1 k3
  ·exact g5 q r' k1 k2
  ·exact k3 (by rw[G.xg.inj q i x y b k1 h1 k2 h3];exact h2)
 have hZ1:∀b,E.Z b->E1.Z b:=fun b hb=>.inl hb
 have hxg:XGlob E1 (St.look { s:=a.s,h:=a.h,r:=vk used σ.r,next:=0 }):=by
  refine ⟨fun i x b hi hb=>?_,fun i j x y b hi hj hb hb'=>G.xg.inj i j x y b (hrr i _ hi).1 (hrr j _ hj).1 hb hb'⟩
  obtain ⟨h1,h2⟩:=hrr i _ hi
  obtain ⟨g1,g2,g3,g4,g5⟩:=G.xg.own i x b h1 hb
  refine ⟨g1,g2,nx i x b h1 h2 hb,fun j l hj=>?_,fun j r hj=>g5 j r (hrr j _ hj).1⟩
  obtain ⟨b',cs,_,k2,_,k4⟩:=hh j l hj
  rw[k4]
  exact g4 b' cs k2
 refine ⟨⟨G.below,fun b hb=>(zsz b hb).1,fun b hb=>.inl (G.z0 b hb),fun b hb=>(zsz b hb).2,fun j hj=>hj,fun r hr=>?_,fun i l hi=>?_,fun i j l l' hi hj hij=>?_,fun i r b hi hb=>?_,fun i j r r' b hi hj hb hb'=>G.rinj i j r r' b (hrr i _ hi).1 (hrr j _ hj).1 hb hb',hxg⟩,trivial,by simp,fun i t hi=>?_,fun i l hi=>?_,fun i r hi=>?_,fun i x hi=>?_⟩
 ·show (look (vk used σ.r) r).isSome=true
  rw[tv,if_pos hr.1]
  exact G.rlive r hr.2
 ·obtain ⟨b,cs,h1,h2,_,h4⟩:=hh i l hi
  show E.w0.heap.size<=E1.β i/\¬ rb E σ.look (jD a.b) used (E1.β i)
  rw[h4]
  exact ⟨(blt b cs h2).1,nb i b cs h1 h2⟩
 ·obtain ⟨b,cs,h1,h2,_,h4⟩:=hh i l hi
  obtain ⟨b',cs',k1,k2,_,k4⟩:=hh j l' hj
  have hij:E1.β i=E1.β j:=hij
  rw[h4,k4] at hij
  have:=G.inj b b' cs cs' h2 k2 hij
  subst this
  exact MD hnb h1 k1
 ·obtain ⟨h1,h2⟩:=hrr i _ hi
  refine ⟨nr i r b h1 h2 hb,fun j l hj=>?_⟩
  obtain ⟨b',cs,_,k2,_,k4⟩:=hh j l hj
  show E1.β j≠b
  rw[k4]
  exact (G.rown i r b h1 hb).2 b' cs k2
 ·have hi:jF a.s i=some t:=hi
  unfold jF at hi
  split at hi
  ·rename_i t' hl
   injection hi with hi
   subst hi
   obtain ⟨v,_,h2,h3⟩:=pg hm (a0:=a) (fun _ _ _=>trivial) ha hr (fun k b hk=>⟨hk,(hA.b k b hk).2.2⟩) i t' hl
   exact ⟨v,by simpa using h2,h3⟩
  ·cases hi
 ·obtain ⟨b,cs,h1,h2,h3,h4⟩:=hh i l hi
  obtain ⟨_,ds,t,g1,g2,g3⟩:=hm.blks b cs h2
  subst h3
  have hi':look a.h i=some (yu used cs):=hi
  exact ⟨by show (look a.h i).isSome=true;rw[hi'];rfl,ds,t,by show E.w.heap[E1.β i]?=_;rw[h4];exact g1,vS (E:=E) (E1:=E1) rfl hZ1 rfl (fun r hr1 hr2=>⟨hr1,hr2⟩) g2,g3⟩
 ·obtain ⟨h1,h2⟩:=hrr i _ hi
  obtain ⟨g1,xs,g2,g3,g4⟩:=hm.rows i r h1
  exact ⟨⟨h2,g1⟩,xs,g2,aM.mono hZ1 (fun _ _=>rfl) g3,g4⟩
 ·obtain ⟨h1,h2⟩:=hrr i _ hi
  exact XOk.zone (E:=E) (E1:=E1) rfl rfl hZ1 ⟨h2,(hm.xs i x h1).live⟩ rfl rfl rfl rfl (hm.xs i x h1)
theorem ub {i:Nat}:∀{l:List (Nat×List At)},look (uH l) i=(look l i).map uL
 | []=>rfl
 | p ::r=>by
  simp only[uH]
  rw[ai,ai,ub]
  split<;>rfl
theorem JM {E:Env}:∀{l:List At} {cs:List Value},l.length=cs.length->dy E (uL l) cs
 | [],[],_=>trivial
 | _ ::_,_ ::_,h=>⟨trivial,JM (by simpa using h)⟩
 | [],_ ::_,h=>by simp at h
 | _ ::_,[],h=>by simp at h
theorem qP {α:Type} {W:List Nat} {i:Nat}:∀{l:List (Nat×α)},i ∈ cC W l->i ∉ W
 | [],h=>by simp[cC] at h
 | p ::r,h=>by
  simp only[cC] at h
  split at h
  ·exact qP h
  ·rename_i hm
   rcases List.mem_cons.1 h with e | h
   ·subst e
    intro hw
    rw[eA.2 hw] at hm
    cases hm
   ·exact qP h
theorem vW:∀{ks:List PK} {j:Nat},cP (rhI j ks)=cP (rhB j ks)
 | [],_=>rfl
 | .d _ ::r,j=>by simp only[rhI,rhB,cP];exact vW
 | .b _ ::r,j=>by simp only[rhI,rhB,cP];rw[vW]
 | .v _ _ ::r,j=>by simp only[rhI,rhB,cP];exact vW
theorem vG:∀{l m:List (Plc×List Pat)},cP (l++m)=cP l++cP m
 | [],_=>rfl
 | (.slot _ _,_) ::r,m=>by simp only[List.cons_append,cP];exact vG
 | (.blk _,_) ::r,m=>by simp only[List.cons_append,cP];rw[vG]
 | (.row _,_) ::r,m=>by simp only[List.cons_append,cP];exact vG
theorem JP:∀{rs:List (Bool×List Pat)} {j:Nat},cP (rhS j rs)=[]
 | [],_=>rfl
 | _ ::r,j=>by simp only[rhS,cP];exact JP
theorem tO {E E':Env}:∀{s:Sh} {x:s.T} {cs:List Value},s.flat=true->dy E (s.cells x) cs->dy E' (s.cells x) cs
 | .int _,_,[_],_,h=>⟨h.1,trivial⟩
 | .bool,_,[_],_,h=>⟨h.1,trivial⟩
 | .str,_,[_],_,h=>⟨h.1,trivial⟩
 | .pair a b,x,cs,hf,h=>by
  simp only[Sh.flat,z10] at hf
  simp only[Sh.cells] at h ⊢
  obtain ⟨c1,c2,rfl,h1,h2⟩:=xM h
  exact (tO hf.1 h1).append (tO hf.2 h2)
 | .agg e,x,cs,hf,h=>tO (s:=e) (x:=x) hf h
 | .sl _,_,_,hf,_=>by cases hf
 | .ref,_,_,hf,_=>by cases hf
 | .int _,_,_ ::_ ::_,_,h=>h.2.elim
 | .bool,_,_ ::_ ::_,_,h=>h.2.elim
 | .str,_,_ ::_ ::_,_,h=>h.2.elim
 | .int _,_,[],_,h=>h.elim
 | .bool,_,[],_,h=>h.elim
 | .str,_,[],_,h=>h.elim
theorem mj {E E':Env} {n cnt:Nat} (hρ:∀i,i<cnt->E'.ρ (i+n)=E.ρ i/\E'.R (i+n)):∀{ps:List Pat} {X:Type} {x:xU ps X} {k:Nat} {cs:List Value},nL ps=true->k+ic ps<=cnt->dy E (pM ps x k) cs->dy E' (pM ps x (k+n)) cs
 | [],_,_,_,cs,_,_,h=>by
  cases cs with
  | nil=>trivial
  | cons _ _=>exact h.elim
 | .d s ::r,_,x,k,cs,hf,hc,h=>by
  simp only[nL,z10] at hf
  simp only[pM] at h ⊢
  simp only[ic] at hc
  obtain ⟨c1,c2,rfl,h1,h2⟩:=xM h
  exact (tO hf.1 h1).append (mj hρ hf.2 hc h2)
 | .row _ _ ::r,_,x,k,c ::cs,hf,hc,h=>by
  simp only[nL,z10] at hf
  simp only[ic] at hc
  obtain ⟨⟨h1,h2,h3⟩,h4⟩:=h
  obtain ⟨g1,g2⟩:=hρ k (by omega)
  refine ⟨⟨h1.trans g1.symm,g2,h3⟩,?_⟩
  have:=mj hρ (x:=x.2) (k:=k+1) hf.2 (by omega) h4
  rw[show k+1+n=k+n+1 by omega] at this
  exact this
 | .x _ ::r,_,x,k,c ::cs,hf,hc,h=>by
  simp only[nL,z10] at hf
  simp only[ic] at hc
  obtain ⟨⟨h1,h2,h3⟩,h4⟩:=h
  obtain ⟨g1,g2⟩:=hρ k (by omega)
  refine ⟨⟨h1.trans g1.symm,g2,h3⟩,?_⟩
  have:=mj hρ (x:=x.2) (k:=k+1) hf.2 (by omega) h4
  rw[show k+1+n=k+n+1 by omega] at this
  exact this
 | .row _ _ ::_,_,_,_,[],_,_,h=>h.elim
 | .x _ ::_,_,_,_,[],_,_,h=>h.elim
theorem nX {n:Nat}:∀{ps:List Pat} {X:Type} {x:xU ps X} {k i:Nat},look (ii ps x (k+n)) (i+n)=look (ii ps x k) i
 | [],_,_,_,_=>rfl
 | .d _ ::r,_,x,k,i=>by simp only[ii];exact nX
 | .row t e ::r,_,x,k,i=>by
  simp only[ii]
  rw[ai,ai,show k+n+1=k+1+n by omega,nX]
  by_cases h:i=k
  ·rw[if_pos h,if_pos (by omega)]
  ·rw[if_neg h,if_neg (by omega)]
 | .x p ::r,_,x,k,i=>by
  simp only[ii]
  rw[ai,ai,show k+n+1=k+1+n by omega,nX]
  by_cases h:i=k
  ·rw[if_pos h,if_pos (by omega)]
  ·rw[if_neg h,if_neg (by omega)]
theorem vI {n:Nat}:∀{rh:List (Plc×List Pat)} {x:TsR rh} {k i:Nat},mP rh=true->look (eT rh x (k+n)) (i+n)=look (eT rh x k) i
 | [],_,_,_,_=>rfl
 | (.slot _ _,ps) ::r,x,k,i,hf=>by
  simp only[mP,z10] at hf
  simp only[eT,kE,wH]
  rw[bA,bA,nX,show k+n+ic ps=k+ic ps+n by omega,vI hf.2]
 | (.blk _,ps) ::r,x,k,i,hf=>by
  simp only[mP,z10] at hf
  simp only[eT,kE,wH]
  rw[bA,bA,nX,show k+n+ic ps=k+ic ps+n by omega,vI hf.2]
 | (.row _,_) ::_,_,_,_,hf=>by cases hf
theorem zF:∀{rh:List (Plc×List Pat)},mP rh=true->cG rh=[]
 | [],_=>rfl
 | (.slot _ _,ps) ::r,hf=>by simp only[mP,z10] at hf;simp only[cG];exact zF hf.2
 | (.blk _,ps) ::r,hf=>by simp only[mP,z10] at hf;simp only[cG];exact zF hf.2
 | (.row _,_) ::_,hf=>by cases hf
theorem CF {i:Nat}:∀{rh:List (Plc×List Pat)} {x:TsR rh} {k:Nat},mP rh=true->(∀ri,look (eT rh x k) i=some (.some ri)->ri.e.flat=true)/\(∀y,look (eT rh x k) i=some (.x y)->∃(p:XP) (z:p.T),p.flat=true/\y=p.mk z):=by
 have hP:∀{ps:List Pat} {X:Type} {x:xU ps X} {k:Nat},nL ps=true->(∀ri,look (ii ps x k) i=some (.some ri)->ri.e.flat=true)/\(∀y,look (ii ps x k) i=some (.x y)->∃(p:XP) (z:p.T),p.flat=true/\y=p.mk z):=by
  intro ps
  induction ps with
  | nil=>intro X x k _;exact ⟨fun ri h=>by simp[ii,look] at h,fun y h=>by simp[ii,look] at h⟩
  | cons p r ih =>
   intro X x k hf
   cases p with
   | d s=>simp only[nL,z10] at hf;simp only[ii];exact ih hf.2
   | row t e =>
    simp only[nL,z10] at hf
    simp only[ii]
    rw[ai]
    split
    ·exact ⟨fun ri h=>(by injection h with h;injection h with h;subst h;exact hf.1),fun y h=>(by injection h with h;cases h)⟩
    ·exact ih hf.2
   | x p =>
    simp only[nL,z10] at hf
    simp only[ii]
    rw[ai]
    split
    ·exact ⟨fun ri h=>(by injection h with h;cases h),fun y h=>(by injection h with h;injection h with h;exact ⟨p,x.1,hf.1,h.symm⟩)⟩
    ·exact ih hf.2
 intro rh
 induction rh with
 | nil=>intro x k _;exact ⟨fun ri h=>by simp[eT,look] at h,fun y h=>by simp[eT,look] at h⟩
 | cons p r ih =>
  intro x k hf
  obtain ⟨pl,ps⟩:=p
  cases pl with
  | row q=>cases hf
  | slot j ag =>
   simp only[mP,z10] at hf
   simp only[eT,kE]
   rw[bA]
   cases hq:look (ii ps x k) i with
   | some u =>
    obtain ⟨h1,h2⟩:=hP (x:=x) (k:=k) hf.1
    exact ⟨fun ri h=>h1 ri (by rw[hq];exact h),fun y h=>h2 y (by rw[hq];exact h)⟩
   | none=>exact ih hf.2
  | blk b =>
   simp only[mP,z10] at hf
   simp only[eT,kE]
   rw[bA]
   cases hq:look (ii ps x k) i with
   | some u =>
    obtain ⟨h1,h2⟩:=hP (x:=x) (k:=k) hf.1
    exact ⟨fun ri h=>h1 ri (by rw[hq];exact h),fun y h=>h2 y (by rw[hq];exact h)⟩
   | none=>exact ih hf.2
theorem vm {E E':Env} {n cnt:Nat} (hρ:∀i,i<cnt->E'.ρ (i+n)=E.ρ i/\E'.R (i+n)):∀{rh:List (Plc×List Pat)} {x:TsR rh} {k j:Nat} {l:List At},mP rh=true->k+oi rh<=cnt->look (fo rh x (k+n)) j=some l->∃l',look (fo rh x k) j=some l'/\∀cs,dy E l' cs->dy E' l cs
 | [],_,_,_,_,_,_,h=>by simp[fo,look] at h
 | (.slot _ _,ps) ::r,x,k,j,l,hf,hc,h=>by
  simp only[mP,z10] at hf
  simp only[oi,wH] at hc
  simp only[fo] at h ⊢
  rw[show k+n+ic ps=k+ic ps+n by omega] at h
  exact vm hρ hf.2 (by omega) h
 | (.blk b,ps) ::r,x,k,j,l,hf,hc,h=>by
  simp only[mP,z10] at hf
  simp only[oi,wH] at hc
  simp only[fo] at h ⊢
  rw[ai] at h ⊢
  split at h
  ·rename_i e
   injection h with h
   subst h
   exact ⟨_,by rw[if_pos e],fun cs hcs=>mj hρ hf.1 (by omega) hcs⟩
  ·rename_i e
   rw[if_neg e]
   rw[show k+n+ic ps=k+ic ps+n by omega] at h
   exact vm hρ hf.2 (by omega) h
 | (.row _,_) ::_,_,_,_,_,hf,_,_=>by cases hf
theorem xN {E E':Env} {n cnt:Nat} (hρ:∀i,i<cnt->E'.ρ (i+n)=E.ρ i/\E'.R (i+n)):∀{rh:List (Plc×List Pat)} {x:TsR rh} {k:Nat} {us:List Value},mP rh=true->k+oi rh<=cnt->hG E (zL rh x k) us->hG E' (zL rh x (k+n)) us
 | [],_,_,us,_,_,h=>by
  cases us with
  | nil=>trivial
  | cons _ _=>exact h.elim
 | (.slot _ ag,ps) ::r,x,k,u ::us,hf,hc,h=>by
  simp only[mP,z10] at hf
  simp only[oi,wH] at hc
  obtain ⟨⟨cs,h1,h2,h3⟩,h4⟩:=h
  refine ⟨⟨cs,h1,mj hρ hf.1 (by omega) h2,h3⟩,?_⟩
  have:=xN hρ (k:=k+ic ps) hf.2 (by omega) h4
  rw[show k+ic ps+n=k+n+ic ps by omega] at this
  exact this
 | (.slot _ ag,ps) ::r,x,k,[],_,_,h=>h.elim
 | (.blk _,ps) ::r,x,k,us,hf,hc,h=>by
  simp only[mP,z10] at hf
  simp only[oi,wH] at hc
  have:=xN hρ (rh:=r) (x:=oJ ps x) (k:=k+ic ps) hf.2 (by omega) h
  rw[show k+ic ps+n=k+n+ic ps by omega] at this
  exact this
 | (.row _,_) ::_,_,_,_,hf,_,_=>by cases hf
theorem tU {m:List (Nat×Nat)} {b:Nat} {c:List At}:∀{l:List (Nat×List At)},look (mS m l) b=some c->∃j,look m j=some b/\look l j=some c
 | [],h=>by simp[mS,look] at h
 | p ::r,h=>by
  simp only[mS] at h
  split at h
  ·rename_i b' hb
   rw[ai] at h
   split at h
   ·rename_i e
    injection h with h
    subst h;subst e
    exact ⟨p.1,hb,by rw[ai,if_pos rfl]⟩
   ·rename_i e
    obtain ⟨j,h1,h2⟩:=tU h
    refine ⟨j,h1,?_⟩
    rw[ai,if_neg]
    ·exact h2
    ·intro e'
     subst e'
     rw[h1] at hb
     injection hb with hb
     exact e hb
  ·rename_i hb
   obtain ⟨j,h1,h2⟩:=tU h
   refine ⟨j,h1,?_⟩
   rw[ai,if_neg]
   ·exact h2
   ·intro e'
    subst e'
    rw[h1] at hb
    cases hb
theorem xy {m:List (Nat×Nat)} {b j:Nat} (hj:look m j=some b):∀{l:List (Nat×List At)},(look l j).isSome=true->(look (mS m l) b).isSome=true
 | [],h=>by simp[look] at h
 | p ::r,h=>by
  simp only[mS]
  rw[ai] at h
  split
  ·rename_i b' hb
   rw[ai]
   split
   ·rfl
   ·rename_i e
    split at h
    ·rename_i e'
     subst e'
     rw[hj] at hb
     injection hb with hb
     exact absurd hb e
    ·exact xy hj h
  ·rename_i hb
   split at h
   ·rename_i e'
    subst e'
    rw[hj] at hb
    cases hb
   ·exact xy hj h
def Env.outE (E E':Env) (n cnt:Nat):Env :=
 {E with w:=E'.w,R:=fun i=>E.R i\/(n<=i/\i<n+cnt),ρ:=fun i=>if n<=i/\i<n+cnt then E'.ρ (i - n) else E.ρ i,φ:=fun i=>if n<=i/\i<n+cnt then E'.φ (i - n) else E.φ i,ι:=fun i=>if n<=i/\i<n+cnt then E'.ι (i - n) else E.ι i,ν:=fun i=>if n<=i/\i<n+cnt then E'.ν (i - n) else E.ν i }
theorem wB {E E':Env} {i q:Nat} (hι:E'.ι i=E.ι q) (hν:E'.ν i=E.ν q):∀{s:Sh} {x:s.T} {cs:List Value},Bn s=true->gx E q s x cs->gx E' i s x cs
 | .ref,_,_,_,h=>by simp only[gx] at h ⊢;rw[hι,hν];exact h
 | .pair a b,x,cs,hf,h=>by
  simp only[Bn,z10] at hf
  simp only[gx] at h ⊢
  obtain ⟨c1,c2,h1,h2,h3⟩:=h
  exact ⟨c1,c2,h1,wB hι hν hf.1 h2,wB hι hν hf.2 h3⟩
 | .agg e,x,cs,hf,h=>wB (s:=e) (x:=x) hι hν hf h
 | .int _,_,_,_,h=>h
 | .bool,_,_,_,h=>h
 | .str,_,_,_,h=>h
 | .sl _,_,_,hf,_=>by cases hf
theorem An {E E':Env} {i q:Nat} (hι:E'.ι i=E.ι q) (hν:E'.ν i=E.ν q) {s:Sh} (hf:Bn s=true):∀{l:List s.T} {xs:List Value},eC E q s l xs->eC E' i s l xs
 | [],_,h=>h
 | _ ::_,_,⟨c,r,h1,h2,h3⟩=>⟨c,r,h1,wB hι hν hf h2,An hι hν hf h3⟩
theorem Eh {w w':World} {Z Z':Nat->Prop} {k:Sh} (hf:k.flat=true):∀{l:List k.T} {en:List MapEntry},gd w Z k l en->gd w' Z' k l en
 | [],_,h=>h
 | _ ::_,_,⟨m,r,h1,h2,h3,h4⟩=>⟨m,r,h1,Dat.flat hf h2,h3,Eh hf h4⟩
theorem Eb {w w':World} {Z Z':Nat->Prop} {k e:Sh} (hk:k.flat=true) (he:e.flat=true):∀{l:List (k.T×e.T)} {en:List MapEntry},fN w Z k e l en->fN w' Z' k e l en
 | [],_,h=>h
 | _ ::_,_,⟨m,r,h1,h2,⟨cs,h3,h4,h5⟩,h6⟩=>⟨m,r,h1,Dat.flat hk h2,⟨cs,Dat.flat he h3,h4,h5⟩,Eb hk he h6⟩
theorem XOk.flat {E E':Env} {i q:Nat} {p:XP} {z:p.T} (hf:p.flat=true) (hw:E'.w=E.w) (h0:E'.w0=E.w0) (hR:E'.R i) (hρ:E'.ρ i=E.ρ q) (hφ:E'.φ i=E.φ q) (hι:E'.ι i=E.ι q) (hν:E'.ν i=E.ν q) (h:XOk E q (p.mk z)):XOk E' i (p.mk z):=by
 cases p with
 | set t k =>
  obtain ⟨_,b,es,ck,h1,h2,h3,h4⟩:=h
  exact ⟨hR,b,es,ck,by rw[hρ];exact h1,by rw[hφ];exact h2,by rw[hw];exact h3,Eh hf h4⟩
 | map t k e =>
  simp only[XP.flat,z10] at hf
  obtain ⟨_,b,es,ck,h1,h2,h3,h4⟩:=h
  exact ⟨hR,b,es,ck,by rw[hρ];exact h1,by rw[hφ];exact h2,by rw[hw];exact h3,Eb hf.1 hf.2 h4⟩
 | tab t s ti e =>
  simp only[XP.flat,z10] at hf
  obtain ⟨_,⟨xs,h1,h2⟩,h3,h4,h5,h6⟩:=h
  refine ⟨hR,⟨xs,by rw[hw,h0,hρ];exact h1,An hι hν hf.1 h2⟩,by rw[hρ,hφ];exact h3,by rw[hν];exact h4,fun j l' hj=>?_,by rw[hι];exact h6⟩
  obtain ⟨⟨ys,g1,g2⟩,g3⟩:=h5 j l' hj
  unfold qf
  rw[hw,h0,hρ,hφ,hι]
  exact ⟨⟨ys,g1,aM.flat hf.2 (aM.mono (fun _ h=>h) (fun _ _=>rfl) g2)⟩,g3⟩
theorem qO {used:List Nat}:∀{ks:List PK} {args:List SV} {j:Nat} {a:ArgIn},fJ used σ j ks args=some a->∀i ∈ jD a.b,∃k,look a.b k=some i
 | [],[],j,a,h,i,hi=>by
  simp only[fJ,a_] at h
  subst h
  simp[jD] at hi
 | .d s ::r,v ::l,j,a,h,i,hi=>by
  simp only[fJ] at h
  split at h
  ·rename_i a' ha _
   injection h with h
   subst h
   exact qO ha i hi
  ·cases h
 | .v ag ps ::r,v ::l,j,a,h,i,hi=>by
  simp only[fJ] at h
  split at h
  ·rename_i a' ha
   injection h with h
   subst h
   exact qO ha i hi
  ·cases h
 | .b ps ::r,v ::l,j,a,h,i,hi=>by
  simp only[fJ] at h
  split at h
  ·rename_i b a' hb ha
   split at h
   ·injection h with h
    subst h
    simp only[jD,List.mem_cons] at hi
    rcases hi with rfl | hi
    ·exact ⟨j,by rw[ai,if_pos rfl]⟩
    ·obtain ⟨k,hk⟩:=qO ha i hi
     refine ⟨k,?_⟩
     rw[ai,if_neg]
     ·exact hk
     ·intro e
      have:=((nC ha).1.b k i hk).1
      omega
   ·cases h
  ·cases h
 | [],_ ::_,_,_,h,_,_=>by simp[fJ] at h
 | .d _ ::_,[],_,_,h,_,_=>by simp[fJ] at h
 | .b _ ::_,[],_,_,h,_,_=>by simp[fJ] at h
 | .v _ _ ::_,[],_,_,h,_,_=>by simp[fJ] at h
theorem D2 {E:Env}:∀{l:List SV} {vs:List Value},hG E l vs->l.length=vs.length
 | [],[],_=>rfl
 | _ ::_,_ ::_,h=>by simp[D2 h.2]
 | [],_ ::_,h=>h.elim
 | _ ::_,[],h=>h.elim
theorem Hp {P:Program} {id:FuncId} {c:SCtr} (hc:c.ok P id) {R:Type} {K:List SV->St->Option R} {z:R} {args:List SV} {vs:Array Value} {post:Ending->World->Prop} (h:K1 c args σ K=some z) (hro:RoR σ) (hm:MemOk E σ.look) (hP:E.P=P) (hr:hG E args vs.toList)
  (hpost:∀svs σ' E' v,K svs σ'=some z->io E E'->Keep E E'->Fr σ σ'->MemOk E' σ'.look->(∀sv,Dm svs=some sv->dh E' sv v)->post (.returned v) E'.w)
  (hret:∀(E:Env) (l:List SV) (sv:SV) (us:List Value),Dm l=some sv->hG E l us->dh E sv (if h:us.length=1 then us[0] else .tuple us.toArray)):Calls P id vs E.w post:=by
 unfold K1 at h
 split at h
 case h_2=>cases h
 rename_i a ha
 split at h
 case h_2=>cases h
 rename_i x hx
 split at h
 case h_2=>cases h
 rename_i hchk
 obtain ⟨y,hy,hK⟩:=xw h
 simp only[z10] at hchk
 obtain ⟨⟨⟨⟨⟨⟨hoB,hoR⟩,hnb⟩,hnu⟩,hfr⟩,hfl⟩,hpl⟩:=hchk
 generalize hu:yX (look σ.h) c.ks args=used at *
 have hnb:=vc hnb
 have hfr:=oj hfr
 obtain ⟨hA,hlen⟩:=nC ha
 have hM1:=Rs hm ha hr hnb
 have G:=hm.glob
 generalize hE1:E.argE σ.look used a=E1 at hM1
 have e1w:E1.w=E.w:=by rw[<-hE1];rfl
 have e1w0:E1.w0=E.w0:=by rw[<-hE1];rfl
 have e1Z0:E1.Z0=E.Z0:=by rw[<-hE1];rfl
 have e1P:E1.P=E.P:=by rw[<-hE1];rfl
 have e1Z:E1.Z=rb E σ.look (jD a.b) used:=by rw[<-hE1];rfl
 have e1rg:E1.rg=false:=by rw[<-hE1];rfl
 have e1L:∀j,E1.L j↔(look a.h j).isSome=true:=fun j=>by rw[<-hE1];exact Iff.rfl
 have e1β:∀j b,look a.b j=some b->E1.β j=E.β b:=fun j b hj=>by rw[<-hE1];simp[Env.argE,hj]
 let E0:Env:={ E1 with R:=fun _=>False }
 have hM0:Mod vs.toList.length E0 { tmps:=vs.toList.toArray,defers:=[] } (xj c.ks a.h).look:=by
  have hkey:∀i l,look (uH a.h) i=some l->∃l',look a.h i=some l'/\l=uL l':=fun i l hi=>by
   rw[ub] at hi
   cases hq:look a.h i with
   | none=>rw[hq] at hi;cases hi
   | some l'=>rw[hq] at hi;injection hi with hi;exact ⟨l',rfl,hi.symm⟩
  refine ⟨⟨hM1.glob.below,hM1.glob.zlt,hM1.glob.z0,hM1.glob.zfrom,fun j hj=>?_,fun r hr=>hr.elim,fun i l hi=>?_,fun i j l l' hi hj hij=>?_,fun i r b hi=>by simp[xj,St.look,look] at hi,fun i j r r' b hi=>by simp[xj,St.look,look] at hi,⟨fun i x b hi=>by simp[xj,St.look,look] at hi,fun i j x y b hi=>by simp[xj,St.look,look] at hi⟩⟩,trivial,hM1.size,fun i t hi=>?_,fun i l hi=>?_,fun i r hi=>by simp[xj,St.look,look] at hi,fun i x hi=>by simp[xj,St.look,look] at hi⟩
  ·show (look (uH a.h) j).isSome=true
   rw[ub]
   have hj:(look a.h j).isSome=true:=(e1L j).1 hj
   cases hq:look a.h j with
   | none=>rw[hq] at hj;cases hj
   | some l=>rfl
  ·obtain ⟨l',h1,_⟩:=hkey i l hi
   exact hM1.glob.own i l' h1
  ·obtain ⟨l1,h1,_⟩:=hkey i l hi
   obtain ⟨l2,h2,_⟩:=hkey j l' hj
   exact hM1.glob.inj i j l1 l2 h1 h2 hij
  ·have hi:jF (yH 0 c.ks) i=some t:=hi
   have hnp:i ∉ mH 0 c.ks:=by
    intro hn
    have:∀(ks:List PK) (j:Nat),(∀k ∈ mH j ks,j<=k)/\(∀k t,look (yH j ks) k=some t->j<=k/\k ∉ mH j ks):=by
     intro ks
     induction ks with
     | nil=>intro j;exact ⟨fun k h=>by simp[mH] at h,fun k t h=>by simp[yH,look] at h⟩
     | cons p r ih =>
      intro j
      obtain ⟨i1,i2⟩:=ih (j+1)
      cases p with
      | d s =>
       refine ⟨fun k h=>?_,fun k t h=>?_⟩
       ·simp only[mH,List.mem_cons] at h
        rcases h with h | h
        ·omega
        ·have:=i1 k h;omega
       ·obtain ⟨g1,g2⟩:=i2 k t h
        exact ⟨by omega,by simp only[mH,List.mem_cons,not_or];exact ⟨by omega,g2⟩⟩
      | v ag ps =>
       refine ⟨fun k h=>?_,fun k t h=>?_⟩
       ·simp only[mH,List.mem_cons] at h
        rcases h with h | h
        ·omega
        ·have:=i1 k h;omega
       ·obtain ⟨g1,g2⟩:=i2 k t h
        exact ⟨by omega,by simp only[mH,List.mem_cons,not_or];exact ⟨by omega,g2⟩⟩
      | b ps =>
       refine ⟨fun k h=>by have:=i1 k h;omega,fun k t h=>?_⟩
       simp only[yH] at h
       rw[ai] at h
       split at h
       ·rename_i e
        exact ⟨by omega,fun hk=>by have:=i1 k hk;omega⟩
       ·obtain ⟨g1,g2⟩:=i2 k t h
        exact ⟨by omega,g2⟩
    unfold jF at hi
    split at hi
    ·rename_i t' hl
     exact ((this c.ks 0).2 i _ hl).2 hn
    ·cases hi
   have hs1:(St.look { s:=a.s,h:=a.h,r:=vk used σ.r,next:=0 }).s i=some t:=by
    show jF a.s i=some t
    unfold jF at hi ⊢
    rw[hA.ptr i hnp]
    exact hi
   obtain ⟨v,h1,h2⟩:=hM1.slots i t hs1
   refine ⟨v,h1,?_⟩
   unfold jF at hi
   split at hi
   ·rename_i t' hl
    injection hi with hi
    subst hi
    have:∀(ks:List PK) (j:Nat) (t:SlotV),look (yH j ks) i=some (some t)->t=⟨none,.c false [.ptr i 0]⟩:=by
     intro ks
     induction ks with
     | nil=>intro j t h;simp[yH,look] at h
     | cons p r ih =>
      intro j t h
      cases p with
      | d s=>exact ih (j+1) t h
      | v ag ps=>exact ih (j+1) t h
      | b ps =>
       simp only[yH] at h
       rw[ai] at h
       split at h
       ·rename_i e
        simp only[a_] at h
        rw[<-h,e]
       ·exact ih (j+1) t h
    rw[this c.ks 0 t' hl] at h2 ⊢
    obtain ⟨cs',g1,g2,g3⟩:=h2
    match cs',g2 with
    | [y],g2=>exact ⟨[y],g1,⟨g2.1,trivial⟩,g3⟩
   ·cases hi
  ·obtain ⟨l',h1,h2⟩:=hkey i l hi
   obtain ⟨g1,cs,t,g2,g3,g4⟩:=hM1.blks i l' h1
   subst h2
   exact ⟨g1,cs,t,g2,JM g3.length,g4⟩
 have hk01:Keep E0 E1:=⟨rfl,fun y v hv=>by
  cases y with
  | u=>trivial
  | v x=>exact hv
  | ptr b o=>exact hv
  | clo g cap=>exact hv
  | sl e l=>exact hv
  | row r=>exact hv.2.1.elim
  | rf s x o=>exact hv
  | re r i sz off=>obtain ⟨_,_,_,h⟩:=hv;exact h.elim
  | sub r lo hi sz=>obtain ⟨_,h⟩:=hv;exact h.elim
  | ae b o e l i d=>exact hv
  | sn e l=>exact hv
  | ir r i=>exact hv.2.1.elim
  | ie r i j sz off=>obtain ⟨_,_,_,h,_⟩:=hv;exact h.elim
  | fn a r F=>exact hv,fun b o hb=>hb⟩
 obtain ⟨E2,hs12,hw2,hk02,hm2⟩:=lV (rh:=rhI 0 c.ks) (W:=mH 0 c.ks) (srcs:=[]) hpl hM0 hk01 hM1 (x:=x) hx
  (fun i hi=>hA.ptr i hi)
  (fun i hi=>by
   rcases List.mem_append.1 hi with hi | hi
   ·have h1:=qP hi
    have h2:(look (uH a.h) i).isSome=true:=jV hi
    rw[ub] at h2
    exfalso
    apply h1
    rw[vW]
    apply (hA.keys i).1
    cases hq:look a.h i with
    | none=>rw[hq] at h2;cases h2
    | some _=>rfl
   ·cases hi)
  (fun i hi=>by
   rcases List.mem_append.1 hi with hi | hi<;>cases hi)
 have he:(head (rhI 0 c.ks) (mH 0 c.ks) [] (xj c.ks a.h) x).look=(c.init x).look:=by
  have h1:look (fo (rhI 0 c.ks) x 0++uH a.h)=look (fo (rhI 0 c.ks) x 0):=by
   funext i
   rw[bA]
   cases hq:look (fo (rhI 0 c.ks) x 0) i with
   | some l=>rfl
   | none =>
    show look (uH a.h) i=none
    rw[ub]
    cases hq2:look a.h i with
    | none=>rfl
    | some l =>
     have:=(hA.keys i).1 (by rw[hq2];rfl)
     rw[<-vW] at this
     have:=(iR (x:=x) (k:=0)).2 this
     rw[hq] at this
     cases this
  simp only[St.look,head,SCtr.init,xj,oM,List.nil_append,gO,Look.mk.injEq]
  exact ⟨trivial,h1,trivial⟩
 rw[he] at hm2
 have hcall:=hc x y hy E2 vs.toList (by rw[hs12.P,e1P];exact hP) (by rw[hk02.rg];exact e1rg) (by rw[<-D2 hr];exact hlen) hm2
 rw[hw2,e1w,mV] at hcall
 refine hcall.mono fun e w' hew=>?_
 obtain ⟨us,E',rfl,hw',hs2,hk2,hβ2,hM',hus⟩:=hew
 subst hw'
 have ew0:E'.w0=E.w0:=by rw[hs2.w0,hs12.w0,e1w0]
 have eZ0:E'.Z0=E.Z0:=by rw[hs2.Z0,hs12.Z0,e1Z0]
 have hZ1:∀b,rb E σ.look (jD a.b) used b->b<E.w.heap.size/\(E.Z0 b\/E.w0.heap.size<=b):=fun b hb=>by
  rw[<-e1Z] at hb
  have h1:=hM1.glob.zlt b hb
  have h2:=hM1.glob.zfrom b hb
  rw[e1w] at h1
  rw[e1Z0,e1w0] at h2
  exact ⟨h1,h2⟩
 have hlow:∀b,b<E.w0.heap.size->E'.w.heap[b]?=E.w.heap[b]?:=fun b hb=>by
  have h1:=hM'.glob.below
  rw[ew0] at h1
  rw[h1.block b hb,G.below.block b hb]
 have hrest:∀b,rb E σ.look (jD a.b) used b->E'.Z b/\E'.w.heap[b]?=E.w.heap[b]?:=fun b hb=>by
  obtain ⟨h1,h2⟩:=hZ1 b hb
  by_cases hl:b<E.w0.heap.size
  ·refine ⟨?_,hlow b hl⟩
   rcases h2 with h2 | h2
   ·exact hM'.glob.z0 b (by rw[eZ0];exact h2)
   ·omega
  ·have ho:E.w.heap[b]?=some E.w.heap[b]:=k_ h1
   have:=hk2.obj b _ (hk02.obj b E.w.heap[b] ⟨by show E1.Z b;rw[e1Z];exact hb,by show E1.w0.heap.size<=b;rw[e1w0];omega,by show E1.w.heap[b]?=_;rw[e1w];exact ho⟩)
   exact ⟨this.1,this.2.2.trans ho.symm⟩
 have hβ':∀j b,look a.b j=some b->E'.β j=E.β b:=fun j b hj=>by
  have hLj:=(hA.b j b hj).2.2
  have h0:kW E0 (.ptr j 0) (jk E1.β (j,0)):=⟨rfl,(e1L j).2 hLj⟩
  obtain ⟨h3,h4⟩:=hk02.at' _ _ h0
  rw[hβ2 j h4]
  have:E1.β j=E2.β j:=by simpa [jk] using h3
  rw[<-this,e1β j b hj]
 generalize hcnt:oi c.out=cnt at *
 have hgr:∀i u,look (eT c.out y σ.next++(oM used++σ.r)) i=some u->((σ.next<=i/\i<σ.next+cnt)/\look (eT c.out y 0) (i - σ.next)=some u)\/(¬ (σ.next<=i/\i<σ.next+cnt)/\((i ∈ used/\u=.none)\/(i ∉ used/\look σ.r i=some u))):=fun i u hi=>by
  rw[bA] at hi
  cases hq:look (eT c.out y σ.next) i with
  | some u' =>
   rw[hq] at hi
   injection hi with hi
   subst hi
   left
   rcases xP (by rw[hq];rfl:(look (eT c.out y σ.next) i).isSome=true) with h1 | h1
   ·rw[hcnt] at h1
    refine ⟨h1,?_⟩
    have h2:=vI (n:=σ.next) (x:=y) (k:=0) (i:=i - σ.next) hfl
    rw[d_,Nat.sub_add_cancel h1.1] at h2
    rw[<-h2,hq]
   ·rw[zF hfl] at h1
    cases h1
  | none =>
   rw[hq] at hi
   right
   refine ⟨fun hn=>?_,?_⟩
   ·rw[<-hcnt] at hn
    have:=wl (x:=y) hn
    rw[hq] at this
    cases this
   ·simp only at hi
    rw[bA,nf] at hi
    by_cases hu':i ∈ used
    ·rw[if_pos hu'] at hi
     injection hi with hi
     exact .inl ⟨hu',hi.symm⟩
    ·rw[if_neg hu'] at hi
     exact .inr ⟨hu',hi⟩
 have hgh:∀i l,look (mS a.b (fo c.out y σ.next)++σ.h) i=some l->(∃j,look a.b j=some i/\look (fo c.out y σ.next) j=some l)\/(i ∉ jD a.b/\look σ.h i=some l):=fun i l hi=>by
  rw[bA] at hi
  cases hq:look (mS a.b (fo c.out y σ.next)) i with
  | some l' =>
   rw[hq] at hi
   injection hi with hi
   subst hi
   exact .inl (tU hq)
  | none =>
   rw[hq] at hi
   refine .inr ⟨fun hv=>?_,hi⟩
   obtain ⟨j,hj⟩:=qO ha i hv
   have h1:=(hA.b j i hj).2.2
   have h2:=(hA.keys j).1 h1
   have h3:j ∈ cP c.out:=by rw[vG,JP,gO];exact h2
   have:=xy hj ((iR (x:=y) (k:=σ.next)).2 h3)
   rw[hq] at this
   cases this
 have hkeyh:∀i l,look (mS a.b (fo c.out y σ.next)++σ.h) i=some l->∃l0,look σ.h i=some l0:=fun i l hi=>by
  rcases hgh i l hi with ⟨j,h1,_⟩ | ⟨_,h1⟩
  ·have:=(hA.b j i h1).2.1
   cases hq:look σ.h i with
   | some l0=>exact ⟨l0,rfl⟩
   | none=>rw[hq] at this;cases this
  ·exact ⟨l,h1⟩
 have hbk:∀i l,look (mS a.b (fo c.out y σ.next)++σ.h) i=some l->∀g,¬ E'.Z g->(∀j l',look (fo c.out y 0) j=some l'->E'.β j≠g)->E.β i≠g:=fun i l hi g h1 h2 hg=>by
  rcases hgh i l hi with ⟨j,h3,h4⟩ | ⟨h3,h4⟩
  ·have h5:=(iR (x:=y) (k:=0)).2 ((iR (x:=y) (k:=σ.next)).1 (by rw[h4];rfl))
   cases hq:look (fo c.out y 0) j with
   | none=>rw[hq] at h5;cases h5
   | some l'=>exact h2 j l' hq (by rw[hβ' j i h3];exact hg)
  ·exact h1 (hg ▸ (hrest _ (.inr (.inl ⟨i,l,h4,h3,rfl⟩))).1)
 let E5:=E.outE E' σ.next cnt
 let X:Nat->Prop:=fun b=>¬ rb E σ.look (jD a.b) used b/\E.w0.heap.size<=b
 have p1:∀i,(σ.next<=i/\i<σ.next+cnt)->E5.ρ i=E'.ρ (i - σ.next)/\E5.φ i=E'.φ (i - σ.next)/\E5.ι i=E'.ι (i - σ.next)/\E5.ν i=E'.ν (i - σ.next):=fun i hi=>⟨if_pos hi,if_pos hi,if_pos hi,if_pos hi⟩
 have p2:∀i,¬ (σ.next<=i/\i<σ.next+cnt)->E5.ρ i=E.ρ i/\E5.φ i=E.φ i/\E5.ι i=E.ι i/\E5.ν i=E.ν i:=fun i hi=>⟨if_neg hi,if_neg hi,if_neg hi,if_neg hi⟩
 have hfree:kp E X:=fun b hb=>⟨fun hz=>hb.1 (.inl hz),hb.2⟩
 have hnew:∀r,(look σ.r r).isSome=true->¬ (σ.next<=r/\r<σ.next+cnt):=fun r hr hn=>by
  rw[hfr r hn.1 hn.2] at hr
  cases hr
 have hext:Ext X E E5:=⟨rfl,rfl,rfl,rfl,fun _ h=>h,fun b h1 h2=>by
   by_cases hz:rb E σ.look (jD a.b) used b
   ·exact (hrest b hz).2
   ·exact hlow b (by
     by_cases hl:b<E.w0.heap.size
     ·exact hl
     ·exact absurd ⟨hz,by omega⟩ h2),fun _ _=>rfl,fun _ h=>h,fun r hr=>(p2 r (hnew r (G.rlive r hr))).1,fun _ h=>.inl h,fun r hr=>by
   obtain ⟨_,q2,q3,q4⟩:=p2 r (hnew r (G.rlive r hr))
   rw[q2,q3,q4]
   exact ⟨fun _ h=>h,bY _,fun _ _=>rfl⟩⟩
 have hsz:∀b,rb E σ.look (jD a.b) used b->b<E'.w.heap.size:=fun b hb=>by
  have h1:=(hrest b hb).2
  rw[k_ (hZ1 b hb).1] at h1
  exact (Array.getElem?_eq_some_iff.1 h1).1
 have oR:∀i r b,i ∉ used->look σ.r i=some (.some r)->(E.ρ i).ownBlock=some b->rb E σ.look (jD a.b) used b:=fun i r b h1 h2 h3=>.inr (.inr (.inl ⟨i,r,h2,h1,h3⟩))
 have oX:∀i x b,i ∉ used->look σ.r i=some (.x x)->E.φ i b->rb E σ.look (jD a.b) used b:=fun i x b h1 h2 h3=>.inr (.inr (.inr ⟨i,x,h2,h1,h3⟩))
 have hglob:Glob E5 (St.look { σ with h:=mS a.b (fo c.out y σ.next)++σ.h,r:=eT c.out y σ.next++(oM used++σ.r),next:=σ.next+cnt }):=by
  refine ⟨?_,fun b hb=>hsz b (.inl hb),G.z0,G.zfrom,fun b hb=>?_,fun r hr=>?_,fun i l hi=>?_,fun i j l l' hi hj hij=>?_,fun i r b hi hb=>?_,fun i j r r' b hi hj hb hb'=>?_,⟨fun i x b hi hb=>?_,fun i j x y' b hi hj hb hb'=>?_⟩⟩
  ·have h1:=hM'.glob.below
   rw[ew0] at h1
   exact h1
  ·show (look (mS a.b (fo c.out y σ.next)++σ.h) b).isSome=true
   rw[bA]
   cases look (mS a.b (fo c.out y σ.next)) b with
   | some _=>rfl
   | none=>exact G.live b hb
  ·show (look (eT c.out y σ.next++(oM used++σ.r)) r).isSome=true
   rw[bA]
   cases hq:look (eT c.out y σ.next) r with
   | some _=>rfl
   | none =>
    simp only
    rw[bA,nf]
    rcases hr with hr | hr
    ·by_cases hu':r ∈ used
     ·rw[if_pos hu'];rfl
     ·rw[if_neg hu'];exact G.rlive r hr
    ·rw[<-hcnt] at hr
     have:=wl (x:=y) hr
     rw[hq] at this
     cases this
  ·obtain ⟨l0,h0⟩:=hkeyh i l hi
   exact G.own i l0 h0
  ·obtain ⟨l0,h0⟩:=hkeyh i l hi
   obtain ⟨l1,h1⟩:=hkeyh j l' hj
   exact G.inj i j l0 l1 h0 h1 hij
  ·rcases hgr i _ hi with ⟨h1,h2⟩ | ⟨h1,⟨_,h2⟩ | ⟨h2,h3⟩⟩
   ·rw[(p1 i h1).1] at hb
    obtain ⟨g1,g2⟩:=hM'.glob.rown _ r b h2 hb
    exact ⟨fun hz=>g1 (hrest b (.inl hz)).1,fun j l hj=>hbk j l hj b g1 g2⟩
   ·cases h2
   ·rw[(p2 i h1).1] at hb
    obtain ⟨g1,g2⟩:=G.rown i r b h3 hb
    exact ⟨g1,fun j l hj=>by obtain ⟨l0,h0⟩:=hkeyh j l hj;exact g2 j l0 h0⟩
  ·rcases hgr i _ hi with ⟨h1,h2⟩ | ⟨h1,⟨_,h2⟩ | ⟨h2,h3⟩⟩
   ·rw[(p1 i h1).1] at hb
    rcases hgr j _ hj with ⟨k1,k2⟩ | ⟨k1,⟨_,k2⟩ | ⟨k2,k3⟩⟩
    ·rw[(p1 j k1).1] at hb'
     have:=hM'.glob.rinj _ _ r r' b h2 k2 hb hb'
     omega
    ·cases k2
    ·rw[(p2 j k1).1] at hb'
     exact absurd (hrest b (oR j r' b k2 k3 hb')).1 (hM'.glob.rown _ r b h2 hb).1
   ·cases h2
   ·rw[(p2 i h1).1] at hb
    rcases hgr j _ hj with ⟨k1,k2⟩ | ⟨k1,⟨_,k2⟩ | ⟨k2,k3⟩⟩
    ·rw[(p1 j k1).1] at hb'
     exact absurd (hrest b (oR i r b h2 h3 hb)).1 (hM'.glob.rown _ r' b k2 hb').1
    ·cases k2
    ·rw[(p2 j k1).1] at hb'
     exact G.rinj i j r r' b h3 k3 hb hb'
  ·rcases hgr i _ hi with ⟨h1,h2⟩ | ⟨h1,⟨_,h2⟩ | ⟨h2,h3⟩⟩
   ·rw[(p1 i h1).2.1] at hb
    obtain ⟨g1,g2,g3,g4,g5⟩:=hM'.glob.xg.own _ x b h2 hb
    refine ⟨by rw[ew0] at g1;exact g1,g2,fun hz=>g3 (hrest b (.inl hz)).1,fun j l hj=>hbk j l hj b g3 g4,fun j r hj hq=>?_⟩
    rcases hgr j _ hj with ⟨k1,k2⟩ | ⟨k1,⟨_,k2⟩ | ⟨k2,k3⟩⟩
    ·rw[(p1 j k1).1] at hq
     exact g5 _ r k2 hq
    ·cases k2
    ·rw[(p2 j k1).1] at hq
     exact g3 (hrest b (oR j r b k2 k3 hq)).1
   ·cases h2
   ·rw[(p2 i h1).2.1] at hb
    obtain ⟨g1,g2,g3,g4,g5⟩:=G.xg.own i x b h3 hb
    refine ⟨g1,hsz b (oX i x b h2 h3 hb),g3,fun j l hj=>by obtain ⟨l0,h0⟩:=hkeyh j l hj;exact g4 j l0 h0,fun j r hj hq=>?_⟩
    rcases hgr j _ hj with ⟨k1,k2⟩ | ⟨k1,⟨_,k2⟩ | ⟨k2,k3⟩⟩
    ·rw[(p1 j k1).1] at hq
     exact (hM'.glob.rown _ r b k2 hq).1 (hrest b (oX i x b h2 h3 hb)).1
    ·cases k2
    ·rw[(p2 j k1).1] at hq
     exact g5 j r k3 hq
  ·rcases hgr i _ hi with ⟨h1,h2⟩ | ⟨h1,⟨_,h2⟩ | ⟨h2,h3⟩⟩
   ·rw[(p1 i h1).2.1] at hb
    rcases hgr j _ hj with ⟨k1,k2⟩ | ⟨k1,⟨_,k2⟩ | ⟨k2,k3⟩⟩
    ·rw[(p1 j k1).2.1] at hb'
     have:=hM'.glob.xg.inj _ _ x y' b h2 k2 hb hb'
     omega
    ·cases k2
    ·rw[(p2 j k1).2.1] at hb'
     exact absurd (hrest b (oX j y' b k2 k3 hb')).1 (hM'.glob.xg.own _ x b h2 hb).2.2.1
   ·cases h2
   ·rw[(p2 i h1).2.1] at hb
    rcases hgr j _ hj with ⟨k1,k2⟩ | ⟨k1,⟨_,k2⟩ | ⟨k2,k3⟩⟩
    ·rw[(p1 j k1).2.1] at hb'
     exact absurd (hrest b (oX i x b h2 h3 hb)).1 (hM'.glob.xg.own _ y' b k2 hb').2.2.1
    ·cases k2
    ·rw[(p2 j k1).2.1] at hb'
     exact G.xg.inj i j x y' b h3 k3 hb hb'
 have hsh:∀i,i<cnt->E5.ρ (i+σ.next)=E'.ρ i/\E5.R (i+σ.next):=fun i hi=>by
  have hi':σ.next<=i+σ.next/\i+σ.next<σ.next+cnt:=by omega
  refine ⟨?_,.inr hi'⟩
  rw[(p1 _ hi').1,Nat.add_sub_cancel]
 have hm00:Mod 0 E { tmps:=#[],defers:=[] } { σ.look with s:=fun _=>none }:=⟨G.of rfl rfl,trivial,rfl,fun i s hi=>(by cases hi),hm.blks,hm.rows,hm.xs⟩
 have hm5:=hm00.move (a':={ tmps:=#[],defers:=[] }) (g':={ St.look { σ with h:=mS a.b (fo c.out y σ.next)++σ.h,r:=eT c.out y σ.next++(oM used++σ.r),next:=σ.next+cnt } with s:=fun _=>none }) hfree hext (hglob.of rfl rfl) rfl rfl (fun i s hi=>(by cases hi))
  (fun i l hi=>by
   rcases hgh i l hi with ⟨j,h1,h2⟩ | ⟨h1,h2⟩
   ·right
    obtain ⟨l',h3,h4⟩:=vm (E:=E') (E':=E5) (n:=σ.next) (cnt:=cnt) (k:=0) hsh hfl (by rw[d_];exact Nat.le_of_eq hcnt) (by rw[d_];exact h2)
    obtain ⟨_,cs,t,g1,g2,g3⟩:=hM'.blks j l' h3
    obtain ⟨l0,h0⟩:=hkeyh i l hi
    rw[hβ' j i h1] at g1
    exact ⟨(hm.blks i l0 h0).1,cs,t,g1,h4 cs g2,g3⟩
   ·exact .inl ⟨h2,fun hX=>hX.1 (.inr (.inl ⟨i,l,h2,h1,rfl⟩))⟩)
  (fun i r hi=>by
   rcases hgr i _ hi with ⟨h1,h2⟩ | ⟨h1,⟨_,h2⟩ | ⟨h2,h3⟩⟩
   ·right
    obtain ⟨_,xs,g2,g3,g4⟩:=hM'.rows _ r h2
    have hf:=(CF hfl).1 r h2
    refine ⟨.inr h1,xs,?_,aM.flat hf g3,g4⟩
    rw[(p1 i h1).1]
    show E'.w.ownsRow E.w0.heap.size _ _ _ _ _
    rw[<-ew0]
    exact g2
   ·cases h2
   ·exact .inl ⟨h3,fun b hb hX=>hX.1 (oR i r b h2 h3 hb)⟩)
  (fun i u hi=>by
   rcases hgr i _ hi with ⟨h1,h2⟩ | ⟨h1,⟨_,h2⟩ | ⟨h2,h3⟩⟩
   ·right
    obtain ⟨p,z',hf,rfl⟩:=(CF hfl).2 u h2
    obtain ⟨q1,q2,q3,q4⟩:=p1 i h1
    exact XOk.flat (E:=E') (E':=E5) hf rfl ew0.symm (.inr h1) q1 q2 q3 q4 (hM'.xs _ _ h2)
   ·cases h2
   ·exact .inl ⟨h3,(p2 i h1).2.2.2,fun b hb hX=>hX.1 (oX i u b h2 h3 hb)⟩)
 refine hpost (zL c.out y σ.next) _ E5 _ hK rfl (hext.keep G hfree) ⟨rfl,rfl,fun i hi=>?_,fun i hi=>?_⟩ ⟨hglob,hm5.blks,hm5.rows,hm5.xs⟩ fun sv hsv=>hret E5 _ sv us hsv ?_
 ·show look (mS a.b (fo c.out y σ.next)++σ.h) i=look σ.h i
  rw[bA]
  cases hq:look (mS a.b (fo c.out y σ.next)) i with
  | none=>rfl
  | some l =>
   obtain ⟨j,h1,_⟩:=tU hq
   exact absurd hi (jf hoB i (wy h1))
 ·have h1:=hro i hi
  show look (eT c.out y σ.next++(oM used++σ.r)) i=look σ.r i
  cases hq:look (eT c.out y σ.next++(oM used++σ.r)) i with
  | some u =>
   rcases hgr i u hq with ⟨h2,_⟩ | ⟨_,⟨h2,_⟩ | ⟨_,h2⟩⟩
   ·exact absurd h2 (hnew i h1)
   ·exact absurd hi (jf hoR i h2)
   ·exact h2.symm
  | none =>
   rw[bA] at hq
   split at hq
   ·cases hq
   ·rw[bA] at hq
    split at hq
    ·cases hq
    ·rw[hq]
 ·have:=xN (n:=σ.next) (cnt:=cnt) hsh (k:=0) hfl (by rw[d_];exact Nat.le_of_eq hcnt) hus
  rw[d_] at this
  exact this
end
def Nv (lp:Lp) (jn:Jn) (sc:FuncId->Option SCtr) (C:Ctx) (hl:FuncId->Hint):Nat->Inl
 | 0=>fun _ id args σ K=>match sc id with
  | some c=>K1 c args σ K
  | none=>none
 | d+1=>fun _ id args σ K=>match sc id with
  | some c=>K1 c args σ K
  | none=>match C.P.funcs[id]? with
   | some fn=>match fn.body,cl args.length fn.ntmps with
    | some code,true=>den lp jn (Nv lp jn sc C hl d) C fn.ntmps { hl id with inner:=true } code { σ with s:=fG args 0 } fun e σ'=>match e with
     | .exit _=>none
     | _=>match rB C.P σ'.look fn.results.toList with
      | some svs=>K svs σ'
      | none=>none
    | _,_=>none
   | none=>none
def N3 (P:Program) (sc:FuncId->Option SCtr):Prop:=∀id c,sc id=some c->c.ok P id
theorem FI {C:Ctx} (hC:C.ok) (eK:C.P.follows .mixedOrders=true) {sc:FuncId->Option SCtr} (hsc:N3 C.P sc) {hl:FuncId->Hint}:∀d,HU C (Nv lpK jnK sc C hl d)
 | 0=>fun R id args σ K z h hro E hm hP vs hvs post hpost=>by
  simp only[Nv] at h
  split at h
  ·rename_i c hs
   exact Hp (hsc id c hs) h hro hm hP hvs hpost fun E l sv us h1 h2=>wo h1 h2
  ·cases h
 | d+1=>fun R id args σ K z h hro E hm hP vs hvs post hpost=>by
  simp only[Nv] at h
  split at h
  ·rename_i c hs
   exact Hp (hsc id c hs) h hro hm hP hvs hpost fun E l sv us h1 h2=>wo h1 h2
  split at h
  ·rename_i fn hf
   split at h
   ·rename_i code hb hle
    have hle:args.length<=fn.ntmps:=by simpa using hle
    have hlen:=kX hvs
    refine calls_of_wp hf hb (wpIn_wide (n:=0).1 ?_)
    have hmod:Mod fn.ntmps (E.setRg false) { tmps:=vs++Array.replicate (fn.ntmps - vs.size) undef,defers:=[] } ({ σ with s:=fG args 0 }:St).look:=by
     have hm':MemOk (E.setRg false) ({ σ with s:=fG args 0 }:St).look:=(hm.of (g':=({ σ with s:=fG args 0 }:St).look) rfl rfl).setRg
     refine ⟨hm'.glob,trivial,?_,fun i t hi=>?_,hm'.blks,hm'.rows,hm'.xs⟩
     ·have:vs.size=args.length:=by rw[hlen];simp
      simp only[Array.size_append,Array.size_replicate]
      omega
     ·simp only[St.look,jF] at hi
      split at hi
      ·rename_i t' hl'
       injection hi with hi
       subst hi
       obtain ⟨v,_,h2,h3⟩:=pq hvs i t' hl'
       rw[Nat.sub_zero] at h2
       refine ⟨v,?_,h3.setRg⟩
       have hlt:=(List.getElem?_eq_some_iff.1 h2).1
       rw[Array.getElem?_append_left (by simpa using hlt)]
       simpa using h2
      ·cases hi
    refine jT (F:=Fence.wide) hC (FI hC eK hsc d) eK (.inl rfl) (fun _=>rfl) h hro ⟨hP,fun e=>by cases e⟩ (E:=E.setRg false) hmod fun e σ' E' a' hk hs hkp hf' hsl hm'=>?_
    have hdef:a'.defers=[]:=jh.none hkp.rg hm'.nodef
    have hkp2:Keep E (E'.setRg E.rg):=⟨rfl,fun x v hv=>(hkp x v hv.setRg).setRg,fun b o hb=>hkp.obj b o hb⟩
    have hs2:io E (E'.setRg E.rg):=hs
    have fin:∀svs,rB C.P σ'.look fn.results.toList=some svs->K svs σ'=some z->a'.defers=[]/\∃v,(results fn a'.tmps).run C.P E'.w=.ok v E'.w/\post (.returned v) E'.w:=fun svs hsv hkk=>by
     have hPP:E'.P=C.P:=hs2.P.trans hP
     rw[<-hPP] at hsv
     obtain ⟨us,hu1,hu2⟩:=jW hm' hsv
     rw[hPP] at hu2
     exact ⟨hdef,_,hu2,hpost svs σ' (E'.setRg E.rg) _ hkk hs2 hkp2 ⟨hf'.ro,hf'.roR,hf'.h,hf'.r⟩ (hm'.memOk.setRg) fun sv hsv'=>(wo hsv' hu1).setRg⟩
    cases e with
    | normal =>
     simp only at hk
     split at hk
     ·rename_i svs hsv;exact fin svs hsv hk
     ·cases hk
    | ret =>
     simp only at hk
     split at hk
     ·rename_i svs hsv;exact fin svs hsv hk
     ·cases hk
    | exit i=>cases hk
   ·cases h
  ·cases h
def LJ:List SV->List (Bool×List Pat)->Bool
 | [],[]=>true
 | _ ::l,_ ::r=>LJ l r
 | _,_=>false
theorem tY:∀{l:List SV} {r:List (Bool×List Pat)},LJ l r=true->l.length=r.length
 | [],[],_=>rfl
 | _ ::l,_ ::r,h=>by
  have:=tY (l:=l) (r:=r) h
  simpa using this
 | [],_ ::_,h=>by cases h
 | _ ::_,[],h=>by cases h
def nY (used:List Nat):List (Nat×List At)->List (Nat×List At)
 | []=>[]
 | p ::r=>match lz p.1 used with
  | true=>p ::nY used r
  | false=>nY used r
theorem tP {used:List Nat} {i:Nat}:∀{l:List (Nat×List At)},look (nY used l) i=if i ∈ used then look l i else none
 | []=>by simp[nY,look]
 | p ::r=>by
  simp only[nY]
  split
  ·rename_i hm
   rw[ai,ai,tP]
   by_cases e:i=p.1
   ·rw[if_pos e,if_pos e,e,if_pos (eA.1 hm)]
   ·rw[if_neg e,if_neg e]
  ·rename_i hm
   rw[ai,tP]
   by_cases hi:i ∈ used
   ·rw[if_pos hi,if_pos hi,if_neg]
    intro e
    rw[e,<-eA,hm] at hi
    cases hi
   ·rw[if_neg hi,if_neg hi]
def upN:Nat->Nat->List Nat
 | 0,_=>[]
 | n+1,k=>k ::upN n (k+1)
theorem Lj {i:Nat}:∀{n k:Nat},i ∈ upN n k↔k<=i/\i<k+n
 | 0,k=>by simp[upN]
 | n+1,k=>by
  simp only[upN,List.mem_cons,Lj]
  omega
theorem yZ {i:Nat}:∀{l:List SV} {k:Nat},(look (fG l k) i).isSome=true->k<=i/\i<k+l.length
 | [],_,h=>by simp[fG,look] at h
 | _ ::r,k,h=>by
  simp only[fG] at h
  rw[ai] at h
  simp only[j_]
  split at h
  ·omega
  ·have:=yZ h
   omega
def Dh (c:SCtr) (h:List (Nat×List At)):St:={ s:=[],h:=uH (nY (cP c.out) h),r:=[],next:=0 }
def Rc (P:Program) (c:SCtr) (rv:Array ResultVar):Ex->St->Option (TsR c.out)
 | .exit _,_=>none
 | _,σ=>match rB P σ.look rv.toList with
  | some svs=>match LJ svs c.rs&&jI c.out (upN c.rs.length 0) [] (Dh c σ.h) with
   | true=>nI c.out [] { s:=fG svs 0,h:=σ.h,r:=σ.r,next:=0 }
   | false=>none
  | none=>none
def QE (lp:Lp) (jn:Jn) (sc:FuncId->Option SCtr) (C:Ctx) (hl:FuncId->Hint) (d:Nat) (id:FuncId) (fn:Func) (c:SCtr) (x:TsR (rhI 0 c.ks)):Option (TsR c.out) :=
 den lp jn (Nv lp jn sc C hl d) C fn.ntmps { hl id with inner:=true } (fn.body.getD .skip) (c.init x) (Rc C.P c fn.results)
def SU (lp:Lp) (jn:Jn) (sc:FuncId->Option SCtr) (C:Ctx) (hl:FuncId->Hint) (d:Nat) (id:FuncId) (fn:Func) (c:Ctr) (x:TsS c.as) (F:TsF c.fs) (y:TsS c.cs):Option c.r.T :=
 den lp jn (Nv lp jn sc C hl d) C fn.ntmps (hl id) (fn.body.getD .skip) (c.init x F y) (post C.P c.r fn.results)
theorem Ctr.of_denS {C:Ctx} (hC:C.ok) (eK:C.P.follows .mixedOrders=true) {sc:FuncId->Option SCtr} (hsc:N3 C.P sc) {hl:FuncId->Hint} {d:Nat} {f:FuncId} {fn:Func} {code:Code} {c:Ctr} (hf:C.P.funcs[f]?=some fn) (hb:fn.body=some code) (hn:c.as.length+c.fs.length+c.cs.length<=fn.ntmps)
  (h:∀x F y,c.m x F y=SU lpK jnK sc C hl d f fn c x F y):c.ok C.P f:=Ctr.of_rec hC eK (FI hC eK hsc d) hf hb hn h
theorem uX {P:Program}:N3 P (look []):=fun _ _ h=>by cases h
theorem sV {P:Program} {f:FuncId} {c:SCtr} {l:List (Nat×SCtr)} (ho:c.ok P f) (h:N3 P (look l)):N3 P (look ((f,c) ::l)):=fun id c' hd=>by
 rw[ai] at hd
 split at hd
 ·rename_i e
  injection hd with hd
  subst hd;subst e
  exact ho
 ·exact h id c' hd
theorem wA {rs:List (Bool×List Pat)}:∀{ks:List PK} {j:Nat} {x:TsR (rhB j ks++rhS 0 rs)} {k:Nat},∃(x':TsR (rhS 0 rs)) (k':Nat),zL (rhB j ks++rhS 0 rs) x k=zL (rhS 0 rs) x' k'/\jo (rhB j ks++rhS 0 rs) x k=jo (rhS 0 rs) x' k'
 | [],j,x,k=>⟨x,k,rfl,rfl⟩
 | .d _ ::r,j,x,k=>wA (ks:=r) (j:=j+1) (x:=x)
 | .v _ _ ::r,j,x,k=>wA (ks:=r) (j:=j+1) (x:=x)
 | .b ps ::r,j,x,k=>wA (ks:=r) (j:=j+1) (x:=oJ ps x) (k:=k+ic ps)
theorem Hl {E:Env}:∀{rs:List (Bool×List Pat)} {j:Nat} {x:TsR (rhS j rs)} {k:Nat} {us:List Value},us.length=rs.length->(∀i t,look (jo (rhS j rs) x k) i=some (some t)->∃v,j<=i/\us[i - j]?=some v/\kx E t v)->hG E (zL (rhS j rs) x k) us
 | [],_,_,_,[],_,_=>trivial
 | p ::r,j,x,k,u ::us,hl,h=>by
  refine ⟨?_,?_⟩
  ·obtain ⟨v,_,h2,h3⟩:=h j ⟨none,.c p.1 (pM p.2 x k)⟩ (by simp only[rhS,jo];rw[ai,if_pos rfl])
   rw[Nat.sub_self] at h2
   injection h2 with h2
   subst h2
   exact h3
  ·refine Hl (j:=j+1) (x:=oJ p.2 x) (k:=k+ic p.2) (by simpa using hl) fun i t hi=>?_
   have hji:j+1<=i:=by
    have key:∀(rs:List (Bool×List Pat)) (j:Nat) (x:TsR (rhS j rs)) (k:Nat),(look (jo (rhS j rs) x k) i).isSome=true->j<=i:=by
     intro rs
     induction rs with
     | nil=>intro j x k h;simp[rhS,jo,look] at h
     | cons p r ih =>
      intro j x k h
      simp only[rhS,jo] at h
      rw[ai] at h
      split at h
      ·omega
      ·have:=ih _ _ _ h;omega
    exact key r (j+1) _ _ (by rw[hi];rfl)
   obtain ⟨v,h1,h2,h3⟩:=h i t (by simp only[rhS,jo];rw[ai,if_neg (by omega)];exact hi)
   refine ⟨v,hji,?_,h3⟩
   rw[show i - j=(i - (j+1))+1 by omega] at h2
   exact h2
 | [],_,_,_,_ ::_,h,_=>by simp at h
 | _ ::_,_,_,_,[],h,_=>by simp at h
theorem SCtr.of_den {C:Ctx} (hC:C.ok) (eK:C.P.follows .mixedOrders=true) {sc:FuncId->Option SCtr} (hsc:N3 C.P sc) {hl:FuncId->Hint} {d:Nat} {f:FuncId} {fn:Func} {code:Code} {c:SCtr} (hf:C.P.funcs[f]?=some fn) (hb:fn.body=some code) (hn:c.ks.length<=fn.ntmps)
  (h:∀x,c.m x=QE lpK jnK sc C hl d f fn c x):c.ok C.P f:=by
 intro x y hy E vs hP hrg hlen hm
 refine calls_of_wp hf hb (wpIn_wide (n:=0).1 ?_)
 have hmod:Mod fn.ntmps E { tmps:=vs.toArray++Array.replicate (fn.ntmps - vs.toArray.size) undef,defers:=[] } (c.init x).look:=by
  refine ⟨hm.glob,trivial,?_,fun i t hi=>?_,hm.blks,hm.rows,hm.xs⟩
  ·simp only[Array.size_append,Array.size_replicate,i_]
   omega
  ·obtain ⟨v,h1,h2⟩:=hm.slots i t hi
   refine ⟨v,?_,h2⟩
   have hlt:=(Array.getElem?_eq_some_iff.1 h1).1
   rw[Array.getElem?_append_left hlt]
   exact h1
 rw[h x] at hy
 unfold QE at hy
 rw[hb] at hy
 refine jT (F:=Fence.wide) hC (FI hC eK hsc d) eK (.inl rfl) (fun _=>rfl) hy (fun i hi=>by simp[SCtr.init] at hi) ⟨hP,fun e=>by cases e⟩ (E:=E) hmod fun e σ' E1 a1 hk hs hkp hf' hsl hm'=>?_
 have hdef:a1.defers=[]:=jh.none (hkp.rg.trans hrg) hm'.nodef
 have hP1:E1.P=C.P:=hs.P.trans hP
 have fin:∀svs,rB C.P σ'.look fn.results.toList=some svs->(match LJ svs c.rs&&jI c.out (upN c.rs.length 0) [] (Dh c σ'.h) with
   | true=>nI c.out [] { s:=fG svs 0,h:=σ'.h,r:=σ'.r,next:=0 }
   | false=>none)=some y->a1.defers=[]/\∃v,(results fn a1.tmps).run C.P E1.w=.ok v E1.w/\∃(us:List Value) (E':Env),Ending.returned v=.returned (if h:us.length=1 then us[0] else .tuple us.toArray)/\E'.w=E1.w/\io E E'/\Keep E.bare E'/\(∀j,E.L j->E'.β j=E.β j)/\MemOk E' (c.fin y).look/\hG E' (zL c.out y 0) us:=fun svs hsv hkk=>by
  split at hkk
  case h_2=>cases hkk
  rename_i hchk
  simp only[z10] at hchk
  obtain ⟨hle,hpl⟩:=hchk
  rw[<-hP1] at hsv
  obtain ⟨us,hu1,hu2⟩:=jW hm' hsv
  rw[hP1] at hu2
  have hlen2:us.length=c.rs.length:=by rw[<-kX hu1,tY hle]
  refine ⟨hdef,_,hu2,?_⟩
  let E0:Env:={ E1 with L:=fun j=>(look (uH (nY (cP c.out) σ'.h)) j).isSome=true,R:=fun _=>False }
  have hkey:∀i l,look (uH (nY (cP c.out) σ'.h)) i=some l->i ∈ cP c.out/\∃l',look σ'.h i=some l'/\l=uL l':=fun i l hi=>by
   rw[ub,tP] at hi
   split at hi
   ·rename_i hm1
    cases hq:look σ'.h i with
    | none=>rw[hq] at hi;cases hi
    | some l'=>rw[hq] at hi;injection hi with hi;exact ⟨hm1,l',rfl,hi.symm⟩
   ·cases hi
  have hL01:∀j,E0.L j->E1.L j:=fun j hj=>by
   have hj:(look (uH (nY (cP c.out) σ'.h)) j).isSome=true:=hj
   cases hq:look (uH (nY (cP c.out) σ'.h)) j with
   | none=>rw[hq] at hj;cases hj
   | some l =>
    obtain ⟨_,l',h1,_⟩:=hkey j l hq
    exact (hm'.blks j l' h1).1
  have hm0:Mod us.length E0 { tmps:=us.toArray,defers:=[] } (Dh c σ'.h).look:=by
   refine ⟨⟨hm'.glob.below,hm'.glob.zlt,hm'.glob.z0,hm'.glob.zfrom,fun j hj=>hj,fun r hr=>hr.elim,fun i l hi=>?_,fun i j l l' hi hj hij=>?_,fun i r b hi=>by simp[Dh,St.look,look] at hi,fun i j r r' b hi=>by simp[Dh,St.look,look] at hi,⟨fun i x b hi=>by simp[Dh,St.look,look] at hi,fun i j x y b hi=>by simp[Dh,St.look,look] at hi⟩⟩,trivial,by simp,fun i t hi=>by simp[Dh,St.look,jF,look] at hi,fun i l hi=>?_,fun i r hi=>by simp[Dh,St.look,look] at hi,fun i x hi=>by simp[Dh,St.look,look] at hi⟩
   ·obtain ⟨_,l',h1,_⟩:=hkey i l hi
    exact hm'.glob.own i l' h1
   ·obtain ⟨_,l1,h1,_⟩:=hkey i l hi
    obtain ⟨_,l2,h2,_⟩:=hkey j l' hj
    exact hm'.glob.inj i j l1 l2 h1 h2 hij
   ·obtain ⟨_,l',h1,h2⟩:=hkey i l hi
    obtain ⟨_,cs,t,g2,g3,g4⟩:=hm'.blks i l' h1
    subst h2
    have hi:look (uH (nY (cP c.out) σ'.h)) i=some (uL l'):=hi
    exact ⟨by show (look (uH (nY (cP c.out) σ'.h)) i).isSome=true;rw[hi];rfl,cs,t,g2,JM g3.length,g4⟩
  have hk01:Keep E0 E1:=⟨rfl,fun y v hv=>by
   cases y with
   | u=>trivial
   | v x=>exact hv
   | ptr b o=>exact ⟨hv.1,hL01 _ hv.2⟩
   | clo g cap=>exact ⟨hv.1,fun p hp=>hL01 _ (hv.2 p hp)⟩
   | sl e l=>exact hv
   | row r=>exact hv.2.1.elim
   | rf s x o=>exact hv
   | re r i sz off=>obtain ⟨_,_,_,h⟩:=hv;exact h.elim
   | sub r lo hi sz=>obtain ⟨_,h⟩:=hv;exact h.elim
   | ae b o e l i d=>exact ⟨hv.1,hL01 _ hv.2⟩
   | sn e l=>exact hv
   | ir r i=>exact hv.2.1.elim
   | ie r i j sz off=>obtain ⟨_,_,_,h,_⟩:=hv;exact h.elim
   | fn a r F=>exact hv,fun b o hb=>hb⟩
  have hm2:Mod us.length E1 { tmps:=us.toArray,defers:=[] } (St.look { s:=fG svs 0,h:=σ'.h,r:=σ'.r,next:=0 }):=by
   have hmm:=hm'.memOk
   refine ⟨hmm.glob.of rfl rfl,trivial,by simp,fun i t hi=>?_,hmm.blks,hmm.rows,hmm.xs⟩
   simp only[St.look,jF] at hi
   split at hi
   ·rename_i t' hl'
    injection hi with hi
    subst hi
    obtain ⟨v,_,h2,h3⟩:=pq hu1 i t' hl'
    rw[Nat.sub_zero] at h2
    exact ⟨v,by simpa using h2,h3⟩
   ·cases hi
  obtain ⟨E3,hs13,hw3,hk03,hm3⟩:=lV (rh:=c.out) (W:=upN c.rs.length 0) (srcs:=[]) hpl hm0 hk01 hm2 (x:=y) hkk
   (fun i hi=>by
    show look (fG svs 0) i=none
    cases hq:look (fG svs 0) i with
    | none=>rfl
    | some u =>
     have:=yZ (by rw[hq];rfl:(look (fG svs 0) i).isSome=true)
     exact absurd (Lj.2 (by rw[<-tY hle];omega)) hi)
   (fun i hi=>by
    rcases List.mem_append.1 hi with hi | hi
    ·have h1:=qP hi
     have h2:(look (uH (nY (cP c.out) σ'.h)) i).isSome=true:=jV hi
     cases hq:look (uH (nY (cP c.out) σ'.h)) i with
     | none=>rw[hq] at h2;cases h2
     | some l=>exact absurd (hkey i l hq).1 h1
    ·cases hi)
   (fun i hi=>by
    rcases List.mem_append.1 hi with hi | hi<;>cases hi)
  have hh:look (fo c.out y 0++uH (nY (cP c.out) σ'.h))=look (fo c.out y 0):=by
   funext i
   rw[bA]
   cases hq:look (fo c.out y 0) i with
   | some l=>rfl
   | none =>
    simp only
    cases hq2:look (uH (nY (cP c.out) σ'.h)) i with
    | none=>rfl
    | some l =>
     have:=(iR (x:=y) (k:=0)).2 (hkey i l hq2).1
     rw[hq] at this
     cases this
  have hrr:eT c.out y 0++(oM []++[])=eT c.out y 0:=by simp[oM]
  refine ⟨us,E3,rfl,hw3,hs.trans hs13,⟨by rw[hk03.rg];exact hkp.rg,fun z v hv=>?_,fun b o hb=>hk03.obj b o (hkp.obj b o hb)⟩,fun j hj=>?_,?_,?_⟩
  ·apply hk03.at'
   cases z with
   | u=>trivial
   | v x=>exact hv
   | ptr b o=>exact hv.2.elim
   | clo g cap=>exact ⟨(hkp.at' (.clo g cap) v ⟨hv.1,fun p hp=>(hv.2 p hp).elim⟩).1,fun p hp=>(hv.2 p hp).elim⟩
   | sl e l=>exact hkp.at' (.sl e l) v hv
   | row r=>exact hv.2.1.elim
   | rf s x o=>exact hkp.at' (.rf s x o) v hv
   | re r i sz off=>obtain ⟨_,_,_,h⟩:=hv;exact h.elim
   | sub r lo hi sz=>obtain ⟨_,h⟩:=hv;exact h.elim
   | ae b o e l i d=>exact hv.2.elim
   | sn e l=>exact hkp.at' (.sn e l) v hv
   | ir r i=>exact hv.2.1.elim
   | ie r i j sz off=>obtain ⟨_,_,_,h,_⟩:=hv;exact h.elim
   | fn a r F=>exact hkp.at' (.fn a r F) v hv
  ·obtain ⟨g1,g2⟩:=hkp.at' (.ptr j 0) (jk E.β (j,0)) ⟨rfl,hj⟩
   have g3:(look (fo (rhI 0 c.ks) x 0) j).isSome=true:=hm.glob.live j hj
   have g4:=(iR).1 g3
   rw[vW] at g4
   have g5:j ∈ cP c.out:=by rw[vG,JP,gO];exact g4
   have g6:(look σ'.h j).isSome=true:=hm'.glob.live j g2
   have g7:E0.L j:=by
    show (look (uH (nY (cP c.out) σ'.h)) j).isSome=true
    rw[ub,tP,if_pos g5]
    cases hq:look σ'.h j with
    | none=>rw[hq] at g6;cases g6
    | some l=>rfl
   obtain ⟨g8,_⟩:=hk03.at' (.ptr j 0) (jk E1.β (j,0)) ⟨rfl,g7⟩
   have e1:E.β j=E1.β j:=by simpa [jk] using g1
   have e2:E1.β j=E3.β j:=by simpa [jk] using g8
   rw[e1,e2]
  ·have:=hm3.memOk
   exact this.of (g':=(c.fin y).look) hh.symm (by show look (eT c.out y 0)=look (eT c.out y 0++(oM []++[]));rw[hrr])
  ·obtain ⟨x',k',q1,q2⟩:=wA (rs:=c.rs) (ks:=c.ks) (j:=0) (x:=y) (k:=0)
   show hG E3 (zL (rhB 0 c.ks++rhS 0 c.rs) y 0) us
   rw[q1]
   refine Hl hlen2 fun i t hi=>?_
   obtain ⟨v,h1,h2⟩:=hm3.slots i t (by
    show jF (jo c.out y 0++sO (upN c.rs.length 0) []) i=some t
    unfold jF
    rw[show jo c.out y 0=jo (rhS 0 c.rs) x' k' from q2,bA,hi])
   exact ⟨v,Nat.zero_le _,by simpa using h1,h2⟩
 cases e with
 | normal =>
  simp only[Rc] at hk
  split at hk
  ·rename_i svs hsv;exact fin svs hsv hk
  ·cases hk
 | ret =>
  simp only[Rc] at hk
  split at hk
  ·rename_i svs hsv;exact fin svs hsv hk
  ·cases hk
 | exit i=>cases hk
def Tm (P:Program) (s:Sh) (r:RSh) (rv:Array ResultVar):Ex->St->Option (s.T×r.T)
 | .exit _,_=>none
 | _,σ=>match rB P σ.look rv.toList,look σ.h 0 with
  | some vs,some l=>match tq s l,qZ r vs with
   | some x,some z=>some (x,z)
   | _,_=>none
  | _,_=>none
def Y6 (lp:Lp) (jn:Jn) (C:Ctx) (hl:FuncId->Hint) (d:Nat) (id:FuncId) (fn:Func) (c:MCtr) (x:c.s.T) (y:TsS c.as):Option (c.s.T×c.r.T) :=
 den lp jn (GV lp jn C hl d) C fn.ntmps { hl id with inner:=true } (fn.body.getD .skip) { s:=(0,some ⟨none,.c false [.ptr 0 0]⟩) ::nU c.as y 1,h:=[(0,c.s.cells x)],r:=[],next:=1 } (Tm C.P c.s c.r fn.results)
theorem Cu {w:World} {Z Z':Nat->Prop} (hZ:∀b,Z b->Z' b):∀{as:List Sh} {x:TsS as} {vs:List Value},fm w Z as x vs->fm w Z' as x vs
 | [],_,_,h=>h
 | _ ::_,_,_,h=>by
  simp only[fm] at h ⊢
  obtain ⟨v,vs',h1,⟨cs,h2,h3,h4⟩,h5⟩:=h
  exact ⟨v,vs',h1,⟨cs,Dat.mono hZ (fun _ _=>rfl) h2,h3,h4⟩,Cu hZ h5⟩
theorem MCtr.of_den {C:Ctx} (hC:C.ok) (eK:C.P.follows .mixedOrders=true) {hl:FuncId->Hint} {d:Nat} {f:FuncId} {fn:Func} {code:Code} {c:MCtr} (hf:C.P.funcs[f]?=some fn) (hb:fn.body=some code) (hn:c.as.length+1<=fn.ntmps) (hfl:(c.s.flat&&c.r.flat)=true)
  (h:∀x y,c.m x y=Y6 lpK jnK C hl d f fn c x y):c.ok C.P f:=by
 intro x y z hz w Z b cs t vals hZ hnZ hheap hd hone hvals
 simp only[z10] at hfl
 have hblt:b<w.heap.size:=(Array.getElem?_eq_some_iff.1 hheap).1
 refine calls_of_wp hf hb (wpIn_wide (n:=0).1 ?_)
 let E:Env:={ P:=C.P,w0:={ w with heap:=w.heap.extract 0 b },Z0:=fun k=>k<w.heap.size/\k≠b,w:=w,Z:=fun k=>k<w.heap.size/\k≠b,β:=fun _=>b,L:=fun i=>i=0,ρ:=fun _=>undef,R:=fun _=>False,φ:=fun _ _=>False,ι:=fun _ _=>undef,ν:=fun _=>0,rg:=false }
 have hw0:E.w0.heap.size=b:=by show (w.heap.extract 0 b).size=b;rw[Array.size_extract];omega
 have hbelow:Below E.w0.heap.size E.w0 E.w:=⟨rfl,rfl,rfl,by rw[hw0];exact Nat.le_of_lt hblt,fun k hk=>by
  rw[hw0] at hk
  show w.heap[k]?=(w.heap.extract 0 b)[k]?
  rw[Array.getElem?_extract]
  simp[hk]
  omega⟩
 have hdz:fm E.w E.Z c.as y vals:=Cu (fun k hk=>⟨hZ k hk,fun e=>hnZ (by rw[<-e];exact hk)⟩) hvals
 have hlen:vals.length=c.as.length:=hdz.length
 have hdat:Dat E.w E.Z c.s x cs:=Dat.flat hfl.1 hd
 have hmod:Mod fn.ntmps E { tmps:=(Value.pointer (some ⟨b,0,none⟩) ::vals).toArray++Array.replicate (fn.ntmps - (Value.pointer (some ⟨b,0,none⟩) ::vals).toArray.size) undef,defers:=[] } ({ s:=(0,some ⟨none,.c false [.ptr 0 0]⟩) ::nU c.as y 1,h:=[(0,c.s.cells x)],r:=[],next:=1 }:St).look:=by
  have hh:∀i l,look [(0,c.s.cells x)] i=some l->i=0/\l=c.s.cells x:=fun i l hi=>by
   rw[ai] at hi
   split at hi
   ·rename_i e;injection hi with hi;exact ⟨e,hi.symm⟩
   ·simp[look] at hi
  refine ⟨⟨hbelow,fun k hk=>hk.1,fun k hk=>hk,fun k hk=>.inl hk,fun k hk=>?_,fun r hr=>hr.elim,fun i l hi=>⟨?_,fun hz=>hz.2 rfl⟩,fun i j l l' hi hj _=>?_,fun i r k hi=>by simp[St.look,look] at hi,fun i j r r' k hi=>by simp[St.look,look] at hi,⟨fun i x k hi=>by simp[St.look,look] at hi,fun i j x y k hi=>by simp[St.look,look] at hi⟩⟩,trivial,?_,fun i t' hi=>?_,fun i l hi=>?_,fun i r hi=>by simp[St.look,look] at hi,fun i x hi=>by simp[St.look,look] at hi⟩
  ·have hk:k=0:=hk
   subst hk
   rfl
  ·rw[hw0];exact bY _
  ·exact (hh i l hi).1.trans (hh j l' hj).1.symm
  ·simp only[Array.size_append,i_,Array.size_replicate,j_]
   omega
  ·have get:∀v',(Value.pointer (some ⟨b,0,none⟩) ::vals)[i]?=some v'->((Value.pointer (some ⟨b,0,none⟩) ::vals).toArray++Array.replicate (fn.ntmps - (Value.pointer (some ⟨b,0,none⟩) ::vals).toArray.size) undef)[i]?=some v':=fun v' hv'=>by
    have hlt:=(List.getElem?_eq_some_iff.1 hv').1
    rw[Array.getElem?_append_left (by simpa using hlt)]
    simpa using hv'
   simp only[St.look,jF] at hi
   split at hi
   ·rename_i s' hl'
    injection hi with hi
    subst hi
    rw[ai] at hl'
    split at hl'
    ·rename_i e
     subst e
     simp only[a_] at hl'
     subst hl'
     exact ⟨_,get _ rfl,⟨[_],rfl,⟨⟨rfl,rfl⟩,trivial⟩,fun _=>rfl⟩⟩
    ·obtain ⟨v',h3,h2,h4⟩:=kQ (E:=E) hdz i s' hl'
     refine ⟨v',get v' ?_,h4⟩
     rw[show i=(i - 1)+1 by omega]
     exact h2
   ·cases hi
  ·obtain ⟨rfl,rfl⟩:=hh i l hi
   exact ⟨rfl,cs,t,hheap,hdat.rel,hone⟩
 have hrun:=hz
 rw[h x y] at hrun
 unfold Y6 at hrun
 rw[hb] at hrun
 refine jT (F:=Fence.wide) hC (vT hC eK d) eK (.inl rfl) (fun _=>rfl) hrun (fun i hi=>by simp at hi) ⟨rfl,fun e=>by cases e⟩ (E:=E) hmod fun e σ' E1 a1 hk hs hkp hf' hsl hm'=>?_
 have hdef:a1.defers=[]:=jh.none (hkp.rg.trans rfl) hm'.nodef
 have hP1:E1.P=C.P:=hs.P
 have h0:E1.w0=E.w0:=hs.w0
 have fin:Tm C.P c.s c.r fn.results .normal σ'=some z->a1.defers=[]/\∃v,(results fn a1.tmps).run C.P E1.w=.ok v E1.w/\∃u cs' Z' t',Ending.returned v=.returned u/\qM E1.w Z' c.r z.2 u/\E1.w.heap[b]?=some (.cells cs'.toArray t' (0,0))/\Dat E1.w Z' c.s z.1 cs'/\(∀b,Z' b->False)/\(∀v ∈ cs',v.oneCell'=true) /\
   E1.w.os=w.os/\E1.w.tape=w.tape/\E1.w.output=w.output/\w.heap.size<=E1.w.heap.size/\∀k,k<w.heap.size->k≠b->E1.w.heap[k]?=w.heap[k]?:=fun hkk=>by
  simp only[Tm] at hkk
  split at hkk
  case h_2=>cases hkk
  rename_i vs l hvs hl
  split at hkk
  case h_2=>cases hkk
  rename_i x' z' hx hzz
  injection hkk with hkk
  subst hkk
  rw[<-hP1] at hvs
  obtain ⟨us,hu1,hu2⟩:=jW hm' hvs
  rw[hP1] at hu2
  obtain ⟨g1,g2⟩:=hkp.at' (.ptr 0 0) (jk E.β (0,0)) ⟨rfl,rfl⟩
  have hβ:E1.β 0=b:=by
   have:(⟨b,0,none⟩:Addr)=⟨E1.β 0,0,none⟩:=by simpa [jk] using g1
   injection this with e1
   exact e1.symm
  obtain ⟨_,cs',t',k1,k2,k3⟩:=hm'.blks 0 l hl
  rw[hβ] at k1
  unfold tq at hx
  split at hx
  case h_2=>cases hx
  rename_i x2 hx2
  injection hx with hx
  subst hx
  obtain ⟨c1,c2,rfl,d1,d2⟩:=fI hx2 k2
  match c2,d2 with
  | [],_ =>
  rw[gO] at k1 k3
  have hblk:∀k,k<w.heap.size->k≠b->E1.w.heap[k]?=w.heap[k]?:=fun k hk1 hk2=>by
   by_cases hkb:k<b
   ·have h1:=hm'.glob.below
    rw[h0] at h1
    rw[h1.block k (by rw[hw0];exact hkb)]
    exact (hbelow.block k (by rw[hw0];exact hkb)).symm
   ·obtain ⟨o,ho⟩:∃o,w.heap[k]?=some o:=⟨_,k_ hk1⟩
    rw[ho]
    exact (hkp.obj k o ⟨⟨hk1,hk2⟩,by rw[hw0];omega,ho⟩).2.2
  have hbel:=hm'.glob.below
  rw[h0] at hbel
  refine ⟨hdef,_,hu2,_,c1,fun _=>False,t',rfl,qM.flat hfl.2 (uM (E:=E1) hzz hu1),k1,Dat.flat hfl.1 d1,fun _ h=>h,k3,hbel.os,hbel.tape,hbel.output,?_,hblk⟩
  by_cases hsz:w.heap.size<=E1.w.heap.size
  ·exact hsz
  ·exfalso
   by_cases e1:b+1=w.heap.size
   ·have:=(Array.getElem?_eq_some_iff.1 k1).1
    omega
   ·have h1:=hblk (w.heap.size - 1) (by omega) (by omega)
    have h2:E1.w.heap[w.heap.size - 1]?=none:=Array.getElem?_eq_none (by omega)
    rw[h2] at h1
    have h3:w.heap[w.heap.size - 1]?=some w.heap[w.heap.size - 1]:=k_ (by omega)
    rw[h3] at h1
    cases h1
 cases e with
 | normal=>exact fin hk
 | ret=>exact fin hk
 | exit i=>cases hk
end
end Dn
end
end Go.Proofs.YtlfdhaiigdllcaaGreat
