/- A symbolic executor: what is handed in at the law's own door is data of a shape: each argument that reads has such a datum, well formed. A symbolic executor: contracts of functions that change what is the call's own: blocks that parameters lead to, rows and tables that go in by value. A symbolic executor: functions that change what is theirs: their contracts out of their bodies; functions walked in place that call them. -/
import Derived.ProofKit
import Derived.Deep.Slices
import Derived.OpenShut
import Derived.Test.YtegbncajloeepaaGreatMgK

namespace Go.Proofs.YtegbncajloeepaaGreat
noncomputable section
namespace Dn
noncomputable section
open Go.RowKit Go.WideShapes Go.ChangeShapes
def Sh.wf:(s:Sh)->s.T->Prop
 | .int k,n=>(Lit.int k n).wf=true
 | .bool,_=>True
 | .str,b=>b.size<=maxLen
 | .sl e,l=>l.length<=maxLen/\∀x ∈ l,e.wf x
 | .pair a b,x=>a.wf x.1/\b.wf x.2
 | .agg e,x=>e.wf x
 | .ref,_=>False
theorem Sh.size_pos:∀s:Sh,0<s.size
 | .int _=>Nat.one_pos
 | .bool=>Nat.one_pos
 | .str=>Nat.one_pos
 | .sl _=>Nat.one_pos
 | .pair a b=>by have:=Sh.size_pos a;simp only[Sh.size];omega
 | .agg e=>Sh.size_pos e
 | .ref=>Nat.one_pos
def iU (P:Program) (n:Nat):TypeId ⊕ (Nat×List Field)->Option TypeId
 | .inl t=>some t
 | .inr (off,[f])=>match Nat.beq f.offset off&&Nat.beq (P.cellsOf f.type) n with
  | true=>some f.type
  | false=>none
 | _=>none
def GV (P:Program) (k:IntKind) (t:TypeId):Bool:=match P.underlying t with
 | some (.int k')=>decide (k'=k)
 | _=>false
def B4 (P:Program) (t:TypeId):Bool:=match P.underlying t with
 | some .bool=>true
 | _=>false
def G0 (P:Program) (t:TypeId):Bool:=match P.underlying t with
 | some .string=>true
 | _=>false
def vu (P:Program) (u:TypeId):Nat->Nat->List Field
 | 0,_=>[]
 | n + 1, i => { name := "", type := u, offset := i * P.cellsOf u, embedded := false, tag := "", pkgPath := "", byteOffset := 0 } :: vu P u n (i + 1)
def chk (P:Program):Sh->TypeId ⊕ (Nat×List Field)->Bool
 | .int k,x=>match iU P 1 x with
  | some t=>GV P k t
  | none=>false
 | .bool,x=>match iU P 1 x with
  | some t=>B4 P t
  | none=>false
 | .str,x=>match iU P 1 x with
  | some t=>G0 P t
  | none=>false
 | .sl e,x=>match iU P 1 x with
  | some t=>match P.underlying t with
   | some (.slice u)=>Nat.beq (P.cellsOf u) e.size&&chk P e (.inl u)
   | _=>false
  | none=>false
 | .pair a b,.inr (off,f ::g ::r)=>Nat.beq f.offset off&&Nat.beq (P.cellsOf f.type) a.size&&chk P a (.inl f.type)&&chk P b (.inr (off+a.size,g ::r))
 | .pair _ _,_=>false
 | .agg e,x=>match iU P e.size x with
  | some t=>match P.underlying t with
   | some (.struct fs)=>Nat.beq (P.cellsOf t) e.size&&chk P e (.inr (0,fs.toList))
   | some (.array n u)=>Nat.beq (P.cellsOf t) e.size&&chk P e (.inr (0,vu P u n 0))
   | _=>false
  | none=>false
 | .ref,_=>false
section
variable {H:Type} {enc:TypeId×Value->H} {P:Program} {w:World} {sp:Nat->Bool} {held:Bool}
def qE (w:World):Nat->Prop:=fun b=>b<w.heap.size
theorem oA {n off:Nat} {fl:List Field} {t:TypeId} (h:iU P n (.inr (off,fl))=some t):∃f,fl=[f]/\f.offset=off/\P.cellsOf f.type=n/\f.type=t:=by
 unfold iU at h
 split at h
 ·rename_i heq;cases heq
 ·rename_i o f heq
  injection heq with heq
  simp only[Prod.mk.injEq] at heq
  obtain ⟨rfl,rfl⟩:=heq
  split at h
  ·rename_i hb
   simp only[z10,Nat.beq_eq] at hb
   injection h with h
   exact ⟨f,rfl,hb.1,hb.2,h⟩
  ·cases h
 ·cases h
theorem N3:∀{s:Sh} {off:Nat} {fl:List Field},(∀a b,s≠.pair a b)->chk P s (.inr (off,fl))=true->∃f,fl=[f]/\f.offset=off/\P.cellsOf f.type=s.size/\chk P s (.inl f.type)=true:=by
 intro s off fl hs h
 cases s with
 | pair a b=>exact absurd rfl (hs a b)
 | ref=>simp[chk] at h
 | int k =>
  simp only[chk] at h
  split at h
  ·rename_i t ht
   obtain ⟨f,rfl,h1,h2,rfl⟩:=oA ht
   exact ⟨f,rfl,h1,h2,by simpa only[chk,iU] using h⟩
  ·cases h
 | bool =>
  simp only[chk] at h
  split at h
  ·rename_i t ht
   obtain ⟨f,rfl,h1,h2,rfl⟩:=oA ht
   exact ⟨f,rfl,h1,h2,by simpa only[chk,iU] using h⟩
  ·cases h
 | str =>
  simp only[chk] at h
  split at h
  ·rename_i t ht
   obtain ⟨f,rfl,h1,h2,rfl⟩:=oA ht
   exact ⟨f,rfl,h1,h2,by simpa only[chk,iU] using h⟩
  ·cases h
 | sl e =>
  simp only[chk] at h
  split at h
  ·rename_i t ht
   obtain ⟨f,rfl,h1,h2,rfl⟩:=oA ht
   exact ⟨f,rfl,h1,h2,by simpa only[chk,iU] using h⟩
  ·cases h
 | agg e =>
  simp only[chk] at h
  split at h
  ·rename_i t ht
   obtain ⟨f,rfl,h1,h2,rfl⟩:=oA ht
   exact ⟨f,rfl,h1,h2,by simpa only[chk,iU] using h⟩
  ·cases h
def tF (enc:TypeId×Value->H) (P:Program) (w:World) (sp:Nat->Bool) (held:Bool) (s:Sh):Prop :=
 ∀t fuel cs r,chk P s (.inl t)=true->DataW.trod enc P w 0 sp held fuel t cs=some r->∃y:s.T,Dat w (qE w) s y cs/\s.wf y
def Et (enc:TypeId×Value->H) (P:Program) (w:World) (sp:Nat->Bool) (held:Bool) (s:Sh):Prop :=
 ∀off fl (cs:List Value),chk P s (.inr (off,fl))=true->(∀f ∈ fl,∃n r,DataW.trod enc P w 0 sp held n f.type ((cs.drop f.offset).take (P.cellsOf f.type))=some r)->cs.length=off+s.size ->
  ∃y:s.T,Dat w (qE w) s y (cs.drop off)/\s.wf y
theorem lh {s:Sh} (hs:∀a b,s≠.pair a b) (h:tF enc P w sp held s):Et enc P w sp held s:=by
 intro off fl cs hc hf hl
 obtain ⟨f,rfl,rfl,h2,h3⟩:=N3 hs hc
 obtain ⟨n,r,hr⟩:=hf f (by simp)
 rw[h2,List.take_of_length_le (by simp;omega)] at hr
 exact h _ _ _ _ h3 hr
theorem tv {u:TypeId}:∀{n i:Nat} {f:Field},f ∈ vu P u n i->∃j,j<n/\f.type=u/\f.offset=(i+j)*P.cellsOf u
 | n+1,i,f,h=>by
  rcases List.mem_cons.1 h with rfl | h
  ·exact ⟨0,by omega,rfl,by simp⟩
  ·obtain ⟨j,h1,h2,h3⟩:=tv h
   exact ⟨j+1,by omega,h2,by rw[h3];congr 1;omega⟩
 | 0,_,_,h=>by cases h
theorem mE:∀s:Sh,tF enc P w sp held s/\Et enc P w sp held s
 | .ref=>⟨fun t fuel cs r hc _=>by simp[chk] at hc,fun off fl cs hc _ _=>by simp[chk] at hc⟩
 | .int k=>by
  have h:tF enc P w sp held (.int k):=by
   intro t fuel cs r hc hr
   simp only[chk,iU,GV] at hc
   split at hc
   ·rename_i k' ht
    have hk:k'=k:=by simpa using hc
    subst hk
    obtain ⟨n,rfl,_,hw⟩:=DataW.trod_int ht hr
    exact ⟨n,rfl,hw⟩
   ·cases hc
  exact ⟨h,lh (by simp) h⟩
 | .bool=>by
  have h:tF enc P w sp held .bool:=by
   intro t fuel cs r hc hr
   simp only[chk,iU,B4] at hc
   split at hc
   ·rename_i ht
    obtain ⟨n,rfl,_⟩:=DataW.trod_bool ht hr
    exact ⟨n,rfl,trivial⟩
   ·cases hc
  exact ⟨h,lh (by simp) h⟩
 | .str=>by
  have h:tF enc P w sp held .str:=by
   intro t fuel cs r hc hr
   simp only[chk,iU,G0] at hc
   split at hc
   ·rename_i ht
    obtain ⟨n,rfl,_,hw⟩:=DataW.trod_string ht hr
    exact ⟨n,rfl,hw⟩
   ·cases hc
  exact ⟨h,lh (by simp) h⟩
 | .sl e=>by
  have h:tF enc P w sp held (.sl e):=by
   intro t fuel cs r hc hr
   simp only[chk,iU] at hc
   split at hc
   ·rename_i u ht
    simp only[z10,Nat.beq_eq] at hc
    obtain ⟨hz,hce⟩:=hc
    rcases Deep.open_slice ht hr with ⟨rfl,_⟩ | ⟨ad,len,cap,m,n,D,Pl,rfl,_,hl,hm,hmm,_,hx⟩
    ·exact ⟨([]:List e.T),⟨none,0,rfl,Nat.le_refl _,fun _=>rfl,fun h0=>absurd h0 (by simp)⟩,by simp[maxLen],by simp⟩
    ·have hle:len<=m:=by rw[hmm];split<;>omega
     have one:∀i,i<len->∃y:e.T,(∃ecs,Dat w (qE w) e y ecs/\w.cells? 0 (ad.add (i*e.size)) e.size=some ecs)/\e.wf y:=by
      intro i hi
      obtain ⟨cs',h1,h2⟩:=hx i (by omega)
      rw[hz] at h1
      obtain ⟨y,h3,h4⟩:=(mE e).1 _ _ _ _ hce h2
      exact ⟨y,⟨cs',h3,h1⟩,h4⟩
     have:Inhabited e.T:=⟨e.dflt⟩
     obtain ⟨f,hf⟩:=Deep.choose_lt one
     refine ⟨((List.range len).map f:List e.T),⟨some ad,cap,by simp,by simpa using hl,fun h=>(by cases h),fun h0=>⟨ad,rfl,?_,fun k x hk=>?_⟩⟩,by simp;omega,fun x hxm=>?_⟩
     ·have h0:0<len:=by simpa using h0
      obtain ⟨⟨ecs,h1,h2⟩,_⟩:=hf 0 h0
      have hlen:=h1.len
      have hpos:0<e.size:=Sh.size_pos e
      obtain ⟨_,_,h3⟩:=World.cells?_some h2
      have h3:=h3 0 hpos
      have:(ecs[0]?).isSome=true:=by simp;omega
      rw[<-h3] at this
      unfold qE
      refine Decidable.byContradiction fun hge=>?_
      have hnone:w.heap[((ad.add (0*e.size)).add 0).block]?=none:=by
       rw[Array.getElem?_eq_none_iff]
       have:((ad.add (0*e.size)).add 0).block=ad.block:=by simp[Addr.add]
       rw[this]
       omega
      unfold World.cell? at this
      rw[hnone] at this
      simp at this
     ·obtain ⟨hk1,rfl⟩:k<len/\f k=x:=by
       rw[List.getElem?_map] at hk
       cases hr:(List.range len)[k]? with
       | none=>rw[hr] at hk;cases hk
       | some j =>
        rw[hr] at hk
        have:=List.getElem?_eq_some_iff.1 hr
        obtain ⟨h1,h2⟩:=this
        simp at h1 h2
        subst h2
        exact ⟨h1,by simpa using hk⟩
      obtain ⟨⟨ecs,h1,h2⟩,_⟩:=hf k hk1
      obtain ⟨_,hl',h3⟩:=World.cells?_some h2
      refine ⟨ecs,h1,fun j v hj=>?_⟩
      have hjl:=(List.getElem?_eq_some_iff.1 hj).1
      rw[<-Deep.add_add,h3 j (by omega)]
      exact hj
     ·obtain ⟨i,hi,rfl⟩:=List.mem_map.1 hxm
      exact (hf i (by simpa using hi)).2
   ·cases hc
  exact ⟨h,lh (by simp) h⟩
 | .pair a b=>by
  refine ⟨fun t fuel cs r hc=>by simp[chk] at hc,fun off fl cs hc hf hl=>?_⟩
  match fl,hc with
  | f ::g ::r,hc =>
   simp only[chk,z10,Nat.beq_eq] at hc
   obtain ⟨⟨⟨h1,h2⟩,h3⟩,h4⟩:=hc
   simp only[Sh.size] at hl
   obtain ⟨n,y,hy⟩:=hf f (by simp)
   obtain ⟨ya,g1,g2⟩:=(mE a).1 _ _ _ _ h3 hy
   obtain ⟨yb,g3,g4⟩:=(mE b).2 _ _ cs h4 (fun f' hf'=>hf f' (List.mem_cons_of_mem _ hf')) (by omega)
   refine ⟨((ya,yb):a.T×b.T),⟨_,_,?_,g1,g3⟩,g2,g4⟩
   rw[h1,h2,<-List.drop_drop,List.take_append_drop]
 | .agg e=>by
  have h:tF enc P w sp held (.agg e):=by
   intro t fuel cs r hc hr
   simp only[chk,iU] at hc
   split at hc
   ·rename_i fs ht
    simp only[z10,Nat.beq_eq] at hc
    obtain ⟨hz,hc⟩:=hc
    obtain ⟨xs,n,_,_,hl,hxl,hx⟩:=DataW.trod_struct ht hr
    obtain ⟨y,h1,h2⟩:=(mE e).2 0 _ cs hc (fun f hf=>by
     obtain ⟨i,hi,rfl⟩:=List.getElem_of_mem hf
     have hi':i<fs.size:=by simpa using hi
     have:=hx i fs[i] (Array.getElem?_eq_getElem hi')
     rw[List.getElem?_eq_getElem (by omega)] at this
     exact ⟨n,_,by simpa using this⟩) (by rw[Nat.zero_add,<-hz];exact hl)
    exact ⟨y,h1,h2⟩
   ·rename_i n u ht
    simp only[z10,Nat.beq_eq] at hc
    obtain ⟨hz,hc⟩:=hc
    obtain ⟨xs,m,_,_,hl,hxl,hx⟩:=DataW.trod_array ht hr
    obtain ⟨y,h1,h2⟩:=(mE e).2 0 _ cs hc (fun f hf=>by
     obtain ⟨j,hj,h1,h2⟩:=tv hf
     have:=hx j hj
     rw[List.getElem?_eq_getElem (by omega)] at this
     exact ⟨m,_,by rw[h1,h2,Nat.zero_add];exact this⟩) (by rw[Nat.zero_add,<-hz];exact hl)
    exact ⟨y,h1,h2⟩
   ·cases hc
  exact ⟨h,lh (by simp) h⟩
theorem JX {s:Sh} {t:TypeId} {v:Value} {d:DataW H} {ps:List MemPlace} {r:Reach} {b0:Nat} (hc:chk P s (.inl t)=true) (hv:Value.okWide P w r b0 t v) (h:DataW.Trod enc P w 0 sp held t v d ps):∃y:s.T,nW w (qE w) s y v/\s.wf y:=by
 obtain ⟨fuel,hf⟩:=h
 obtain ⟨y,h1,h2⟩:=(mE s).1 _ _ _ _ hc hf
 refine ⟨y,⟨v.cells.toList,h1,?_,fun _=>?_⟩,h2⟩
 ·cases s with
  | agg e =>
   simp only[chk,iU] at hc
   split at hc
   ·rename_i fs ht
    obtain ⟨cs,rfl,_⟩:=okWide_struct ht hv
    simp[Value.cells,mkV,Sh.isAgg]
   ·rename_i n u ht
    simp only[Value.okWide,ht] at hv
    obtain ⟨cs,rfl,_⟩:=hv
    simp[Value.cells,mkV,Sh.isAgg]
   ·cases hc
  | pair a b=>simp[chk] at hc
  | ref=>simp[chk] at hc
  | int k =>
   simp only[chk,iU,GV] at hc
   split at hc
   ·rename_i k' ht
    cases v<;>first | (simp[Value.okWide,ht,Cell.okWide,Cell.ok] at hv;done) | (simp[Value.cells,mkV,Sh.isAgg];done)
   ·cases hc
  | bool =>
   simp only[chk,iU,B4] at hc
   split at hc
   ·rename_i ht
    cases v<;>first | (simp[Value.okWide,ht,Cell.okWide,Cell.ok] at hv;done) | (simp[Value.cells,mkV,Sh.isAgg];done)
   ·cases hc
  | str =>
   simp only[chk,iU,G0] at hc
   split at hc
   ·rename_i ht
    cases v<;>first | (simp[Value.okWide,ht,Cell.okWide,Cell.ok] at hv;done) | (simp[Value.cells,mkV,Sh.isAgg];done)
   ·cases hc
  | sl e =>
   simp only[chk,iU] at hc
   split at hc
   ·rename_i u ht
    cases v<;>first | (simp[Value.okWide,ht,Cell.okWide,Cell.ok] at hv;done) | (simp[Value.cells,mkV,Sh.isAgg];done)
   ·cases hc
 ·rename_i ha
  have:=h1.len
  cases s<;>simp[Sh.isAgg] at ha<;>simp[Sh.size] at this<;>first | simpa using this | (simp[chk] at hc)
def sT (P:Program):List Sh->List TypeId->Bool
 | [],[]=>true
 | s ::r,t ::ts=>chk P s (.inl t)&&P.readableRec t&&decide (t<P.types.size)&&sT P r ts
 | _,_=>false
def wfs:(l:List Sh)->TsS l->Prop
 | [],_=>True
 | s ::r,x=>s.wf x.1/\wfs r x.2
theorem sY {r:Reach} {b0:Nat}:∀{as:List Sh} {ts:List TypeId} {vs:List Value} {ds:List (DataW H)} {ps:List MemPlace},sT P as ts=true ->
  (∀(j:Nat) t v,ts[j]?=some t->vs[j]?=some v->Value.okWide P w r b0 t v)->DataW.TrodAll enc P w 0 sp held ts vs ds ps->∃x:TsS as,df w (qE w) as x vs/\wfs as x
 | [],[],[],_,_,_,_,_=>⟨(),rfl,trivial⟩
 | s ::r',t ::ts,v ::vs,d ::ds,ps,hc,hv,h=>by
  simp only[sT,z10] at hc
  obtain ⟨p,q,h1,h2,_⟩:=h
  obtain ⟨y,g1,g2⟩:=JX hc.1.1.1 (hv 0 t v rfl rfl) h1
  obtain ⟨x,g3,g4⟩:=sY hc.2 (fun j t' v' ht hv'=>hv (j+1) t' v' ht hv') h2
  exact ⟨((y,x):s.T×TsS r'),by simp only[df];exact ⟨v,vs,rfl,g1,g3⟩,g2,g4⟩
 | [],[],_ ::_,_,_,_,_,h=>by simp[DataW.TrodAll] at h
 | _ ::_,_ ::_,[],_,_,_,_,h=>by simp[DataW.TrodAll] at h
 | _ ::_,_ ::_,_ ::_,[],_,_,_,h=>by simp[DataW.TrodAll] at h
 | [],_ ::_,_,_,_,hc,_,_=>by simp[sT] at hc
 | _ ::_,[],_,_,_,hc,_,_=>by simp[sT] at hc
theorem sW (hl:laidOutB P=true) {W':World} (hb:Below w.heap.size w W') {sp':Nat->Bool}:∀{as:List Sh} {ts:List TypeId} {vs:List Value} {ds:List (DataW H)} {ps:List MemPlace},sT P as ts=true ->
  DataW.TrodAll enc P w 0 (fun _=>true) true ts vs ds ps->(∀p ∈ ps,p.block<w.heap.size)->(∀p ∈ ps,sp' p.block=true)->DataW.TrodAll enc P W' 0 sp' true ts vs ds ps
 | [],[],[],[],_,_,h,_,_=>h
 | s ::r',t ::ts,v ::vs,d ::ds,ps,hc,h,hlt,hs=>by
  simp only[sT,z10,decide_eq_true_eq] at hc
  obtain ⟨p,q,h1,h2,rfl⟩:=h
  exact ⟨p,q,WideElems.Trod_stays hl hc.1.1.2 hc.1.2 h1 (fun x hx=>hb.same (hlt x (List.mem_append_left _ hx))) (fun x hx=>hs x (List.mem_append_left _ hx)),
   sW hl hb hc.2 h2 (fun x hx=>hlt x (List.mem_append_right _ hx)) (fun x hx=>hs x (List.mem_append_right _ hx)),rfl⟩
 | [],[],[],_ ::_,_,_,h,_,_=>by simp[DataW.TrodAll] at h
 | [],[],_ ::_,_,_,_,h,_,_=>by simp[DataW.TrodAll] at h
 | _ ::_,_ ::_,[],_,_,_,h,_,_=>by simp[DataW.TrodAll] at h
 | _ ::_,_ ::_,_ ::_,[],_,_,h,_,_=>by simp[DataW.TrodAll] at h
 | [],_ ::_,_,_,_,hc,_,_,_=>by simp[sT] at hc
 | _ ::_,[],_,_,_,hc,_,_,_=>by simp[sT] at hc
theorem rJ:∀{ts:List TypeId} {vs:List Value} {ds:List (DataW H)} {ps:List MemPlace},DataW.TrodAll enc P w 0 sp held ts vs ds ps->ds.length=ts.length
 | [],[],[],_,_=>rfl
 | _ ::_,_ ::_,_ ::_,_,h=>by
  obtain ⟨_,_,_,h2,_⟩:=h
  simp[rJ h2]
 | [],[],_ ::_,_,h=>by simp[DataW.TrodAll] at h
 | [],_ ::_,_,_,h=>by simp[DataW.TrodAll] at h
 | _ ::_,[],_,_,h=>by simp[DataW.TrodAll] at h
 | _ ::_,_ ::_,[],_,h=>by simp[DataW.TrodAll] at h
theorem Np {fn:Func} {f:FuncId} {s:ChangeSpec} {as:List Sh} {m:TsS as->TsF []->TsS []->Option Bool} {t4:TypeId} (hl:laidOutB P=true)
  (hok:Ctr.ok P f ⟨as,[],[],.one .bool,m⟩) (hm:∀x,wfs as x->m x () ()=some true) (hp:sT P as fn.params.toList=true) (hres:fn.resultTypes=#[t4]) (hb:P.underlying t4=some .bool)
  (hvars:s.vars=[]) (hfn:∀ds:List (DataW H),ds.length=fn.params.toList.length->s.fn H ds={ results:=[.lit (.bool true)],args:=ds })
  {W:World} {base:Nat} {args:Array Value} {ds gs:List (DataW H)} {before:List MemPlace} (hv:∀(j:Nat) t v,fn.params[j]?=some t->args[j]?=some v->Value.okWide P W .any base t v)
  (hW:DataW.Whole enc P fn.params.toList s.vars false W args.toList ds gs before):Calls P f args W fun e W'=>∃v,e=.returned v/\s.post enc P fn false true false false W args v W':=by
 have hlt:=fun p hp=>hW.lt (p:=p) hp
 obtain ⟨p,q,hA,hV,rfl,hfz,hnd⟩:=id hW
 obtain ⟨x,hx,hwf⟩:=sY hp (fun j t v ht hv'=>hv j t v (by simpa using ht) (by simpa using hv')) hA
 have hlen:=rJ hA
 rw[hvars] at hV
 obtain ⟨rfl,rfl⟩:=trodVars_none hV
 have:=hok x () () true (hm x hwf) W (qE W) args.toList [] [] (fun _ h=>h) hx rfl rfl
 simp only[List.append_nil,Array.toArray_toList] at this
 refine this.mono fun e W' he=>?_
 obtain ⟨v,rfl,hr,hbelow⟩:=he
 obtain ⟨cs,hc,rfl,_⟩:nW W' (fresh (qE W) W W') .bool true v:=hr
 simp only[Dat] at hc
 subst hc
 simp only[List.append_nil] at hlt hW hfz hnd
 refine ⟨_,rfl,?_⟩
 have hf:=hfn ds hlen
 have hold:∀y ∈ p,(fun b=>decide (b<W.heap.size)) y.block=true:=fun y hy=>by simpa using hlt y hy
 have res:∀(b:Nat) (sp:Nat->Bool) (hd:Bool),DataW.TrodAll enc P W' b sp hd fn.resultTypes.toList ((Value.bool true).resultList fn.resultTypes.size) [.lit (.bool true)] []:=fun b sp hd=>by
  rw[hres]
  exact trodAll_mk1 (shut_bool hb true)
 have arg:∀sp:Nat->Bool,(∀y ∈ p,sp y.block=true)->DataW.TrodAll enc P W' 0 sp true fn.params.toList args.toList ds p:=fun sp hs=>sW hl hbelow hp hA hlt hs
 have vars:∀sp:Nat->Bool,DataW.TrodVars (H:=H) enc P W' sp s.vars [] []:=fun sp=>by rw[hvars];rfl
 refine ⟨ds,[],p,[],p,[],hW,?_,?_,?_,World.keptBut_mono (fun y hy=>⟨hy,by simpa using hy⟩) (hbelow.frame (· ∈ p)),fun h=>by cases h⟩
 ·rw[List.append_nil,hf];exact res _ _ _
 ·rw[List.append_nil,hf];exact arg _ hold
 ·rw[List.append_nil,hf];exact vars _
end
end
end Dn
namespace Dn
noncomputable section
open Go.RowKit
inductive PK where
 | d (s:Sh)
 | b (ps:List Pat)
 | v (ag:Bool) (ps:List Pat)
def rhI:Nat->List PK->List (Plc×List Pat)
 | _,[]=>[]
 | j,.d s ::r=>(.slot j s.isAgg,[.d s]) ::rhI (j+1) r
 | j,.b ps ::r=>(.blk j,ps) ::rhI (j+1) r
 | j,.v ag ps ::r=>(.slot j ag,ps) ::rhI (j+1) r
def rhB:Nat->List PK->List (Plc×List Pat)
 | _,[]=>[]
 | j,.d _ ::r=>rhB (j+1) r
 | j,.b ps ::r=>(.blk j,ps) ::rhB (j+1) r
 | j,.v _ _ ::r=>rhB (j+1) r
def rhS:Nat->List (Bool×List Pat)->List (Plc×List Pat)
 | _,[]=>[]
 | j,p ::r=>(.slot j p.1,p.2) ::rhS (j+1) r
def um:Nat->List PK->List (Nat×Option SlotV)
 | _,[]=>[]
 | j,.d _ ::r=>um (j+1) r
 | j,.b _ ::r=>(j,some ⟨none,.c false [.ptr j 0]⟩) ::um (j+1) r
 | j,.v _ _ ::r=>um (j+1) r
def jS:Nat->List PK->List Nat
 | _,[]=>[]
 | j,.d _ ::r=>j ::jS (j+1) r
 | j,.b _ ::r=>jS (j+1) r
 | j,.v _ _ ::r=>j ::jS (j+1) r
structure SCtr where
 ks:List PK
 rs:List (Bool×List Pat)
 m:TsR (rhI 0 ks)->Option (TsR (rhB 0 ks++rhS 0 rs))
abbrev SCtr.out (c:SCtr):List (Plc×List Pat):=rhB 0 c.ks++rhS 0 c.rs
def SCtr.init (c:SCtr) (x:TsR (rhI 0 c.ks)):St :=
 {s:=gi (rhI 0 c.ks) x 0++pa (jS 0 c.ks) (um 0 c.ks),h:=dF (rhI 0 c.ks) x 0,r:=dk (rhI 0 c.ks) x 0,next:=c.ks.length+lm (rhI 0 c.ks) }
def SCtr.fin (c:SCtr) (y:TsR c.out):St:={ s:=[],h:=dF c.out y 0,r:=dk c.out y 0,next:=0 }
def vT:(rh:List (Plc×List Pat))->TsR rh->Nat->List SV
 | [],_,_=>[]
 | (.slot _ ag,ps) ::r,x,k=>.c ag (mY ps x k) ::vT r (ma ps x) (k+fm ps)
 | (.blk _,ps) ::r,x,k=>vT r (ma ps x) (k+fm ps)
 | (.row _,ps) ::r,x,k=>vT r (ma ps x) k
def Env.bare (E:Env):Env:={ E with L:=fun _=>False,R:=fun _=>False }
def SCtr.ok (P:Program) (f:FuncId) (c:SCtr):Prop:=∀x y,c.m x=some y->∀(E:Env) (vs:List Value),E.P=P->E.rg=false->vs.length=c.ks.length->Mod vs.length E { tmps:=vs.toArray,defers:=[] } (c.init x).look ->
 Calls P f vs.toArray E.w fun e w'=>∃(us:List Value) (E':Env),e=.returned (if h:us.length=1 then us[0] else .tuple us.toArray)/\E'.w=w'/\fk E E'/\Keep E.bare E'/\(∀j,E.L j->E'.β j=E.β j)/\MemOk E' (c.fin y).look/\fi E' (vT c.out y 0) us
def MI (used:List Nat):At->At
 | .v x=>.v x
 | .sl e l=>.sl e l
 | .sn e l=>.sn e l
 | .row r=>match jg r used with
  | true=>.row r
  | false=>.u
 | _=>.u
def uz (used:List Nat):List At->List At
 | []=>[]
 | x ::r=>MI used x ::uz used r
def MG (used:List Nat):SV->SV
 | .c ag l=>.c ag (uz used l)
 | .tup l=>.tup (l.map fun c=>(c.1,uz used c.2))
def HJ:SV->Option Nat
 | .c false [.ptr b 0]=>some b
 | _=>none
theorem LL {v:SV} {b:Nat} (h:HJ v=some b):v=.c false [.ptr b 0]:=by
 unfold HJ at h
 split at h
 ·injection h with h;rw[h]
 ·cases h
def VL (h:Nat->Option (List At)) (v:SV):List Nat:=match HJ v with
 | some b=>match h b with
  | some cs=>eC cs
  | none=>[]
 | none=>[]
def uf (h:Nat->Option (List At)):List PK->List SV->List Nat
 | .b _ ::r,v ::l=>VL h v++uf h r l
 | .v _ _ ::r,v ::l=>wB v++uf h r l
 | .d _ ::r,_ ::l=>uf h r l
 | _,_=>[]
structure ArgIn where
 s:List (Nat×Option SlotV)
 h:List (Nat×List At)
 b:List (Nat×Nat)
def dS (used:List Nat) (σ:St):Nat->List PK->List SV->Option ArgIn
 | _,[],[]=>some ⟨[],[],[]⟩
 | j,.d _ ::r,v ::l=>match dS used σ (j+1) r l,sO used (wB v) with
  | some a,true=>some ⟨(j,some ⟨none,MG used (wy (noX (look σ.r)) v)⟩) ::a.s,a.h,a.b⟩
  | _,_=>none
 | j,.v _ _ ::r,v ::l=>match dS used σ (j+1) r l with
  | some a=>some ⟨(j,some ⟨none,MG used v⟩) ::a.s,a.h,a.b⟩
  | none=>none
 | j,.b _ ::r,v ::l=>match HJ v,dS used σ (j+1) r l with
  | some b,some a=>match look σ.h b with
   | some cs=>some ⟨(j,some ⟨none,.c false [.ptr j 0]⟩) ::a.s,(j,uz used cs) ::a.h,(j,b) ::a.b⟩
   | none=>none
  | _,_=>none
 | _,_,_=>none
def kn (m:List (Nat×Nat)):List (Nat×List At)->List (Nat×List At)
 | []=>[]
 | p ::r=>match look m p.1 with
  | some b=>(b,p.2) ::kn m r
  | none=>kn m r
def yJ:Sh->Bool
 | .ref=>true
 | .sl _=>false
 | .pair a b=>yJ a&&yJ b
 | .agg e=>yJ e
 | _=>true
def XP.flat:XP->Bool
 | .set _ k=>k.flat
 | .map _ k e=>k.flat&&e.flat
 | .tab _ s _ e=>yJ s&&e.flat
def kV:List Pat->Bool
 | []=>true
 | .d s ::r=>s.flat&&kV r
 | .row _ e ::r=>e.flat&&kV r
 | .x p ::r=>p.flat&&kV r
def kq:List (Plc×List Pat)->Bool
 | []=>true
 | (.row _,_) ::_=>false
 | (.slot _ _,ps) ::r=>kV ps&&kq r
 | (.blk _,ps) ::r=>kV ps&&kq r
def gv:List (Nat×Nat)->List Nat
 | []=>[]
 | p ::r=>p.2 ::gv r
def ru (used:List Nat):List (Nat×RowS)->List (Nat×RowS)
 | []=>[]
 | p ::r=>match jg p.1 used with
  | true=>p ::ru used r
  | false=>ru used r
def uL:List At->List At
 | []=>[]
 | _ ::r=>.u ::uL r
def uH:List (Nat×List At)->List (Nat×List At)
 | []=>[]
 | p ::r=>(p.1,uL p.2) ::uH r
def sX (ks:List PK) (h:List (Nat×List At)):St:={ s:=um 0 ks,h:=uH h,r:=[],next:=0 }
def HG {R:Type} (c:SCtr) (args:List SV) (σ:St) (K:List SV->St->Option R):Option R :=
 match dS (uf (look σ.h) c.ks args) σ 0 c.ks args with
 | some a=>match kJ (rhI 0 c.ks) [] { s:=a.s,h:=a.h,r:=ru (uf (look σ.h) c.ks args) σ.r,next:=0 } with
  | some x=>match sO σ.ro (gv a.b)&&sO σ.roR (uf (look σ.h) c.ks args)&&qF (gv a.b)&&qF (uf (look σ.h) c.ks args)&&xS σ.r σ.next (lm c.out)&&kq c.out&&gx (rhI 0 c.ks) (jS 0 c.ks) [] (sX c.ks a.h) with
   | true=>ah (c.m x) fun y=>K (vT c.out y σ.next)
     {σ with h:=kn a.b (dF c.out y σ.next)++σ.h,r:=dk c.out y σ.next++(lX (uf (look σ.h) c.ks args)++σ.r),next:=σ.next+lm c.out }
   | false=>none
  | none=>none
 | none=>none
section
variable {E:Env} {σ:St}
def nT (E:Env) (g:Look) (bs used:List Nat) (b:Nat):Prop:=E.Z b\/(∃j l,g.h j=some l/\j ∉ bs/\E.β j=b)\/(∃q r,g.r q=some (.some r)/\q ∉ used/\(E.ρ q).ownBlock=some b)\/(∃q x,g.r q=some (.x x)/\q ∉ used/\E.φ q b)
theorem qk {used:List Nat} {i:Nat}:∀{l:List (Nat×RowS)},look (ru used l) i=if i ∈ used then look l i else none
 | []=>by simp[ru,look]
 | p ::r=>by
  simp only[ru]
  split
  ·rename_i hm
   rw[aj,aj,qk]
   by_cases e:i=p.1
   ·rw[if_pos e,if_pos e,e,if_pos (cM.1 hm)]
   ·rw[if_neg e,if_neg e]
  ·rename_i hm
   rw[aj,qk]
   by_cases hi:i ∈ used
   ·rw[if_pos hi,if_pos hi,if_neg]
    intro e
    rw[e,<-cM,hm] at hi
    cases hi
   ·rw[if_neg hi,if_neg hi]
theorem ua {E:Env}:∀{l m:List At} {cs:List Value},cq E (l++m) cs->∃c1 c2,cs=c1++c2/\cq E l c1/\cq E m c2
 | [],_,cs,h=>⟨[],cs,rfl,trivial,h⟩
 | _ ::l,m,c ::cs,h=>by
  obtain ⟨c1,c2,h1,h2,h3⟩:=ua (l:=l) h.2
  exact ⟨c ::c1,c2,by rw[h1];rfl,⟨h.1,h2⟩,h3⟩
 | _ ::_,_,[],h=>h.elim
theorem Nc {E E1:Env} {used:List Nat} (hw:E1.w=E.w) (hZ:∀b,E.Z b->E1.Z b) (hρ:E1.ρ=E.ρ) (hR:∀r,r ∈ used->E.R r->E1.R r):∀{x:At} {v:Value},iu E x v->iu E1 (MI used x) v
 | .u,_,_=>trivial
 | .v _,_,h=>h
 | .ptr _ _,_,_=>trivial
 | .clo _ _,_,_=>trivial
 | .sl e l,v,h=>by
  show Dat E1.w E1.Z (.sl e) l [v]
  rw[hw]
  exact Dat.mono hZ (fun _ _=>rfl) h
 | .row r,v,⟨h1,h2,h3⟩=>by
  simp only[MI]
  split
  ·rename_i hm
   exact ⟨by rw[hρ];exact h1,hR r (cM.1 hm) h2,h3⟩
  ·trivial
 | .rf _ _ _,_,_=>trivial
 | .re _ _ _ _,_,_=>trivial
 | .sub _ _ _ _,_,_=>trivial
 | .ae _ _ _ _ _ _,_,_=>trivial
 | .sn e l,v,h=>by
  refine ⟨h.1,?_⟩
  show Dat E1.w E1.Z (.sl e) l [v]
  rw[hw]
  exact Dat.mono hZ (fun _ _=>rfl) h.2
 | .ir _ _,_,_=>trivial
 | .ie _ _ _ _ _,_,_=>trivial
 | .fn _ _ _,_,_=>trivial
theorem sw {E E1:Env} {used:List Nat} (hw:E1.w=E.w) (hZ:∀b,E.Z b->E1.Z b) (hρ:E1.ρ=E.ρ) (hR:∀r,r ∈ used->E.R r->E1.R r):∀{l:List At} {vs:List Value},cq E l vs->cq E1 (uz used l) vs
 | [],[],_=>trivial
 | _ ::_,_ ::_,h=>⟨Nc hw hZ hρ hR h.1,sw hw hZ hρ hR h.2⟩
 | [],_ ::_,h=>h.elim
 | _ ::_,[],h=>h.elim
theorem zV {E E1:Env} {used:List Nat} (hw:E1.w=E.w) (hZ:∀b,E.Z b->E1.Z b) (hρ:E1.ρ=E.ρ) (hR:∀r,r ∈ used->E.R r->E1.R r):∀{l:List (Bool×List At)} {vs:List Value},iv E l vs->iv E1 (l.map fun c=>(c.1,uz used c.2)) vs
 | [],[],_=>trivial
 | _ ::_,_ ::_,⟨⟨cs,h1,h2,h3⟩,h⟩=>⟨⟨cs,h1,sw hw hZ hρ hR h2,h3⟩,zV hw hZ hρ hR h⟩
 | [],_ ::_,h=>h.elim
 | _ ::_,[],h=>h.elim
theorem zW {E E1:Env} {used:List Nat} (hw:E1.w=E.w) (hZ:∀b,E.Z b->E1.Z b) (hρ:E1.ρ=E.ρ) (hR:∀r,r ∈ used->E.R r->E1.R r):∀{s:SV} {v:Value},cf E s v->cf E1 (MG used s) v
 | .c _ _,_,⟨cs,h1,h2,h3⟩=>⟨cs,h1,sw hw hZ hρ hR h2,h3⟩
 | .tup _,_,⟨vs,h1,h2⟩=>⟨vs,h1,zV hw hZ hρ hR h2⟩
theorem XOk.zone {E E1:Env} {q:Nat} {x:XI} (hw:E1.w=E.w) (h0:E1.w0=E.w0) (hZ:∀b,E.Z b->E1.Z b) (hR:E1.R q) (hρ:E1.ρ q=E.ρ q) (hφ:E1.φ q=E.φ q) (hι:E1.ι q=E.ι q) (hν:E1.ν q=E.ν q) (h:XOk E q x):XOk E1 q x:=by
 have hd:∀(s:Sh) (z:s.T) (cs:List Value),Dat E.w E.Z s z cs->Dat E1.w E1.Z s z cs:=fun s z cs hd=>by rw[hw];exact Dat.mono hZ (fun _ _=>rfl) hd
 cases x with
 | set t k l =>
  obtain ⟨_,b,es,ck,h1,h2,h3,h4⟩:=h
  exact ⟨hR,b,es,ck,by rw[hρ];exact h1,by rw[hφ];exact h2,by rw[hw];exact h3,by rw[hw];exact eE.mono hZ (fun _ _=>rfl) h4⟩
 | map t k e l =>
  obtain ⟨_,b,es,ck,h1,h2,h3,h4⟩:=h
  exact ⟨hR,b,es,ck,by rw[hρ];exact h1,by rw[hφ];exact h2,by rw[hw];exact h3,by rw[hw];exact dY.mono hZ (fun _ _=>rfl) h4⟩
 | tab t s l ti e a =>
  obtain ⟨_,⟨xs,h1,h2⟩,h3,h4,h5,h6⟩:=h
  refine ⟨hR,⟨xs,by rw[hw,h0,hρ];exact h1,mC (E:=E) (fun i _=>by rw[hι]) (by rw[hν];exact Nat.le_refl _) hd h2⟩,by rw[hρ,hφ];exact h3,by rw[hν];exact h4,fun j l' hj=>?_,by rw[hι];exact h6⟩
  obtain ⟨⟨ys,g1,g2⟩,g3⟩:=h5 j l' hj
  unfold nv
  rw[hw,h0,hρ,hφ,hι]
  exact ⟨⟨ys,g1,ax.mono hZ (fun _ _=>rfl) g2⟩,g3⟩
theorem rX {m:List (Nat×Nat)} {j b:Nat} (h:look m j=some b):b ∈ gv m:=by
 induction m with
 | nil=>simp[look] at h
 | cons p r ih =>
  rw[aj] at h
  simp only[gv,List.mem_cons]
  split at h
  ·injection h with h;exact .inl h.symm
  ·exact .inr (ih h)
theorem JL {m:List (Nat×Nat)} (hn:(gv m).Nodup) {i j b:Nat} (hi:look m i=some b) (hj:look m j=some b):i=j:=by
 induction m with
 | nil=>simp[look] at hi
 | cons p r ih =>
  simp only[gv] at hn
  obtain ⟨h1,h2⟩:=List.nodup_cons.1 hn
  rw[aj] at hi hj
  split at hi
  ·rename_i e
   injection hi with hi
   split at hj
   ·rename_i e';rw[e,e']
   ·exact absurd (by rw[hi];exact rX hj) h1
  ·split at hj
   ·injection hj with hj
    exact absurd (by rw[hj];exact rX hi) h1
   ·exact ih h2 hi hj
structure ArgOk (σ:St) (used:List Nat) (j:Nat) (ks:List PK) (a:ArgIn):Prop where
 h:∀i l,look a.h i=some l->j<=i/\∃b cs,look a.b i=some b/\look σ.h b=some cs/\l=uz used cs
 b:∀i b,look a.b i=some b->j<=i/\(look σ.h b).isSome=true/\(look a.h i).isSome=true
 keys:∀i,(look a.h i).isSome=true↔i ∈ bS (rhB j ks)
 ptr:∀i,i ∉ jS j ks->look a.s i=look (um j ks) i
theorem kG {used:List Nat}:∀{ks:List PK} {args:List SV} {j:Nat} {a:ArgIn},dS used σ j ks args=some a->ArgOk σ used j ks a/\args.length=ks.length
 | [],[],j,a,h=>by
  simp only[dS,Option.some.injEq] at h
  subst h
  exact ⟨⟨fun i l h=>by simp[look] at h,fun i b h=>by simp[look] at h,fun i=>by simp[look,rhB,bS],fun i _=>rfl⟩,rfl⟩
 | .d s ::r,v ::l,j,a,h=>by
  simp only[dS] at h
  split at h
  ·rename_i a' ha _
   injection h with h
   subst h
   obtain ⟨⟨h1,h2,h3,h4⟩,h5⟩:=kG ha
   refine ⟨⟨fun i l hi=>?_,fun i b hi=>?_,h3,fun i hi=>?_⟩,by simp[h5]⟩
   ·obtain ⟨g1,g2⟩:=h1 i l hi;exact ⟨by omega,g2⟩
   ·obtain ⟨g1,g2⟩:=h2 i b hi;exact ⟨by omega,g2⟩
   ·simp only[jS,List.mem_cons,not_or] at hi
    rw[aj,if_neg hi.1]
    exact h4 i hi.2
  ·cases h
 | .v ag ps ::r,v ::l,j,a,h=>by
  simp only[dS] at h
  split at h
  ·rename_i a' ha
   injection h with h
   subst h
   obtain ⟨⟨h1,h2,h3,h4⟩,h5⟩:=kG ha
   refine ⟨⟨fun i l hi=>?_,fun i b hi=>?_,h3,fun i hi=>?_⟩,by simp[h5]⟩
   ·obtain ⟨g1,g2⟩:=h1 i l hi;exact ⟨by omega,g2⟩
   ·obtain ⟨g1,g2⟩:=h2 i b hi;exact ⟨by omega,g2⟩
   ·simp only[jS,List.mem_cons,not_or] at hi
    rw[aj,if_neg hi.1]
    exact h4 i hi.2
  ·cases h
 | .b ps ::r,v ::l,j,a,h=>by
  simp only[dS] at h
  split at h
  ·rename_i b a' hb ha
   split at h
   ·rename_i cs hcs
    injection h with h
    subst h
    obtain ⟨⟨h1,h2,h3,h4⟩,h5⟩:=kG ha
    refine ⟨⟨fun i l hi=>?_,fun i b' hi=>?_,fun i=>?_,fun i hi=>?_⟩,by simp[h5]⟩
    ·rw[aj] at hi
     split at hi
     ·rename_i e
      injection hi with hi
      exact ⟨by omega,b,cs,by rw[aj,if_pos e],hcs,hi.symm⟩
     ·rename_i e
      obtain ⟨g1,b',cs',g2,g3⟩:=h1 i l hi
      exact ⟨by omega,b',cs',by rw[aj,if_neg e];exact g2,g3⟩
    ·rw[aj] at hi ⊢
     split at hi
     ·rename_i e
      injection hi with hi
      subst hi
      exact ⟨by omega,by rw[hcs];rfl,by rw[if_pos e];rfl⟩
     ·rename_i e
      obtain ⟨g1,g2,g3⟩:=h2 i b' hi
      exact ⟨by omega,g2,by rw[if_neg e];exact g3⟩
    ·simp only[rhB,bS,List.mem_cons]
     rw[aj]
     by_cases e:i=j
     ·simp[e]
     ·rw[if_neg e,h3 i];simp[e]
    ·simp only[jS] at hi
     simp only[um]
     rw[aj,aj]
     by_cases e:i=j
     ·simp[e]
     ·rw[if_neg e,if_neg e];exact h4 i hi
   ·cases h
  ·cases h
 | [],_ ::_,_,_,h=>by simp[dS] at h
 | .d _ ::_,[],_,_,h=>by simp[dS] at h
 | .b _ ::_,[],_,_,h=>by simp[dS] at h
 | .v _ _ ::_,[],_,_,h=>by simp[dS] at h
def Env.argE (E:Env) (g:Look) (used:List Nat) (a:ArgIn):Env :=
 {E with Z:=nT E g (gv a.b) used,β:=fun j=>E.β ((look a.b j).getD 0),L:=fun j=>(look a.h j).isSome=true,R:=fun r=>r ∈ used/\E.R r,rg:=false }
theorem mr (hm:MemOk E σ.look) {used:List Nat} {a0:ArgIn} (hsub:∀i b,look a0.b i=some b->True):∀{ks:List PK} {args:List SV} {j:Nat} {a:ArgIn} {vs:List Value},dS used σ j ks args=some a->fi E args vs->(∀i b,look a.b i=some b->look a0.b i=some b/\(look a0.h i).isSome=true) ->
  ∀i t,look a.s i=some (some t)->∃v,j<=i/\vs[i - j]?=some v/\ik (E.argE σ.look used a0) t v
 | [],[],j,a,vs,h,_,_,i,t,hi=>by
  simp only[dS,Option.some.injEq] at h
  subst h
  simp[look] at hi
 | .d s ::r,v ::l,j,a,u ::vs,h,hr,hs,i,t,hi=>by
  simp only[dS] at h
  split at h
  ·rename_i a' ha hoff
   injection h with h
   subst h
   rw[aj] at hi
   split at hi
   ·rename_i e
    simp only[Option.some.injEq] at hi
    subst hi;subst e
    refine ⟨u,Nat.le_refl _,by simp,?_⟩
    have hm0:Mod 0 E { tmps:=#[],defers:=[] } { σ.look with s:=fun _=>none }:=⟨hm.glob.of rfl rfl,trivial,rfl,fun i s hi=>(by cases hi),hm.blks,hm.rows,hm.xs⟩
    have h1:=sB hm0 (rk:=noX (look σ.r)) (fun _ _ h=>BM h) (u:=wB v) (fun r _=>Df r) hr.1 (fun _ h=>h)
    refine zW (E:=E.zone { σ.look with s:=fun _=>none } (wB v)) (E1:=E.argE σ.look used a0) rfl (fun b hb=>?_) rfl (fun r hr1 hr2=>⟨hr1,hr2⟩) h1
    rcases hb with hb | ⟨q,hq,⟨ri,h2,h3⟩ | ⟨x,h2,h3⟩⟩
    ·exact .inl hb
    ·exact .inr (.inr (.inl ⟨q,ri,h2,ga hoff q hq,h3⟩))
    ·exact .inr (.inr (.inr ⟨q,x,h2,ga hoff q hq,h3⟩))
   ·obtain ⟨w,g1,g2,g3⟩:=mr hm hsub ha hr.2 hs i t hi
    exact ⟨w,by omega,by rw[show i - j=(i - (j+1))+1 by omega];simpa using g2,g3⟩
  ·cases h
 | .v ag ps ::r,v ::l,j,a,u ::vs,h,hr,hs,i,t,hi=>by
  simp only[dS] at h
  split at h
  ·rename_i a' ha
   injection h with h
   subst h
   rw[aj] at hi
   split at hi
   ·rename_i e
    simp only[Option.some.injEq] at hi
    subst hi;subst e
    exact ⟨u,Nat.le_refl _,by simp,zW (E:=E) (E1:=E.argE σ.look used a0) rfl (fun b hb=>.inl hb) rfl (fun r hr1 hr2=>⟨hr1,hr2⟩) hr.1⟩
   ·obtain ⟨w,g1,g2,g3⟩:=mr hm hsub ha hr.2 hs i t hi
    exact ⟨w,by omega,by rw[show i - j=(i - (j+1))+1 by omega];simpa using g2,g3⟩
  ·cases h
 | .b ps ::r,v ::l,j,a,u ::vs,h,hr,hs,i,t,hi=>by
  simp only[dS] at h
  split at h
  ·rename_i b a' hb ha
   split at h
   ·rename_i cs hcs
    injection h with h
    subst h
    rw[aj] at hi
    split at hi
    ·rename_i e
     simp only[Option.some.injEq] at hi
     subst hi;subst e
     refine ⟨u,Nat.le_refl _,by simp,?_⟩
     have hv:=LL hb
     subst hv
     obtain ⟨cs',h1,h2,h3⟩:=hr.1
     obtain ⟨k1,k2⟩:=hs i b (by rw[aj,if_pos rfl])
     match cs',h2 with
     | [y],h2 =>
      obtain ⟨⟨h4,h5⟩,_⟩:=h2
      refine (show gw (E.argE σ.look used a0) false [.ptr i 0] u from ⟨[y],h1,⟨⟨?_,k2⟩,trivial⟩,h3⟩)
      rw[h4]
      simp[gd,Env.argE,k1]
    ·rename_i e
     obtain ⟨w,g1,g2,g3⟩:=mr hm hsub ha hr.2 (fun k b' hk=>hs k b' (by
      rw[aj,if_neg]
      ·exact hk
      ·intro e'
       have:=((kG ha).1.b k b' hk).1
       omega)) i t hi
     exact ⟨w,by omega,by rw[show i - j=(i - (j+1))+1 by omega];simpa using g2,g3⟩
   ·cases h
  ·cases h
 | [],_ ::_,_,_,_,h,_,_,_,_,_=>by simp[dS] at h
 | .d _ ::_,[],_,_,_,h,_,_,_,_,_=>by simp[dS] at h
 | .b _ ::_,[],_,_,_,h,_,_,_,_,_=>by simp[dS] at h
 | .v _ _ ::_,[],_,_,_,h,_,_,_,_,_=>by simp[dS] at h
 | _ ::_,_ ::_,_,_,[],_,hr,_,_,_,_=>hr.elim
theorem Kl (hm:MemOk E σ.look) {used:List Nat} {ks:List PK} {args:List SV} {a:ArgIn} {vs:List Value} (ha:dS used σ 0 ks args=some a) (hr:fi E args vs) (hnb:(gv a.b).Nodup) :
  Mod vs.length (E.argE σ.look used a) { tmps:=vs.toArray,defers:=[] } (St.look { s:=a.s,h:=a.h,r:=ru used σ.r,next:=0 }):=by
 obtain ⟨hA,_⟩:=kG ha
 let E1:=E.argE σ.look used a
 have G:=hm.glob
 have hh:∀i l,look a.h i=some l->∃b cs,look a.b i=some b/\look σ.h b=some cs/\l=uz used cs/\E1.β i=E.β b:=fun i l hi=>by
  obtain ⟨_,b,cs,h1,h2,h3⟩:=hA.h i l hi
  exact ⟨b,cs,h1,h2,h3,by simp[E1,Env.argE,h1]⟩
 have hrr:∀i x,look (ru used σ.r) i=some x->look σ.r i=some x/\i ∈ used:=fun i x hi=>by
  rw[qk] at hi
  split at hi
  ·rename_i h;exact ⟨hi,h⟩
  ·cases hi
 have blt:∀i l,look σ.h i=some l->E.w0.heap.size<=E.β i/\E.β i<E.w.heap.size:=fun i l hi=>by
  refine ⟨(G.own i l hi).1,?_⟩
  obtain ⟨_,cs,t,h1,_⟩:=hm.blks i l hi
  exact (Array.getElem?_eq_some_iff.1 h1).1
 have rlt:∀i r b,look σ.r i=some (.some r)->(E.ρ i).ownBlock=some b->E.w0.heap.size<=b/\b<E.w.heap.size:=fun i r b hi hb=>by
  obtain ⟨_,xs,h1,_⟩:=hm.rows i r hi
  exact h1.lt b hb
 have xlt:∀i x b,look σ.r i=some (.x x)->E.φ i b->E.w0.heap.size<=b/\b<E.w.heap.size:=fun i x b hi hb=>⟨(G.xg.own i x b hi hb).1,(G.xg.own i x b hi hb).2.1⟩
 have zsz:∀b,nT E σ.look (gv a.b) used b->b<E.w.heap.size/\(E.Z0 b\/E.w0.heap.size<=b):=fun b hb=>by
  rcases hb with hb | ⟨j,l,h1,_,rfl⟩ | ⟨q,r,h1,_,h2⟩ | ⟨q,x,h1,_,h2⟩
  ·exact ⟨G.zlt b hb,G.zfrom b hb⟩
  ·exact ⟨(blt j l h1).2,.inr (blt j l h1).1⟩
  ·exact ⟨(rlt q r b h1 h2).2,.inr (rlt q r b h1 h2).1⟩
  ·exact ⟨(xlt q x b h1 h2).2,.inr (xlt q x b h1 h2).1⟩
 have nb:∀i b cs,look a.b i=some b->look σ.h b=some cs->¬ nT E σ.look (gv a.b) used (E.β b):=fun i b cs h1 h2 hz=>by
  rcases hz with hz | ⟨j,l,k1,k2,k3⟩ | ⟨q,r,k1,_,k2⟩ | ⟨q,x,k1,_,k2⟩
  ·exact (G.own b cs h2).2 hz
  ·have:=G.inj j b l cs k1 h2 k3
   subst this
   exact k2 (rX h1)
  ·exact (G.rown q r _ k1 k2).2 b cs h2 rfl
  ·exact (G.xg.own q x _ k1 k2).2.2.2.1 b cs h2 rfl
 have nr:∀i r b,look σ.r i=some (.some r)->i ∈ used->(E.ρ i).ownBlock=some b->¬ nT E σ.look (gv a.b) used b:=fun i r b h1 h2 h3 hz=>by
  rcases hz with hz | ⟨j,l,k1,k2,k3⟩ | ⟨q,r',k1,k3,k2⟩ | ⟨q,x,k1,_,k2⟩
  ·exact (G.rown i r b h1 h3).1 hz
  ·exact (G.rown i r b h1 h3).2 j l k1 k3
  ·exact k3 (by rw[G.rinj q i r' r b k1 h1 k2 h3];exact h2)
  ·exact (G.xg.own q x b k1 k2).2.2.2.2 i r h1 h3
 have nx:∀i y b,look σ.r i=some (.x y)->i ∈ used->E.φ i b->¬ nT E σ.look (gv a.b) used b:=fun i y b h1 h2 h3 hz=>by
  obtain ⟨_,_,g3,g4,g5⟩:=G.xg.own i y b h1 h3
  rcases hz with hz | ⟨j,l,k1,k2,k3⟩ | ⟨q,r',k1,k3,k2⟩ | ⟨q,x,k1,k3,k2⟩
  ·exact g3 hz
  ·exact g4 j l k1 k3
  ·exact g5 q r' k1 k2
  ·exact k3 (by rw[G.xg.inj q i x y b k1 h1 k2 h3];exact h2)
 have hZ1:∀b,E.Z b->E1.Z b:=fun b hb=>.inl hb
 have hxg:XGlob E1 (St.look { s:=a.s,h:=a.h,r:=ru used σ.r,next:=0 }):=by
  refine ⟨fun i x b hi hb=>?_,fun i j x y b hi hj hb hb'=>G.xg.inj i j x y b (hrr i _ hi).1 (hrr j _ hj).1 hb hb'⟩
  obtain ⟨h1,h2⟩:=hrr i _ hi
  obtain ⟨g1,g2,g3,g4,g5⟩:=G.xg.own i x b h1 hb
  refine ⟨g1,g2,nx i x b h1 h2 hb,fun j l hj=>?_,fun j r hj=>g5 j r (hrr j _ hj).1⟩
  obtain ⟨b',cs,_,k2,_,k4⟩:=hh j l hj
  rw[k4]
  exact g4 b' cs k2
 refine ⟨⟨G.below,fun b hb=>(zsz b hb).1,fun b hb=>.inl (G.z0 b hb),fun b hb=>(zsz b hb).2,fun j hj=>hj,fun r hr=>?_,fun i l hi=>?_,fun i j l l' hi hj hij=>?_,fun i r b hi hb=>?_,fun i j r r' b hi hj hb hb'=>G.rinj i j r r' b (hrr i _ hi).1 (hrr j _ hj).1 hb hb',hxg⟩,trivial,by simp,fun i t hi=>?_,fun i l hi=>?_,fun i r hi=>?_,fun i x hi=>?_⟩
 ·show (look (ru used σ.r) r).isSome=true
  rw[qk,if_pos hr.1]
  exact G.rlive r hr.2
 ·obtain ⟨b,cs,h1,h2,_,h4⟩:=hh i l hi
  show E.w0.heap.size<=E1.β i/\¬ nT E σ.look (gv a.b) used (E1.β i)
  rw[h4]
  exact ⟨(blt b cs h2).1,nb i b cs h1 h2⟩
 ·obtain ⟨b,cs,h1,h2,_,h4⟩:=hh i l hi
  obtain ⟨b',cs',k1,k2,_,k4⟩:=hh j l' hj
  have hij:E1.β i=E1.β j:=hij
  rw[h4,k4] at hij
  have:=G.inj b b' cs cs' h2 k2 hij
  subst this
  exact JL hnb h1 k1
 ·obtain ⟨h1,h2⟩:=hrr i _ hi
  refine ⟨nr i r b h1 h2 hb,fun j l hj=>?_⟩
  obtain ⟨b',cs,_,k2,_,k4⟩:=hh j l hj
  show E1.β j≠b
  rw[k4]
  exact (G.rown i r b h1 hb).2 b' cs k2
 ·have hi:fU a.s i=some t:=hi
  unfold fU at hi
  split at hi
  ·rename_i t' hl
   injection hi with hi
   subst hi
   obtain ⟨v,_,h2,h3⟩:=mr hm (a0:=a) (fun _ _ _=>trivial) ha hr (fun k b hk=>⟨hk,(hA.b k b hk).2.2⟩) i t' hl
   exact ⟨v,by simpa using h2,h3⟩
  ·cases hi
 ·obtain ⟨b,cs,h1,h2,h3,h4⟩:=hh i l hi
  obtain ⟨_,ds,t,g1,g2,g3⟩:=hm.blks b cs h2
  subst h3
  have hi':look a.h i=some (uz used cs):=hi
  exact ⟨by show (look a.h i).isSome=true;rw[hi'];rfl,ds,t,by show E.w.heap[E1.β i]?=_;rw[h4];exact g1,sw (E:=E) (E1:=E1) rfl hZ1 rfl (fun r hr1 hr2=>⟨hr1,hr2⟩) g2,g3⟩
 ·obtain ⟨h1,h2⟩:=hrr i _ hi
  obtain ⟨g1,xs,g2,g3,g4⟩:=hm.rows i r h1
  exact ⟨⟨h2,g1⟩,xs,g2,ax.mono hZ1 (fun _ _=>rfl) g3,g4⟩
 ·obtain ⟨h1,h2⟩:=hrr i _ hi
  exact XOk.zone (E:=E) (E1:=E1) rfl rfl hZ1 ⟨h2,(hm.xs i x h1).live⟩ rfl rfl rfl rfl (hm.xs i x h1)
theorem pM {i:Nat}:∀{l:List (Nat×List At)},look (uH l) i=(look l i).map uL
 | []=>rfl
 | p ::r=>by
  simp only[uH]
  rw[aj,aj,pM]
  split<;>rfl
theorem GZ {E:Env}:∀{l:List At} {cs:List Value},l.length=cs.length->cq E (uL l) cs
 | [],[],_=>trivial
 | _ ::_,_ ::_,h=>⟨trivial,GZ (by simpa using h)⟩
 | [],_ ::_,h=>by simp at h
 | _ ::_,[],h=>by simp at h
theorem nH {α:Type} {W:List Nat} {i:Nat}:∀{l:List (Nat×α)},i ∈ bI W l->i ∉ W
 | [],h=>by simp[bI] at h
 | p ::r,h=>by
  simp only[bI] at h
  split at h
  ·exact nH h
  ·rename_i hm
   rcases List.mem_cons.1 h with e | h
   ·subst e
    intro hw
    rw[cM.2 hw] at hm
    cases hm
   ·exact nH h
theorem rT:∀{ks:List PK} {j:Nat},bS (rhI j ks)=bS (rhB j ks)
 | [],_=>rfl
 | .d _ ::r,j=>by simp only[rhI,rhB,bS];exact rT
 | .b _ ::r,j=>by simp only[rhI,rhB,bS];rw[rT]
 | .v _ _ ::r,j=>by simp only[rhI,rhB,bS];exact rT
theorem rP:∀{l m:List (Plc×List Pat)},bS (l++m)=bS l++bS m
 | [],_=>rfl
 | (.slot _ _,_) ::r,m=>by simp only[List.cons_append,bS];exact rP
 | (.blk _,_) ::r,m=>by simp only[List.cons_append,bS];rw[rP]
 | (.row _,_) ::r,m=>by simp only[List.cons_append,bS];exact rP
theorem FSs:∀{rs:List (Bool×List Pat)} {j:Nat},bS (rhS j rs)=[]
 | [],_=>rfl
 | _ ::r,j=>by simp only[rhS,bS];exact FSs
theorem pG {E E':Env}:∀{s:Sh} {x:s.T} {cs:List Value},s.flat=true->cq E (s.cells x) cs->cq E' (s.cells x) cs
 | .int _,_,[_],_,h=>⟨h.1,trivial⟩
 | .bool,_,[_],_,h=>⟨h.1,trivial⟩
 | .str,_,[_],_,h=>⟨h.1,trivial⟩
 | .pair a b,x,cs,hf,h=>by
  simp only[Sh.flat,z10] at hf
  simp only[Sh.cells] at h ⊢
  obtain ⟨c1,c2,rfl,h1,h2⟩:=ua h
  exact (pG hf.1 h1).append (pG hf.2 h2)
 | .agg e,x,cs,hf,h=>pG (s:=e) (x:=x) hf h
 | .sl _,_,_,hf,_=>by cases hf
 | .ref,_,_,hf,_=>by cases hf
 | .int _,_,_ ::_ ::_,_,h=>h.2.elim
 | .bool,_,_ ::_ ::_,_,h=>h.2.elim
 | .str,_,_ ::_ ::_,_,h=>h.2.elim
 | .int _,_,[],_,h=>h.elim
 | .bool,_,[],_,h=>h.elim
 | .str,_,[],_,h=>h.elim
theorem ke {E E':Env} {n cnt:Nat} (hρ:∀i,i<cnt->E'.ρ (i+n)=E.ρ i/\E'.R (i+n)):∀{ps:List Pat} {X:Type} {x:tO ps X} {k:Nat} {cs:List Value},kV ps=true->k+fm ps<=cnt->cq E (mY ps x k) cs->cq E' (mY ps x (k+n)) cs
 | [],_,_,_,cs,_,_,h=>by
  cases cs with
  | nil=>trivial
  | cons _ _=>exact h.elim
 | .d s ::r,_,x,k,cs,hf,hc,h=>by
  simp only[kV,z10] at hf
  simp only[mY] at h ⊢
  simp only[fm] at hc
  obtain ⟨c1,c2,rfl,h1,h2⟩:=ua h
  exact (pG hf.1 h1).append (ke hρ hf.2 hc h2)
 | .row _ _ ::r,_,x,k,c ::cs,hf,hc,h=>by
  simp only[kV,z10] at hf
  simp only[fm] at hc
  obtain ⟨⟨h1,h2,h3⟩,h4⟩:=h
  obtain ⟨g1,g2⟩:=hρ k (by omega)
  refine ⟨⟨h1.trans g1.symm,g2,h3⟩,?_⟩
  have:=ke hρ (x:=x.2) (k:=k+1) hf.2 (by omega) h4
  rw[show k+1+n=k+n+1 by omega] at this
  exact this
 | .x _ ::r,_,x,k,c ::cs,hf,hc,h=>by
  simp only[kV,z10] at hf
  simp only[fm] at hc
  obtain ⟨⟨h1,h2,h3⟩,h4⟩:=h
  obtain ⟨g1,g2⟩:=hρ k (by omega)
  refine ⟨⟨h1.trans g1.symm,g2,h3⟩,?_⟩
  have:=ke hρ (x:=x.2) (k:=k+1) hf.2 (by omega) h4
  rw[show k+1+n=k+n+1 by omega] at this
  exact this
 | .row _ _ ::_,_,_,_,[],_,_,h=>h.elim
 | .x _ ::_,_,_,_,[],_,_,h=>h.elim
theorem li {n:Nat}:∀{ps:List Pat} {X:Type} {x:tO ps X} {k i:Nat},look (fq ps x (k+n)) (i+n)=look (fq ps x k) i
 | [],_,_,_,_=>rfl
 | .d _ ::r,_,x,k,i=>by simp only[fq];exact li
 | .row t e ::r,_,x,k,i=>by
  simp only[fq]
  rw[aj,aj,show k+n+1=k+1+n by omega,li]
  by_cases h:i=k
  ·rw[if_pos h,if_pos (by omega)]
  ·rw[if_neg h,if_neg (by omega)]
 | .x p ::r,_,x,k,i=>by
  simp only[fq]
  rw[aj,aj,show k+n+1=k+1+n by omega,li]
  by_cases h:i=k
  ·rw[if_pos h,if_pos (by omega)]
  ·rw[if_neg h,if_neg (by omega)]
theorem qT {n:Nat}:∀{rh:List (Plc×List Pat)} {x:TsR rh} {k i:Nat},kq rh=true->look (dk rh x (k+n)) (i+n)=look (dk rh x k) i
 | [],_,_,_,_=>rfl
 | (.slot _ _,ps) ::r,x,k,i,hf=>by
  simp only[kq,z10] at hf
  simp only[dk,iq,sQ]
  rw[aU,aU,li,show k+n+fm ps=k+fm ps+n by omega,qT hf.2]
 | (.blk _,ps) ::r,x,k,i,hf=>by
  simp only[kq,z10] at hf
  simp only[dk,iq,sQ]
  rw[aU,aU,li,show k+n+fm ps=k+fm ps+n by omega,qT hf.2]
 | (.row _,_) ::_,_,_,_,hf=>by cases hf
theorem vJ:∀{rh:List (Plc×List Pat)},kq rh=true->bL rh=[]
 | [],_=>rfl
 | (.slot _ _,ps) ::r,hf=>by simp only[kq,z10] at hf;simp only[bL];exact vJ hf.2
 | (.blk _,ps) ::r,hf=>by simp only[kq,z10] at hf;simp only[bL];exact vJ hf.2
 | (.row _,_) ::_,hf=>by cases hf
theorem xU {i:Nat}:∀{rh:List (Plc×List Pat)} {x:TsR rh} {k:Nat},kq rh=true->(∀ri,look (dk rh x k) i=some (.some ri)->ri.e.flat=true)/\(∀y,look (dk rh x k) i=some (.x y)->∃(p:XP) (z:p.T),p.flat=true/\y=p.mk z):=by
 have hP:∀{ps:List Pat} {X:Type} {x:tO ps X} {k:Nat},kV ps=true->(∀ri,look (fq ps x k) i=some (.some ri)->ri.e.flat=true)/\(∀y,look (fq ps x k) i=some (.x y)->∃(p:XP) (z:p.T),p.flat=true/\y=p.mk z):=by
  intro ps
  induction ps with
  | nil=>intro X x k _;exact ⟨fun ri h=>by simp[fq,look] at h,fun y h=>by simp[fq,look] at h⟩
  | cons p r ih =>
   intro X x k hf
   cases p with
   | d s=>simp only[kV,z10] at hf;simp only[fq];exact ih hf.2
   | row t e =>
    simp only[kV,z10] at hf
    simp only[fq]
    rw[aj]
    split
    ·exact ⟨fun ri h=>(by injection h with h;injection h with h;subst h;exact hf.1),fun y h=>(by injection h with h;cases h)⟩
    ·exact ih hf.2
   | x p =>
    simp only[kV,z10] at hf
    simp only[fq]
    rw[aj]
    split
    ·exact ⟨fun ri h=>(by injection h with h;cases h),fun y h=>(by injection h with h;injection h with h;exact ⟨p,x.1,hf.1,h.symm⟩)⟩
    ·exact ih hf.2
 intro rh
 induction rh with
 | nil=>intro x k _;exact ⟨fun ri h=>by simp[dk,look] at h,fun y h=>by simp[dk,look] at h⟩
 | cons p r ih =>
  intro x k hf
  obtain ⟨pl,ps⟩:=p
  cases pl with
  | row q=>cases hf
  | slot j ag =>
   simp only[kq,z10] at hf
   simp only[dk,iq]
   rw[aU]
   cases hq:look (fq ps x k) i with
   | some u =>
    obtain ⟨h1,h2⟩:=hP (x:=x) (k:=k) hf.1
    exact ⟨fun ri h=>h1 ri (by rw[hq];exact h),fun y h=>h2 y (by rw[hq];exact h)⟩
   | none=>exact ih hf.2
  | blk b =>
   simp only[kq,z10] at hf
   simp only[dk,iq]
   rw[aU]
   cases hq:look (fq ps x k) i with
   | some u =>
    obtain ⟨h1,h2⟩:=hP (x:=x) (k:=k) hf.1
    exact ⟨fun ri h=>h1 ri (by rw[hq];exact h),fun y h=>h2 y (by rw[hq];exact h)⟩
   | none=>exact ih hf.2
theorem qK {E E':Env} {n cnt:Nat} (hρ:∀i,i<cnt->E'.ρ (i+n)=E.ρ i/\E'.R (i+n)):∀{rh:List (Plc×List Pat)} {x:TsR rh} {k j:Nat} {l:List At},kq rh=true->k+lm rh<=cnt->look (dF rh x (k+n)) j=some l->∃l',look (dF rh x k) j=some l'/\∀cs,cq E l' cs->cq E' l cs
 | [],_,_,_,_,_,_,h=>by simp[dF,look] at h
 | (.slot _ _,ps) ::r,x,k,j,l,hf,hc,h=>by
  simp only[kq,z10] at hf
  simp only[lm,sQ] at hc
  simp only[dF] at h ⊢
  rw[show k+n+fm ps=k+fm ps+n by omega] at h
  exact qK hρ hf.2 (by omega) h
 | (.blk b,ps) ::r,x,k,j,l,hf,hc,h=>by
  simp only[kq,z10] at hf
  simp only[lm,sQ] at hc
  simp only[dF] at h ⊢
  rw[aj] at h ⊢
  split at h
  ·rename_i e
   injection h with h
   subst h
   exact ⟨_,by rw[if_pos e],fun cs hcs=>ke hρ hf.1 (by omega) hcs⟩
  ·rename_i e
   rw[if_neg e]
   rw[show k+n+fm ps=k+fm ps+n by omega] at h
   exact qK hρ hf.2 (by omega) h
 | (.row _,_) ::_,_,_,_,_,hf,_,_=>by cases hf
theorem tL {E E':Env} {n cnt:Nat} (hρ:∀i,i<cnt->E'.ρ (i+n)=E.ρ i/\E'.R (i+n)):∀{rh:List (Plc×List Pat)} {x:TsR rh} {k:Nat} {us:List Value},kq rh=true->k+lm rh<=cnt->fi E (vT rh x k) us->fi E' (vT rh x (k+n)) us
 | [],_,_,us,_,_,h=>by
  cases us with
  | nil=>trivial
  | cons _ _=>exact h.elim
 | (.slot _ ag,ps) ::r,x,k,u ::us,hf,hc,h=>by
  simp only[kq,z10] at hf
  simp only[lm,sQ] at hc
  obtain ⟨⟨cs,h1,h2,h3⟩,h4⟩:=h
  refine ⟨⟨cs,h1,ke hρ hf.1 (by omega) h2,h3⟩,?_⟩
  have:=tL hρ (k:=k+fm ps) hf.2 (by omega) h4
  rw[show k+fm ps+n=k+n+fm ps by omega] at this
  exact this
 | (.slot _ ag,ps) ::r,x,k,[],_,_,h=>h.elim
 | (.blk _,ps) ::r,x,k,us,hf,hc,h=>by
  simp only[kq,z10] at hf
  simp only[lm,sQ] at hc
  have:=tL hρ (rh:=r) (x:=ma ps x) (k:=k+fm ps) hf.2 (by omega) h
  rw[show k+fm ps+n=k+n+fm ps by omega] at this
  exact this
 | (.row _,_) ::_,_,_,_,hf,_,_=>by cases hf
theorem pn {m:List (Nat×Nat)} {b:Nat} {c:List At}:∀{l:List (Nat×List At)},look (kn m l) b=some c->∃j,look m j=some b/\look l j=some c
 | [],h=>by simp[kn,look] at h
 | p ::r,h=>by
  simp only[kn] at h
  split at h
  ·rename_i b' hb
   rw[aj] at h
   split at h
   ·rename_i e
    injection h with h
    subst h;subst e
    exact ⟨p.1,hb,by rw[aj,if_pos rfl]⟩
   ·rename_i e
    obtain ⟨j,h1,h2⟩:=pn h
    refine ⟨j,h1,?_⟩
    rw[aj,if_neg]
    ·exact h2
    ·intro e'
     subst e'
     rw[h1] at hb
     injection hb with hb
     exact e hb
  ·rename_i hb
   obtain ⟨j,h1,h2⟩:=pn h
   refine ⟨j,h1,?_⟩
   rw[aj,if_neg]
   ·exact h2
   ·intro e'
    subst e'
    rw[h1] at hb
    cases hb
theorem tB {m:List (Nat×Nat)} {b j:Nat} (hj:look m j=some b):∀{l:List (Nat×List At)},(look l j).isSome=true->(look (kn m l) b).isSome=true
 | [],h=>by simp[look] at h
 | p ::r,h=>by
  simp only[kn]
  rw[aj] at h
  split
  ·rename_i b' hb
   rw[aj]
   split
   ·rfl
   ·rename_i e
    split at h
    ·rename_i e'
     subst e'
     rw[hj] at hb
     injection hb with hb
     exact absurd hb e
    ·exact tB hj h
  ·rename_i hb
   split at h
   ·rename_i e'
    subst e'
    rw[hj] at hb
    cases hb
   ·exact tB hj h
def Env.outE (E E':Env) (n cnt:Nat):Env :=
 {E with w:=E'.w,R:=fun i=>E.R i\/(n<=i/\i<n+cnt),ρ:=fun i=>if n<=i/\i<n+cnt then E'.ρ (i - n) else E.ρ i,φ:=fun i=>if n<=i/\i<n+cnt then E'.φ (i - n) else E.φ i,ι:=fun i=>if n<=i/\i<n+cnt then E'.ι (i - n) else E.ι i,ν:=fun i=>if n<=i/\i<n+cnt then E'.ν (i - n) else E.ν i }
theorem sk {E E':Env} {i q:Nat} (hι:E'.ι i=E.ι q) (hν:E'.ν i=E.ν q):∀{s:Sh} {x:s.T} {cs:List Value},yJ s=true->eK E q s x cs->eK E' i s x cs
 | .ref,_,_,_,h=>by simp only[eK] at h ⊢;rw[hι,hν];exact h
 | .pair a b,x,cs,hf,h=>by
  simp only[yJ,z10] at hf
  simp only[eK] at h ⊢
  obtain ⟨c1,c2,h1,h2,h3⟩:=h
  exact ⟨c1,c2,h1,sk hι hν hf.1 h2,sk hι hν hf.2 h3⟩
 | .agg e,x,cs,hf,h=>sk (s:=e) (x:=x) hι hν hf h
 | .int _,_,_,_,h=>h
 | .bool,_,_,_,h=>h
 | .str,_,_,_,h=>h
 | .sl _,_,_,hf,_=>by cases hf
theorem wz {E E':Env} {i q:Nat} (hι:E'.ι i=E.ι q) (hν:E'.ν i=E.ν q) {s:Sh} (hf:yJ s=true):∀{l:List s.T} {xs:List Value},cR E q s l xs->cR E' i s l xs
 | [],_,h=>h
 | _ ::_,_,⟨c,r,h1,h2,h3⟩=>⟨c,r,h1,sk hι hν hf h2,wz hι hν hf h3⟩
theorem Bd {w w':World} {Z Z':Nat->Prop} {k:Sh} (hf:k.flat=true):∀{l:List k.T} {en:List MapEntry},eE w Z k l en->eE w' Z' k l en
 | [],_,h=>h
 | _ ::_,_,⟨m,r,h1,h2,h3,h4⟩=>⟨m,r,h1,Dat.flat hf h2,h3,Bd hf h4⟩
theorem A2 {w w':World} {Z Z':Nat->Prop} {k e:Sh} (hk:k.flat=true) (he:e.flat=true):∀{l:List (k.T×e.T)} {en:List MapEntry},dY w Z k e l en->dY w' Z' k e l en
 | [],_,h=>h
 | _ ::_,_,⟨m,r,h1,h2,⟨cs,h3,h4,h5⟩,h6⟩=>⟨m,r,h1,Dat.flat hk h2,⟨cs,Dat.flat he h3,h4,h5⟩,A2 hk he h6⟩
theorem XOk.flat {E E':Env} {i q:Nat} {p:XP} {z:p.T} (hf:p.flat=true) (hw:E'.w=E.w) (h0:E'.w0=E.w0) (hR:E'.R i) (hρ:E'.ρ i=E.ρ q) (hφ:E'.φ i=E.φ q) (hι:E'.ι i=E.ι q) (hν:E'.ν i=E.ν q) (h:XOk E q (p.mk z)):XOk E' i (p.mk z):=by
 cases p with
 | set t k =>
  obtain ⟨_,b,es,ck,h1,h2,h3,h4⟩:=h
  exact ⟨hR,b,es,ck,by rw[hρ];exact h1,by rw[hφ];exact h2,by rw[hw];exact h3,Bd hf h4⟩
 | map t k e =>
  simp only[XP.flat,z10] at hf
  obtain ⟨_,b,es,ck,h1,h2,h3,h4⟩:=h
  exact ⟨hR,b,es,ck,by rw[hρ];exact h1,by rw[hφ];exact h2,by rw[hw];exact h3,A2 hf.1 hf.2 h4⟩
 | tab t s ti e =>
  simp only[XP.flat,z10] at hf
  obtain ⟨_,⟨xs,h1,h2⟩,h3,h4,h5,h6⟩:=h
  refine ⟨hR,⟨xs,by rw[hw,h0,hρ];exact h1,wz hι hν hf.1 h2⟩,by rw[hρ,hφ];exact h3,by rw[hν];exact h4,fun j l' hj=>?_,by rw[hι];exact h6⟩
  obtain ⟨⟨ys,g1,g2⟩,g3⟩:=h5 j l' hj
  unfold nv
  rw[hw,h0,hρ,hφ,hι]
  exact ⟨⟨ys,g1,ax.flat hf.2 (ax.mono (fun _ h=>h) (fun _ _=>rfl) g2)⟩,g3⟩
theorem nI {used:List Nat}:∀{ks:List PK} {args:List SV} {j:Nat} {a:ArgIn},dS used σ j ks args=some a->∀i ∈ gv a.b,∃k,look a.b k=some i
 | [],[],j,a,h,i,hi=>by
  simp only[dS,Option.some.injEq] at h
  subst h
  simp[gv] at hi
 | .d s ::r,v ::l,j,a,h,i,hi=>by
  simp only[dS] at h
  split at h
  ·rename_i a' ha _
   injection h with h
   subst h
   exact nI ha i hi
  ·cases h
 | .v ag ps ::r,v ::l,j,a,h,i,hi=>by
  simp only[dS] at h
  split at h
  ·rename_i a' ha
   injection h with h
   subst h
   exact nI ha i hi
  ·cases h
 | .b ps ::r,v ::l,j,a,h,i,hi=>by
  simp only[dS] at h
  split at h
  ·rename_i b a' hb ha
   split at h
   ·injection h with h
    subst h
    simp only[gv,List.mem_cons] at hi
    rcases hi with rfl | hi
    ·exact ⟨j,by rw[aj,if_pos rfl]⟩
    ·obtain ⟨k,hk⟩:=nI ha i hi
     refine ⟨k,?_⟩
     rw[aj,if_neg]
     ·exact hk
     ·intro e
      have:=((kG ha).1.b k i hk).1
      omega
   ·cases h
  ·cases h
 | [],_ ::_,_,_,h,_,_=>by simp[dS] at h
 | .d _ ::_,[],_,_,h,_,_=>by simp[dS] at h
 | .b _ ::_,[],_,_,h,_,_=>by simp[dS] at h
 | .v _ _ ::_,[],_,_,h,_,_=>by simp[dS] at h
theorem AB {E:Env}:∀{l:List SV} {vs:List Value},fi E l vs->l.length=vs.length
 | [],[],_=>rfl
 | _ ::_,_ ::_,h=>by simp[AB h.2]
 | [],_ ::_,h=>h.elim
 | _ ::_,[],h=>h.elim
theorem Ek {P:Program} {id:FuncId} {c:SCtr} (hc:c.ok P id) {R:Type} {K:List SV->St->Option R} {z:R} {args:List SV} {vs:Array Value} {post:Ending->World->Prop} (h:HG c args σ K=some z) (hro:RoR σ) (hm:MemOk E σ.look) (hP:E.P=P) (hr:fi E args vs.toList)
  (hpost:∀svs σ' E' v,K svs σ'=some z->fk E E'->Keep E E'->Fr σ σ'->MemOk E' σ'.look->(∀sv,Aa svs=some sv->cf E' sv v)->post (.returned v) E'.w)
  (hret:∀(E:Env) (l:List SV) (sv:SV) (us:List Value),Aa l=some sv->fi E l us->cf E sv (if h:us.length=1 then us[0] else .tuple us.toArray)):Calls P id vs E.w post:=by
 unfold HG at h
 split at h
 case h_2=>cases h
 rename_i a ha
 split at h
 case h_2=>cases h
 rename_i x hx
 split at h
 case h_2=>cases h
 rename_i hchk
 obtain ⟨y,hy,hK⟩:=tD h
 simp only[z10] at hchk
 obtain ⟨⟨⟨⟨⟨⟨hoB,hoR⟩,hnb⟩,hnu⟩,hfr⟩,hfl⟩,hpl⟩:=hchk
 generalize hu:uf (look σ.h) c.ks args=used at *
 have hnb:=qN hnb
 have hfr:=ln hfr
 obtain ⟨hA,hlen⟩:=kG ha
 have hM1:=Kl hm ha hr hnb
 have G:=hm.glob
 generalize hE1:E.argE σ.look used a=E1 at hM1
 have e1w:E1.w=E.w:=by rw[<-hE1];rfl
 have e1w0:E1.w0=E.w0:=by rw[<-hE1];rfl
 have e1Z0:E1.Z0=E.Z0:=by rw[<-hE1];rfl
 have e1P:E1.P=E.P:=by rw[<-hE1];rfl
 have e1Z:E1.Z=nT E σ.look (gv a.b) used:=by rw[<-hE1];rfl
 have e1rg:E1.rg=false:=by rw[<-hE1];rfl
 have e1L:∀j,E1.L j↔(look a.h j).isSome=true:=fun j=>by rw[<-hE1];exact Iff.rfl
 have e1β:∀j b,look a.b j=some b->E1.β j=E.β b:=fun j b hj=>by rw[<-hE1];simp[Env.argE,hj]
 let E0:Env:={ E1 with R:=fun _=>False }
 have hM0:Mod vs.toList.length E0 { tmps:=vs.toList.toArray,defers:=[] } (sX c.ks a.h).look:=by
  have hkey:∀i l,look (uH a.h) i=some l->∃l',look a.h i=some l'/\l=uL l':=fun i l hi=>by
   rw[pM] at hi
   cases hq:look a.h i with
   | none=>rw[hq] at hi;cases hi
   | some l'=>rw[hq] at hi;injection hi with hi;exact ⟨l',rfl,hi.symm⟩
  refine ⟨⟨hM1.glob.below,hM1.glob.zlt,hM1.glob.z0,hM1.glob.zfrom,fun j hj=>?_,fun r hr=>hr.elim,fun i l hi=>?_,fun i j l l' hi hj hij=>?_,fun i r b hi=>by simp[sX,St.look,look] at hi,fun i j r r' b hi=>by simp[sX,St.look,look] at hi,⟨fun i x b hi=>by simp[sX,St.look,look] at hi,fun i j x y b hi=>by simp[sX,St.look,look] at hi⟩⟩,trivial,hM1.size,fun i t hi=>?_,fun i l hi=>?_,fun i r hi=>by simp[sX,St.look,look] at hi,fun i x hi=>by simp[sX,St.look,look] at hi⟩
  ·show (look (uH a.h) j).isSome=true
   rw[pM]
   have hj:(look a.h j).isSome=true:=(e1L j).1 hj
   cases hq:look a.h j with
   | none=>rw[hq] at hj;cases hj
   | some l=>rfl
  ·obtain ⟨l',h1,_⟩:=hkey i l hi
   exact hM1.glob.own i l' h1
  ·obtain ⟨l1,h1,_⟩:=hkey i l hi
   obtain ⟨l2,h2,_⟩:=hkey j l' hj
   exact hM1.glob.inj i j l1 l2 h1 h2 hij
  ·have hi:fU (um 0 c.ks) i=some t:=hi
   have hnp:i ∉ jS 0 c.ks:=by
    intro hn
    have:∀(ks:List PK) (j:Nat),(∀k ∈ jS j ks,j<=k)/\(∀k t,look (um j ks) k=some t->j<=k/\k ∉ jS j ks):=by
     intro ks
     induction ks with
     | nil=>intro j;exact ⟨fun k h=>by simp[jS] at h,fun k t h=>by simp[um,look] at h⟩
     | cons p r ih =>
      intro j
      obtain ⟨i1,i2⟩:=ih (j+1)
      cases p with
      | d s =>
       refine ⟨fun k h=>?_,fun k t h=>?_⟩
       ·simp only[jS,List.mem_cons] at h
        rcases h with h | h
        ·omega
        ·have:=i1 k h;omega
       ·obtain ⟨g1,g2⟩:=i2 k t h
        exact ⟨by omega,by simp only[jS,List.mem_cons,not_or];exact ⟨by omega,g2⟩⟩
      | v ag ps =>
       refine ⟨fun k h=>?_,fun k t h=>?_⟩
       ·simp only[jS,List.mem_cons] at h
        rcases h with h | h
        ·omega
        ·have:=i1 k h;omega
       ·obtain ⟨g1,g2⟩:=i2 k t h
        exact ⟨by omega,by simp only[jS,List.mem_cons,not_or];exact ⟨by omega,g2⟩⟩
      | b ps =>
       refine ⟨fun k h=>by have:=i1 k h;omega,fun k t h=>?_⟩
       simp only[um] at h
       rw[aj] at h
       split at h
       ·rename_i e
        exact ⟨by omega,fun hk=>by have:=i1 k hk;omega⟩
       ·obtain ⟨g1,g2⟩:=i2 k t h
        exact ⟨by omega,g2⟩
    unfold fU at hi
    split at hi
    ·rename_i t' hl
     exact ((this c.ks 0).2 i _ hl).2 hn
    ·cases hi
   have hs1:(St.look { s:=a.s,h:=a.h,r:=ru used σ.r,next:=0 }).s i=some t:=by
    show fU a.s i=some t
    unfold fU at hi ⊢
    rw[hA.ptr i hnp]
    exact hi
   obtain ⟨v,h1,h2⟩:=hM1.slots i t hs1
   refine ⟨v,h1,?_⟩
   unfold fU at hi
   split at hi
   ·rename_i t' hl
    injection hi with hi
    subst hi
    have:∀(ks:List PK) (j:Nat) (t:SlotV),look (um j ks) i=some (some t)->t=⟨none,.c false [.ptr i 0]⟩:=by
     intro ks
     induction ks with
     | nil=>intro j t h;simp[um,look] at h
     | cons p r ih =>
      intro j t h
      cases p with
      | d s=>exact ih (j+1) t h
      | v ag ps=>exact ih (j+1) t h
      | b ps =>
       simp only[um] at h
       rw[aj] at h
       split at h
       ·rename_i e
        simp only[Option.some.injEq] at h
        rw[<-h,e]
       ·exact ih (j+1) t h
    rw[this c.ks 0 t' hl] at h2 ⊢
    obtain ⟨cs',g1,g2,g3⟩:=h2
    match cs',g2 with
    | [y],g2=>exact ⟨[y],g1,⟨g2.1,trivial⟩,g3⟩
   ·cases hi
  ·obtain ⟨l',h1,h2⟩:=hkey i l hi
   obtain ⟨g1,cs,t,g2,g3,g4⟩:=hM1.blks i l' h1
   subst h2
   exact ⟨g1,cs,t,g2,GZ g3.length,g4⟩
 have hk01:Keep E0 E1:=⟨rfl,fun y v hv=>by
  cases y with
  | u=>trivial
  | v x=>exact hv
  | ptr b o=>exact hv
  | clo g cap=>exact hv
  | sl e l=>exact hv
  | row r=>exact hv.2.1.elim
  | rf s x o=>exact hv
  | re r i sz off=>obtain ⟨_,_,_,h⟩:=hv;exact h.elim
  | sub r lo hi sz=>obtain ⟨_,h⟩:=hv;exact h.elim
  | ae b o e l i d=>exact hv
  | sn e l=>exact hv
  | ir r i=>exact hv.2.1.elim
  | ie r i j sz off=>obtain ⟨_,_,_,h,_⟩:=hv;exact h.elim
  | fn a r F=>exact hv,fun b o hb=>hb⟩
 obtain ⟨E2,hs12,hw2,hk02,hm2⟩:=jz (rh:=rhI 0 c.ks) (W:=jS 0 c.ks) (srcs:=[]) hpl hM0 hk01 hM1 (x:=x) hx
  (fun i hi=>hA.ptr i hi)
  (fun i hi=>by
   rcases List.mem_append.1 hi with hi | hi
   ·have h1:=nH hi
    have h2:(look (uH a.h) i).isSome=true:=gH hi
    rw[pM] at h2
    exfalso
    apply h1
    rw[rT]
    apply (hA.keys i).1
    cases hq:look a.h i with
    | none=>rw[hq] at h2;cases h2
    | some _=>rfl
   ·cases hi)
  (fun i hi=>by
   rcases List.mem_append.1 hi with hi | hi<;>cases hi)
 have he:(head (rhI 0 c.ks) (jS 0 c.ks) [] (sX c.ks a.h) x).look=(c.init x).look:=by
  have h1:look (dF (rhI 0 c.ks) x 0++uH a.h)=look (dF (rhI 0 c.ks) x 0):=by
   funext i
   rw[aU]
   cases hq:look (dF (rhI 0 c.ks) x 0) i with
   | some l=>rfl
   | none =>
    show look (uH a.h) i=none
    rw[pM]
    cases hq2:look a.h i with
    | none=>rfl
    | some l =>
     have:=(hA.keys i).1 (by rw[hq2];rfl)
     rw[<-rT] at this
     have:=(fL (x:=x) (k:=0)).2 this
     rw[hq] at this
     cases this
  simp only[St.look,head,SCtr.init,sX,lX,List.nil_append,List.append_nil,Look.mk.injEq]
  exact ⟨trivial,h1,trivial⟩
 rw[he] at hm2
 have hcall:=hc x y hy E2 vs.toList (by rw[hs12.P,e1P];exact hP) (by rw[hk02.rg];exact e1rg) (by rw[<-AB hr];exact hlen) hm2
 rw[hw2,e1w,Array.toArray_toList] at hcall
 refine hcall.mono fun e w' hew=>?_
 obtain ⟨us,E',rfl,hw',hs2,hk2,hβ2,hM',hus⟩:=hew
 subst hw'
 have ew0:E'.w0=E.w0:=by rw[hs2.w0,hs12.w0,e1w0]
 have eZ0:E'.Z0=E.Z0:=by rw[hs2.Z0,hs12.Z0,e1Z0]
 have hZ1:∀b,nT E σ.look (gv a.b) used b->b<E.w.heap.size/\(E.Z0 b\/E.w0.heap.size<=b):=fun b hb=>by
  rw[<-e1Z] at hb
  have h1:=hM1.glob.zlt b hb
  have h2:=hM1.glob.zfrom b hb
  rw[e1w] at h1
  rw[e1Z0,e1w0] at h2
  exact ⟨h1,h2⟩
 have hlow:∀b,b<E.w0.heap.size->E'.w.heap[b]?=E.w.heap[b]?:=fun b hb=>by
  have h1:=hM'.glob.below
  rw[ew0] at h1
  rw[h1.block b hb,G.below.block b hb]
 have hrest:∀b,nT E σ.look (gv a.b) used b->E'.Z b/\E'.w.heap[b]?=E.w.heap[b]?:=fun b hb=>by
  obtain ⟨h1,h2⟩:=hZ1 b hb
  by_cases hl:b<E.w0.heap.size
  ·refine ⟨?_,hlow b hl⟩
   rcases h2 with h2 | h2
   ·exact hM'.glob.z0 b (by rw[eZ0];exact h2)
   ·omega
  ·have ho:E.w.heap[b]?=some E.w.heap[b]:=Array.getElem?_eq_getElem h1
   have:=hk2.obj b _ (hk02.obj b E.w.heap[b] ⟨by show E1.Z b;rw[e1Z];exact hb,by show E1.w0.heap.size<=b;rw[e1w0];omega,by show E1.w.heap[b]?=_;rw[e1w];exact ho⟩)
   exact ⟨this.1,this.2.2.trans ho.symm⟩
 have hβ':∀j b,look a.b j=some b->E'.β j=E.β b:=fun j b hj=>by
  have hLj:=(hA.b j b hj).2.2
  have h0:iu E0 (.ptr j 0) (gd E1.β (j,0)):=⟨rfl,(e1L j).2 hLj⟩
  obtain ⟨h3,h4⟩:=hk02.at' _ _ h0
  rw[hβ2 j h4]
  have:E1.β j=E2.β j:=by simpa [gd] using h3
  rw[<-this,e1β j b hj]
 generalize hcnt:lm c.out=cnt at *
 have hgr:∀i u,look (dk c.out y σ.next++(lX used++σ.r)) i=some u->((σ.next<=i/\i<σ.next+cnt)/\look (dk c.out y 0) (i - σ.next)=some u)\/(¬ (σ.next<=i/\i<σ.next+cnt)/\((i ∈ used/\u=.none)\/(i ∉ used/\look σ.r i=some u))):=fun i u hi=>by
  rw[aU] at hi
  cases hq:look (dk c.out y σ.next) i with
  | some u' =>
   rw[hq] at hi
   injection hi with hi
   subst hi
   left
   rcases uc (by rw[hq];rfl:(look (dk c.out y σ.next) i).isSome=true) with h1 | h1
   ·rw[hcnt] at h1
    refine ⟨h1,?_⟩
    have h2:=qT (n:=σ.next) (x:=y) (k:=0) (i:=i - σ.next) hfl
    rw[Nat.zero_add,Nat.sub_add_cancel h1.1] at h2
    rw[<-h2,hq]
   ·rw[vJ hfl] at h1
    cases h1
  | none =>
   rw[hq] at hi
   right
   refine ⟨fun hn=>?_,?_⟩
   ·rw[<-hcnt] at hn
    have:=sC (x:=y) hn
    rw[hq] at this
    cases this
   ·simp only at hi
    rw[aU,kW] at hi
    by_cases hu':i ∈ used
    ·rw[if_pos hu'] at hi
     injection hi with hi
     exact .inl ⟨hu',hi.symm⟩
    ·rw[if_neg hu'] at hi
     exact .inr ⟨hu',hi⟩
 have hgh:∀i l,look (kn a.b (dF c.out y σ.next)++σ.h) i=some l->(∃j,look a.b j=some i/\look (dF c.out y σ.next) j=some l)\/(i ∉ gv a.b/\look σ.h i=some l):=fun i l hi=>by
  rw[aU] at hi
  cases hq:look (kn a.b (dF c.out y σ.next)) i with
  | some l' =>
   rw[hq] at hi
   injection hi with hi
   subst hi
   exact .inl (pn hq)
  | none =>
   rw[hq] at hi
   refine .inr ⟨fun hv=>?_,hi⟩
   obtain ⟨j,hj⟩:=nI ha i hv
   have h1:=(hA.b j i hj).2.2
   have h2:=(hA.keys j).1 h1
   have h3:j ∈ bS c.out:=by rw[rP,FSs,List.append_nil];exact h2
   have:=tB hj ((fL (x:=y) (k:=σ.next)).2 h3)
   rw[hq] at this
   cases this
 have hkeyh:∀i l,look (kn a.b (dF c.out y σ.next)++σ.h) i=some l->∃l0,look σ.h i=some l0:=fun i l hi=>by
  rcases hgh i l hi with ⟨j,h1,_⟩ | ⟨_,h1⟩
  ·have:=(hA.b j i h1).2.1
   cases hq:look σ.h i with
   | some l0=>exact ⟨l0,rfl⟩
   | none=>rw[hq] at this;cases this
  ·exact ⟨l,h1⟩
 have hbk:∀i l,look (kn a.b (dF c.out y σ.next)++σ.h) i=some l->∀g,¬ E'.Z g->(∀j l',look (dF c.out y 0) j=some l'->E'.β j≠g)->E.β i≠g:=fun i l hi g h1 h2 hg=>by
  rcases hgh i l hi with ⟨j,h3,h4⟩ | ⟨h3,h4⟩
  ·have h5:=(fL (x:=y) (k:=0)).2 ((fL (x:=y) (k:=σ.next)).1 (by rw[h4];rfl))
   cases hq:look (dF c.out y 0) j with
   | none=>rw[hq] at h5;cases h5
   | some l'=>exact h2 j l' hq (by rw[hβ' j i h3];exact hg)
  ·exact h1 (hg ▸ (hrest _ (.inr (.inl ⟨i,l,h4,h3,rfl⟩))).1)
 let E5:=E.outE E' σ.next cnt
 let X:Nat->Prop:=fun b=>¬ nT E σ.look (gv a.b) used b/\E.w0.heap.size<=b
 have p1:∀i,(σ.next<=i/\i<σ.next+cnt)->E5.ρ i=E'.ρ (i - σ.next)/\E5.φ i=E'.φ (i - σ.next)/\E5.ι i=E'.ι (i - σ.next)/\E5.ν i=E'.ν (i - σ.next):=fun i hi=>⟨if_pos hi,if_pos hi,if_pos hi,if_pos hi⟩
 have p2:∀i,¬ (σ.next<=i/\i<σ.next+cnt)->E5.ρ i=E.ρ i/\E5.φ i=E.φ i/\E5.ι i=E.ι i/\E5.ν i=E.ν i:=fun i hi=>⟨if_neg hi,if_neg hi,if_neg hi,if_neg hi⟩
 have hfree:gZ E X:=fun b hb=>⟨fun hz=>hb.1 (.inl hz),hb.2⟩
 have hnew:∀r,(look σ.r r).isSome=true->¬ (σ.next<=r/\r<σ.next+cnt):=fun r hr hn=>by
  rw[hfr r hn.1 hn.2] at hr
  cases hr
 have hext:Ext X E E5:=⟨rfl,rfl,rfl,rfl,fun _ h=>h,fun b h1 h2=>by
   by_cases hz:nT E σ.look (gv a.b) used b
   ·exact (hrest b hz).2
   ·exact hlow b (by
     by_cases hl:b<E.w0.heap.size
     ·exact hl
     ·exact absurd ⟨hz,by omega⟩ h2),fun _ _=>rfl,fun _ h=>h,fun r hr=>(p2 r (hnew r (G.rlive r hr))).1,fun _ h=>.inl h,fun r hr=>by
   obtain ⟨_,q2,q3,q4⟩:=p2 r (hnew r (G.rlive r hr))
   rw[q2,q3,q4]
   exact ⟨fun _ h=>h,Nat.le_refl _,fun _ _=>rfl⟩⟩
 have hsz:∀b,nT E σ.look (gv a.b) used b->b<E'.w.heap.size:=fun b hb=>by
  have h1:=(hrest b hb).2
  rw[Array.getElem?_eq_getElem (hZ1 b hb).1] at h1
  exact (Array.getElem?_eq_some_iff.1 h1).1
 have oR:∀i r b,i ∉ used->look σ.r i=some (.some r)->(E.ρ i).ownBlock=some b->nT E σ.look (gv a.b) used b:=fun i r b h1 h2 h3=>.inr (.inr (.inl ⟨i,r,h2,h1,h3⟩))
 have oX:∀i x b,i ∉ used->look σ.r i=some (.x x)->E.φ i b->nT E σ.look (gv a.b) used b:=fun i x b h1 h2 h3=>.inr (.inr (.inr ⟨i,x,h2,h1,h3⟩))
 have hglob:Glob E5 (St.look { σ with h:=kn a.b (dF c.out y σ.next)++σ.h,r:=dk c.out y σ.next++(lX used++σ.r),next:=σ.next+cnt }):=by
  refine ⟨?_,fun b hb=>hsz b (.inl hb),G.z0,G.zfrom,fun b hb=>?_,fun r hr=>?_,fun i l hi=>?_,fun i j l l' hi hj hij=>?_,fun i r b hi hb=>?_,fun i j r r' b hi hj hb hb'=>?_,⟨fun i x b hi hb=>?_,fun i j x y' b hi hj hb hb'=>?_⟩⟩
  ·have h1:=hM'.glob.below
   rw[ew0] at h1
   exact h1
  ·show (look (kn a.b (dF c.out y σ.next)++σ.h) b).isSome=true
   rw[aU]
   cases look (kn a.b (dF c.out y σ.next)) b with
   | some _=>rfl
   | none=>exact G.live b hb
  ·show (look (dk c.out y σ.next++(lX used++σ.r)) r).isSome=true
   rw[aU]
   cases hq:look (dk c.out y σ.next) r with
   | some _=>rfl
   | none =>
    simp only
    rw[aU,kW]
    rcases hr with hr | hr
    ·by_cases hu':r ∈ used
     ·rw[if_pos hu'];rfl
     ·rw[if_neg hu'];exact G.rlive r hr
    ·rw[<-hcnt] at hr
     have:=sC (x:=y) hr
     rw[hq] at this
     cases this
  ·obtain ⟨l0,h0⟩:=hkeyh i l hi
   exact G.own i l0 h0
  ·obtain ⟨l0,h0⟩:=hkeyh i l hi
   obtain ⟨l1,h1⟩:=hkeyh j l' hj
   exact G.inj i j l0 l1 h0 h1 hij
  ·rcases hgr i _ hi with ⟨h1,h2⟩ | ⟨h1,⟨_,h2⟩ | ⟨h2,h3⟩⟩
   ·rw[(p1 i h1).1] at hb
    obtain ⟨g1,g2⟩:=hM'.glob.rown _ r b h2 hb
    exact ⟨fun hz=>g1 (hrest b (.inl hz)).1,fun j l hj=>hbk j l hj b g1 g2⟩
   ·cases h2
   ·rw[(p2 i h1).1] at hb
    obtain ⟨g1,g2⟩:=G.rown i r b h3 hb
    exact ⟨g1,fun j l hj=>by obtain ⟨l0,h0⟩:=hkeyh j l hj;exact g2 j l0 h0⟩
  ·rcases hgr i _ hi with ⟨h1,h2⟩ | ⟨h1,⟨_,h2⟩ | ⟨h2,h3⟩⟩
   ·rw[(p1 i h1).1] at hb
    rcases hgr j _ hj with ⟨k1,k2⟩ | ⟨k1,⟨_,k2⟩ | ⟨k2,k3⟩⟩
    ·rw[(p1 j k1).1] at hb'
     have:=hM'.glob.rinj _ _ r r' b h2 k2 hb hb'
     omega
    ·cases k2
    ·rw[(p2 j k1).1] at hb'
     exact absurd (hrest b (oR j r' b k2 k3 hb')).1 (hM'.glob.rown _ r b h2 hb).1
   ·cases h2
   ·rw[(p2 i h1).1] at hb
    rcases hgr j _ hj with ⟨k1,k2⟩ | ⟨k1,⟨_,k2⟩ | ⟨k2,k3⟩⟩
    ·rw[(p1 j k1).1] at hb'
     exact absurd (hrest b (oR i r b h2 h3 hb)).1 (hM'.glob.rown _ r' b k2 hb').1
    ·cases k2
    ·rw[(p2 j k1).1] at hb'
     exact G.rinj i j r r' b h3 k3 hb hb'
  ·rcases hgr i _ hi with ⟨h1,h2⟩ | ⟨h1,⟨_,h2⟩ | ⟨h2,h3⟩⟩
   ·rw[(p1 i h1).2.1] at hb
    obtain ⟨g1,g2,g3,g4,g5⟩:=hM'.glob.xg.own _ x b h2 hb
    refine ⟨by rw[ew0] at g1;exact g1,g2,fun hz=>g3 (hrest b (.inl hz)).1,fun j l hj=>hbk j l hj b g3 g4,fun j r hj hq=>?_⟩
    rcases hgr j _ hj with ⟨k1,k2⟩ | ⟨k1,⟨_,k2⟩ | ⟨k2,k3⟩⟩
    ·rw[(p1 j k1).1] at hq
     exact g5 _ r k2 hq
    ·cases k2
    ·rw[(p2 j k1).1] at hq
     exact g3 (hrest b (oR j r b k2 k3 hq)).1
   ·cases h2
   ·rw[(p2 i h1).2.1] at hb
    obtain ⟨g1,g2,g3,g4,g5⟩:=G.xg.own i x b h3 hb
    refine ⟨g1,hsz b (oX i x b h2 h3 hb),g3,fun j l hj=>by obtain ⟨l0,h0⟩:=hkeyh j l hj;exact g4 j l0 h0,fun j r hj hq=>?_⟩
    rcases hgr j _ hj with ⟨k1,k2⟩ | ⟨k1,⟨_,k2⟩ | ⟨k2,k3⟩⟩
    ·rw[(p1 j k1).1] at hq
     exact (hM'.glob.rown _ r b k2 hq).1 (hrest b (oX i x b h2 h3 hb)).1
    ·cases k2
    ·rw[(p2 j k1).1] at hq
     exact g5 j r k3 hq
  ·rcases hgr i _ hi with ⟨h1,h2⟩ | ⟨h1,⟨_,h2⟩ | ⟨h2,h3⟩⟩
   ·rw[(p1 i h1).2.1] at hb
    rcases hgr j _ hj with ⟨k1,k2⟩ | ⟨k1,⟨_,k2⟩ | ⟨k2,k3⟩⟩
    ·rw[(p1 j k1).2.1] at hb'
     have:=hM'.glob.xg.inj _ _ x y' b h2 k2 hb hb'
     omega
    ·cases k2
    ·rw[(p2 j k1).2.1] at hb'
     exact absurd (hrest b (oX j y' b k2 k3 hb')).1 (hM'.glob.xg.own _ x b h2 hb).2.2.1
   ·cases h2
   ·rw[(p2 i h1).2.1] at hb
    rcases hgr j _ hj with ⟨k1,k2⟩ | ⟨k1,⟨_,k2⟩ | ⟨k2,k3⟩⟩
    ·rw[(p1 j k1).2.1] at hb'
     exact absurd (hrest b (oX i x b h2 h3 hb)).1 (hM'.glob.xg.own _ y' b k2 hb').2.2.1
    ·cases k2
    ·rw[(p2 j k1).2.1] at hb'
     exact G.xg.inj i j x y' b h3 k3 hb hb'
 have hsh:∀i,i<cnt->E5.ρ (i+σ.next)=E'.ρ i/\E5.R (i+σ.next):=fun i hi=>by
  have hi':σ.next<=i+σ.next/\i+σ.next<σ.next+cnt:=by omega
  refine ⟨?_,.inr hi'⟩
  rw[(p1 _ hi').1,Nat.add_sub_cancel]
 have hm00:Mod 0 E { tmps:=#[],defers:=[] } { σ.look with s:=fun _=>none }:=⟨G.of rfl rfl,trivial,rfl,fun i s hi=>(by cases hi),hm.blks,hm.rows,hm.xs⟩
 have hm5:=hm00.move (a':={ tmps:=#[],defers:=[] }) (g':={ St.look { σ with h:=kn a.b (dF c.out y σ.next)++σ.h,r:=dk c.out y σ.next++(lX used++σ.r),next:=σ.next+cnt } with s:=fun _=>none }) hfree hext (hglob.of rfl rfl) rfl rfl (fun i s hi=>(by cases hi))
  (fun i l hi=>by
   rcases hgh i l hi with ⟨j,h1,h2⟩ | ⟨h1,h2⟩
   ·right
    obtain ⟨l',h3,h4⟩:=qK (E:=E') (E':=E5) (n:=σ.next) (cnt:=cnt) (k:=0) hsh hfl (by rw[Nat.zero_add];exact Nat.le_of_eq hcnt) (by rw[Nat.zero_add];exact h2)
    obtain ⟨_,cs,t,g1,g2,g3⟩:=hM'.blks j l' h3
    obtain ⟨l0,h0⟩:=hkeyh i l hi
    rw[hβ' j i h1] at g1
    exact ⟨(hm.blks i l0 h0).1,cs,t,g1,h4 cs g2,g3⟩
   ·exact .inl ⟨h2,fun hX=>hX.1 (.inr (.inl ⟨i,l,h2,h1,rfl⟩))⟩)
  (fun i r hi=>by
   rcases hgr i _ hi with ⟨h1,h2⟩ | ⟨h1,⟨_,h2⟩ | ⟨h2,h3⟩⟩
   ·right
    obtain ⟨_,xs,g2,g3,g4⟩:=hM'.rows _ r h2
    have hf:=(xU hfl).1 r h2
    refine ⟨.inr h1,xs,?_,ax.flat hf g3,g4⟩
    rw[(p1 i h1).1]
    show E'.w.ownsRow E.w0.heap.size _ _ _ _ _
    rw[<-ew0]
    exact g2
   ·cases h2
   ·exact .inl ⟨h3,fun b hb hX=>hX.1 (oR i r b h2 h3 hb)⟩)
  (fun i u hi=>by
   rcases hgr i _ hi with ⟨h1,h2⟩ | ⟨h1,⟨_,h2⟩ | ⟨h2,h3⟩⟩
   ·right
    obtain ⟨p,z',hf,rfl⟩:=(xU hfl).2 u h2
    obtain ⟨q1,q2,q3,q4⟩:=p1 i h1
    exact XOk.flat (E:=E') (E':=E5) hf rfl ew0.symm (.inr h1) q1 q2 q3 q4 (hM'.xs _ _ h2)
   ·cases h2
   ·exact .inl ⟨h3,(p2 i h1).2.2.2,fun b hb hX=>hX.1 (oX i u b h2 h3 hb)⟩)
 refine hpost (vT c.out y σ.next) _ E5 _ hK rfl (hext.keep G hfree) ⟨rfl,rfl,fun i hi=>?_,fun i hi=>?_⟩ ⟨hglob,hm5.blks,hm5.rows,hm5.xs⟩ fun sv hsv=>hret E5 _ sv us hsv ?_
 ·show look (kn a.b (dF c.out y σ.next)++σ.h) i=look σ.h i
  rw[aU]
  cases hq:look (kn a.b (dF c.out y σ.next)) i with
  | none=>rfl
  | some l =>
   obtain ⟨j,h1,_⟩:=pn hq
   exact absurd hi (ga hoB i (rX h1))
 ·have h1:=hro i hi
  show look (dk c.out y σ.next++(lX used++σ.r)) i=look σ.r i
  cases hq:look (dk c.out y σ.next++(lX used++σ.r)) i with
  | some u =>
   rcases hgr i u hq with ⟨h2,_⟩ | ⟨_,⟨h2,_⟩ | ⟨_,h2⟩⟩
   ·exact absurd h2 (hnew i h1)
   ·exact absurd hi (ga hoR i h2)
   ·exact h2.symm
  | none =>
   rw[aU] at hq
   split at hq
   ·cases hq
   ·rw[aU] at hq
    split at hq
    ·cases hq
    ·rw[hq]
 ·have:=tL (n:=σ.next) (cnt:=cnt) hsh (k:=0) hfl (by rw[Nat.zero_add];exact Nat.le_of_eq hcnt) hus
  rw[Nat.zero_add] at this
  exact this
end
def I7 (lp:Lp) (jn:Jn) (sc:FuncId->Option SCtr) (C:Ctx) (hl:FuncId->Hint):Nat->Inl
 | 0=>fun _ id args σ K=>match sc id with
  | some c=>HG c args σ K
  | none=>none
 | d+1=>fun _ id args σ K=>match sc id with
  | some c=>HG c args σ K
  | none=>match C.P.funcs[id]? with
   | some fn=>match fn.body,Nat.ble args.length fn.ntmps with
    | some code,true=>den lp jn (I7 lp jn sc C hl d) C fn.ntmps { hl id with inner:=true } code { σ with s:=dP args 0 } fun e σ'=>match e with
     | .exit _=>none
     | _=>match lU C.P σ'.look fn.results.toList with
      | some svs=>K svs σ'
      | none=>none
    | _,_=>none
   | none=>none
def Iq (P:Program) (sc:FuncId->Option SCtr):Prop:=∀id c,sc id=some c->c.ok P id
theorem CI {C:Ctx} (hC:C.ok) (aE:C.P.follows .mixedOrders=true) {sc:FuncId->Option SCtr} (hsc:Iq C.P sc) {hl:FuncId->Hint}:∀d,DT C (I7 lpK jnK sc C hl d)
 | 0=>fun R id args σ K z h hro E hm hP vs hvs post hpost=>by
  simp only[I7] at h
  split at h
  ·rename_i c hs
   exact Ek (hsc id c hs) h hro hm hP hvs hpost fun E l sv us h1 h2=>sr h1 h2
  ·cases h
 | d+1=>fun R id args σ K z h hro E hm hP vs hvs post hpost=>by
  simp only[I7] at h
  split at h
  ·rename_i c hs
   exact Ek (hsc id c hs) h hro hm hP hvs hpost fun E l sv us h1 h2=>sr h1 h2
  split at h
  ·rename_i fn hf
   split at h
   ·rename_i code hb hle
    have hle:args.length<=fn.ntmps:=by simpa using hle
    have hlen:=iQ hvs
    refine calls_of_wp hf hb (wpIn_wide (n:=0).1 ?_)
    have hmod:Mod fn.ntmps (E.setRg false) { tmps:=vs++Array.replicate (fn.ntmps - vs.size) undef,defers:=[] } ({ σ with s:=dP args 0 }:St).look:=by
     have hm':MemOk (E.setRg false) ({ σ with s:=dP args 0 }:St).look:=(hm.of (g':=({ σ with s:=dP args 0 }:St).look) rfl rfl).setRg
     refine ⟨hm'.glob,trivial,?_,fun i t hi=>?_,hm'.blks,hm'.rows,hm'.xs⟩
     ·have:vs.size=args.length:=by rw[hlen];simp
      simp only[Array.size_append,Array.size_replicate]
      omega
     ·simp only[St.look,fU] at hi
      split at hi
      ·rename_i t' hl'
       injection hi with hi
       subst hi
       obtain ⟨v,_,h2,h3⟩:=md hvs i t' hl'
       rw[Nat.sub_zero] at h2
       refine ⟨v,?_,h3.setRg⟩
       have hlt:=(List.getElem?_eq_some_iff.1 h2).1
       rw[Array.getElem?_append_left (by simpa using hlt)]
       simpa using h2
      ·cases hi
    refine fZ (F:=Fence.wide) hC (CI hC aE hsc d) aE (.inl rfl) (fun _=>rfl) h hro ⟨hP,fun e=>by cases e⟩ (E:=E.setRg false) hmod fun e σ' E' a' hk hs hkp hf' hsl hm'=>?_
    have hdef:a'.defers=[]:=fT.none hkp.rg hm'.nodef
    have hkp2:Keep E (E'.setRg E.rg):=⟨rfl,fun x v hv=>(hkp x v hv.setRg).setRg,fun b o hb=>hkp.obj b o hb⟩
    have hs2:fk E (E'.setRg E.rg):=hs
    have fin:∀svs,lU C.P σ'.look fn.results.toList=some svs->K svs σ'=some z->a'.defers=[]/\∃v,(results fn a'.tmps).run C.P E'.w=.ok v E'.w/\post (.returned v) E'.w:=fun svs hsv hkk=>by
     have hPP:E'.P=C.P:=hs2.P.trans hP
     rw[<-hPP] at hsv
     obtain ⟨us,hu1,hu2⟩:=fG hm' hsv
     rw[hPP] at hu2
     exact ⟨hdef,_,hu2,hpost svs σ' (E'.setRg E.rg) _ hkk hs2 hkp2 ⟨hf'.ro,hf'.roR,hf'.h,hf'.r⟩ (hm'.memOk.setRg) fun sv hsv'=>(sr hsv' hu1).setRg⟩
    cases e with
    | normal =>
     simp only at hk
     split at hk
     ·rename_i svs hsv;exact fin svs hsv hk
     ·cases hk
    | ret =>
     simp only at hk
     split at hk
     ·rename_i svs hsv;exact fin svs hsv hk
     ·cases hk
    | exit i=>cases hk
   ·cases h
  ·cases h
def H4:List SV->List (Bool×List Pat)->Bool
 | [],[]=>true
 | _ ::l,_ ::r=>H4 l r
 | _,_=>false
theorem pW:∀{l:List SV} {r:List (Bool×List Pat)},H4 l r=true->l.length=r.length
 | [],[],_=>rfl
 | _ ::l,_ ::r,h=>by
  have:=pW (l:=l) (r:=r) h
  simpa using this
 | [],_ ::_,h=>by cases h
 | _ ::_,[],h=>by cases h
def lu (used:List Nat):List (Nat×List At)->List (Nat×List At)
 | []=>[]
 | p ::r=>match jg p.1 used with
  | true=>p ::lu used r
  | false=>lu used r
theorem pj {used:List Nat} {i:Nat}:∀{l:List (Nat×List At)},look (lu used l) i=if i ∈ used then look l i else none
 | []=>by simp[lu,look]
 | p ::r=>by
  simp only[lu]
  split
  ·rename_i hm
   rw[aj,aj,pj]
   by_cases e:i=p.1
   ·rw[if_pos e,if_pos e,e,if_pos (cM.1 hm)]
   ·rw[if_neg e,if_neg e]
  ·rename_i hm
   rw[aj,pj]
   by_cases hi:i ∈ used
   ·rw[if_pos hi,if_pos hi,if_neg]
    intro e
    rw[e,<-cM,hm] at hi
    cases hi
   ·rw[if_neg hi,if_neg hi]
def upN:Nat->Nat->List Nat
 | 0,_=>[]
 | n+1,k=>k ::upN n (k+1)
theorem H5 {i:Nat}:∀{n k:Nat},i ∈ upN n k↔k<=i/\i<k+n
 | 0,k=>by simp[upN]
 | n+1,k=>by
  simp only[upN,List.mem_cons,H5]
  omega
theorem vh {i:Nat}:∀{l:List SV} {k:Nat},(look (dP l k) i).isSome=true->k<=i/\i<k+l.length
 | [],_,h=>by simp[dP,look] at h
 | _ ::r,k,h=>by
  simp only[dP] at h
  rw[aj] at h
  simp only[List.length_cons]
  split at h
  ·omega
  ·have:=vh h
   omega
def zN (c:SCtr) (h:List (Nat×List At)):St:={ s:=[],h:=uH (lu (bS c.out) h),r:=[],next:=0 }
def NI (P:Program) (c:SCtr) (rv:Array ResultVar):Ex->St->Option (TsR c.out)
 | .exit _,_=>none
 | _,σ=>match lU P σ.look rv.toList with
  | some svs=>match H4 svs c.rs&&gx c.out (upN c.rs.length 0) [] (zN c σ.h) with
   | true=>kJ c.out [] { s:=dP svs 0,h:=σ.h,r:=σ.r,next:=0 }
   | false=>none
  | none=>none
def Ml (lp:Lp) (jn:Jn) (sc:FuncId->Option SCtr) (C:Ctx) (hl:FuncId->Hint) (d:Nat) (id:FuncId) (fn:Func) (c:SCtr) (x:TsR (rhI 0 c.ks)):Option (TsR c.out) :=
 den lp jn (I7 lp jn sc C hl d) C fn.ntmps { hl id with inner:=true } (fn.body.getD .skip) (c.init x) (NI C.P c fn.results)
def NA (lp:Lp) (jn:Jn) (sc:FuncId->Option SCtr) (C:Ctx) (hl:FuncId->Hint) (d:Nat) (id:FuncId) (fn:Func) (c:Ctr) (x:TsS c.as) (F:TsF c.fs) (y:TsS c.cs):Option c.r.T :=
 den lp jn (I7 lp jn sc C hl d) C fn.ntmps (hl id) (fn.body.getD .skip) (c.init x F y) (post C.P c.r fn.results)
theorem Ctr.of_denS {C:Ctx} (hC:C.ok) (aE:C.P.follows .mixedOrders=true) {sc:FuncId->Option SCtr} (hsc:Iq C.P sc) {hl:FuncId->Hint} {d:Nat} {f:FuncId} {fn:Func} {code:Code} {c:Ctr} (hf:C.P.funcs[f]?=some fn) (hb:fn.body=some code) (hn:c.as.length+c.fs.length+c.cs.length<=fn.ntmps)
  (h:∀x F y,c.m x F y=NA lpK jnK sc C hl d f fn c x F y):c.ok C.P f:=Ctr.of_rec hC aE (CI hC aE hsc d) hf hb hn h
theorem rQ {P:Program}:Iq P (look []):=fun _ _ h=>by cases h
theorem oH {P:Program} {f:FuncId} {c:SCtr} {l:List (Nat×SCtr)} (ho:c.ok P f) (h:Iq P (look l)):Iq P (look ((f,c) ::l)):=fun id c' hd=>by
 rw[aj] at hd
 split at hd
 ·rename_i e
  injection hd with hd
  subst hd;subst e
  exact ho
 ·exact h id c' hd
theorem sF {rs:List (Bool×List Pat)}:∀{ks:List PK} {j:Nat} {x:TsR (rhB j ks++rhS 0 rs)} {k:Nat},∃(x':TsR (rhS 0 rs)) (k':Nat),vT (rhB j ks++rhS 0 rs) x k=vT (rhS 0 rs) x' k'/\gi (rhB j ks++rhS 0 rs) x k=gi (rhS 0 rs) x' k'
 | [],j,x,k=>⟨x,k,rfl,rfl⟩
 | .d _ ::r,j,x,k=>sF (ks:=r) (j:=j+1) (x:=x)
 | .v _ _ ::r,j,x,k=>sF (ks:=r) (j:=j+1) (x:=x)
 | .b ps ::r,j,x,k=>sF (ks:=r) (j:=j+1) (x:=ma ps x) (k:=k+fm ps)
theorem Dk {E:Env}:∀{rs:List (Bool×List Pat)} {j:Nat} {x:TsR (rhS j rs)} {k:Nat} {us:List Value},us.length=rs.length->(∀i t,look (gi (rhS j rs) x k) i=some (some t)->∃v,j<=i/\us[i - j]?=some v/\ik E t v)->fi E (vT (rhS j rs) x k) us
 | [],_,_,_,[],_,_=>trivial
 | p ::r,j,x,k,u ::us,hl,h=>by
  refine ⟨?_,?_⟩
  ·obtain ⟨v,_,h2,h3⟩:=h j ⟨none,.c p.1 (mY p.2 x k)⟩ (by simp only[rhS,gi];rw[aj,if_pos rfl])
   rw[Nat.sub_self] at h2
   injection h2 with h2
   subst h2
   exact h3
  ·refine Dk (j:=j+1) (x:=ma p.2 x) (k:=k+fm p.2) (by simpa using hl) fun i t hi=>?_
   have hji:j+1<=i:=by
    have key:∀(rs:List (Bool×List Pat)) (j:Nat) (x:TsR (rhS j rs)) (k:Nat),(look (gi (rhS j rs) x k) i).isSome=true->j<=i:=by
     intro rs
     induction rs with
     | nil=>intro j x k h;simp[rhS,gi,look] at h
     | cons p r ih =>
      intro j x k h
      simp only[rhS,gi] at h
      rw[aj] at h
      split at h
      ·omega
      ·have:=ih _ _ _ h;omega
    exact key r (j+1) _ _ (by rw[hi];rfl)
   obtain ⟨v,h1,h2,h3⟩:=h i t (by simp only[rhS,gi];rw[aj,if_neg (by omega)];exact hi)
   refine ⟨v,hji,?_,h3⟩
   rw[show i - j=(i - (j+1))+1 by omega] at h2
   exact h2
 | [],_,_,_,_ ::_,h,_=>by simp at h
 | _ ::_,_,_,_,[],h,_=>by simp at h
theorem SCtr.of_den {C:Ctx} (hC:C.ok) (aE:C.P.follows .mixedOrders=true) {sc:FuncId->Option SCtr} (hsc:Iq C.P sc) {hl:FuncId->Hint} {d:Nat} {f:FuncId} {fn:Func} {code:Code} {c:SCtr} (hf:C.P.funcs[f]?=some fn) (hb:fn.body=some code) (hn:c.ks.length<=fn.ntmps)
  (h:∀x,c.m x=Ml lpK jnK sc C hl d f fn c x):c.ok C.P f:=by
 intro x y hy E vs hP hrg hlen hm
 refine calls_of_wp hf hb (wpIn_wide (n:=0).1 ?_)
 have hmod:Mod fn.ntmps E { tmps:=vs.toArray++Array.replicate (fn.ntmps - vs.toArray.size) undef,defers:=[] } (c.init x).look:=by
  refine ⟨hm.glob,trivial,?_,fun i t hi=>?_,hm.blks,hm.rows,hm.xs⟩
  ·simp only[Array.size_append,Array.size_replicate,List.size_toArray]
   omega
  ·obtain ⟨v,h1,h2⟩:=hm.slots i t hi
   refine ⟨v,?_,h2⟩
   have hlt:=(Array.getElem?_eq_some_iff.1 h1).1
   rw[Array.getElem?_append_left hlt]
   exact h1
 rw[h x] at hy
 unfold Ml at hy
 rw[hb] at hy
 refine fZ (F:=Fence.wide) hC (CI hC aE hsc d) aE (.inl rfl) (fun _=>rfl) hy (fun i hi=>by simp[SCtr.init] at hi) ⟨hP,fun e=>by cases e⟩ (E:=E) hmod fun e σ' E1 a1 hk hs hkp hf' hsl hm'=>?_
 have hdef:a1.defers=[]:=fT.none (hkp.rg.trans hrg) hm'.nodef
 have hP1:E1.P=C.P:=hs.P.trans hP
 have fin:∀svs,lU C.P σ'.look fn.results.toList=some svs->(match H4 svs c.rs&&gx c.out (upN c.rs.length 0) [] (zN c σ'.h) with
   | true=>kJ c.out [] { s:=dP svs 0,h:=σ'.h,r:=σ'.r,next:=0 }
   | false=>none)=some y->a1.defers=[]/\∃v,(results fn a1.tmps).run C.P E1.w=.ok v E1.w/\∃(us:List Value) (E':Env),Ending.returned v=.returned (if h:us.length=1 then us[0] else .tuple us.toArray)/\E'.w=E1.w/\fk E E'/\Keep E.bare E'/\(∀j,E.L j->E'.β j=E.β j)/\MemOk E' (c.fin y).look/\fi E' (vT c.out y 0) us:=fun svs hsv hkk=>by
  split at hkk
  case h_2=>cases hkk
  rename_i hchk
  simp only[z10] at hchk
  obtain ⟨hle,hpl⟩:=hchk
  rw[<-hP1] at hsv
  obtain ⟨us,hu1,hu2⟩:=fG hm' hsv
  rw[hP1] at hu2
  have hlen2:us.length=c.rs.length:=by rw[<-iQ hu1,pW hle]
  refine ⟨hdef,_,hu2,?_⟩
  let E0:Env:={ E1 with L:=fun j=>(look (uH (lu (bS c.out) σ'.h)) j).isSome=true,R:=fun _=>False }
  have hkey:∀i l,look (uH (lu (bS c.out) σ'.h)) i=some l->i ∈ bS c.out/\∃l',look σ'.h i=some l'/\l=uL l':=fun i l hi=>by
   rw[pM,pj] at hi
   split at hi
   ·rename_i hm1
    cases hq:look σ'.h i with
    | none=>rw[hq] at hi;cases hi
    | some l'=>rw[hq] at hi;injection hi with hi;exact ⟨hm1,l',rfl,hi.symm⟩
   ·cases hi
  have hL01:∀j,E0.L j->E1.L j:=fun j hj=>by
   have hj:(look (uH (lu (bS c.out) σ'.h)) j).isSome=true:=hj
   cases hq:look (uH (lu (bS c.out) σ'.h)) j with
   | none=>rw[hq] at hj;cases hj
   | some l =>
    obtain ⟨_,l',h1,_⟩:=hkey j l hq
    exact (hm'.blks j l' h1).1
  have hm0:Mod us.length E0 { tmps:=us.toArray,defers:=[] } (zN c σ'.h).look:=by
   refine ⟨⟨hm'.glob.below,hm'.glob.zlt,hm'.glob.z0,hm'.glob.zfrom,fun j hj=>hj,fun r hr=>hr.elim,fun i l hi=>?_,fun i j l l' hi hj hij=>?_,fun i r b hi=>by simp[zN,St.look,look] at hi,fun i j r r' b hi=>by simp[zN,St.look,look] at hi,⟨fun i x b hi=>by simp[zN,St.look,look] at hi,fun i j x y b hi=>by simp[zN,St.look,look] at hi⟩⟩,trivial,by simp,fun i t hi=>by simp[zN,St.look,fU,look] at hi,fun i l hi=>?_,fun i r hi=>by simp[zN,St.look,look] at hi,fun i x hi=>by simp[zN,St.look,look] at hi⟩
   ·obtain ⟨_,l',h1,_⟩:=hkey i l hi
    exact hm'.glob.own i l' h1
   ·obtain ⟨_,l1,h1,_⟩:=hkey i l hi
    obtain ⟨_,l2,h2,_⟩:=hkey j l' hj
    exact hm'.glob.inj i j l1 l2 h1 h2 hij
   ·obtain ⟨_,l',h1,h2⟩:=hkey i l hi
    obtain ⟨_,cs,t,g2,g3,g4⟩:=hm'.blks i l' h1
    subst h2
    have hi:look (uH (lu (bS c.out) σ'.h)) i=some (uL l'):=hi
    exact ⟨by show (look (uH (lu (bS c.out) σ'.h)) i).isSome=true;rw[hi];rfl,cs,t,g2,GZ g3.length,g4⟩
  have hk01:Keep E0 E1:=⟨rfl,fun y v hv=>by
   cases y with
   | u=>trivial
   | v x=>exact hv
   | ptr b o=>exact ⟨hv.1,hL01 _ hv.2⟩
   | clo g cap=>exact ⟨hv.1,fun p hp=>hL01 _ (hv.2 p hp)⟩
   | sl e l=>exact hv
   | row r=>exact hv.2.1.elim
   | rf s x o=>exact hv
   | re r i sz off=>obtain ⟨_,_,_,h⟩:=hv;exact h.elim
   | sub r lo hi sz=>obtain ⟨_,h⟩:=hv;exact h.elim
   | ae b o e l i d=>exact ⟨hv.1,hL01 _ hv.2⟩
   | sn e l=>exact hv
   | ir r i=>exact hv.2.1.elim
   | ie r i j sz off=>obtain ⟨_,_,_,h,_⟩:=hv;exact h.elim
   | fn a r F=>exact hv,fun b o hb=>hb⟩
  have hm2:Mod us.length E1 { tmps:=us.toArray,defers:=[] } (St.look { s:=dP svs 0,h:=σ'.h,r:=σ'.r,next:=0 }):=by
   have hmm:=hm'.memOk
   refine ⟨hmm.glob.of rfl rfl,trivial,by simp,fun i t hi=>?_,hmm.blks,hmm.rows,hmm.xs⟩
   simp only[St.look,fU] at hi
   split at hi
   ·rename_i t' hl'
    injection hi with hi
    subst hi
    obtain ⟨v,_,h2,h3⟩:=md hu1 i t' hl'
    rw[Nat.sub_zero] at h2
    exact ⟨v,by simpa using h2,h3⟩
   ·cases hi
  obtain ⟨E3,hs13,hw3,hk03,hm3⟩:=jz (rh:=c.out) (W:=upN c.rs.length 0) (srcs:=[]) hpl hm0 hk01 hm2 (x:=y) hkk
   (fun i hi=>by
    show look (dP svs 0) i=none
    cases hq:look (dP svs 0) i with
    | none=>rfl
    | some u =>
     have:=vh (by rw[hq];rfl:(look (dP svs 0) i).isSome=true)
     exact absurd (H5.2 (by rw[<-pW hle];omega)) hi)
   (fun i hi=>by
    rcases List.mem_append.1 hi with hi | hi
    ·have h1:=nH hi
     have h2:(look (uH (lu (bS c.out) σ'.h)) i).isSome=true:=gH hi
     cases hq:look (uH (lu (bS c.out) σ'.h)) i with
     | none=>rw[hq] at h2;cases h2
     | some l=>exact absurd (hkey i l hq).1 h1
    ·cases hi)
   (fun i hi=>by
    rcases List.mem_append.1 hi with hi | hi<;>cases hi)
  have hh:look (dF c.out y 0++uH (lu (bS c.out) σ'.h))=look (dF c.out y 0):=by
   funext i
   rw[aU]
   cases hq:look (dF c.out y 0) i with
   | some l=>rfl
   | none =>
    simp only
    cases hq2:look (uH (lu (bS c.out) σ'.h)) i with
    | none=>rfl
    | some l =>
     have:=(fL (x:=y) (k:=0)).2 (hkey i l hq2).1
     rw[hq] at this
     cases this
  have hrr:dk c.out y 0++(lX []++[])=dk c.out y 0:=by simp[lX]
  refine ⟨us,E3,rfl,hw3,hs.trans hs13,⟨by rw[hk03.rg];exact hkp.rg,fun z v hv=>?_,fun b o hb=>hk03.obj b o (hkp.obj b o hb)⟩,fun j hj=>?_,?_,?_⟩
  ·apply hk03.at'
   cases z with
   | u=>trivial
   | v x=>exact hv
   | ptr b o=>exact hv.2.elim
   | clo g cap=>exact ⟨(hkp.at' (.clo g cap) v ⟨hv.1,fun p hp=>(hv.2 p hp).elim⟩).1,fun p hp=>(hv.2 p hp).elim⟩
   | sl e l=>exact hkp.at' (.sl e l) v hv
   | row r=>exact hv.2.1.elim
   | rf s x o=>exact hkp.at' (.rf s x o) v hv
   | re r i sz off=>obtain ⟨_,_,_,h⟩:=hv;exact h.elim
   | sub r lo hi sz=>obtain ⟨_,h⟩:=hv;exact h.elim
   | ae b o e l i d=>exact hv.2.elim
   | sn e l=>exact hkp.at' (.sn e l) v hv
   | ir r i=>exact hv.2.1.elim
   | ie r i j sz off=>obtain ⟨_,_,_,h,_⟩:=hv;exact h.elim
   | fn a r F=>exact hkp.at' (.fn a r F) v hv
  ·obtain ⟨g1,g2⟩:=hkp.at' (.ptr j 0) (gd E.β (j,0)) ⟨rfl,hj⟩
   have g3:(look (dF (rhI 0 c.ks) x 0) j).isSome=true:=hm.glob.live j hj
   have g4:=(fL).1 g3
   rw[rT] at g4
   have g5:j ∈ bS c.out:=by rw[rP,FSs,List.append_nil];exact g4
   have g6:(look σ'.h j).isSome=true:=hm'.glob.live j g2
   have g7:E0.L j:=by
    show (look (uH (lu (bS c.out) σ'.h)) j).isSome=true
    rw[pM,pj,if_pos g5]
    cases hq:look σ'.h j with
    | none=>rw[hq] at g6;cases g6
    | some l=>rfl
   obtain ⟨g8,_⟩:=hk03.at' (.ptr j 0) (gd E1.β (j,0)) ⟨rfl,g7⟩
   have e1:E.β j=E1.β j:=by simpa [gd] using g1
   have e2:E1.β j=E3.β j:=by simpa [gd] using g8
   rw[e1,e2]
  ·have:=hm3.memOk
   exact this.of (g':=(c.fin y).look) hh.symm (by show look (dk c.out y 0)=look (dk c.out y 0++(lX []++[]));rw[hrr])
  ·obtain ⟨x',k',q1,q2⟩:=sF (rs:=c.rs) (ks:=c.ks) (j:=0) (x:=y) (k:=0)
   show fi E3 (vT (rhB 0 c.ks++rhS 0 c.rs) y 0) us
   rw[q1]
   refine Dk hlen2 fun i t hi=>?_
   obtain ⟨v,h1,h2⟩:=hm3.slots i t (by
    show fU (gi c.out y 0++pa (upN c.rs.length 0) []) i=some t
    unfold fU
    rw[show gi c.out y 0=gi (rhS 0 c.rs) x' k' from q2,aU,hi])
   exact ⟨v,Nat.zero_le _,by simpa using h1,h2⟩
 cases e with
 | normal =>
  simp only[NI] at hk
  split at hk
  ·rename_i svs hsv;exact fin svs hsv hk
  ·cases hk
 | ret =>
  simp only[NI] at hk
  split at hk
  ·rename_i svs hsv;exact fin svs hsv hk
  ·cases hk
 | exit i=>cases hk
def Ma (P:Program) (s:Sh) (r:RSh) (rv:Array ResultVar):Ex->St->Option (s.T×r.T)
 | .exit _,_=>none
 | _,σ=>match lU P σ.look rv.toList,look σ.h 0 with
  | some vs,some l=>match mR s l,nN r vs with
   | some x,some z=>some (x,z)
   | _,_=>none
  | _,_=>none
def Sf (lp:Lp) (jn:Jn) (C:Ctx) (hl:FuncId->Hint) (d:Nat) (id:FuncId) (fn:Func) (c:MCtr) (x:c.s.T) (y:TsS c.as):Option (c.s.T×c.r.T) :=
 den lp jn (zF lp jn C hl d) C fn.ntmps { hl id with inner:=true } (fn.body.getD .skip) { s:=(0,some ⟨none,.c false [.ptr 0 0]⟩) ::ki c.as y 1,h:=[(0,c.s.cells x)],r:=[],next:=1 } (Ma C.P c.s c.r fn.results)
theorem yY {w:World} {Z Z':Nat->Prop} (hZ:∀b,Z b->Z' b):∀{as:List Sh} {x:TsS as} {vs:List Value},df w Z as x vs->df w Z' as x vs
 | [],_,_,h=>h
 | _ ::_,_,_,h=>by
  simp only[df] at h ⊢
  obtain ⟨v,vs',h1,⟨cs,h2,h3,h4⟩,h5⟩:=h
  exact ⟨v,vs',h1,⟨cs,Dat.mono hZ (fun _ _=>rfl) h2,h3,h4⟩,yY hZ h5⟩
theorem MCtr.of_den {C:Ctx} (hC:C.ok) (aE:C.P.follows .mixedOrders=true) {hl:FuncId->Hint} {d:Nat} {f:FuncId} {fn:Func} {code:Code} {c:MCtr} (hf:C.P.funcs[f]?=some fn) (hb:fn.body=some code) (hn:c.as.length+1<=fn.ntmps) (hfl:(c.s.flat&&c.r.flat)=true)
  (h:∀x y,c.m x y=Sf lpK jnK C hl d f fn c x y):c.ok C.P f:=by
 intro x y z hz w Z b cs t vals hZ hnZ hheap hd hone hvals
 simp only[z10] at hfl
 have hblt:b<w.heap.size:=(Array.getElem?_eq_some_iff.1 hheap).1
 refine calls_of_wp hf hb (wpIn_wide (n:=0).1 ?_)
 let E:Env:={ P:=C.P,w0:={ w with heap:=w.heap.extract 0 b },Z0:=fun k=>k<w.heap.size/\k≠b,w:=w,Z:=fun k=>k<w.heap.size/\k≠b,β:=fun _=>b,L:=fun i=>i=0,ρ:=fun _=>undef,R:=fun _=>False,φ:=fun _ _=>False,ι:=fun _ _=>undef,ν:=fun _=>0,rg:=false }
 have hw0:E.w0.heap.size=b:=by show (w.heap.extract 0 b).size=b;rw[Array.size_extract];omega
 have hbelow:Below E.w0.heap.size E.w0 E.w:=⟨rfl,rfl,rfl,by rw[hw0];exact Nat.le_of_lt hblt,fun k hk=>by
  rw[hw0] at hk
  show w.heap[k]?=(w.heap.extract 0 b)[k]?
  rw[Array.getElem?_extract]
  simp[hk]
  omega⟩
 have hdz:df E.w E.Z c.as y vals:=yY (fun k hk=>⟨hZ k hk,fun e=>hnZ (by rw[<-e];exact hk)⟩) hvals
 have hlen:vals.length=c.as.length:=hdz.length
 have hdat:Dat E.w E.Z c.s x cs:=Dat.flat hfl.1 hd
 have hmod:Mod fn.ntmps E { tmps:=(Value.pointer (some ⟨b,0,none⟩) ::vals).toArray++Array.replicate (fn.ntmps - (Value.pointer (some ⟨b,0,none⟩) ::vals).toArray.size) undef,defers:=[] } ({ s:=(0,some ⟨none,.c false [.ptr 0 0]⟩) ::ki c.as y 1,h:=[(0,c.s.cells x)],r:=[],next:=1 }:St).look:=by
  have hh:∀i l,look [(0,c.s.cells x)] i=some l->i=0/\l=c.s.cells x:=fun i l hi=>by
   rw[aj] at hi
   split at hi
   ·rename_i e;injection hi with hi;exact ⟨e,hi.symm⟩
   ·simp[look] at hi
  refine ⟨⟨hbelow,fun k hk=>hk.1,fun k hk=>hk,fun k hk=>.inl hk,fun k hk=>?_,fun r hr=>hr.elim,fun i l hi=>⟨?_,fun hz=>hz.2 rfl⟩,fun i j l l' hi hj _=>?_,fun i r k hi=>by simp[St.look,look] at hi,fun i j r r' k hi=>by simp[St.look,look] at hi,⟨fun i x k hi=>by simp[St.look,look] at hi,fun i j x y k hi=>by simp[St.look,look] at hi⟩⟩,trivial,?_,fun i t' hi=>?_,fun i l hi=>?_,fun i r hi=>by simp[St.look,look] at hi,fun i x hi=>by simp[St.look,look] at hi⟩
  ·have hk:k=0:=hk
   subst hk
   rfl
  ·rw[hw0];exact Nat.le_refl _
  ·exact (hh i l hi).1.trans (hh j l' hj).1.symm
  ·simp only[Array.size_append,List.size_toArray,Array.size_replicate,List.length_cons]
   omega
  ·have get:∀v',(Value.pointer (some ⟨b,0,none⟩) ::vals)[i]?=some v'->((Value.pointer (some ⟨b,0,none⟩) ::vals).toArray++Array.replicate (fn.ntmps - (Value.pointer (some ⟨b,0,none⟩) ::vals).toArray.size) undef)[i]?=some v':=fun v' hv'=>by
    have hlt:=(List.getElem?_eq_some_iff.1 hv').1
    rw[Array.getElem?_append_left (by simpa using hlt)]
    simpa using hv'
   simp only[St.look,fU] at hi
   split at hi
   ·rename_i s' hl'
    injection hi with hi
    subst hi
    rw[aj] at hl'
    split at hl'
    ·rename_i e
     subst e
     simp only[Option.some.injEq] at hl'
     subst hl'
     exact ⟨_,get _ rfl,⟨[_],rfl,⟨⟨rfl,rfl⟩,trivial⟩,fun _=>rfl⟩⟩
    ·obtain ⟨v',h3,h2,h4⟩:=gg (E:=E) hdz i s' hl'
     refine ⟨v',get v' ?_,h4⟩
     rw[show i=(i - 1)+1 by omega]
     exact h2
   ·cases hi
  ·obtain ⟨rfl,rfl⟩:=hh i l hi
   exact ⟨rfl,cs,t,hheap,hdat.rel,hone⟩
 have hrun:=hz
 rw[h x y] at hrun
 unfold Sf at hrun
 rw[hb] at hrun
 refine fZ (F:=Fence.wide) hC (nP hC aE d) aE (.inl rfl) (fun _=>rfl) hrun (fun i hi=>by simp at hi) ⟨rfl,fun e=>by cases e⟩ (E:=E) hmod fun e σ' E1 a1 hk hs hkp hf' hsl hm'=>?_
 have hdef:a1.defers=[]:=fT.none (hkp.rg.trans rfl) hm'.nodef
 have hP1:E1.P=C.P:=hs.P
 have h0:E1.w0=E.w0:=hs.w0
 have fin:Ma C.P c.s c.r fn.results .normal σ'=some z->a1.defers=[]/\∃v,(results fn a1.tmps).run C.P E1.w=.ok v E1.w/\∃u cs' Z' t',Ending.returned v=.returned u/\nG E1.w Z' c.r z.2 u/\E1.w.heap[b]?=some (.cells cs'.toArray t' (0,0))/\Dat E1.w Z' c.s z.1 cs'/\(∀b,Z' b->False)/\(∀v ∈ cs',v.oneCell'=true) /\
   E1.w.os=w.os/\E1.w.tape=w.tape/\E1.w.output=w.output/\w.heap.size<=E1.w.heap.size/\∀k,k<w.heap.size->k≠b->E1.w.heap[k]?=w.heap[k]?:=fun hkk=>by
  simp only[Ma] at hkk
  split at hkk
  case h_2=>cases hkk
  rename_i vs l hvs hl
  split at hkk
  case h_2=>cases hkk
  rename_i x' z' hx hzz
  injection hkk with hkk
  subst hkk
  rw[<-hP1] at hvs
  obtain ⟨us,hu1,hu2⟩:=fG hm' hvs
  rw[hP1] at hu2
  obtain ⟨g1,g2⟩:=hkp.at' (.ptr 0 0) (gd E.β (0,0)) ⟨rfl,rfl⟩
  have hβ:E1.β 0=b:=by
   have:(⟨b,0,none⟩:Addr)=⟨E1.β 0,0,none⟩:=by simpa [gd] using g1
   injection this with e1
   exact e1.symm
  obtain ⟨_,cs',t',k1,k2,k3⟩:=hm'.blks 0 l hl
  rw[hβ] at k1
  unfold mR at hx
  split at hx
  case h_2=>cases hx
  rename_i x2 hx2
  injection hx with hx
  subst hx
  obtain ⟨c1,c2,rfl,d1,d2⟩:=dH hx2 k2
  match c2,d2 with
  | [],_ =>
  rw[List.append_nil] at k1 k3
  have hblk:∀k,k<w.heap.size->k≠b->E1.w.heap[k]?=w.heap[k]?:=fun k hk1 hk2=>by
   by_cases hkb:k<b
   ·have h1:=hm'.glob.below
    rw[h0] at h1
    rw[h1.block k (by rw[hw0];exact hkb)]
    exact (hbelow.block k (by rw[hw0];exact hkb)).symm
   ·obtain ⟨o,ho⟩:∃o,w.heap[k]?=some o:=⟨_,Array.getElem?_eq_getElem hk1⟩
    rw[ho]
    exact (hkp.obj k o ⟨⟨hk1,hk2⟩,by rw[hw0];omega,ho⟩).2.2
  have hbel:=hm'.glob.below
  rw[h0] at hbel
  refine ⟨hdef,_,hu2,_,c1,fun _=>False,t',rfl,nG.flat hfl.2 (rS (E:=E1) hzz hu1),k1,Dat.flat hfl.1 d1,fun _ h=>h,k3,hbel.os,hbel.tape,hbel.output,?_,hblk⟩
  by_cases hsz:w.heap.size<=E1.w.heap.size
  ·exact hsz
  ·exfalso
   by_cases e1:b+1=w.heap.size
   ·have:=(Array.getElem?_eq_some_iff.1 k1).1
    omega
   ·have h1:=hblk (w.heap.size - 1) (by omega) (by omega)
    have h2:E1.w.heap[w.heap.size - 1]?=none:=Array.getElem?_eq_none (by omega)
    rw[h2] at h1
    have h3:w.heap[w.heap.size - 1]?=some w.heap[w.heap.size - 1]:=Array.getElem?_eq_getElem (by omega)
    rw[h3] at h1
    cases h1
 cases e with
 | normal=>exact fin hk
 | ret=>exact fin hk
 | exit i=>cases hk
end
end Dn
end
end Go.Proofs.YtegbncajloeepaaGreat
