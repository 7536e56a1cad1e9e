/- A symbolic executor: what is handed in at the law's own door is data of a shape: each argument that reads has such a datum, well formed. -/
import Derived.ProofKit
import Derived.Deep.Slices
import Derived.OpenShut
import Derived.KernelRfl
import Derived.Test.YtlfdhaiigdllcaaGreatDoorMgL

namespace Go.Proofs.YtlfdhaiigdllcaaGreatDoor
namespace Dn
noncomputable section
open Go.RowKit Go.WideShapes Go.ChangeShapes
def Sh.wf:(s:Sh)->s.T->Prop
 | .int k,n=>(Lit.int k n).wf=true
 | .bool,_=>True
 | .str,b=>b.size<=maxLen
 | .sl e,l=>l.length<=maxLen/\∀x ∈ l,e.wf x
 | .pair a b,x=>a.wf x.1/\b.wf x.2
 | .agg e,x=>e.wf x
 | .ref,_=>False
theorem Sh.size_pos:∀s:Sh,0<s.size
 | .int _=>Nat.one_pos
 | .bool=>Nat.one_pos
 | .str=>Nat.one_pos
 | .sl _=>Nat.one_pos
 | .pair a b=>by have:=Sh.size_pos a;simp only[Sh.size];omega
 | .agg e=>Sh.size_pos e
 | .ref=>Nat.one_pos
def leafT (P:Program) (n:Nat):TypeId ⊕ (Nat×List Field)->Option TypeId
 | .inl t=>some t
 | .inr (off,[f])=>match Nat.beq f.offset off&&Nat.beq (P.cellsOf f.type) n with
  | true=>some f.type
  | false=>none
 | _=>none
def isIntT (P:Program) (k:IntKind) (t:TypeId):Bool:=match P.underlying t with
 | some (.int k')=>decide (k'=k)
 | _=>false
def isBoolT (P:Program) (t:TypeId):Bool:=match P.underlying t with
 | some .bool=>true
 | _=>false
def isStrT (P:Program) (t:TypeId):Bool:=match P.underlying t with
 | some .string=>true
 | _=>false
def arrFields (P:Program) (u:TypeId):Nat->Nat->List Field
 | 0,_=>[]
 | n + 1, i => { name := "", type := u, offset := i * P.cellsOf u, embedded := false, tag := "", pkgPath := "", byteOffset := 0 } :: arrFields P u n (i + 1)
def chk (P:Program):Sh->TypeId ⊕ (Nat×List Field)->Bool
 | .int k,x=>match leafT P 1 x with
  | some t=>isIntT P k t
  | none=>false
 | .bool,x=>match leafT P 1 x with
  | some t=>isBoolT P t
  | none=>false
 | .str,x=>match leafT P 1 x with
  | some t=>isStrT P t
  | none=>false
 | .sl e,x=>match leafT P 1 x with
  | some t=>match P.underlying t with
   | some (.slice u)=>Nat.beq (P.cellsOf u) e.size&&chk P e (.inl u)
   | _=>false
  | none=>false
 | .pair a b,.inr (off,f ::g ::r)=>Nat.beq f.offset off&&Nat.beq (P.cellsOf f.type) a.size&&chk P a (.inl f.type)&&chk P b (.inr (off+a.size,g ::r))
 | .pair _ _,_=>false
 | .agg e,x=>match leafT P e.size x with
  | some t=>match P.underlying t with
   | some (.struct fs)=>Nat.beq (P.cellsOf t) e.size&&chk P e (.inr (0,fs.toList))
   | some (.array n u)=>Nat.beq (P.cellsOf t) e.size&&chk P e (.inr (0,arrFields P u n 0))
   | _=>false
  | none=>false
 | .ref,_=>false
section
variable {H:Type} {enc:TypeId×Value->H} {P:Program} {w:World} {sp:Nat->Bool} {held:Bool}
def inHeap (w:World):Nat->Prop:=fun b=>b<w.heap.size
theorem leafT_inr {n off:Nat} {fl:List Field} {t:TypeId} (h:leafT P n (.inr (off,fl))=some t):∃f,fl=[f]/\f.offset=off/\P.cellsOf f.type=n/\f.type=t:=by
 unfold leafT at h
 split at h
 ·rename_i heq;cases heq
 ·rename_i o f heq
  injection heq with heq
  simp only[Prod.mk.injEq] at heq
  obtain ⟨rfl,rfl⟩:=heq
  split at h
  ·rename_i hb
   simp only[Bool.and_eq_true,Nat.beq_eq] at hb
   injection h with h
   exact ⟨f,rfl,hb.1,hb.2,h⟩
  ·cases h
 ·cases h
theorem chk_leaf:∀{s:Sh} {off:Nat} {fl:List Field},(∀a b,s≠.pair a b)->chk P s (.inr (off,fl))=true->∃f,fl=[f]/\f.offset=off/\P.cellsOf f.type=s.size/\chk P s (.inl f.type)=true:=by
 intro s off fl hs h
 cases s with
 | pair a b=>exact absurd rfl (hs a b)
 | ref=>simp[chk] at h
 | int k =>
  simp only[chk] at h
  split at h
  ·rename_i t ht
   obtain ⟨f,rfl,h1,h2,rfl⟩:=leafT_inr ht
   exact ⟨f,rfl,h1,h2,by simpa only[chk,leafT] using h⟩
  ·cases h
 | bool =>
  simp only[chk] at h
  split at h
  ·rename_i t ht
   obtain ⟨f,rfl,h1,h2,rfl⟩:=leafT_inr ht
   exact ⟨f,rfl,h1,h2,by simpa only[chk,leafT] using h⟩
  ·cases h
 | str =>
  simp only[chk] at h
  split at h
  ·rename_i t ht
   obtain ⟨f,rfl,h1,h2,rfl⟩:=leafT_inr ht
   exact ⟨f,rfl,h1,h2,by simpa only[chk,leafT] using h⟩
  ·cases h
 | sl e =>
  simp only[chk] at h
  split at h
  ·rename_i t ht
   obtain ⟨f,rfl,h1,h2,rfl⟩:=leafT_inr ht
   exact ⟨f,rfl,h1,h2,by simpa only[chk,leafT] using h⟩
  ·cases h
 | agg e =>
  simp only[chk] at h
  split at h
  ·rename_i t ht
   obtain ⟨f,rfl,h1,h2,rfl⟩:=leafT_inr ht
   exact ⟨f,rfl,h1,h2,by simpa only[chk,leafT] using h⟩
  ·cases h
def TrodTo (enc:TypeId×Value->H) (P:Program) (w:World) (sp:Nat->Bool) (held:Bool) (s:Sh):Prop :=
 ∀t fuel cs r,chk P s (.inl t)=true->DataW.trod enc P w 0 sp held fuel t cs=some r->∃y:s.T,Dat w (inHeap w) s y cs/\s.wf y
def FieldsTo (enc:TypeId×Value->H) (P:Program) (w:World) (sp:Nat->Bool) (held:Bool) (s:Sh):Prop :=
 ∀off fl (cs:List Value),chk P s (.inr (off,fl))=true->(∀f ∈ fl,∃n r,DataW.trod enc P w 0 sp held n f.type ((cs.drop f.offset).take (P.cellsOf f.type))=some r)->cs.length=off+s.size ->
  ∃y:s.T,Dat w (inHeap w) s y (cs.drop off)/\s.wf y
theorem fields_leaf {s:Sh} (hs:∀a b,s≠.pair a b) (h:TrodTo enc P w sp held s):FieldsTo enc P w sp held s:=by
 intro off fl cs hc hf hl
 obtain ⟨f,rfl,rfl,h2,h3⟩:=chk_leaf hs hc
 obtain ⟨n,r,hr⟩:=hf f (by simp)
 rw[h2,List.take_of_length_le (by simp;omega)] at hr
 exact h _ _ _ _ h3 hr
theorem arrFields_mem {u:TypeId}:∀{n i:Nat} {f:Field},f ∈ arrFields P u n i->∃j,j<n/\f.type=u/\f.offset=(i+j)*P.cellsOf u
 | n+1,i,f,h=>by
  rcases List.mem_cons.1 h with rfl | h
  ·exact ⟨0,by omega,rfl,by simp⟩
  ·obtain ⟨j,h1,h2,h3⟩:=arrFields_mem h
   exact ⟨j+1,by omega,h2,by rw[h3];congr 1;omega⟩
 | 0,_,_,h=>by cases h
theorem trod_both:∀s:Sh,TrodTo enc P w sp held s/\FieldsTo enc P w sp held s
 | .ref=>⟨fun t fuel cs r hc _=>by simp[chk] at hc,fun off fl cs hc _ _=>by simp[chk] at hc⟩
 | .int k=>by
  have h:TrodTo enc P w sp held (.int k):=by
   intro t fuel cs r hc hr
   simp only[chk,leafT,isIntT] at hc
   split at hc
   ·rename_i k' ht
    have hk:k'=k:=by simpa using hc
    subst hk
    obtain ⟨n,rfl,_,hw⟩:=DataW.trod_int ht hr
    exact ⟨n,rfl,hw⟩
   ·cases hc
  exact ⟨h,fields_leaf (by simp) h⟩
 | .bool=>by
  have h:TrodTo enc P w sp held .bool:=by
   intro t fuel cs r hc hr
   simp only[chk,leafT,isBoolT] at hc
   split at hc
   ·rename_i ht
    obtain ⟨n,rfl,_⟩:=DataW.trod_bool ht hr
    exact ⟨n,rfl,trivial⟩
   ·cases hc
  exact ⟨h,fields_leaf (by simp) h⟩
 | .str=>by
  have h:TrodTo enc P w sp held .str:=by
   intro t fuel cs r hc hr
   simp only[chk,leafT,isStrT] at hc
   split at hc
   ·rename_i ht
    obtain ⟨n,rfl,_,hw⟩:=DataW.trod_string ht hr
    exact ⟨n,rfl,hw⟩
   ·cases hc
  exact ⟨h,fields_leaf (by simp) h⟩
 | .sl e=>by
  have h:TrodTo enc P w sp held (.sl e):=by
   intro t fuel cs r hc hr
   simp only[chk,leafT] at hc
   split at hc
   ·rename_i u ht
    simp only[Bool.and_eq_true,Nat.beq_eq] at hc
    obtain ⟨hz,hce⟩:=hc
    rcases Deep.open_slice ht hr with ⟨rfl,_⟩ | ⟨ad,len,cap,m,n,D,Pl,rfl,_,hl,hm,hmm,_,hx⟩
    ·exact ⟨([]:List e.T),⟨none,0,rfl,Nat.le_refl _,fun _=>rfl,fun h0=>absurd h0 (by simp)⟩,by simp[maxLen],by simp⟩
    ·have hle:len<=m:=by rw[hmm];split<;>omega
     have one:∀i,i<len->∃y:e.T,(∃ecs,Dat w (inHeap w) e y ecs/\w.cells? 0 (ad.add (i*e.size)) e.size=some ecs)/\e.wf y:=by
      intro i hi
      obtain ⟨cs',h1,h2⟩:=hx i (by omega)
      rw[hz] at h1
      obtain ⟨y,h3,h4⟩:=(trod_both e).1 _ _ _ _ hce h2
      exact ⟨y,⟨cs',h3,h1⟩,h4⟩
     have:Inhabited e.T:=⟨e.dflt⟩
     obtain ⟨f,hf⟩:=Deep.choose_lt one
     refine ⟨((List.range len).map f:List e.T),⟨some ad,cap,by simp,by simpa using hl,fun h=>(by cases h),fun h0=>⟨ad,rfl,?_,fun k x hk=>?_⟩⟩,by simp;omega,fun x hxm=>?_⟩
     ·have h0:0<len:=by simpa using h0
      obtain ⟨⟨ecs,h1,h2⟩,_⟩:=hf 0 h0
      have hlen:=h1.len
      have hpos:0<e.size:=Sh.size_pos e
      obtain ⟨_,_,h3⟩:=World.cells?_some h2
      have h3:=h3 0 hpos
      have:(ecs[0]?).isSome=true:=by simp;omega
      rw[<-h3] at this
      unfold inHeap
      refine Decidable.byContradiction fun hge=>?_
      have hnone:w.heap[((ad.add (0*e.size)).add 0).block]?=none:=by
       rw[Array.getElem?_eq_none_iff]
       have:((ad.add (0*e.size)).add 0).block=ad.block:=by simp[Addr.add]
       rw[this]
       omega
      unfold World.cell? at this
      rw[hnone] at this
      simp at this
     ·obtain ⟨hk1,rfl⟩:k<len/\f k=x:=by
       rw[List.getElem?_map] at hk
       cases hr:(List.range len)[k]? with
       | none=>rw[hr] at hk;cases hk
       | some j =>
        rw[hr] at hk
        have:=List.getElem?_eq_some_iff.1 hr
        obtain ⟨h1,h2⟩:=this
        simp at h1 h2
        subst h2
        exact ⟨h1,by simpa using hk⟩
      obtain ⟨⟨ecs,h1,h2⟩,_⟩:=hf k hk1
      obtain ⟨_,hl',h3⟩:=World.cells?_some h2
      refine ⟨ecs,h1,fun j v hj=>?_⟩
      have hjl:=(List.getElem?_eq_some_iff.1 hj).1
      rw[<-Deep.add_add,h3 j (by omega)]
      exact hj
     ·obtain ⟨i,hi,rfl⟩:=List.mem_map.1 hxm
      exact (hf i (by simpa using hi)).2
   ·cases hc
  exact ⟨h,fields_leaf (by simp) h⟩
 | .pair a b=>by
  refine ⟨fun t fuel cs r hc=>by simp[chk] at hc,fun off fl cs hc hf hl=>?_⟩
  match fl,hc with
  | f ::g ::r,hc =>
   simp only[chk,Bool.and_eq_true,Nat.beq_eq] at hc
   obtain ⟨⟨⟨h1,h2⟩,h3⟩,h4⟩:=hc
   simp only[Sh.size] at hl
   obtain ⟨n,y,hy⟩:=hf f (by simp)
   obtain ⟨ya,g1,g2⟩:=(trod_both a).1 _ _ _ _ h3 hy
   obtain ⟨yb,g3,g4⟩:=(trod_both b).2 _ _ cs h4 (fun f' hf'=>hf f' (List.mem_cons_of_mem _ hf')) (by omega)
   refine ⟨((ya,yb):a.T×b.T),⟨_,_,?_,g1,g3⟩,g2,g4⟩
   rw[h1,h2,<-List.drop_drop,List.take_append_drop]
 | .agg e=>by
  have h:TrodTo enc P w sp held (.agg e):=by
   intro t fuel cs r hc hr
   simp only[chk,leafT] at hc
   split at hc
   ·rename_i fs ht
    simp only[Bool.and_eq_true,Nat.beq_eq] at hc
    obtain ⟨hz,hc⟩:=hc
    obtain ⟨xs,n,_,_,hl,hxl,hx⟩:=DataW.trod_struct ht hr
    obtain ⟨y,h1,h2⟩:=(trod_both e).2 0 _ cs hc (fun f hf=>by
     obtain ⟨i,hi,rfl⟩:=List.getElem_of_mem hf
     have hi':i<fs.size:=by simpa using hi
     have:=hx i fs[i] (Array.getElem?_eq_getElem hi')
     rw[List.getElem?_eq_getElem (by omega)] at this
     exact ⟨n,_,by simpa using this⟩) (by rw[Nat.zero_add,<-hz];exact hl)
    exact ⟨y,h1,h2⟩
   ·rename_i n u ht
    simp only[Bool.and_eq_true,Nat.beq_eq] at hc
    obtain ⟨hz,hc⟩:=hc
    obtain ⟨xs,m,_,_,hl,hxl,hx⟩:=DataW.trod_array ht hr
    obtain ⟨y,h1,h2⟩:=(trod_both e).2 0 _ cs hc (fun f hf=>by
     obtain ⟨j,hj,h1,h2⟩:=arrFields_mem hf
     have:=hx j hj
     rw[List.getElem?_eq_getElem (by omega)] at this
     exact ⟨m,_,by rw[h1,h2,Nat.zero_add];exact this⟩) (by rw[Nat.zero_add,<-hz];exact hl)
    exact ⟨y,h1,h2⟩
   ·cases hc
  exact ⟨h,fields_leaf (by simp) h⟩
theorem trod_datV {s:Sh} {t:TypeId} {v:Value} {d:DataW H} {ps:List MemPlace} {r:Reach} {b0:Nat} (hc:chk P s (.inl t)=true) (hv:Value.okWide P w r b0 t v) (h:DataW.Trod enc P w 0 sp held t v d ps):∃y:s.T,DatV w (inHeap w) s y v/\s.wf y:=by
 obtain ⟨fuel,hf⟩:=h
 obtain ⟨y,h1,h2⟩:=(trod_both s).1 _ _ _ _ hc hf
 refine ⟨y,⟨v.cells.toList,h1,?_,fun _=>?_⟩,h2⟩
 ·cases s with
  | agg e =>
   simp only[chk,leafT] at hc
   split at hc
   ·rename_i fs ht
    obtain ⟨cs,rfl,_⟩:=okWide_struct ht hv
    simp[Value.cells,mkV,Sh.isAgg]
   ·rename_i n u ht
    simp only[Value.okWide,ht] at hv
    obtain ⟨cs,rfl,_⟩:=hv
    simp[Value.cells,mkV,Sh.isAgg]
   ·cases hc
  | pair a b=>simp[chk] at hc
  | ref=>simp[chk] at hc
  | int k =>
   simp only[chk,leafT,isIntT] at hc
   split at hc
   ·rename_i k' ht
    cases v<;>first | (simp[Value.okWide,ht,Cell.okWide,Cell.ok] at hv;done) | (simp[Value.cells,mkV,Sh.isAgg];done)
   ·cases hc
  | bool =>
   simp only[chk,leafT,isBoolT] at hc
   split at hc
   ·rename_i ht
    cases v<;>first | (simp[Value.okWide,ht,Cell.okWide,Cell.ok] at hv;done) | (simp[Value.cells,mkV,Sh.isAgg];done)
   ·cases hc
  | str =>
   simp only[chk,leafT,isStrT] at hc
   split at hc
   ·rename_i ht
    cases v<;>first | (simp[Value.okWide,ht,Cell.okWide,Cell.ok] at hv;done) | (simp[Value.cells,mkV,Sh.isAgg];done)
   ·cases hc
  | sl e =>
   simp only[chk,leafT] at hc
   split at hc
   ·rename_i u ht
    cases v<;>first | (simp[Value.okWide,ht,Cell.okWide,Cell.ok] at hv;done) | (simp[Value.cells,mkV,Sh.isAgg];done)
   ·cases hc
 ·rename_i ha
  have:=h1.len
  cases s<;>simp[Sh.isAgg] at ha<;>simp[Sh.size] at this<;>first | simpa using this | (simp[chk] at hc)
def chkTs (P:Program):List Sh->List TypeId->Bool
 | [],[]=>true
 | s ::r,t ::ts=>chk P s (.inl t)&&P.readableRec t&&decide (t<P.types.size)&&chkTs P r ts
 | _,_=>false
def wfs:(l:List Sh)->TsS l->Prop
 | [],_=>True
 | s ::r,x=>s.wf x.1/\wfs r x.2
theorem trodAll_datVs {r:Reach} {b0:Nat}:∀{as:List Sh} {ts:List TypeId} {vs:List Value} {ds:List (DataW H)} {ps:List MemPlace},chkTs P as ts=true ->
  (∀(j:Nat) t v,ts[j]?=some t->vs[j]?=some v->Value.okWide P w r b0 t v)->DataW.TrodAll enc P w 0 sp held ts vs ds ps->∃x:TsS as,DatVs w (inHeap w) as x vs/\wfs as x
 | [],[],[],_,_,_,_,_=>⟨(),rfl,trivial⟩
 | s ::r',t ::ts,v ::vs,d ::ds,ps,hc,hv,h=>by
  simp only[chkTs,Bool.and_eq_true] at hc
  obtain ⟨p,q,h1,h2,_⟩:=h
  obtain ⟨y,g1,g2⟩:=trod_datV hc.1.1.1 (hv 0 t v rfl rfl) h1
  obtain ⟨x,g3,g4⟩:=trodAll_datVs hc.2 (fun j t' v' ht hv'=>hv (j+1) t' v' ht hv') h2
  exact ⟨((y,x):s.T×TsS r'),by simp only[DatVs];exact ⟨v,vs,rfl,g1,g3⟩,g2,g4⟩
 | [],[],_ ::_,_,_,_,_,h=>by simp[DataW.TrodAll] at h
 | _ ::_,_ ::_,[],_,_,_,_,h=>by simp[DataW.TrodAll] at h
 | _ ::_,_ ::_,_ ::_,[],_,_,_,h=>by simp[DataW.TrodAll] at h
 | [],_ ::_,_,_,_,hc,_,_=>by simp[chkTs] at hc
 | _ ::_,[],_,_,_,hc,_,_=>by simp[chkTs] at hc
theorem trodAll_below (hl:laidOutB P=true) {W':World} (hb:Below w.heap.size w W') {sp':Nat->Bool}:∀{as:List Sh} {ts:List TypeId} {vs:List Value} {ds:List (DataW H)} {ps:List MemPlace},chkTs P as ts=true ->
  DataW.TrodAll enc P w 0 (fun _=>true) true ts vs ds ps->(∀p ∈ ps,p.block<w.heap.size)->(∀p ∈ ps,sp' p.block=true)->DataW.TrodAll enc P W' 0 sp' true ts vs ds ps
 | [],[],[],[],_,_,h,_,_=>h
 | s ::r',t ::ts,v ::vs,d ::ds,ps,hc,h,hlt,hs=>by
  simp only[chkTs,Bool.and_eq_true,decide_eq_true_eq] at hc
  obtain ⟨p,q,h1,h2,rfl⟩:=h
  exact ⟨p,q,WideElems.Trod_stays hl hc.1.1.2 hc.1.2 h1 (fun x hx=>hb.same (hlt x (List.mem_append_left _ hx))) (fun x hx=>hs x (List.mem_append_left _ hx)),
   trodAll_below hl hb hc.2 h2 (fun x hx=>hlt x (List.mem_append_right _ hx)) (fun x hx=>hs x (List.mem_append_right _ hx)),rfl⟩
 | [],[],[],_ ::_,_,_,h,_,_=>by simp[DataW.TrodAll] at h
 | [],[],_ ::_,_,_,_,h,_,_=>by simp[DataW.TrodAll] at h
 | _ ::_,_ ::_,[],_,_,_,h,_,_=>by simp[DataW.TrodAll] at h
 | _ ::_,_ ::_,_ ::_,[],_,_,h,_,_=>by simp[DataW.TrodAll] at h
 | [],_ ::_,_,_,_,hc,_,_,_=>by simp[chkTs] at hc
 | _ ::_,[],_,_,_,hc,_,_,_=>by simp[chkTs] at hc
theorem trodAll_length:∀{ts:List TypeId} {vs:List Value} {ds:List (DataW H)} {ps:List MemPlace},DataW.TrodAll enc P w 0 sp held ts vs ds ps->ds.length=ts.length
 | [],[],[],_,_=>rfl
 | _ ::_,_ ::_,_ ::_,_,h=>by
  obtain ⟨_,_,_,h2,_⟩:=h
  simp[trodAll_length h2]
 | [],[],_ ::_,_,h=>by simp[DataW.TrodAll] at h
 | [],_ ::_,_,_,h=>by simp[DataW.TrodAll] at h
 | _ ::_,[],_,_,h=>by simp[DataW.TrodAll] at h
 | _ ::_,_ ::_,[],_,h=>by simp[DataW.TrodAll] at h
theorem law_true {fn:Func} {f:FuncId} {s:ChangeSpec} {as:List Sh} {m:TsS as->TsF []->TsS []->Option Bool} {t4:TypeId} (hl:laidOutB P=true)
  (hok:Ctr.ok P f ⟨as,[],[],.one .bool,m⟩) (hm:∀x,wfs as x->m x () ()=some true) (hp:chkTs P as fn.params.toList=true) (hres:fn.resultTypes=#[t4]) (hb:P.underlying t4=some .bool)
  (hvars:s.vars=[]) (hfn:∀ds:List (DataW H),ds.length=fn.params.toList.length->s.fn H ds={ results:=[.lit (.bool true)],args:=ds })
  {W:World} {base:Nat} {args:Array Value} {ds gs:List (DataW H)} {before:List MemPlace} (hv:∀(j:Nat) t v,fn.params[j]?=some t->args[j]?=some v->Value.okWide P W .any base t v)
  (hW:DataW.Whole enc P fn.params.toList s.vars false W args.toList ds gs before) (hG:Gd P W:=by exact gd_none (by kernel_rfl) _):Calls P f args W fun e W'=>∃v,e=.returned v/\s.post enc P fn false true false false W args v W':=by
 have hlt:=fun p hp=>hW.lt (p:=p) hp
 obtain ⟨p,q,hA,hV,rfl,hfz,hnd⟩:=id hW
 obtain ⟨x,hx,hwf⟩:=trodAll_datVs hp (fun j t v ht hv'=>hv j t v (by simpa using ht) (by simpa using hv')) hA
 have hlen:=trodAll_length hA
 rw[hvars] at hV
 obtain ⟨rfl,rfl⟩:=trodVars_none hV
 have:=hok x () () true (hm x hwf) W (inHeap W) args.toList [] [] hG (fun _ h=>h) hx rfl rfl
 simp only[List.append_nil,Array.toArray_toList] at this
 refine this.mono fun e W' he=>?_
 obtain ⟨v,rfl,hr,hbelow⟩:=he
 obtain ⟨cs,hc,rfl,_⟩:DatV W' (fresh (inHeap W) W W') .bool true v:=hr
 simp only[Dat] at hc
 subst hc
 simp only[List.append_nil] at hlt hW hfz hnd
 refine ⟨_,rfl,?_⟩
 have hf:=hfn ds hlen
 have hold:∀y ∈ p,(fun b=>decide (b<W.heap.size)) y.block=true:=fun y hy=>by simpa using hlt y hy
 have res:∀(b:Nat) (sp:Nat->Bool) (hd:Bool),DataW.TrodAll enc P W' b sp hd fn.resultTypes.toList ((Value.bool true).resultList fn.resultTypes.size) [.lit (.bool true)] []:=fun b sp hd=>by
  rw[hres]
  exact trodAll_mk1 (shut_bool hb true)
 have arg:∀sp:Nat->Bool,(∀y ∈ p,sp y.block=true)->DataW.TrodAll enc P W' 0 sp true fn.params.toList args.toList ds p:=fun sp hs=>trodAll_below hl hbelow hp hA hlt hs
 have vars:∀sp:Nat->Bool,DataW.TrodVars (H:=H) enc P W' sp s.vars [] []:=fun sp=>by rw[hvars];rfl
 refine ⟨ds,[],p,[],p,[],hW,?_,?_,?_,World.keptBut_mono (fun y hy=>⟨hy,by simpa using hy⟩) (hbelow.frame (· ∈ p)),fun h=>by cases h⟩
 ·rw[List.append_nil,hf];exact res _ _ _
 ·rw[List.append_nil,hf];exact arg _ hold
 ·rw[List.append_nil,hf];exact vars _
end
end
end Dn
end Go.Proofs.YtlfdhaiigdllcaaGreatDoor
