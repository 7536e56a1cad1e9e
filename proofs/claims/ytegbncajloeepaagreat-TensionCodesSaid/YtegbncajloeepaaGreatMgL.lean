/- A symbolic executor: what is handed in at the law's own door is data of a shape: each argument that reads has such a datum, well formed. A symbolic executor: contracts of functions that change what is the call's own: blocks that parameters lead to, rows and tables that go in by value. A symbolic executor: functions that change what is theirs: their contracts out of their bodies; functions walked in place that call them. -/
import Derived.ProofKit
import Derived.Deep.Slices
import Derived.OpenShut
import Derived.Test.YtegbncajloeepaaGreatMgK

namespace Go.Proofs.YtegbncajloeepaaGreat
noncomputable section
namespace Dn
noncomputable section
open Go.RowKit Go.WideShapes Go.ChangeShapes
def Sh.wf:(s:Sh)->s.T->Prop
 | .int k,n=>(Lit.int k n).wf=true
 | .bool,_=>True
 | .str,b=>b.size<=maxLen
 | .sl e,l=>l.length<=maxLen/\∀x ∈ l,e.wf x
 | .pair a b,x=>a.wf x.1/\b.wf x.2
 | .agg e,x=>e.wf x
 | .ref,_=>False
theorem Sh.size_pos:∀s:Sh,0<s.size
 | .int _=>Nat.one_pos
 | .bool=>Nat.one_pos
 | .str=>Nat.one_pos
 | .sl _=>Nat.one_pos
 | .pair a b=>by have:=Sh.size_pos a;simp only[Sh.size];omega
 | .agg e=>Sh.size_pos e
 | .ref=>Nat.one_pos
def gn (P:Program) (n:Nat):TypeId ⊕ (Nat×List Field)->Option TypeId
 | .inl t=>some t
 | .inr (off,[f])=>match Nat.beq f.offset off&&Nat.beq (P.cellsOf f.type) n with
  | true=>some f.type
  | false=>none
 | _=>none
def A3 (P:Program) (k:IntKind) (t:TypeId):Bool:=match P.underlying t with
 | some (.int k')=>decide (k'=k)
 | _=>false
def yh (P:Program) (t:TypeId):Bool:=match P.underlying t with
 | some .bool=>true
 | _=>false
def BA (P:Program) (t:TypeId):Bool:=match P.underlying t with
 | some .string=>true
 | _=>false
def rX (P:Program) (u:TypeId):Nat->Nat->List Field
 | 0,_=>[]
 | n + 1, i => { name := "", type := u, offset := i * P.cellsOf u, embedded := false, tag := "", pkgPath := "", byteOffset := 0 } :: rX P u n (i + 1)
def chk (P:Program):Sh->TypeId ⊕ (Nat×List Field)->Bool
 | .int k,x=>match gn P 1 x with
  | some t=>A3 P k t
  | none=>false
 | .bool,x=>match gn P 1 x with
  | some t=>yh P t
  | none=>false
 | .str,x=>match gn P 1 x with
  | some t=>BA P t
  | none=>false
 | .sl e,x=>match gn P 1 x with
  | some t=>match P.underlying t with
   | some (.slice u)=>Nat.beq (P.cellsOf u) e.size&&chk P e (.inl u)
   | _=>false
  | none=>false
 | .pair a b,.inr (off,f ::g ::r)=>Nat.beq f.offset off&&Nat.beq (P.cellsOf f.type) a.size&&chk P a (.inl f.type)&&chk P b (.inr (off+a.size,g ::r))
 | .pair _ _,_=>false
 | .agg e,x=>match gn P e.size x with
  | some t=>match P.underlying t with
   | some (.struct fs)=>Nat.beq (P.cellsOf t) e.size&&chk P e (.inr (0,fs.toList))
   | some (.array n u)=>Nat.beq (P.cellsOf t) e.size&&chk P e (.inr (0,rX P u n 0))
   | _=>false
  | none=>false
 | .ref,_=>false
section
variable {H:Type} {enc:TypeId×Value->H} {P:Program} {w:World} {sp:Nat->Bool} {held:Bool}
def nP (w:World):Nat->Prop:=fun b=>b<w.heap.size
theorem ly {n off:Nat} {fl:List Field} {t:TypeId} (h:gn P n (.inr (off,fl))=some t):∃f,fl=[f]/\f.offset=off/\P.cellsOf f.type=n/\f.type=t:=by
 unfold gn at h
 split at h
 ·rename_i heq;cases heq
 ·rename_i o f heq
  injection heq with heq
  simp only[Prod.mk.injEq] at heq
  obtain ⟨rfl,rfl⟩:=heq
  split at h
  ·rename_i hb
   simp only[z10,Nat.beq_eq] at hb
   injection h with h
   exact ⟨f,rfl,hb.1,hb.2,h⟩
  ·cases h
 ·cases h
theorem HO:∀{s:Sh} {off:Nat} {fl:List Field},(∀a b,s≠.pair a b)->chk P s (.inr (off,fl))=true->∃f,fl=[f]/\f.offset=off/\P.cellsOf f.type=s.size/\chk P s (.inl f.type)=true:=by
 intro s off fl hs h
 cases s with
 | pair a b=>exact absurd rfl (hs a b)
 | ref=>simp[chk] at h
 | int k =>
  simp only[chk] at h
  split at h
  ·rename_i t ht
   obtain ⟨f,rfl,h1,h2,rfl⟩:=ly ht
   exact ⟨f,rfl,h1,h2,by simpa only[chk,gn] using h⟩
  ·cases h
 | bool =>
  simp only[chk] at h
  split at h
  ·rename_i t ht
   obtain ⟨f,rfl,h1,h2,rfl⟩:=ly ht
   exact ⟨f,rfl,h1,h2,by simpa only[chk,gn] using h⟩
  ·cases h
 | str =>
  simp only[chk] at h
  split at h
  ·rename_i t ht
   obtain ⟨f,rfl,h1,h2,rfl⟩:=ly ht
   exact ⟨f,rfl,h1,h2,by simpa only[chk,gn] using h⟩
  ·cases h
 | sl e =>
  simp only[chk] at h
  split at h
  ·rename_i t ht
   obtain ⟨f,rfl,h1,h2,rfl⟩:=ly ht
   exact ⟨f,rfl,h1,h2,by simpa only[chk,gn] using h⟩
  ·cases h
 | agg e =>
  simp only[chk] at h
  split at h
  ·rename_i t ht
   obtain ⟨f,rfl,h1,h2,rfl⟩:=ly ht
   exact ⟨f,rfl,h1,h2,by simpa only[chk,gn] using h⟩
  ·cases h
def qe (enc:TypeId×Value->H) (P:Program) (w:World) (sp:Nat->Bool) (held:Bool) (s:Sh):Prop :=
 ∀t fuel cs r,chk P s (.inl t)=true->DataW.trod enc P w 0 sp held fuel t cs=some r->∃y:s.T,Dat w (nP w) s y cs/\s.wf y
def Ak (enc:TypeId×Value->H) (P:Program) (w:World) (sp:Nat->Bool) (held:Bool) (s:Sh):Prop :=
 ∀off fl (cs:List Value),chk P s (.inr (off,fl))=true->(∀f ∈ fl,∃n r,DataW.trod enc P w 0 sp held n f.type ((cs.drop f.offset).take (P.cellsOf f.type))=some r)->cs.length=off+s.size ->
  ∃y:s.T,Dat w (nP w) s y (cs.drop off)/\s.wf y
theorem iU {s:Sh} (hs:∀a b,s≠.pair a b) (h:qe enc P w sp held s):Ak enc P w sp held s:=by
 intro off fl cs hc hf hl
 obtain ⟨f,rfl,rfl,h2,h3⟩:=HO hs hc
 obtain ⟨n,r,hr⟩:=hf f (by simp)
 rw[h2,List.take_of_length_le (by simp;omega)] at hr
 exact h _ _ _ _ h3 hr
theorem pC {u:TypeId}:∀{n i:Nat} {f:Field},f ∈ rX P u n i->∃j,j<n/\f.type=u/\f.offset=(i+j)*P.cellsOf u
 | n+1,i,f,h=>by
  rcases List.mem_cons.1 h with rfl | h
  ·exact ⟨0,by omega,rfl,by simp⟩
  ·obtain ⟨j,h1,h2,h3⟩:=pC h
   exact ⟨j+1,by omega,h2,by rw[h3];congr 1;omega⟩
 | 0,_,_,h=>by cases h
theorem jQ:∀s:Sh,qe enc P w sp held s/\Ak enc P w sp held s
 | .ref=>⟨fun t fuel cs r hc _=>by simp[chk] at hc,fun off fl cs hc _ _=>by simp[chk] at hc⟩
 | .int k=>by
  have h:qe enc P w sp held (.int k):=by
   intro t fuel cs r hc hr
   simp only[chk,gn,A3] at hc
   split at hc
   ·rename_i k' ht
    have hk:k'=k:=by simpa using hc
    subst hk
    obtain ⟨n,rfl,_,hw⟩:=DataW.trod_int ht hr
    exact ⟨n,rfl,hw⟩
   ·cases hc
  exact ⟨h,iU (by simp) h⟩
 | .bool=>by
  have h:qe enc P w sp held .bool:=by
   intro t fuel cs r hc hr
   simp only[chk,gn,yh] at hc
   split at hc
   ·rename_i ht
    obtain ⟨n,rfl,_⟩:=DataW.trod_bool ht hr
    exact ⟨n,rfl,trivial⟩
   ·cases hc
  exact ⟨h,iU (by simp) h⟩
 | .str=>by
  have h:qe enc P w sp held .str:=by
   intro t fuel cs r hc hr
   simp only[chk,gn,BA] at hc
   split at hc
   ·rename_i ht
    obtain ⟨n,rfl,_,hw⟩:=DataW.trod_string ht hr
    exact ⟨n,rfl,hw⟩
   ·cases hc
  exact ⟨h,iU (by simp) h⟩
 | .sl e=>by
  have h:qe enc P w sp held (.sl e):=by
   intro t fuel cs r hc hr
   simp only[chk,gn] at hc
   split at hc
   ·rename_i u ht
    simp only[z10,Nat.beq_eq] at hc
    obtain ⟨hz,hce⟩:=hc
    rcases Deep.open_slice ht hr with ⟨rfl,_⟩ | ⟨ad,len,cap,m,n,D,Pl,rfl,_,hl,hm,hmm,_,hx⟩
    ·exact ⟨([]:List e.T),⟨none,0,rfl,Nat.le_refl _,fun _=>rfl,fun h0=>absurd h0 (by simp)⟩,by simp[maxLen],by simp⟩
    ·have hle:len<=m:=by rw[hmm];split<;>omega
     have one:∀i,i<len->∃y:e.T,(∃ecs,Dat w (nP w) e y ecs/\w.cells? 0 (ad.add (i*e.size)) e.size=some ecs)/\e.wf y:=by
      intro i hi
      obtain ⟨cs',h1,h2⟩:=hx i (by omega)
      rw[hz] at h1
      obtain ⟨y,h3,h4⟩:=(jQ e).1 _ _ _ _ hce h2
      exact ⟨y,⟨cs',h3,h1⟩,h4⟩
     have:Inhabited e.T:=⟨e.dflt⟩
     obtain ⟨f,hf⟩:=Deep.choose_lt one
     refine ⟨((List.range len).map f:List e.T),⟨some ad,cap,by simp,by simpa using hl,fun h=>(by cases h),fun h0=>⟨ad,rfl,?_,fun k x hk=>?_⟩⟩,by simp;omega,fun x hxm=>?_⟩
     ·have h0:0<len:=by simpa using h0
      obtain ⟨⟨ecs,h1,h2⟩,_⟩:=hf 0 h0
      have hlen:=h1.len
      have hpos:0<e.size:=Sh.size_pos e
      obtain ⟨_,_,h3⟩:=World.cells?_some h2
      have h3:=h3 0 hpos
      have:(ecs[0]?).isSome=true:=by simp;omega
      rw[<-h3] at this
      unfold nP
      refine Decidable.byContradiction fun hge=>?_
      have hnone:w.heap[((ad.add (0*e.size)).add 0).block]?=none:=by
       rw[Array.getElem?_eq_none_iff]
       have:((ad.add (0*e.size)).add 0).block=ad.block:=by simp[Addr.add]
       rw[this]
       omega
      unfold World.cell? at this
      rw[hnone] at this
      simp at this
     ·obtain ⟨hk1,rfl⟩:k<len/\f k=x:=by
       rw[List.getElem?_map] at hk
       cases hr:(List.range len)[k]? with
       | none=>rw[hr] at hk;cases hk
       | some j =>
        rw[hr] at hk
        have:=List.getElem?_eq_some_iff.1 hr
        obtain ⟨h1,h2⟩:=this
        simp at h1 h2
        subst h2
        exact ⟨h1,by simpa using hk⟩
      obtain ⟨⟨ecs,h1,h2⟩,_⟩:=hf k hk1
      obtain ⟨_,hl',h3⟩:=World.cells?_some h2
      refine ⟨ecs,h1,fun j v hj=>?_⟩
      have hjl:=(List.getElem?_eq_some_iff.1 hj).1
      rw[<-Deep.add_add,h3 j (by omega)]
      exact hj
     ·obtain ⟨i,hi,rfl⟩:=List.mem_map.1 hxm
      exact (hf i (by simpa using hi)).2
   ·cases hc
  exact ⟨h,iU (by simp) h⟩
 | .pair a b=>by
  refine ⟨fun t fuel cs r hc=>by simp[chk] at hc,fun off fl cs hc hf hl=>?_⟩
  match fl,hc with
  | f ::g ::r,hc =>
   simp only[chk,z10,Nat.beq_eq] at hc
   obtain ⟨⟨⟨h1,h2⟩,h3⟩,h4⟩:=hc
   simp only[Sh.size] at hl
   obtain ⟨n,y,hy⟩:=hf f (by simp)
   obtain ⟨ya,g1,g2⟩:=(jQ a).1 _ _ _ _ h3 hy
   obtain ⟨yb,g3,g4⟩:=(jQ b).2 _ _ cs h4 (fun f' hf'=>hf f' (List.mem_cons_of_mem _ hf')) (by omega)
   refine ⟨((ya,yb):a.T×b.T),⟨_,_,?_,g1,g3⟩,g2,g4⟩
   rw[h1,h2,<-List.drop_drop,List.take_append_drop]
 | .agg e=>by
  have h:qe enc P w sp held (.agg e):=by
   intro t fuel cs r hc hr
   simp only[chk,gn] at hc
   split at hc
   ·rename_i fs ht
    simp only[z10,Nat.beq_eq] at hc
    obtain ⟨hz,hc⟩:=hc
    obtain ⟨xs,n,_,_,hl,hxl,hx⟩:=DataW.trod_struct ht hr
    obtain ⟨y,h1,h2⟩:=(jQ e).2 0 _ cs hc (fun f hf=>by
     obtain ⟨i,hi,rfl⟩:=List.getElem_of_mem hf
     have hi':i<fs.size:=by simpa using hi
     have:=hx i fs[i] (Array.getElem?_eq_getElem hi')
     rw[List.getElem?_eq_getElem (by omega)] at this
     exact ⟨n,_,by simpa using this⟩) (by rw[Nat.zero_add,<-hz];exact hl)
    exact ⟨y,h1,h2⟩
   ·rename_i n u ht
    simp only[z10,Nat.beq_eq] at hc
    obtain ⟨hz,hc⟩:=hc
    obtain ⟨xs,m,_,_,hl,hxl,hx⟩:=DataW.trod_array ht hr
    obtain ⟨y,h1,h2⟩:=(jQ e).2 0 _ cs hc (fun f hf=>by
     obtain ⟨j,hj,h1,h2⟩:=pC hf
     have:=hx j hj
     rw[List.getElem?_eq_getElem (by omega)] at this
     exact ⟨m,_,by rw[h1,h2,Nat.zero_add];exact this⟩) (by rw[Nat.zero_add,<-hz];exact hl)
    exact ⟨y,h1,h2⟩
   ·cases hc
  exact ⟨h,iU (by simp) h⟩
theorem Ec {s:Sh} {t:TypeId} {v:Value} {d:DataW H} {ps:List MemPlace} {r:Reach} {b0:Nat} (hc:chk P s (.inl t)=true) (hv:Value.okWide P w r b0 t v) (h:DataW.Trod enc P w 0 sp held t v d ps):∃y:s.T,ln w (nP w) s y v/\s.wf y:=by
 obtain ⟨fuel,hf⟩:=h
 obtain ⟨y,h1,h2⟩:=(jQ s).1 _ _ _ _ hc hf
 refine ⟨y,⟨v.cells.toList,h1,?_,fun _=>?_⟩,h2⟩
 ·cases s with
  | agg e =>
   simp only[chk,gn] at hc
   split at hc
   ·rename_i fs ht
    obtain ⟨cs,rfl,_⟩:=okWide_struct ht hv
    simp[Value.cells,mkV,Sh.isAgg]
   ·rename_i n u ht
    simp only[Value.okWide,ht] at hv
    obtain ⟨cs,rfl,_⟩:=hv
    simp[Value.cells,mkV,Sh.isAgg]
   ·cases hc
  | pair a b=>simp[chk] at hc
  | ref=>simp[chk] at hc
  | int k =>
   simp only[chk,gn,A3] at hc
   split at hc
   ·rename_i k' ht
    cases v<;>first | (simp[Value.okWide,ht,Cell.okWide,Cell.ok] at hv;done) | (simp[Value.cells,mkV,Sh.isAgg];done)
   ·cases hc
  | bool =>
   simp only[chk,gn,yh] at hc
   split at hc
   ·rename_i ht
    cases v<;>first | (simp[Value.okWide,ht,Cell.okWide,Cell.ok] at hv;done) | (simp[Value.cells,mkV,Sh.isAgg];done)
   ·cases hc
  | str =>
   simp only[chk,gn,BA] at hc
   split at hc
   ·rename_i ht
    cases v<;>first | (simp[Value.okWide,ht,Cell.okWide,Cell.ok] at hv;done) | (simp[Value.cells,mkV,Sh.isAgg];done)
   ·cases hc
  | sl e =>
   simp only[chk,gn] at hc
   split at hc
   ·rename_i u ht
    cases v<;>first | (simp[Value.okWide,ht,Cell.okWide,Cell.ok] at hv;done) | (simp[Value.cells,mkV,Sh.isAgg];done)
   ·cases hc
 ·rename_i ha
  have:=h1.len
  cases s<;>simp[Sh.isAgg] at ha<;>simp[Sh.size] at this<;>first | simpa using this | (simp[chk] at hc)
def pA (P:Program):List Sh->List TypeId->Bool
 | [],[]=>true
 | s ::r,t ::ts=>chk P s (.inl t)&&P.readableRec t&&decide (t<P.types.size)&&pA P r ts
 | _,_=>false
def wfs:(l:List Sh)->TsS l->Prop
 | [],_=>True
 | s ::r,x=>s.wf x.1/\wfs r x.2
theorem pr {r:Reach} {b0:Nat}:∀{as:List Sh} {ts:List TypeId} {vs:List Value} {ds:List (DataW H)} {ps:List MemPlace},pA P as ts=true ->
  (∀(j:Nat) t v,ts[j]?=some t->vs[j]?=some v->Value.okWide P w r b0 t v)->DataW.TrodAll enc P w 0 sp held ts vs ds ps->∃x:TsS as,cz w (nP w) as x vs/\wfs as x
 | [],[],[],_,_,_,_,_=>⟨(),rfl,trivial⟩
 | s ::r',t ::ts,v ::vs,d ::ds,ps,hc,hv,h=>by
  simp only[pA,z10] at hc
  obtain ⟨p,q,h1,h2,_⟩:=h
  obtain ⟨y,g1,g2⟩:=Ec hc.1.1.1 (hv 0 t v rfl rfl) h1
  obtain ⟨x,g3,g4⟩:=pr hc.2 (fun j t' v' ht hv'=>hv (j+1) t' v' ht hv') h2
  exact ⟨((y,x):s.T×TsS r'),by simp only[cz];exact ⟨v,vs,rfl,g1,g3⟩,g2,g4⟩
 | [],[],_ ::_,_,_,_,_,h=>by simp[DataW.TrodAll] at h
 | _ ::_,_ ::_,[],_,_,_,_,h=>by simp[DataW.TrodAll] at h
 | _ ::_,_ ::_,_ ::_,[],_,_,_,h=>by simp[DataW.TrodAll] at h
 | [],_ ::_,_,_,_,hc,_,_=>by simp[pA] at hc
 | _ ::_,[],_,_,_,hc,_,_=>by simp[pA] at hc
theorem pt (hl:laidOutB P=true) {W':World} (hb:Below w.heap.size w W') {sp':Nat->Bool}:∀{as:List Sh} {ts:List TypeId} {vs:List Value} {ds:List (DataW H)} {ps:List MemPlace},pA P as ts=true ->
  DataW.TrodAll enc P w 0 (fun _=>true) true ts vs ds ps->(∀p ∈ ps,p.block<w.heap.size)->(∀p ∈ ps,sp' p.block=true)->DataW.TrodAll enc P W' 0 sp' true ts vs ds ps
 | [],[],[],[],_,_,h,_,_=>h
 | s ::r',t ::ts,v ::vs,d ::ds,ps,hc,h,hlt,hs=>by
  simp only[pA,z10,decide_eq_true_eq] at hc
  obtain ⟨p,q,h1,h2,rfl⟩:=h
  exact ⟨p,q,WideElems.Trod_stays hl hc.1.1.2 hc.1.2 h1 (fun x hx=>hb.same (hlt x (List.mem_append_left _ hx))) (fun x hx=>hs x (List.mem_append_left _ hx)),
   pt hl hb hc.2 h2 (fun x hx=>hlt x (List.mem_append_right _ hx)) (fun x hx=>hs x (List.mem_append_right _ hx)),rfl⟩
 | [],[],[],_ ::_,_,_,h,_,_=>by simp[DataW.TrodAll] at h
 | [],[],_ ::_,_,_,_,h,_,_=>by simp[DataW.TrodAll] at h
 | _ ::_,_ ::_,[],_,_,_,h,_,_=>by simp[DataW.TrodAll] at h
 | _ ::_,_ ::_,_ ::_,[],_,_,h,_,_=>by simp[DataW.TrodAll] at h
 | [],_ ::_,_,_,_,hc,_,_,_=>by simp[pA] at hc
 | _ ::_,[],_,_,_,hc,_,_,_=>by simp[pA] at hc
theorem ol:∀{ts:List TypeId} {vs:List Value} {ds:List (DataW H)} {ps:List MemPlace},DataW.TrodAll enc P w 0 sp held ts vs ds ps->ds.length=ts.length
 | [],[],[],_,_=>rfl
 | _ ::_,_ ::_,_ ::_,_,h=>by
  obtain ⟨_,_,_,h2,_⟩:=h
  simp[ol h2]
 | [],[],_ ::_,_,h=>by simp[DataW.TrodAll] at h
 | [],_ ::_,_,_,h=>by simp[DataW.TrodAll] at h
 | _ ::_,[],_,_,h=>by simp[DataW.TrodAll] at h
 | _ ::_,_ ::_,[],_,h=>by simp[DataW.TrodAll] at h
theorem Gz {fn:Func} {f:FuncId} {s:ChangeSpec} {as:List Sh} {m:TsS as->TsF []->TsS []->Option Bool} {t4:TypeId} (hl:laidOutB P=true)
  (hok:Ctr.ok P f ⟨as,[],[],.one .bool,m⟩) (hm:∀x,wfs as x->m x () ()=some true) (hp:pA P as fn.params.toList=true) (hres:fn.resultTypes=#[t4]) (hb:P.underlying t4=some .bool)
  (hvars:s.vars=[]) (hfn:∀ds:List (DataW H),ds.length=fn.params.toList.length->s.fn H ds={ results:=[.lit (.bool true)],args:=ds })
  {W:World} {base:Nat} {args:Array Value} {ds gs:List (DataW H)} {before:List MemPlace} (hv:∀(j:Nat) t v,fn.params[j]?=some t->args[j]?=some v->Value.okWide P W .any base t v)
  (hW:DataW.Whole enc P fn.params.toList s.vars false W args.toList ds gs before):Calls P f args W fun e W'=>∃v,e=.returned v/\s.post enc P fn false true false false W args v W':=by
 have hlt:=fun p hp=>hW.lt (p:=p) hp
 obtain ⟨p,q,hA,hV,rfl,hfz,hnd⟩:=id hW
 obtain ⟨x,hx,hwf⟩:=pr hp (fun j t v ht hv'=>hv j t v (by simpa using ht) (by simpa using hv')) hA
 have hlen:=ol hA
 rw[hvars] at hV
 obtain ⟨rfl,rfl⟩:=trodVars_none hV
 have:=hok x () () true (hm x hwf) W (nP W) args.toList [] [] (fun _ h=>h) hx rfl rfl
 simp only[List.append_nil,Array.toArray_toList] at this
 refine this.mono fun e W' he=>?_
 obtain ⟨v,rfl,hr,hbelow⟩:=he
 obtain ⟨cs,hc,rfl,_⟩:ln W' (fresh (nP W) W W') .bool true v:=hr
 simp only[Dat] at hc
 subst hc
 simp only[List.append_nil] at hlt hW hfz hnd
 refine ⟨_,rfl,?_⟩
 have hf:=hfn ds hlen
 have hold:∀y ∈ p,(fun b=>decide (b<W.heap.size)) y.block=true:=fun y hy=>by simpa using hlt y hy
 have res:∀(b:Nat) (sp:Nat->Bool) (hd:Bool),DataW.TrodAll enc P W' b sp hd fn.resultTypes.toList ((Value.bool true).resultList fn.resultTypes.size) [.lit (.bool true)] []:=fun b sp hd=>by
  rw[hres]
  exact trodAll_mk1 (shut_bool hb true)
 have arg:∀sp:Nat->Bool,(∀y ∈ p,sp y.block=true)->DataW.TrodAll enc P W' 0 sp true fn.params.toList args.toList ds p:=fun sp hs=>pt hl hbelow hp hA hlt hs
 have vars:∀sp:Nat->Bool,DataW.TrodVars (H:=H) enc P W' sp s.vars [] []:=fun sp=>by rw[hvars];rfl
 refine ⟨ds,[],p,[],p,[],hW,?_,?_,?_,World.keptBut_mono (fun y hy=>⟨hy,by simpa using hy⟩) (hbelow.frame (· ∈ p)),fun h=>by cases h⟩
 ·rw[List.append_nil,hf];exact res _ _ _
 ·rw[List.append_nil,hf];exact arg _ hold
 ·rw[List.append_nil,hf];exact vars _
end
end
end Dn
namespace Dn
noncomputable section
open Go.RowKit
inductive PK where
 | d (s:Sh)
 | b (ps:List Pat)
 | v (ag:Bool) (ps:List Pat)
def rhI:Nat->List PK->List (Plc×List Pat)
 | _,[]=>[]
 | j,.d s ::r=>(.slot j s.isAgg,[.d s]) ::rhI (j+1) r
 | j,.b ps ::r=>(.blk j,ps) ::rhI (j+1) r
 | j,.v ag ps ::r=>(.slot j ag,ps) ::rhI (j+1) r
def rhB:Nat->List PK->List (Plc×List Pat)
 | _,[]=>[]
 | j,.d _ ::r=>rhB (j+1) r
 | j,.b ps ::r=>(.blk j,ps) ::rhB (j+1) r
 | j,.v _ _ ::r=>rhB (j+1) r
def rhS:Nat->List (Bool×List Pat)->List (Plc×List Pat)
 | _,[]=>[]
 | j,p ::r=>(.slot j p.1,p.2) ::rhS (j+1) r
def rz:Nat->List PK->List (Nat×Option SlotV)
 | _,[]=>[]
 | j,.d _ ::r=>rz (j+1) r
 | j,.b _ ::r=>(j,some ⟨none,.c false [.ptr j 0]⟩) ::rz (j+1) r
 | j,.v _ _ ::r=>rz (j+1) r
def gW:Nat->List PK->List Nat
 | _,[]=>[]
 | j,.d _ ::r=>j ::gW (j+1) r
 | j,.b _ ::r=>gW (j+1) r
 | j,.v _ _ ::r=>j ::gW (j+1) r
structure SCtr where
 ks:List PK
 rs:List (Bool×List Pat)
 m:TsR (rhI 0 ks)->Option (TsR (rhB 0 ks++rhS 0 rs))
abbrev SCtr.out (c:SCtr):List (Plc×List Pat):=rhB 0 c.ks++rhS 0 c.rs
def SCtr.init (c:SCtr) (x:TsR (rhI 0 c.ks)):St :=
 {s:=eV (rhI 0 c.ks) x 0++lI (gW 0 c.ks) (rz 0 c.ks),h:=cN (rhI 0 c.ks) x 0,r:=cE (rhI 0 c.ks) x 0,next:=c.ks.length+jd (rhI 0 c.ks) }
def SCtr.fin (c:SCtr) (y:TsR c.out):St:={ s:=[],h:=cN c.out y 0,r:=cE c.out y 0,next:=0 }
def sd:(rh:List (Plc×List Pat))->TsR rh->Nat->List SV
 | [],_,_=>[]
 | (.slot _ ag,ps) ::r,x,k=>.c ag (kg ps x k) ::sd r (jv ps x) (k+dZ ps)
 | (.blk _,ps) ::r,x,k=>sd r (jv ps x) (k+dZ ps)
 | (.row _,ps) ::r,x,k=>sd r (jv ps x) k
def Env.bare (E:Env):Env:={ E with L:=fun _=>False,R:=fun _=>False }
def SCtr.ok (P:Program) (f:FuncId) (c:SCtr):Prop:=∀x y,c.m x=some y->∀(E:Env) (vs:List Value),E.P=P->E.rg=false->vs.length=c.ks.length->Mod vs.length E { tmps:=vs.toArray,defers:=[] } (c.init x).look ->
 Calls P f vs.toArray E.w fun e w'=>∃(us:List Value) (E':Env),e=.returned (if h:us.length=1 then us[0] else .tuple us.toArray)/\E'.w=w'/\ef E E'/\Keep E.bare E'/\(∀j,E.L j->E'.β j=E.β j)/\MemOk E' (c.fin y).look/\dQ E' (sd c.out y 0) us
def GD (used:List Nat):At->At
 | .v x=>.v x
 | .sl e l=>.sl e l
 | .sn e l=>.sn e l
 | .row r=>match gv r used with
  | true=>.row r
  | false=>.u
 | _=>.u
def qS (used:List Nat):List At->List At
 | []=>[]
 | x ::r=>GD used x ::qS used r
def HK (used:List Nat):SV->SV
 | .c ag l=>.c ag (qS used l)
 | .tup l=>.tup (l.map fun c=>(c.1,qS used c.2))
def Cp:SV->Option Nat
 | .c false [.ptr b 0]=>some b
 | _=>none
theorem Hc {v:SV} {b:Nat} (h:Cp v=some b):v=.c false [.ptr b 0]:=by
 unfold Cp at h
 split at h
 ·injection h with h;rw[h]
 ·cases h
def Nj (h:Nat->Option (List At)) (v:SV):List Nat:=match Cp v with
 | some b=>match h b with
  | some cs=>df cs
  | none=>[]
 | none=>[]
def rB (h:Nat->Option (List At)):List PK->List SV->List Nat
 | .b _ ::r,v ::l=>Nj h v++rB h r l
 | .v _ _ ::r,v ::l=>sL v++rB h r l
 | .d _ ::r,_ ::l=>rB h r l
 | _,_=>[]
structure ArgIn where
 s:List (Nat×Option SlotV)
 h:List (Nat×List At)
 b:List (Nat×Nat)
def cU (used:List Nat) (σ:St):Nat->List PK->List SV->Option ArgIn
 | _,[],[]=>some ⟨[],[],[]⟩
 | j,.d _ ::r,v ::l=>match cU used σ (j+1) r l,pj used (sL v) with
  | some a,true=>some ⟨(j,some ⟨none,HK used (sO (noX (look σ.r)) v)⟩) ::a.s,a.h,a.b⟩
  | _,_=>none
 | j,.v _ _ ::r,v ::l=>match cU used σ (j+1) r l with
  | some a=>some ⟨(j,some ⟨none,HK used v⟩) ::a.s,a.h,a.b⟩
  | none=>none
 | j,.b _ ::r,v ::l=>match Cp v,cU used σ (j+1) r l with
  | some b,some a=>match look σ.h b with
   | some cs=>some ⟨(j,some ⟨none,.c false [.ptr j 0]⟩) ::a.s,(j,qS used cs) ::a.h,(j,b) ::a.b⟩
   | none=>none
  | _,_=>none
 | _,_,_=>none
def iv (m:List (Nat×Nat)):List (Nat×List At)->List (Nat×List At)
 | []=>[]
 | p ::r=>match look m p.1 with
  | some b=>(b,p.2) ::iv m r
  | none=>iv m r
def tU:Sh->Bool
 | .ref=>true
 | .sl _=>false
 | .pair a b=>tU a&&tU b
 | .agg e=>tU e
 | _=>true
def XP.flat:XP->Bool
 | .set _ k=>k.flat
 | .map _ k e=>k.flat&&e.flat
 | .tab _ s _ e=>tU s&&e.flat
def iE:List Pat->Bool
 | []=>true
 | .d s ::r=>s.flat&&iE r
 | .row _ e ::r=>e.flat&&iE r
 | .x p ::r=>p.flat&&iE r
def iw:List (Plc×List Pat)->Bool
 | []=>true
 | (.row _,_) ::_=>false
 | (.slot _ _,ps) ::r=>iE ps&&iw r
 | (.blk _,ps) ::r=>iE ps&&iw r
def fi:List (Nat×Nat)->List Nat
 | []=>[]
 | p ::r=>p.2 ::fi r
def nU (used:List Nat):List (Nat×RowS)->List (Nat×RowS)
 | []=>[]
 | p ::r=>match gv p.1 used with
  | true=>p ::nU used r
  | false=>nU used r
def uL:List At->List At
 | []=>[]
 | _ ::r=>.u ::uL r
def uH:List (Nat×List At)->List (Nat×List At)
 | []=>[]
 | p ::r=>(p.1,uL p.2) ::uH r
def pk (ks:List PK) (h:List (Nat×List At)):St:={ s:=rz 0 ks,h:=uH h,r:=[],next:=0 }
def BW {R:Type} (c:SCtr) (args:List SV) (σ:St) (K:List SV->St->Option R):Option R :=
 match cU (rB (look σ.h) c.ks args) σ 0 c.ks args with
 | some a=>match iM (rhI 0 c.ks) [] { s:=a.s,h:=a.h,r:=nU (rB (look σ.h) c.ks args) σ.r,next:=0 } with
  | some x=>match pj σ.ro (fi a.b)&&pj σ.roR (rB (look σ.h) c.ks args)&&nA (fi a.b)&&nA (rB (look σ.h) c.ks args)&&uj σ.r σ.next (jd c.out)&&iw c.out&&fm (rhI 0 c.ks) (gW 0 c.ks) [] (pk c.ks a.h) with
   | true=>af (c.m x) fun y=>K (sd c.out y σ.next)
     {σ with h:=iv a.b (cN c.out y σ.next)++σ.h,r:=cE c.out y σ.next++(jt (rB (look σ.h) c.ks args)++σ.r),next:=σ.next+jd c.out }
   | false=>none
  | none=>none
 | none=>none
section
variable {E:Env} {σ:St}
def kS (E:Env) (g:Look) (bs used:List Nat) (b:Nat):Prop:=E.Z b\/(∃j l,g.h j=some l/\j ∉ bs/\E.β j=b)\/(∃q r,g.r q=some (.some r)/\q ∉ used/\(E.ρ q).ownBlock=some b)\/(∃q x,g.r q=some (.x x)/\q ∉ used/\E.φ q b)
theorem mE {used:List Nat} {i:Nat}:∀{l:List (Nat×RowS)},look (nU used l) i=if i ∈ used then look l i else none
 | []=>by simp[nU,look]
 | p ::r=>by
  simp only[nU]
  split
  ·rename_i hm
   rw[ai,ai,mE]
   by_cases e:i=p.1
   ·rw[if_pos e,if_pos e,e,if_pos (ca.1 hm)]
   ·rw[if_neg e,if_neg e]
  ·rename_i hm
   rw[ai,mE]
   by_cases hi:i ∈ used
   ·rw[if_pos hi,if_pos hi,if_neg]
    intro e
    rw[e,<-ca,hm] at hi
    cases hi
   ·rw[if_neg hi,if_neg hi]
theorem pS {E:Env}:∀{l m:List At} {cs:List Value},bH E (l++m) cs->∃c1 c2,cs=c1++c2/\bH E l c1/\bH E m c2
 | [],_,cs,h=>⟨[],cs,rfl,trivial,h⟩
 | _ ::l,m,c ::cs,h=>by
  obtain ⟨c1,c2,h1,h2,h3⟩:=pS (l:=l) h.2
  exact ⟨c ::c1,c2,by rw[h1];rfl,⟨h.1,h2⟩,h3⟩
 | _ ::_,_,[],h=>h.elim
theorem EF {E E1:Env} {used:List Nat} (hw:E1.w=E.w) (hZ:∀b,E.Z b->E1.Z b) (hρ:E1.ρ=E.ρ) (hR:∀r,r ∈ used->E.R r->E1.R r):∀{x:At} {v:Value},fK E x v->fK E1 (GD used x) v
 | .u,_,_=>trivial
 | .v _,_,h=>h
 | .ptr _ _,_,_=>trivial
 | .clo _ _,_,_=>trivial
 | .sl e l,v,h=>by
  show Dat E1.w E1.Z (.sl e) l [v]
  rw[hw]
  exact Dat.mono hZ (fun _ _=>rfl) h
 | .row r,v,⟨h1,h2,h3⟩=>by
  simp only[GD]
  split
  ·rename_i hm
   exact ⟨by rw[hρ];exact h1,hR r (ca.1 hm) h2,h3⟩
  ·trivial
 | .rf _ _ _,_,_=>trivial
 | .re _ _ _ _,_,_=>trivial
 | .sub _ _ _ _,_,_=>trivial
 | .ae _ _ _ _ _ _,_,_=>trivial
 | .sn e l,v,h=>by
  refine ⟨h.1,?_⟩
  show Dat E1.w E1.Z (.sl e) l [v]
  rw[hw]
  exact Dat.mono hZ (fun _ _=>rfl) h.2
 | .ir _ _,_,_=>trivial
 | .ie _ _ _ _ _,_,_=>trivial
 | .fn _ _ _,_,_=>trivial
theorem oM {E E1:Env} {used:List Nat} (hw:E1.w=E.w) (hZ:∀b,E.Z b->E1.Z b) (hρ:E1.ρ=E.ρ) (hR:∀r,r ∈ used->E.R r->E1.R r):∀{l:List At} {vs:List Value},bH E l vs->bH E1 (qS used l) vs
 | [],[],_=>trivial
 | _ ::_,_ ::_,h=>⟨EF hw hZ hρ hR h.1,oM hw hZ hρ hR h.2⟩
 | [],_ ::_,h=>h.elim
 | _ ::_,[],h=>h.elim
theorem wz {E E1:Env} {used:List Nat} (hw:E1.w=E.w) (hZ:∀b,E.Z b->E1.Z b) (hρ:E1.ρ=E.ρ) (hR:∀r,r ∈ used->E.R r->E1.R r):∀{l:List (Bool×List At)} {vs:List Value},fL E l vs->fL E1 (l.map fun c=>(c.1,qS used c.2)) vs
 | [],[],_=>trivial
 | _ ::_,_ ::_,⟨⟨cs,h1,h2,h3⟩,h⟩=>⟨⟨cs,h1,oM hw hZ hρ hR h2,h3⟩,wz hw hZ hρ hR h⟩
 | [],_ ::_,h=>h.elim
 | _ ::_,[],h=>h.elim
theorem wg {E E1:Env} {used:List Nat} (hw:E1.w=E.w) (hZ:∀b,E.Z b->E1.Z b) (hρ:E1.ρ=E.ρ) (hR:∀r,r ∈ used->E.R r->E1.R r):∀{s:SV} {v:Value},bz E s v->bz E1 (HK used s) v
 | .c _ _,_,⟨cs,h1,h2,h3⟩=>⟨cs,h1,oM hw hZ hρ hR h2,h3⟩
 | .tup _,_,⟨vs,h1,h2⟩=>⟨vs,h1,wz hw hZ hρ hR h2⟩
theorem XOk.zone {E E1:Env} {q:Nat} {x:XI} (hw:E1.w=E.w) (h0:E1.w0=E.w0) (hZ:∀b,E.Z b->E1.Z b) (hR:E1.R q) (hρ:E1.ρ q=E.ρ q) (hφ:E1.φ q=E.φ q) (hι:E1.ι q=E.ι q) (hν:E1.ν q=E.ν q) (h:XOk E q x):XOk E1 q x:=by
 have hd:∀(s:Sh) (z:s.T) (cs:List Value),Dat E.w E.Z s z cs->Dat E1.w E1.Z s z cs:=fun s z cs hd=>by rw[hw];exact Dat.mono hZ (fun _ _=>rfl) hd
 cases x with
 | set t k l =>
  obtain ⟨_,b,es,ck,h1,h2,h3,h4⟩:=h
  exact ⟨hR,b,es,ck,by rw[hρ];exact h1,by rw[hφ];exact h2,by rw[hw];exact h3,by rw[hw];exact dh.mono hZ (fun _ _=>rfl) h4⟩
 | map t k e l =>
  obtain ⟨_,b,es,ck,h1,h2,h3,h4⟩:=h
  exact ⟨hR,b,es,ck,by rw[hρ];exact h1,by rw[hφ];exact h2,by rw[hw];exact h3,by rw[hw];exact cY.mono hZ (fun _ _=>rfl) h4⟩
 | tab t s l ti e a =>
  obtain ⟨_,⟨xs,h1,h2⟩,h3,h4,h5,h6⟩:=h
  refine ⟨hR,⟨xs,by rw[hw,h0,hρ];exact h1,jI (E:=E) (fun i _=>by rw[hι]) (by rw[hν];exact Nat.le_refl _) hd h2⟩,by rw[hρ,hφ];exact h3,by rw[hν];exact h4,fun j l' hj=>?_,by rw[hι];exact h6⟩
  obtain ⟨⟨ys,g1,g2⟩,g3⟩:=h5 j l' hj
  unfold kh
  rw[hw,h0,hρ,hφ,hι]
  exact ⟨⟨ys,g1,av.mono hZ (fun _ _=>rfl) g2⟩,g3⟩
theorem oy {m:List (Nat×Nat)} {j b:Nat} (h:look m j=some b):b ∈ fi m:=by
 induction m with
 | nil=>simp[look] at h
 | cons p r ih =>
  rw[ai] at h
  simp only[fi,List.mem_cons]
  split at h
  ·injection h with h;exact .inl h.symm
  ·exact .inr (ih h)
theorem CO {m:List (Nat×Nat)} (hn:(fi m).Nodup) {i j b:Nat} (hi:look m i=some b) (hj:look m j=some b):i=j:=by
 induction m with
 | nil=>simp[look] at hi
 | cons p r ih =>
  simp only[fi] at hn
  obtain ⟨h1,h2⟩:=List.nodup_cons.1 hn
  rw[ai] at hi hj
  split at hi
  ·rename_i e
   injection hi with hi
   split at hj
   ·rename_i e';rw[e,e']
   ·exact absurd (by rw[hi];exact oy hj) h1
  ·split at hj
   ·injection hj with hj
    exact absurd (by rw[hj];exact oy hi) h1
   ·exact ih h2 hi hj
structure ArgOk (σ:St) (used:List Nat) (j:Nat) (ks:List PK) (a:ArgIn):Prop where
 h:∀i l,look a.h i=some l->j<=i/\∃b cs,look a.b i=some b/\look σ.h b=some cs/\l=qS used cs
 b:∀i b,look a.b i=some b->j<=i/\(look σ.h b).isSome=true/\(look a.h i).isSome=true
 keys:∀i,(look a.h i).isSome=true↔i ∈ bj (rhB j ks)
 ptr:∀i,i ∉ gW j ks->look a.s i=look (rz j ks) i
theorem iP {used:List Nat}:∀{ks:List PK} {args:List SV} {j:Nat} {a:ArgIn},cU used σ j ks args=some a->ArgOk σ used j ks a/\args.length=ks.length
 | [],[],j,a,h=>by
  simp only[cU,Option.some.injEq] at h
  subst h
  exact ⟨⟨fun i l h=>by simp[look] at h,fun i b h=>by simp[look] at h,fun i=>by simp[look,rhB,bj],fun i _=>rfl⟩,rfl⟩
 | .d s ::r,v ::l,j,a,h=>by
  simp only[cU] at h
  split at h
  ·rename_i a' ha _
   injection h with h
   subst h
   obtain ⟨⟨h1,h2,h3,h4⟩,h5⟩:=iP ha
   refine ⟨⟨fun i l hi=>?_,fun i b hi=>?_,h3,fun i hi=>?_⟩,by simp[h5]⟩
   ·obtain ⟨g1,g2⟩:=h1 i l hi;exact ⟨by omega,g2⟩
   ·obtain ⟨g1,g2⟩:=h2 i b hi;exact ⟨by omega,g2⟩
   ·simp only[gW,List.mem_cons,not_or] at hi
    rw[ai,if_neg hi.1]
    exact h4 i hi.2
  ·cases h
 | .v ag ps ::r,v ::l,j,a,h=>by
  simp only[cU] at h
  split at h
  ·rename_i a' ha
   injection h with h
   subst h
   obtain ⟨⟨h1,h2,h3,h4⟩,h5⟩:=iP ha
   refine ⟨⟨fun i l hi=>?_,fun i b hi=>?_,h3,fun i hi=>?_⟩,by simp[h5]⟩
   ·obtain ⟨g1,g2⟩:=h1 i l hi;exact ⟨by omega,g2⟩
   ·obtain ⟨g1,g2⟩:=h2 i b hi;exact ⟨by omega,g2⟩
   ·simp only[gW,List.mem_cons,not_or] at hi
    rw[ai,if_neg hi.1]
    exact h4 i hi.2
  ·cases h
 | .b ps ::r,v ::l,j,a,h=>by
  simp only[cU] at h
  split at h
  ·rename_i b a' hb ha
   split at h
   ·rename_i cs hcs
    injection h with h
    subst h
    obtain ⟨⟨h1,h2,h3,h4⟩,h5⟩:=iP ha
    refine ⟨⟨fun i l hi=>?_,fun i b' hi=>?_,fun i=>?_,fun i hi=>?_⟩,by simp[h5]⟩
    ·rw[ai] at hi
     split at hi
     ·rename_i e
      injection hi with hi
      exact ⟨by omega,b,cs,by rw[ai,if_pos e],hcs,hi.symm⟩
     ·rename_i e
      obtain ⟨g1,b',cs',g2,g3⟩:=h1 i l hi
      exact ⟨by omega,b',cs',by rw[ai,if_neg e];exact g2,g3⟩
    ·rw[ai] at hi ⊢
     split at hi
     ·rename_i e
      injection hi with hi
      subst hi
      exact ⟨by omega,by rw[hcs];rfl,by rw[if_pos e];rfl⟩
     ·rename_i e
      obtain ⟨g1,g2,g3⟩:=h2 i b' hi
      exact ⟨by omega,g2,by rw[if_neg e];exact g3⟩
    ·simp only[rhB,bj,List.mem_cons]
     rw[ai]
     by_cases e:i=j
     ·simp[e]
     ·rw[if_neg e,h3 i];simp[e]
    ·simp only[gW] at hi
     simp only[rz]
     rw[ai,ai]
     by_cases e:i=j
     ·simp[e]
     ·rw[if_neg e,if_neg e];exact h4 i hi
   ·cases h
  ·cases h
 | [],_ ::_,_,_,h=>by simp[cU] at h
 | .d _ ::_,[],_,_,h=>by simp[cU] at h
 | .b _ ::_,[],_,_,h=>by simp[cU] at h
 | .v _ _ ::_,[],_,_,h=>by simp[cU] at h
def Env.argE (E:Env) (g:Look) (used:List Nat) (a:ArgIn):Env :=
 {E with Z:=kS E g (fi a.b) used,β:=fun j=>E.β ((look a.b j).getD 0),L:=fun j=>(look a.h j).isSome=true,R:=fun r=>r ∈ used/\E.R r,rg:=false }
theorem jy (hm:MemOk E σ.look) {used:List Nat} {a0:ArgIn} (hsub:∀i b,look a0.b i=some b->True):∀{ks:List PK} {args:List SV} {j:Nat} {a:ArgIn} {vs:List Value},cU used σ j ks args=some a->dQ E args vs->(∀i b,look a.b i=some b->look a0.b i=some b/\(look a0.h i).isSome=true) ->
  ∀i t,look a.s i=some (some t)->∃v,j<=i/\vs[i - j]?=some v/\fE (E.argE σ.look used a0) t v
 | [],[],j,a,vs,h,_,_,i,t,hi=>by
  simp only[cU,Option.some.injEq] at h
  subst h
  simp[look] at hi
 | .d s ::r,v ::l,j,a,u ::vs,h,hr,hs,i,t,hi=>by
  simp only[cU] at h
  split at h
  ·rename_i a' ha hoff
   injection h with h
   subst h
   rw[ai] at hi
   split at hi
   ·rename_i e
    simp only[Option.some.injEq] at hi
    subst hi;subst e
    refine ⟨u,Nat.le_refl _,by simp,?_⟩
    have hm0:Mod 0 E { tmps:=#[],defers:=[] } { σ.look with s:=fun _=>none }:=⟨hm.glob.of rfl rfl,trivial,rfl,fun i s hi=>(by cases hi),hm.blks,hm.rows,hm.xs⟩
    have h1:=oT hm0 (rk:=noX (look σ.r)) (fun _ _ h=>xm h) (u:=sL v) (fun r _=>zq r) hr.1 (fun _ h=>h)
    refine wg (E:=E.zone { σ.look with s:=fun _=>none } (sL v)) (E1:=E.argE σ.look used a0) rfl (fun b hb=>?_) rfl (fun r hr1 hr2=>⟨hr1,hr2⟩) h1
    rcases hb with hb | ⟨q,hq,⟨ri,h2,h3⟩ | ⟨x,h2,h3⟩⟩
    ·exact .inl hb
    ·exact .inr (.inr (.inl ⟨q,ri,h2,eY hoff q hq,h3⟩))
    ·exact .inr (.inr (.inr ⟨q,x,h2,eY hoff q hq,h3⟩))
   ·obtain ⟨w,g1,g2,g3⟩:=jy hm hsub ha hr.2 hs i t hi
    exact ⟨w,by omega,by rw[show i - j=(i - (j+1))+1 by omega];simpa using g2,g3⟩
  ·cases h
 | .v ag ps ::r,v ::l,j,a,u ::vs,h,hr,hs,i,t,hi=>by
  simp only[cU] at h
  split at h
  ·rename_i a' ha
   injection h with h
   subst h
   rw[ai] at hi
   split at hi
   ·rename_i e
    simp only[Option.some.injEq] at hi
    subst hi;subst e
    exact ⟨u,Nat.le_refl _,by simp,wg (E:=E) (E1:=E.argE σ.look used a0) rfl (fun b hb=>.inl hb) rfl (fun r hr1 hr2=>⟨hr1,hr2⟩) hr.1⟩
   ·obtain ⟨w,g1,g2,g3⟩:=jy hm hsub ha hr.2 hs i t hi
    exact ⟨w,by omega,by rw[show i - j=(i - (j+1))+1 by omega];simpa using g2,g3⟩
  ·cases h
 | .b ps ::r,v ::l,j,a,u ::vs,h,hr,hs,i,t,hi=>by
  simp only[cU] at h
  split at h
  ·rename_i b a' hb ha
   split at h
   ·rename_i cs hcs
    injection h with h
    subst h
    rw[ai] at hi
    split at hi
    ·rename_i e
     simp only[Option.some.injEq] at hi
     subst hi;subst e
     refine ⟨u,Nat.le_refl _,by simp,?_⟩
     have hv:=Hc hb
     subst hv
     obtain ⟨cs',h1,h2,h3⟩:=hr.1
     obtain ⟨k1,k2⟩:=hs i b (by rw[ai,if_pos rfl])
     match cs',h2 with
     | [y],h2 =>
      obtain ⟨⟨h4,h5⟩,_⟩:=h2
      refine (show fk (E.argE σ.look used a0) false [.ptr i 0] u from ⟨[y],h1,⟨⟨?_,k2⟩,trivial⟩,h3⟩)
      rw[h4]
      simp[eW,Env.argE,k1]
    ·rename_i e
     obtain ⟨w,g1,g2,g3⟩:=jy hm hsub ha hr.2 (fun k b' hk=>hs k b' (by
      rw[ai,if_neg]
      ·exact hk
      ·intro e'
       have:=((iP ha).1.b k b' hk).1
       omega)) i t hi
     exact ⟨w,by omega,by rw[show i - j=(i - (j+1))+1 by omega];simpa using g2,g3⟩
   ·cases h
  ·cases h
 | [],_ ::_,_,_,_,h,_,_,_,_,_=>by simp[cU] at h
 | .d _ ::_,[],_,_,_,h,_,_,_,_,_=>by simp[cU] at h
 | .b _ ::_,[],_,_,_,h,_,_,_,_,_=>by simp[cU] at h
 | .v _ _ ::_,[],_,_,_,h,_,_,_,_,_=>by simp[cU] at h
 | _ ::_,_ ::_,_,_,[],_,hr,_,_,_,_=>hr.elim
theorem Gh (hm:MemOk E σ.look) {used:List Nat} {ks:List PK} {args:List SV} {a:ArgIn} {vs:List Value} (ha:cU used σ 0 ks args=some a) (hr:dQ E args vs) (hnb:(fi a.b).Nodup) :
  Mod vs.length (E.argE σ.look used a) { tmps:=vs.toArray,defers:=[] } (St.look { s:=a.s,h:=a.h,r:=nU used σ.r,next:=0 }):=by
 obtain ⟨hA,_⟩:=iP ha
 let E1:=E.argE σ.look used a
 have G:=hm.glob
 have hh:∀i l,look a.h i=some l->∃b cs,look a.b i=some b/\look σ.h b=some cs/\l=qS used cs/\E1.β i=E.β b:=fun i l hi=>by
  obtain ⟨_,b,cs,h1,h2,h3⟩:=hA.h i l hi
  exact ⟨b,cs,h1,h2,h3,by simp[E1,Env.argE,h1]⟩
 have hrr:∀i x,look (nU used σ.r) i=some x->look σ.r i=some x/\i ∈ used:=fun i x hi=>by
  rw[mE] at hi
  split at hi
  ·rename_i h;exact ⟨hi,h⟩
  ·cases hi
 have blt:∀i l,look σ.h i=some l->E.w0.heap.size<=E.β i/\E.β i<E.w.heap.size:=fun i l hi=>by
  refine ⟨(G.own i l hi).1,?_⟩
  obtain ⟨_,cs,t,h1,_⟩:=hm.blks i l hi
  exact (Array.getElem?_eq_some_iff.1 h1).1
 have rlt:∀i r b,look σ.r i=some (.some r)->(E.ρ i).ownBlock=some b->E.w0.heap.size<=b/\b<E.w.heap.size:=fun i r b hi hb=>by
  obtain ⟨_,xs,h1,_⟩:=hm.rows i r hi
  exact h1.lt b hb
 have xlt:∀i x b,look σ.r i=some (.x x)->E.φ i b->E.w0.heap.size<=b/\b<E.w.heap.size:=fun i x b hi hb=>⟨(G.xg.own i x b hi hb).1,(G.xg.own i x b hi hb).2.1⟩
 have zsz:∀b,kS E σ.look (fi a.b) used b->b<E.w.heap.size/\(E.Z0 b\/E.w0.heap.size<=b):=fun b hb=>by
  rcases hb with hb | ⟨j,l,h1,_,rfl⟩ | ⟨q,r,h1,_,h2⟩ | ⟨q,x,h1,_,h2⟩
  ·exact ⟨G.zlt b hb,G.zfrom b hb⟩
  ·exact ⟨(blt j l h1).2,.inr (blt j l h1).1⟩
  ·exact ⟨(rlt q r b h1 h2).2,.inr (rlt q r b h1 h2).1⟩
  ·exact ⟨(xlt q x b h1 h2).2,.inr (xlt q x b h1 h2).1⟩
 have nb:∀i b cs,look a.b i=some b->look σ.h b=some cs->¬ kS E σ.look (fi a.b) used (E.β b):=fun i b cs h1 h2 hz=>by
  rcases hz with hz | ⟨j,l,k1,k2,k3⟩ | ⟨q,r,k1,_,k2⟩ | ⟨q,x,k1,_,k2⟩
  ·exact (G.own b cs h2).2 hz
  ·have:=G.inj j b l cs k1 h2 k3
   subst this
   exact k2 (oy h1)
  ·exact (G.rown q r _ k1 k2).2 b cs h2 rfl
  ·exact (G.xg.own q x _ k1 k2).2.2.2.1 b cs h2 rfl
 have nr:∀i r b,look σ.r i=some (.some r)->i ∈ used->(E.ρ i).ownBlock=some b->¬ kS E σ.look (fi a.b) used b:=fun i r b h1 h2 h3 hz=>by
  rcases hz with hz | ⟨j,l,k1,k2,k3⟩ | ⟨q,r',k1,k3,k2⟩ | ⟨q,x,k1,_,k2⟩
  ·exact (G.rown i r b h1 h3).1 hz
  ·exact (G.rown i r b h1 h3).2 j l k1 k3
  ·exact k3 (by rw[G.rinj q i r' r b k1 h1 k2 h3];exact h2)
  ·exact (G.xg.own q x b k1 k2).2.2.2.2 i r h1 h3
 have nx:∀i y b,look σ.r i=some (.x y)->i ∈ used->E.φ i b->¬ kS E σ.look (fi a.b) used b:=fun i y b h1 h2 h3 hz=>by
  obtain ⟨_,_,g3,g4,g5⟩:=G.xg.own i y b h1 h3
  rcases hz with hz | ⟨j,l,k1,k2,k3⟩ | ⟨q,r',k1,k3,k2⟩ | ⟨q,x,k1,k3,k2⟩
  ·exact g3 hz
  ·exact g4 j l k1 k3
  ·exact g5 q r' k1 k2
  ·exact k3 (by rw[G.xg.inj q i x y b k1 h1 k2 h3];exact h2)
 have hZ1:∀b,E.Z b->E1.Z b:=fun b hb=>.inl hb
 have hxg:XGlob E1 (St.look { s:=a.s,h:=a.h,r:=nU used σ.r,next:=0 }):=by
  refine ⟨fun i x b hi hb=>?_,fun i j x y b hi hj hb hb'=>G.xg.inj i j x y b (hrr i _ hi).1 (hrr j _ hj).1 hb hb'⟩
  obtain ⟨h1,h2⟩:=hrr i _ hi
  obtain ⟨g1,g2,g3,g4,g5⟩:=G.xg.own i x b h1 hb
  refine ⟨g1,g2,nx i x b h1 h2 hb,fun j l hj=>?_,fun j r hj=>g5 j r (hrr j _ hj).1⟩
  obtain ⟨b',cs,_,k2,_,k4⟩:=hh j l hj
  rw[k4]
  exact g4 b' cs k2
 refine ⟨⟨G.below,fun b hb=>(zsz b hb).1,fun b hb=>.inl (G.z0 b hb),fun b hb=>(zsz b hb).2,fun j hj=>hj,fun r hr=>?_,fun i l hi=>?_,fun i j l l' hi hj hij=>?_,fun i r b hi hb=>?_,fun i j r r' b hi hj hb hb'=>G.rinj i j r r' b (hrr i _ hi).1 (hrr j _ hj).1 hb hb',hxg⟩,trivial,by simp,fun i t hi=>?_,fun i l hi=>?_,fun i r hi=>?_,fun i x hi=>?_⟩
 ·show (look (nU used σ.r) r).isSome=true
  rw[mE,if_pos hr.1]
  exact G.rlive r hr.2
 ·obtain ⟨b,cs,h1,h2,_,h4⟩:=hh i l hi
  show E.w0.heap.size<=E1.β i/\¬ kS E σ.look (fi a.b) used (E1.β i)
  rw[h4]
  exact ⟨(blt b cs h2).1,nb i b cs h1 h2⟩
 ·obtain ⟨b,cs,h1,h2,_,h4⟩:=hh i l hi
  obtain ⟨b',cs',k1,k2,_,k4⟩:=hh j l' hj
  have hij:E1.β i=E1.β j:=hij
  rw[h4,k4] at hij
  have:=G.inj b b' cs cs' h2 k2 hij
  subst this
  exact CO hnb h1 k1
 ·obtain ⟨h1,h2⟩:=hrr i _ hi
  refine ⟨nr i r b h1 h2 hb,fun j l hj=>?_⟩
  obtain ⟨b',cs,_,k2,_,k4⟩:=hh j l hj
  show E1.β j≠b
  rw[k4]
  exact (G.rown i r b h1 hb).2 b' cs k2
 ·have hi:eN a.s i=some t:=hi
  unfold eN at hi
  split at hi
  ·rename_i t' hl
   injection hi with hi
   subst hi
   obtain ⟨v,_,h2,h3⟩:=jy hm (a0:=a) (fun _ _ _=>trivial) ha hr (fun k b hk=>⟨hk,(hA.b k b hk).2.2⟩) i t' hl
   exact ⟨v,by simpa using h2,h3⟩
  ·cases hi
 ·obtain ⟨b,cs,h1,h2,h3,h4⟩:=hh i l hi
  obtain ⟨_,ds,t,g1,g2,g3⟩:=hm.blks b cs h2
  subst h3
  have hi':look a.h i=some (qS used cs):=hi
  exact ⟨by show (look a.h i).isSome=true;rw[hi'];rfl,ds,t,by show E.w.heap[E1.β i]?=_;rw[h4];exact g1,oM (E:=E) (E1:=E1) rfl hZ1 rfl (fun r hr1 hr2=>⟨hr1,hr2⟩) g2,g3⟩
 ·obtain ⟨h1,h2⟩:=hrr i _ hi
  obtain ⟨g1,xs,g2,g3,g4⟩:=hm.rows i r h1
  exact ⟨⟨h2,g1⟩,xs,g2,av.mono hZ1 (fun _ _=>rfl) g3,g4⟩
 ·obtain ⟨h1,h2⟩:=hrr i _ hi
  exact XOk.zone (E:=E) (E1:=E1) rfl rfl hZ1 ⟨h2,(hm.xs i x h1).live⟩ rfl rfl rfl rfl (hm.xs i x h1)
theorem mh {i:Nat}:∀{l:List (Nat×List At)},look (uH l) i=(look l i).map uL
 | []=>rfl
 | p ::r=>by
  simp only[uH]
  rw[ai,ai,mh]
  split<;>rfl
theorem AJ {E:Env}:∀{l:List At} {cs:List Value},l.length=cs.length->bH E (uL l) cs
 | [],[],_=>trivial
 | _ ::_,_ ::_,h=>⟨trivial,AJ (by simpa using h)⟩
 | [],_ ::_,h=>by simp at h
 | _ ::_,[],h=>by simp at h
theorem kL {α:Type} {W:List Nat} {i:Nat}:∀{l:List (Nat×α)},i ∈ be W l->i ∉ W
 | [],h=>by simp[be] at h
 | p ::r,h=>by
  simp only[be] at h
  split at h
  ·exact kL h
  ·rename_i hm
   rcases List.mem_cons.1 h with e | h
   ·subst e
    intro hw
    rw[ca.2 hw] at hm
    cases hm
   ·exact kL h
theorem oP:∀{ks:List PK} {j:Nat},bj (rhI j ks)=bj (rhB j ks)
 | [],_=>rfl
 | .d _ ::r,j=>by simp only[rhI,rhB,bj];exact oP
 | .b _ ::r,j=>by simp only[rhI,rhB,bj];rw[oP]
 | .v _ _ ::r,j=>by simp only[rhI,rhB,bj];exact oP
theorem ox:∀{l m:List (Plc×List Pat)},bj (l++m)=bj l++bj m
 | [],_=>rfl
 | (.slot _ _,_) ::r,m=>by simp only[List.cons_append,bj];exact ox
 | (.blk _,_) ::r,m=>by simp only[List.cons_append,bj];rw[ox]
 | (.row _,_) ::r,m=>by simp only[List.cons_append,bj];exact ox
theorem Bm:∀{rs:List (Bool×List Pat)} {j:Nat},bj (rhS j rs)=[]
 | [],_=>rfl
 | _ ::r,j=>by simp only[rhS,bj];exact Bm
theorem mC {E E':Env}:∀{s:Sh} {x:s.T} {cs:List Value},s.flat=true->bH E (s.cells x) cs->bH E' (s.cells x) cs
 | .int _,_,[_],_,h=>⟨h.1,trivial⟩
 | .bool,_,[_],_,h=>⟨h.1,trivial⟩
 | .str,_,[_],_,h=>⟨h.1,trivial⟩
 | .pair a b,x,cs,hf,h=>by
  simp only[Sh.flat,z10] at hf
  simp only[Sh.cells] at h ⊢
  obtain ⟨c1,c2,rfl,h1,h2⟩:=pS h
  exact (mC hf.1 h1).append (mC hf.2 h2)
 | .agg e,x,cs,hf,h=>mC (s:=e) (x:=x) hf h
 | .sl _,_,_,hf,_=>by cases hf
 | .ref,_,_,hf,_=>by cases hf
 | .int _,_,_ ::_ ::_,_,h=>h.2.elim
 | .bool,_,_ ::_ ::_,_,h=>h.2.elim
 | .str,_,_ ::_ ::_,_,h=>h.2.elim
 | .int _,_,[],_,h=>h.elim
 | .bool,_,[],_,h=>h.elim
 | .str,_,[],_,h=>h.elim
theorem gT {E E':Env} {n cnt:Nat} (hρ:∀i,i<cnt->E'.ρ (i+n)=E.ρ i/\E'.R (i+n)):∀{ps:List Pat} {X:Type} {x:pO ps X} {k:Nat} {cs:List Value},iE ps=true->k+dZ ps<=cnt->bH E (kg ps x k) cs->bH E' (kg ps x (k+n)) cs
 | [],_,_,_,cs,_,_,h=>by
  cases cs with
  | nil=>trivial
  | cons _ _=>exact h.elim
 | .d s ::r,_,x,k,cs,hf,hc,h=>by
  simp only[iE,z10] at hf
  simp only[kg] at h ⊢
  simp only[dZ] at hc
  obtain ⟨c1,c2,rfl,h1,h2⟩:=pS h
  exact (mC hf.1 h1).append (gT hρ hf.2 hc h2)
 | .row _ _ ::r,_,x,k,c ::cs,hf,hc,h=>by
  simp only[iE,z10] at hf
  simp only[dZ] at hc
  obtain ⟨⟨h1,h2,h3⟩,h4⟩:=h
  obtain ⟨g1,g2⟩:=hρ k (by omega)
  refine ⟨⟨h1.trans g1.symm,g2,h3⟩,?_⟩
  have:=gT hρ (x:=x.2) (k:=k+1) hf.2 (by omega) h4
  rw[show k+1+n=k+n+1 by omega] at this
  exact this
 | .x _ ::r,_,x,k,c ::cs,hf,hc,h=>by
  simp only[iE,z10] at hf
  simp only[dZ] at hc
  obtain ⟨⟨h1,h2,h3⟩,h4⟩:=h
  obtain ⟨g1,g2⟩:=hρ k (by omega)
  refine ⟨⟨h1.trans g1.symm,g2,h3⟩,?_⟩
  have:=gT hρ (x:=x.2) (k:=k+1) hf.2 (by omega) h4
  rw[show k+1+n=k+n+1 by omega] at this
  exact this
 | .row _ _ ::_,_,_,_,[],_,_,h=>h.elim
 | .x _ ::_,_,_,_,[],_,_,h=>h.elim
theorem ja {n:Nat}:∀{ps:List Pat} {X:Type} {x:pO ps X} {k i:Nat},look (eo ps x (k+n)) (i+n)=look (eo ps x k) i
 | [],_,_,_,_=>rfl
 | .d _ ::r,_,x,k,i=>by simp only[eo];exact ja
 | .row t e ::r,_,x,k,i=>by
  simp only[eo]
  rw[ai,ai,show k+n+1=k+1+n by omega,ja]
  by_cases h:i=k
  ·rw[if_pos h,if_pos (by omega)]
  ·rw[if_neg h,if_neg (by omega)]
 | .x p ::r,_,x,k,i=>by
  simp only[eo]
  rw[ai,ai,show k+n+1=k+1+n by omega,ja]
  by_cases h:i=k
  ·rw[if_pos h,if_pos (by omega)]
  ·rw[if_neg h,if_neg (by omega)]
theorem nD {n:Nat}:∀{rh:List (Plc×List Pat)} {x:TsR rh} {k i:Nat},iw rh=true->look (cE rh x (k+n)) (i+n)=look (cE rh x k) i
 | [],_,_,_,_=>rfl
 | (.slot _ _,ps) ::r,x,k,i,hf=>by
  simp only[iw,z10] at hf
  simp only[cE,fI,pb]
  rw[aI,aI,ja,show k+n+dZ ps=k+dZ ps+n by omega,nD hf.2]
 | (.blk _,ps) ::r,x,k,i,hf=>by
  simp only[iw,z10] at hf
  simp only[cE,fI,pb]
  rw[aI,aI,ja,show k+n+dZ ps=k+dZ ps+n by omega,nD hf.2]
 | (.row _,_) ::_,_,_,_,hf=>by cases hf
theorem rN:∀{rh:List (Plc×List Pat)},iw rh=true->bg rh=[]
 | [],_=>rfl
 | (.slot _ _,ps) ::r,hf=>by simp only[iw,z10] at hf;simp only[bg];exact rN hf.2
 | (.blk _,ps) ::r,hf=>by simp only[iw,z10] at hf;simp only[bg];exact rN hf.2
 | (.row _,_) ::_,hf=>by cases hf
theorem uT {i:Nat}:∀{rh:List (Plc×List Pat)} {x:TsR rh} {k:Nat},iw rh=true->(∀ri,look (cE rh x k) i=some (.some ri)->ri.e.flat=true)/\(∀y,look (cE rh x k) i=some (.x y)->∃(p:XP) (z:p.T),p.flat=true/\y=p.mk z):=by
 have hP:∀{ps:List Pat} {X:Type} {x:pO ps X} {k:Nat},iE ps=true->(∀ri,look (eo ps x k) i=some (.some ri)->ri.e.flat=true)/\(∀y,look (eo ps x k) i=some (.x y)->∃(p:XP) (z:p.T),p.flat=true/\y=p.mk z):=by
  intro ps
  induction ps with
  | nil=>intro X x k _;exact ⟨fun ri h=>by simp[eo,look] at h,fun y h=>by simp[eo,look] at h⟩
  | cons p r ih =>
   intro X x k hf
   cases p with
   | d s=>simp only[iE,z10] at hf;simp only[eo];exact ih hf.2
   | row t e =>
    simp only[iE,z10] at hf
    simp only[eo]
    rw[ai]
    split
    ·exact ⟨fun ri h=>(by injection h with h;injection h with h;subst h;exact hf.1),fun y h=>(by injection h with h;cases h)⟩
    ·exact ih hf.2
   | x p =>
    simp only[iE,z10] at hf
    simp only[eo]
    rw[ai]
    split
    ·exact ⟨fun ri h=>(by injection h with h;cases h),fun y h=>(by injection h with h;injection h with h;exact ⟨p,x.1,hf.1,h.symm⟩)⟩
    ·exact ih hf.2
 intro rh
 induction rh with
 | nil=>intro x k _;exact ⟨fun ri h=>by simp[cE,look] at h,fun y h=>by simp[cE,look] at h⟩
 | cons p r ih =>
  intro x k hf
  obtain ⟨pl,ps⟩:=p
  cases pl with
  | row q=>cases hf
  | slot j ag =>
   simp only[iw,z10] at hf
   simp only[cE,fI]
   rw[aI]
   cases hq:look (eo ps x k) i with
   | some u =>
    obtain ⟨h1,h2⟩:=hP (x:=x) (k:=k) hf.1
    exact ⟨fun ri h=>h1 ri (by rw[hq];exact h),fun y h=>h2 y (by rw[hq];exact h)⟩
   | none=>exact ih hf.2
  | blk b =>
   simp only[iw,z10] at hf
   simp only[cE,fI]
   rw[aI]
   cases hq:look (eo ps x k) i with
   | some u =>
    obtain ⟨h1,h2⟩:=hP (x:=x) (k:=k) hf.1
    exact ⟨fun ri h=>h1 ri (by rw[hq];exact h),fun y h=>h2 y (by rw[hq];exact h)⟩
   | none=>exact ih hf.2
theorem nu {E E':Env} {n cnt:Nat} (hρ:∀i,i<cnt->E'.ρ (i+n)=E.ρ i/\E'.R (i+n)):∀{rh:List (Plc×List Pat)} {x:TsR rh} {k j:Nat} {l:List At},iw rh=true->k+jd rh<=cnt->look (cN rh x (k+n)) j=some l->∃l',look (cN rh x k) j=some l'/\∀cs,bH E l' cs->bH E' l cs
 | [],_,_,_,_,_,_,h=>by simp[cN,look] at h
 | (.slot _ _,ps) ::r,x,k,j,l,hf,hc,h=>by
  simp only[iw,z10] at hf
  simp only[jd,pb] at hc
  simp only[cN] at h ⊢
  rw[show k+n+dZ ps=k+dZ ps+n by omega] at h
  exact nu hρ hf.2 (by omega) h
 | (.blk b,ps) ::r,x,k,j,l,hf,hc,h=>by
  simp only[iw,z10] at hf
  simp only[jd,pb] at hc
  simp only[cN] at h ⊢
  rw[ai] at h ⊢
  split at h
  ·rename_i e
   injection h with h
   subst h
   exact ⟨_,by rw[if_pos e],fun cs hcs=>gT hρ hf.1 (by omega) hcs⟩
  ·rename_i e
   rw[if_neg e]
   rw[show k+n+dZ ps=k+dZ ps+n by omega] at h
   exact nu hρ hf.2 (by omega) h
 | (.row _,_) ::_,_,_,_,_,hf,_,_=>by cases hf
theorem pN {E E':Env} {n cnt:Nat} (hρ:∀i,i<cnt->E'.ρ (i+n)=E.ρ i/\E'.R (i+n)):∀{rh:List (Plc×List Pat)} {x:TsR rh} {k:Nat} {us:List Value},iw rh=true->k+jd rh<=cnt->dQ E (sd rh x k) us->dQ E' (sd rh x (k+n)) us
 | [],_,_,us,_,_,h=>by
  cases us with
  | nil=>trivial
  | cons _ _=>exact h.elim
 | (.slot _ ag,ps) ::r,x,k,u ::us,hf,hc,h=>by
  simp only[iw,z10] at hf
  simp only[jd,pb] at hc
  obtain ⟨⟨cs,h1,h2,h3⟩,h4⟩:=h
  refine ⟨⟨cs,h1,gT hρ hf.1 (by omega) h2,h3⟩,?_⟩
  have:=pN hρ (k:=k+dZ ps) hf.2 (by omega) h4
  rw[show k+dZ ps+n=k+n+dZ ps by omega] at this
  exact this
 | (.slot _ ag,ps) ::r,x,k,[],_,_,h=>h.elim
 | (.blk _,ps) ::r,x,k,us,hf,hc,h=>by
  simp only[iw,z10] at hf
  simp only[jd,pb] at hc
  have:=pN hρ (rh:=r) (x:=jv ps x) (k:=k+dZ ps) hf.2 (by omega) h
  rw[show k+dZ ps+n=k+n+dZ ps by omega] at this
  exact this
 | (.row _,_) ::_,_,_,_,hf,_,_=>by cases hf
theorem mI {m:List (Nat×Nat)} {b:Nat} {c:List At}:∀{l:List (Nat×List At)},look (iv m l) b=some c->∃j,look m j=some b/\look l j=some c
 | [],h=>by simp[iv,look] at h
 | p ::r,h=>by
  simp only[iv] at h
  split at h
  ·rename_i b' hb
   rw[ai] at h
   split at h
   ·rename_i e
    injection h with h
    subst h;subst e
    exact ⟨p.1,hb,by rw[ai,if_pos rfl]⟩
   ·rename_i e
    obtain ⟨j,h1,h2⟩:=mI h
    refine ⟨j,h1,?_⟩
    rw[ai,if_neg]
    ·exact h2
    ·intro e'
     subst e'
     rw[h1] at hb
     injection hb with hb
     exact e hb
  ·rename_i hb
   obtain ⟨j,h1,h2⟩:=mI h
   refine ⟨j,h1,?_⟩
   rw[ai,if_neg]
   ·exact h2
   ·intro e'
    subst e'
    rw[h1] at hb
    cases hb
theorem pT {m:List (Nat×Nat)} {b j:Nat} (hj:look m j=some b):∀{l:List (Nat×List At)},(look l j).isSome=true->(look (iv m l) b).isSome=true
 | [],h=>by simp[look] at h
 | p ::r,h=>by
  simp only[iv]
  rw[ai] at h
  split
  ·rename_i b' hb
   rw[ai]
   split
   ·rfl
   ·rename_i e
    split at h
    ·rename_i e'
     subst e'
     rw[hj] at hb
     injection hb with hb
     exact absurd hb e
    ·exact pT hj h
  ·rename_i hb
   split at h
   ·rename_i e'
    subst e'
    rw[hj] at hb
    cases hb
   ·exact pT hj h
def Env.outE (E E':Env) (n cnt:Nat):Env :=
 {E with w:=E'.w,R:=fun i=>E.R i\/(n<=i/\i<n+cnt),ρ:=fun i=>if n<=i/\i<n+cnt then E'.ρ (i - n) else E.ρ i,φ:=fun i=>if n<=i/\i<n+cnt then E'.φ (i - n) else E.φ i,ι:=fun i=>if n<=i/\i<n+cnt then E'.ι (i - n) else E.ι i,ν:=fun i=>if n<=i/\i<n+cnt then E'.ν (i - n) else E.ν i }
theorem oC {E E':Env} {i q:Nat} (hι:E'.ι i=E.ι q) (hν:E'.ν i=E.ν q):∀{s:Sh} {x:s.T} {cs:List Value},tU s=true->dt E q s x cs->dt E' i s x cs
 | .ref,_,_,_,h=>by simp only[dt] at h ⊢;rw[hι,hν];exact h
 | .pair a b,x,cs,hf,h=>by
  simp only[tU,z10] at hf
  simp only[dt] at h ⊢
  obtain ⟨c1,c2,h1,h2,h3⟩:=h
  exact ⟨c1,c2,h1,oC hι hν hf.1 h2,oC hι hν hf.2 h3⟩
 | .agg e,x,cs,hf,h=>oC (s:=e) (x:=x) hι hν hf h
 | .int _,_,_,_,h=>h
 | .bool,_,_,_,h=>h
 | .str,_,_,_,h=>h
 | .sl _,_,_,hf,_=>by cases hf
theorem sV {E E':Env} {i q:Nat} (hι:E'.ι i=E.ι q) (hν:E'.ν i=E.ν q) {s:Sh} (hf:tU s=true):∀{l:List s.T} {xs:List Value},cf E q s l xs->cf E' i s l xs
 | [],_,h=>h
 | _ ::_,_,⟨c,r,h1,h2,h3⟩=>⟨c,r,h1,oC hι hν hf h2,sV hι hν hf h3⟩
theorem vZ {w w':World} {Z Z':Nat->Prop} {k:Sh} (hf:k.flat=true):∀{l:List k.T} {en:List MapEntry},dh w Z k l en->dh w' Z' k l en
 | [],_,h=>h
 | _ ::_,_,⟨m,r,h1,h2,h3,h4⟩=>⟨m,r,h1,Dat.flat hf h2,h3,vZ hf h4⟩
theorem wT {w w':World} {Z Z':Nat->Prop} {k e:Sh} (hk:k.flat=true) (he:e.flat=true):∀{l:List (k.T×e.T)} {en:List MapEntry},cY w Z k e l en->cY w' Z' k e l en
 | [],_,h=>h
 | _ ::_,_,⟨m,r,h1,h2,⟨cs,h3,h4,h5⟩,h6⟩=>⟨m,r,h1,Dat.flat hk h2,⟨cs,Dat.flat he h3,h4,h5⟩,wT hk he h6⟩
theorem XOk.flat {E E':Env} {i q:Nat} {p:XP} {z:p.T} (hf:p.flat=true) (hw:E'.w=E.w) (h0:E'.w0=E.w0) (hR:E'.R i) (hρ:E'.ρ i=E.ρ q) (hφ:E'.φ i=E.φ q) (hι:E'.ι i=E.ι q) (hν:E'.ν i=E.ν q) (h:XOk E q (p.mk z)):XOk E' i (p.mk z):=by
 cases p with
 | set t k =>
  obtain ⟨_,b,es,ck,h1,h2,h3,h4⟩:=h
  exact ⟨hR,b,es,ck,by rw[hρ];exact h1,by rw[hφ];exact h2,by rw[hw];exact h3,vZ hf h4⟩
 | map t k e =>
  simp only[XP.flat,z10] at hf
  obtain ⟨_,b,es,ck,h1,h2,h3,h4⟩:=h
  exact ⟨hR,b,es,ck,by rw[hρ];exact h1,by rw[hφ];exact h2,by rw[hw];exact h3,wT hf.1 hf.2 h4⟩
 | tab t s ti e =>
  simp only[XP.flat,z10] at hf
  obtain ⟨_,⟨xs,h1,h2⟩,h3,h4,h5,h6⟩:=h
  refine ⟨hR,⟨xs,by rw[hw,h0,hρ];exact h1,sV hι hν hf.1 h2⟩,by rw[hρ,hφ];exact h3,by rw[hν];exact h4,fun j l' hj=>?_,by rw[hι];exact h6⟩
  obtain ⟨⟨ys,g1,g2⟩,g3⟩:=h5 j l' hj
  unfold kh
  rw[hw,h0,hρ,hφ,hι]
  exact ⟨⟨ys,g1,av.flat hf.2 (av.mono (fun _ h=>h) (fun _ _=>rfl) g2)⟩,g3⟩
theorem kI {used:List Nat}:∀{ks:List PK} {args:List SV} {j:Nat} {a:ArgIn},cU used σ j ks args=some a->∀i ∈ fi a.b,∃k,look a.b k=some i
 | [],[],j,a,h,i,hi=>by
  simp only[cU,Option.some.injEq] at h
  subst h
  simp[fi] at hi
 | .d s ::r,v ::l,j,a,h,i,hi=>by
  simp only[cU] at h
  split at h
  ·rename_i a' ha _
   injection h with h
   subst h
   exact kI ha i hi
  ·cases h
 | .v ag ps ::r,v ::l,j,a,h,i,hi=>by
  simp only[cU] at h
  split at h
  ·rename_i a' ha
   injection h with h
   subst h
   exact kI ha i hi
  ·cases h
 | .b ps ::r,v ::l,j,a,h,i,hi=>by
  simp only[cU] at h
  split at h
  ·rename_i b a' hb ha
   split at h
   ·injection h with h
    subst h
    simp only[fi,List.mem_cons] at hi
    rcases hi with rfl | hi
    ·exact ⟨j,by rw[ai,if_pos rfl]⟩
    ·obtain ⟨k,hk⟩:=kI ha i hi
     refine ⟨k,?_⟩
     rw[ai,if_neg]
     ·exact hk
     ·intro e
      have:=((iP ha).1.b k i hk).1
      omega
   ·cases h
  ·cases h
 | [],_ ::_,_,_,h,_,_=>by simp[cU] at h
 | .d _ ::_,[],_,_,h,_,_=>by simp[cU] at h
 | .b _ ::_,[],_,_,h,_,_=>by simp[cU] at h
 | .v _ _ ::_,[],_,_,h,_,_=>by simp[cU] at h
theorem wS {E:Env}:∀{l:List SV} {vs:List Value},dQ E l vs->l.length=vs.length
 | [],[],_=>rfl
 | _ ::_,_ ::_,h=>by simp[wS h.2]
 | [],_ ::_,h=>h.elim
 | _ ::_,[],h=>h.elim
theorem Aj {P:Program} {id:FuncId} {c:SCtr} (hc:c.ok P id) {R:Type} {K:List SV->St->Option R} {z:R} {args:List SV} {vs:Array Value} {post:Ending->World->Prop} (h:BW c args σ K=some z) (hro:RoR σ) (hm:MemOk E σ.look) (hP:E.P=P) (hr:dQ E args vs.toList)
  (hpost:∀svs σ' E' v,K svs σ'=some z->ef E E'->Keep E E'->Fr σ σ'->MemOk E' σ'.look->(∀sv,wl svs=some sv->bz E' sv v)->post (.returned v) E'.w)
  (hret:∀(E:Env) (l:List SV) (sv:SV) (us:List Value),wl l=some sv->dQ E l us->bz E sv (if h:us.length=1 then us[0] else .tuple us.toArray)):Calls P id vs E.w post:=by
 unfold BW at h
 split at h
 case h_2=>cases h
 rename_i a ha
 split at h
 case h_2=>cases h
 rename_i x hx
 split at h
 case h_2=>cases h
 rename_i hchk
 obtain ⟨y,hy,hK⟩:=pX h
 simp only[z10] at hchk
 obtain ⟨⟨⟨⟨⟨⟨hoB,hoR⟩,hnb⟩,hnu⟩,hfr⟩,hfl⟩,hpl⟩:=hchk
 generalize hu:rB (look σ.h) c.ks args=used at *
 have hnb:=oj hnb
 have hfr:=ji hfr
 obtain ⟨hA,hlen⟩:=iP ha
 have hM1:=Gh hm ha hr hnb
 have G:=hm.glob
 generalize hE1:E.argE σ.look used a=E1 at hM1
 have e1w:E1.w=E.w:=by rw[<-hE1];rfl
 have e1w0:E1.w0=E.w0:=by rw[<-hE1];rfl
 have e1Z0:E1.Z0=E.Z0:=by rw[<-hE1];rfl
 have e1P:E1.P=E.P:=by rw[<-hE1];rfl
 have e1Z:E1.Z=kS E σ.look (fi a.b) used:=by rw[<-hE1];rfl
 have e1rg:E1.rg=false:=by rw[<-hE1];rfl
 have e1L:∀j,E1.L j↔(look a.h j).isSome=true:=fun j=>by rw[<-hE1];exact Iff.rfl
 have e1β:∀j b,look a.b j=some b->E1.β j=E.β b:=fun j b hj=>by rw[<-hE1];simp[Env.argE,hj]
 let E0:Env:={ E1 with R:=fun _=>False }
 have hM0:Mod vs.toList.length E0 { tmps:=vs.toList.toArray,defers:=[] } (pk c.ks a.h).look:=by
  have hkey:∀i l,look (uH a.h) i=some l->∃l',look a.h i=some l'/\l=uL l':=fun i l hi=>by
   rw[mh] at hi
   cases hq:look a.h i with
   | none=>rw[hq] at hi;cases hi
   | some l'=>rw[hq] at hi;injection hi with hi;exact ⟨l',rfl,hi.symm⟩
  refine ⟨⟨hM1.glob.below,hM1.glob.zlt,hM1.glob.z0,hM1.glob.zfrom,fun j hj=>?_,fun r hr=>hr.elim,fun i l hi=>?_,fun i j l l' hi hj hij=>?_,fun i r b hi=>by simp[pk,St.look,look] at hi,fun i j r r' b hi=>by simp[pk,St.look,look] at hi,⟨fun i x b hi=>by simp[pk,St.look,look] at hi,fun i j x y b hi=>by simp[pk,St.look,look] at hi⟩⟩,trivial,hM1.size,fun i t hi=>?_,fun i l hi=>?_,fun i r hi=>by simp[pk,St.look,look] at hi,fun i x hi=>by simp[pk,St.look,look] at hi⟩
  ·show (look (uH a.h) j).isSome=true
   rw[mh]
   have hj:(look a.h j).isSome=true:=(e1L j).1 hj
   cases hq:look a.h j with
   | none=>rw[hq] at hj;cases hj
   | some l=>rfl
  ·obtain ⟨l',h1,_⟩:=hkey i l hi
   exact hM1.glob.own i l' h1
  ·obtain ⟨l1,h1,_⟩:=hkey i l hi
   obtain ⟨l2,h2,_⟩:=hkey j l' hj
   exact hM1.glob.inj i j l1 l2 h1 h2 hij
  ·have hi:eN (rz 0 c.ks) i=some t:=hi
   have hnp:i ∉ gW 0 c.ks:=by
    intro hn
    have:∀(ks:List PK) (j:Nat),(∀k ∈ gW j ks,j<=k)/\(∀k t,look (rz j ks) k=some t->j<=k/\k ∉ gW j ks):=by
     intro ks
     induction ks with
     | nil=>intro j;exact ⟨fun k h=>by simp[gW] at h,fun k t h=>by simp[rz,look] at h⟩
     | cons p r ih =>
      intro j
      obtain ⟨i1,i2⟩:=ih (j+1)
      cases p with
      | d s =>
       refine ⟨fun k h=>?_,fun k t h=>?_⟩
       ·simp only[gW,List.mem_cons] at h
        rcases h with h | h
        ·omega
        ·have:=i1 k h;omega
       ·obtain ⟨g1,g2⟩:=i2 k t h
        exact ⟨by omega,by simp only[gW,List.mem_cons,not_or];exact ⟨by omega,g2⟩⟩
      | v ag ps =>
       refine ⟨fun k h=>?_,fun k t h=>?_⟩
       ·simp only[gW,List.mem_cons] at h
        rcases h with h | h
        ·omega
        ·have:=i1 k h;omega
       ·obtain ⟨g1,g2⟩:=i2 k t h
        exact ⟨by omega,by simp only[gW,List.mem_cons,not_or];exact ⟨by omega,g2⟩⟩
      | b ps =>
       refine ⟨fun k h=>by have:=i1 k h;omega,fun k t h=>?_⟩
       simp only[rz] at h
       rw[ai] at h
       split at h
       ·rename_i e
        exact ⟨by omega,fun hk=>by have:=i1 k hk;omega⟩
       ·obtain ⟨g1,g2⟩:=i2 k t h
        exact ⟨by omega,g2⟩
    unfold eN at hi
    split at hi
    ·rename_i t' hl
     exact ((this c.ks 0).2 i _ hl).2 hn
    ·cases hi
   have hs1:(St.look { s:=a.s,h:=a.h,r:=nU used σ.r,next:=0 }).s i=some t:=by
    show eN a.s i=some t
    unfold eN at hi ⊢
    rw[hA.ptr i hnp]
    exact hi
   obtain ⟨v,h1,h2⟩:=hM1.slots i t hs1
   refine ⟨v,h1,?_⟩
   unfold eN at hi
   split at hi
   ·rename_i t' hl
    injection hi with hi
    subst hi
    have:∀(ks:List PK) (j:Nat) (t:SlotV),look (rz j ks) i=some (some t)->t=⟨none,.c false [.ptr i 0]⟩:=by
     intro ks
     induction ks with
     | nil=>intro j t h;simp[rz,look] at h
     | cons p r ih =>
      intro j t h
      cases p with
      | d s=>exact ih (j+1) t h
      | v ag ps=>exact ih (j+1) t h
      | b ps =>
       simp only[rz] at h
       rw[ai] at h
       split at h
       ·rename_i e
        simp only[Option.some.injEq] at h
        rw[<-h,e]
       ·exact ih (j+1) t h
    rw[this c.ks 0 t' hl] at h2 ⊢
    obtain ⟨cs',g1,g2,g3⟩:=h2
    match cs',g2 with
    | [y],g2=>exact ⟨[y],g1,⟨g2.1,trivial⟩,g3⟩
   ·cases hi
  ·obtain ⟨l',h1,h2⟩:=hkey i l hi
   obtain ⟨g1,cs,t,g2,g3,g4⟩:=hM1.blks i l' h1
   subst h2
   exact ⟨g1,cs,t,g2,AJ g3.length,g4⟩
 have hk01:Keep E0 E1:=⟨rfl,fun y v hv=>by
  cases y with
  | u=>trivial
  | v x=>exact hv
  | ptr b o=>exact hv
  | clo g cap=>exact hv
  | sl e l=>exact hv
  | row r=>exact hv.2.1.elim
  | rf s x o=>exact hv
  | re r i sz off=>obtain ⟨_,_,_,h⟩:=hv;exact h.elim
  | sub r lo hi sz=>obtain ⟨_,h⟩:=hv;exact h.elim
  | ae b o e l i d=>exact hv
  | sn e l=>exact hv
  | ir r i=>exact hv.2.1.elim
  | ie r i j sz off=>obtain ⟨_,_,_,h,_⟩:=hv;exact h.elim
  | fn a r F=>exact hv,fun b o hb=>hb⟩
 obtain ⟨E2,hs12,hw2,hk02,hm2⟩:=gQ (rh:=rhI 0 c.ks) (W:=gW 0 c.ks) (srcs:=[]) hpl hM0 hk01 hM1 (x:=x) hx
  (fun i hi=>hA.ptr i hi)
  (fun i hi=>by
   rcases List.mem_append.1 hi with hi | hi
   ·have h1:=kL hi
    have h2:(look (uH a.h) i).isSome=true:=fp hi
    rw[mh] at h2
    exfalso
    apply h1
    rw[oP]
    apply (hA.keys i).1
    cases hq:look a.h i with
    | none=>rw[hq] at h2;cases h2
    | some _=>rfl
   ·cases hi)
  (fun i hi=>by
   rcases List.mem_append.1 hi with hi | hi<;>cases hi)
 have he:(head (rhI 0 c.ks) (gW 0 c.ks) [] (pk c.ks a.h) x).look=(c.init x).look:=by
  have h1:look (cN (rhI 0 c.ks) x 0++uH a.h)=look (cN (rhI 0 c.ks) x 0):=by
   funext i
   rw[aI]
   cases hq:look (cN (rhI 0 c.ks) x 0) i with
   | some l=>rfl
   | none =>
    show look (uH a.h) i=none
    rw[mh]
    cases hq2:look a.h i with
    | none=>rfl
    | some l =>
     have:=(hA.keys i).1 (by rw[hq2];rfl)
     rw[<-oP] at this
     have:=(eK (x:=x) (k:=0)).2 this
     rw[hq] at this
     cases this
  simp only[St.look,head,SCtr.init,pk,jt,List.nil_append,List.append_nil,Look.mk.injEq]
  exact ⟨trivial,h1,trivial⟩
 rw[he] at hm2
 have hcall:=hc x y hy E2 vs.toList (by rw[hs12.P,e1P];exact hP) (by rw[hk02.rg];exact e1rg) (by rw[<-wS hr];exact hlen) hm2
 rw[hw2,e1w,Array.toArray_toList] at hcall
 refine hcall.mono fun e w' hew=>?_
 obtain ⟨us,E',rfl,hw',hs2,hk2,hβ2,hM',hus⟩:=hew
 subst hw'
 have ew0:E'.w0=E.w0:=by rw[hs2.w0,hs12.w0,e1w0]
 have eZ0:E'.Z0=E.Z0:=by rw[hs2.Z0,hs12.Z0,e1Z0]
 have hZ1:∀b,kS E σ.look (fi a.b) used b->b<E.w.heap.size/\(E.Z0 b\/E.w0.heap.size<=b):=fun b hb=>by
  rw[<-e1Z] at hb
  have h1:=hM1.glob.zlt b hb
  have h2:=hM1.glob.zfrom b hb
  rw[e1w] at h1
  rw[e1Z0,e1w0] at h2
  exact ⟨h1,h2⟩
 have hlow:∀b,b<E.w0.heap.size->E'.w.heap[b]?=E.w.heap[b]?:=fun b hb=>by
  have h1:=hM'.glob.below
  rw[ew0] at h1
  rw[h1.block b hb,G.below.block b hb]
 have hrest:∀b,kS E σ.look (fi a.b) used b->E'.Z b/\E'.w.heap[b]?=E.w.heap[b]?:=fun b hb=>by
  obtain ⟨h1,h2⟩:=hZ1 b hb
  by_cases hl:b<E.w0.heap.size
  ·refine ⟨?_,hlow b hl⟩
   rcases h2 with h2 | h2
   ·exact hM'.glob.z0 b (by rw[eZ0];exact h2)
   ·omega
  ·have ho:E.w.heap[b]?=some E.w.heap[b]:=Array.getElem?_eq_getElem h1
   have:=hk2.obj b _ (hk02.obj b E.w.heap[b] ⟨by show E1.Z b;rw[e1Z];exact hb,by show E1.w0.heap.size<=b;rw[e1w0];omega,by show E1.w.heap[b]?=_;rw[e1w];exact ho⟩)
   exact ⟨this.1,this.2.2.trans ho.symm⟩
 have hβ':∀j b,look a.b j=some b->E'.β j=E.β b:=fun j b hj=>by
  have hLj:=(hA.b j b hj).2.2
  have h0:fK E0 (.ptr j 0) (eW E1.β (j,0)):=⟨rfl,(e1L j).2 hLj⟩
  obtain ⟨h3,h4⟩:=hk02.at' _ _ h0
  rw[hβ2 j h4]
  have:E1.β j=E2.β j:=by simpa [eW] using h3
  rw[<-this,e1β j b hj]
 generalize hcnt:jd c.out=cnt at *
 have hgr:∀i u,look (cE c.out y σ.next++(jt used++σ.r)) i=some u->((σ.next<=i/\i<σ.next+cnt)/\look (cE c.out y 0) (i - σ.next)=some u)\/(¬ (σ.next<=i/\i<σ.next+cnt)/\((i ∈ used/\u=.none)\/(i ∉ used/\look σ.r i=some u))):=fun i u hi=>by
  rw[aI] at hi
  cases hq:look (cE c.out y σ.next) i with
  | some u' =>
   rw[hq] at hi
   injection hi with hi
   subst hi
   left
   rcases pM (by rw[hq];rfl:(look (cE c.out y σ.next) i).isSome=true) with h1 | h1
   ·rw[hcnt] at h1
    refine ⟨h1,?_⟩
    have h2:=nD (n:=σ.next) (x:=y) (k:=0) (i:=i - σ.next) hfl
    rw[Nat.zero_add,Nat.sub_add_cancel h1.1] at h2
    rw[<-h2,hq]
   ·rw[rN hfl] at h1
    cases h1
  | none =>
   rw[hq] at hi
   right
   refine ⟨fun hn=>?_,?_⟩
   ·rw[<-hcnt] at hn
    have:=oS (x:=y) hn
    rw[hq] at this
    cases this
   ·simp only at hi
    rw[aI,iL] at hi
    by_cases hu':i ∈ used
    ·rw[if_pos hu'] at hi
     injection hi with hi
     exact .inl ⟨hu',hi.symm⟩
    ·rw[if_neg hu'] at hi
     exact .inr ⟨hu',hi⟩
 have hgh:∀i l,look (iv a.b (cN c.out y σ.next)++σ.h) i=some l->(∃j,look a.b j=some i/\look (cN c.out y σ.next) j=some l)\/(i ∉ fi a.b/\look σ.h i=some l):=fun i l hi=>by
  rw[aI] at hi
  cases hq:look (iv a.b (cN c.out y σ.next)) i with
  | some l' =>
   rw[hq] at hi
   injection hi with hi
   subst hi
   exact .inl (mI hq)
  | none =>
   rw[hq] at hi
   refine .inr ⟨fun hv=>?_,hi⟩
   obtain ⟨j,hj⟩:=kI ha i hv
   have h1:=(hA.b j i hj).2.2
   have h2:=(hA.keys j).1 h1
   have h3:j ∈ bj c.out:=by rw[ox,Bm,List.append_nil];exact h2
   have:=pT hj ((eK (x:=y) (k:=σ.next)).2 h3)
   rw[hq] at this
   cases this
 have hkeyh:∀i l,look (iv a.b (cN c.out y σ.next)++σ.h) i=some l->∃l0,look σ.h i=some l0:=fun i l hi=>by
  rcases hgh i l hi with ⟨j,h1,_⟩ | ⟨_,h1⟩
  ·have:=(hA.b j i h1).2.1
   cases hq:look σ.h i with
   | some l0=>exact ⟨l0,rfl⟩
   | none=>rw[hq] at this;cases this
  ·exact ⟨l,h1⟩
 have hbk:∀i l,look (iv a.b (cN c.out y σ.next)++σ.h) i=some l->∀g,¬ E'.Z g->(∀j l',look (cN c.out y 0) j=some l'->E'.β j≠g)->E.β i≠g:=fun i l hi g h1 h2 hg=>by
  rcases hgh i l hi with ⟨j,h3,h4⟩ | ⟨h3,h4⟩
  ·have h5:=(eK (x:=y) (k:=0)).2 ((eK (x:=y) (k:=σ.next)).1 (by rw[h4];rfl))
   cases hq:look (cN c.out y 0) j with
   | none=>rw[hq] at h5;cases h5
   | some l'=>exact h2 j l' hq (by rw[hβ' j i h3];exact hg)
  ·exact h1 (hg ▸ (hrest _ (.inr (.inl ⟨i,l,h4,h3,rfl⟩))).1)
 let E5:=E.outE E' σ.next cnt
 let X:Nat->Prop:=fun b=>¬ kS E σ.look (fi a.b) used b/\E.w0.heap.size<=b
 have p1:∀i,(σ.next<=i/\i<σ.next+cnt)->E5.ρ i=E'.ρ (i - σ.next)/\E5.φ i=E'.φ (i - σ.next)/\E5.ι i=E'.ι (i - σ.next)/\E5.ν i=E'.ν (i - σ.next):=fun i hi=>⟨if_pos hi,if_pos hi,if_pos hi,if_pos hi⟩
 have p2:∀i,¬ (σ.next<=i/\i<σ.next+cnt)->E5.ρ i=E.ρ i/\E5.φ i=E.φ i/\E5.ι i=E.ι i/\E5.ν i=E.ν i:=fun i hi=>⟨if_neg hi,if_neg hi,if_neg hi,if_neg hi⟩
 have hfree:fF E X:=fun b hb=>⟨fun hz=>hb.1 (.inl hz),hb.2⟩
 have hnew:∀r,(look σ.r r).isSome=true->¬ (σ.next<=r/\r<σ.next+cnt):=fun r hr hn=>by
  rw[hfr r hn.1 hn.2] at hr
  cases hr
 have hext:Ext X E E5:=⟨rfl,rfl,rfl,rfl,fun _ h=>h,fun b h1 h2=>by
   by_cases hz:kS E σ.look (fi a.b) used b
   ·exact (hrest b hz).2
   ·exact hlow b (by
     by_cases hl:b<E.w0.heap.size
     ·exact hl
     ·exact absurd ⟨hz,by omega⟩ h2),fun _ _=>rfl,fun _ h=>h,fun r hr=>(p2 r (hnew r (G.rlive r hr))).1,fun _ h=>.inl h,fun r hr=>by
   obtain ⟨_,q2,q3,q4⟩:=p2 r (hnew r (G.rlive r hr))
   rw[q2,q3,q4]
   exact ⟨fun _ h=>h,Nat.le_refl _,fun _ _=>rfl⟩⟩
 have hsz:∀b,kS E σ.look (fi a.b) used b->b<E'.w.heap.size:=fun b hb=>by
  have h1:=(hrest b hb).2
  rw[Array.getElem?_eq_getElem (hZ1 b hb).1] at h1
  exact (Array.getElem?_eq_some_iff.1 h1).1
 have oR:∀i r b,i ∉ used->look σ.r i=some (.some r)->(E.ρ i).ownBlock=some b->kS E σ.look (fi a.b) used b:=fun i r b h1 h2 h3=>.inr (.inr (.inl ⟨i,r,h2,h1,h3⟩))
 have oX:∀i x b,i ∉ used->look σ.r i=some (.x x)->E.φ i b->kS E σ.look (fi a.b) used b:=fun i x b h1 h2 h3=>.inr (.inr (.inr ⟨i,x,h2,h1,h3⟩))
 have hglob:Glob E5 (St.look { σ with h:=iv a.b (cN c.out y σ.next)++σ.h,r:=cE c.out y σ.next++(jt used++σ.r),next:=σ.next+cnt }):=by
  refine ⟨?_,fun b hb=>hsz b (.inl hb),G.z0,G.zfrom,fun b hb=>?_,fun r hr=>?_,fun i l hi=>?_,fun i j l l' hi hj hij=>?_,fun i r b hi hb=>?_,fun i j r r' b hi hj hb hb'=>?_,⟨fun i x b hi hb=>?_,fun i j x y' b hi hj hb hb'=>?_⟩⟩
  ·have h1:=hM'.glob.below
   rw[ew0] at h1
   exact h1
  ·show (look (iv a.b (cN c.out y σ.next)++σ.h) b).isSome=true
   rw[aI]
   cases look (iv a.b (cN c.out y σ.next)) b with
   | some _=>rfl
   | none=>exact G.live b hb
  ·show (look (cE c.out y σ.next++(jt used++σ.r)) r).isSome=true
   rw[aI]
   cases hq:look (cE c.out y σ.next) r with
   | some _=>rfl
   | none =>
    simp only
    rw[aI,iL]
    rcases hr with hr | hr
    ·by_cases hu':r ∈ used
     ·rw[if_pos hu'];rfl
     ·rw[if_neg hu'];exact G.rlive r hr
    ·rw[<-hcnt] at hr
     have:=oS (x:=y) hr
     rw[hq] at this
     cases this
  ·obtain ⟨l0,h0⟩:=hkeyh i l hi
   exact G.own i l0 h0
  ·obtain ⟨l0,h0⟩:=hkeyh i l hi
   obtain ⟨l1,h1⟩:=hkeyh j l' hj
   exact G.inj i j l0 l1 h0 h1 hij
  ·rcases hgr i _ hi with ⟨h1,h2⟩ | ⟨h1,⟨_,h2⟩ | ⟨h2,h3⟩⟩
   ·rw[(p1 i h1).1] at hb
    obtain ⟨g1,g2⟩:=hM'.glob.rown _ r b h2 hb
    exact ⟨fun hz=>g1 (hrest b (.inl hz)).1,fun j l hj=>hbk j l hj b g1 g2⟩
   ·cases h2
   ·rw[(p2 i h1).1] at hb
    obtain ⟨g1,g2⟩:=G.rown i r b h3 hb
    exact ⟨g1,fun j l hj=>by obtain ⟨l0,h0⟩:=hkeyh j l hj;exact g2 j l0 h0⟩
  ·rcases hgr i _ hi with ⟨h1,h2⟩ | ⟨h1,⟨_,h2⟩ | ⟨h2,h3⟩⟩
   ·rw[(p1 i h1).1] at hb
    rcases hgr j _ hj with ⟨k1,k2⟩ | ⟨k1,⟨_,k2⟩ | ⟨k2,k3⟩⟩
    ·rw[(p1 j k1).1] at hb'
     have:=hM'.glob.rinj _ _ r r' b h2 k2 hb hb'
     omega
    ·cases k2
    ·rw[(p2 j k1).1] at hb'
     exact absurd (hrest b (oR j r' b k2 k3 hb')).1 (hM'.glob.rown _ r b h2 hb).1
   ·cases h2
   ·rw[(p2 i h1).1] at hb
    rcases hgr j _ hj with ⟨k1,k2⟩ | ⟨k1,⟨_,k2⟩ | ⟨k2,k3⟩⟩
    ·rw[(p1 j k1).1] at hb'
     exact absurd (hrest b (oR i r b h2 h3 hb)).1 (hM'.glob.rown _ r' b k2 hb').1
    ·cases k2
    ·rw[(p2 j k1).1] at hb'
     exact G.rinj i j r r' b h3 k3 hb hb'
  ·rcases hgr i _ hi with ⟨h1,h2⟩ | ⟨h1,⟨_,h2⟩ | ⟨h2,h3⟩⟩
   ·rw[(p1 i h1).2.1] at hb
    obtain ⟨g1,g2,g3,g4,g5⟩:=hM'.glob.xg.own _ x b h2 hb
    refine ⟨by rw[ew0] at g1;exact g1,g2,fun hz=>g3 (hrest b (.inl hz)).1,fun j l hj=>hbk j l hj b g3 g4,fun j r hj hq=>?_⟩
    rcases hgr j _ hj with ⟨k1,k2⟩ | ⟨k1,⟨_,k2⟩ | ⟨k2,k3⟩⟩
    ·rw[(p1 j k1).1] at hq
     exact g5 _ r k2 hq
    ·cases k2
    ·rw[(p2 j k1).1] at hq
     exact g3 (hrest b (oR j r b k2 k3 hq)).1
   ·cases h2
   ·rw[(p2 i h1).2.1] at hb
    obtain ⟨g1,g2,g3,g4,g5⟩:=G.xg.own i x b h3 hb
    refine ⟨g1,hsz b (oX i x b h2 h3 hb),g3,fun j l hj=>by obtain ⟨l0,h0⟩:=hkeyh j l hj;exact g4 j l0 h0,fun j r hj hq=>?_⟩
    rcases hgr j _ hj with ⟨k1,k2⟩ | ⟨k1,⟨_,k2⟩ | ⟨k2,k3⟩⟩
    ·rw[(p1 j k1).1] at hq
     exact (hM'.glob.rown _ r b k2 hq).1 (hrest b (oX i x b h2 h3 hb)).1
    ·cases k2
    ·rw[(p2 j k1).1] at hq
     exact g5 j r k3 hq
  ·rcases hgr i _ hi with ⟨h1,h2⟩ | ⟨h1,⟨_,h2⟩ | ⟨h2,h3⟩⟩
   ·rw[(p1 i h1).2.1] at hb
    rcases hgr j _ hj with ⟨k1,k2⟩ | ⟨k1,⟨_,k2⟩ | ⟨k2,k3⟩⟩
    ·rw[(p1 j k1).2.1] at hb'
     have:=hM'.glob.xg.inj _ _ x y' b h2 k2 hb hb'
     omega
    ·cases k2
    ·rw[(p2 j k1).2.1] at hb'
     exact absurd (hrest b (oX j y' b k2 k3 hb')).1 (hM'.glob.xg.own _ x b h2 hb).2.2.1
   ·cases h2
   ·rw[(p2 i h1).2.1] at hb
    rcases hgr j _ hj with ⟨k1,k2⟩ | ⟨k1,⟨_,k2⟩ | ⟨k2,k3⟩⟩
    ·rw[(p1 j k1).2.1] at hb'
     exact absurd (hrest b (oX i x b h2 h3 hb)).1 (hM'.glob.xg.own _ y' b k2 hb').2.2.1
    ·cases k2
    ·rw[(p2 j k1).2.1] at hb'
     exact G.xg.inj i j x y' b h3 k3 hb hb'
 have hsh:∀i,i<cnt->E5.ρ (i+σ.next)=E'.ρ i/\E5.R (i+σ.next):=fun i hi=>by
  have hi':σ.next<=i+σ.next/\i+σ.next<σ.next+cnt:=by omega
  refine ⟨?_,.inr hi'⟩
  rw[(p1 _ hi').1,Nat.add_sub_cancel]
 have hm00:Mod 0 E { tmps:=#[],defers:=[] } { σ.look with s:=fun _=>none }:=⟨G.of rfl rfl,trivial,rfl,fun i s hi=>(by cases hi),hm.blks,hm.rows,hm.xs⟩
 have hm5:=hm00.move (a':={ tmps:=#[],defers:=[] }) (g':={ St.look { σ with h:=iv a.b (cN c.out y σ.next)++σ.h,r:=cE c.out y σ.next++(jt used++σ.r),next:=σ.next+cnt } with s:=fun _=>none }) hfree hext (hglob.of rfl rfl) rfl rfl (fun i s hi=>(by cases hi))
  (fun i l hi=>by
   rcases hgh i l hi with ⟨j,h1,h2⟩ | ⟨h1,h2⟩
   ·right
    obtain ⟨l',h3,h4⟩:=nu (E:=E') (E':=E5) (n:=σ.next) (cnt:=cnt) (k:=0) hsh hfl (by rw[Nat.zero_add];exact Nat.le_of_eq hcnt) (by rw[Nat.zero_add];exact h2)
    obtain ⟨_,cs,t,g1,g2,g3⟩:=hM'.blks j l' h3
    obtain ⟨l0,h0⟩:=hkeyh i l hi
    rw[hβ' j i h1] at g1
    exact ⟨(hm.blks i l0 h0).1,cs,t,g1,h4 cs g2,g3⟩
   ·exact .inl ⟨h2,fun hX=>hX.1 (.inr (.inl ⟨i,l,h2,h1,rfl⟩))⟩)
  (fun i r hi=>by
   rcases hgr i _ hi with ⟨h1,h2⟩ | ⟨h1,⟨_,h2⟩ | ⟨h2,h3⟩⟩
   ·right
    obtain ⟨_,xs,g2,g3,g4⟩:=hM'.rows _ r h2
    have hf:=(uT hfl).1 r h2
    refine ⟨.inr h1,xs,?_,av.flat hf g3,g4⟩
    rw[(p1 i h1).1]
    show E'.w.ownsRow E.w0.heap.size _ _ _ _ _
    rw[<-ew0]
    exact g2
   ·cases h2
   ·exact .inl ⟨h3,fun b hb hX=>hX.1 (oR i r b h2 h3 hb)⟩)
  (fun i u hi=>by
   rcases hgr i _ hi with ⟨h1,h2⟩ | ⟨h1,⟨_,h2⟩ | ⟨h2,h3⟩⟩
   ·right
    obtain ⟨p,z',hf,rfl⟩:=(uT hfl).2 u h2
    obtain ⟨q1,q2,q3,q4⟩:=p1 i h1
    exact XOk.flat (E:=E') (E':=E5) hf rfl ew0.symm (.inr h1) q1 q2 q3 q4 (hM'.xs _ _ h2)
   ·cases h2
   ·exact .inl ⟨h3,(p2 i h1).2.2.2,fun b hb hX=>hX.1 (oX i u b h2 h3 hb)⟩)
 refine hpost (sd c.out y σ.next) _ E5 _ hK rfl (hext.keep G hfree) ⟨rfl,rfl,fun i hi=>?_,fun i hi=>?_⟩ ⟨hglob,hm5.blks,hm5.rows,hm5.xs⟩ fun sv hsv=>hret E5 _ sv us hsv ?_
 ·show look (iv a.b (cN c.out y σ.next)++σ.h) i=look σ.h i
  rw[aI]
  cases hq:look (iv a.b (cN c.out y σ.next)) i with
  | none=>rfl
  | some l =>
   obtain ⟨j,h1,_⟩:=mI hq
   exact absurd hi (eY hoB i (oy h1))
 ·have h1:=hro i hi
  show look (cE c.out y σ.next++(jt used++σ.r)) i=look σ.r i
  cases hq:look (cE c.out y σ.next++(jt used++σ.r)) i with
  | some u =>
   rcases hgr i u hq with ⟨h2,_⟩ | ⟨_,⟨h2,_⟩ | ⟨_,h2⟩⟩
   ·exact absurd h2 (hnew i h1)
   ·exact absurd hi (eY hoR i h2)
   ·exact h2.symm
  | none =>
   rw[aI] at hq
   split at hq
   ·cases hq
   ·rw[aI] at hq
    split at hq
    ·cases hq
    ·rw[hq]
 ·have:=pN (n:=σ.next) (cnt:=cnt) hsh (k:=0) hfl (by rw[Nat.zero_add];exact Nat.le_of_eq hcnt) hus
  rw[Nat.zero_add] at this
  exact this
end
def Dd (lp:Lp) (jn:Jn) (sc:FuncId->Option SCtr) (C:Ctx) (hl:FuncId->Hint):Nat->Inl
 | 0=>fun _ id args σ K=>match sc id with
  | some c=>BW c args σ K
  | none=>none
 | d+1=>fun _ id args σ K=>match sc id with
  | some c=>BW c args σ K
  | none=>match C.P.funcs[id]? with
   | some fn=>match fn.body,Nat.ble args.length fn.ntmps with
    | some code,true=>den lp jn (Dd lp jn sc C hl d) C fn.ntmps { hl id with inner:=true } code { σ with s:=cV args 0 } fun e σ'=>match e with
     | .exit _=>none
     | _=>match jq C.P σ'.look fn.results.toList with
      | some svs=>K svs σ'
      | none=>none
    | _,_=>none
   | none=>none
def DJ (P:Program) (sc:FuncId->Option SCtr):Prop:=∀id c,sc id=some c->c.ok P id
theorem xV {C:Ctx} (hC:C.ok) (ax:C.P.follows .mixedOrders=true) {sc:FuncId->Option SCtr} (hsc:DJ C.P sc) {hl:FuncId->Hint}:∀d,zL C (Dd lpK jnK sc C hl d)
 | 0=>fun R id args σ K z h hro E hm hP vs hvs post hpost=>by
  simp only[Dd] at h
  split at h
  ·rename_i c hs
   exact Aj (hsc id c hs) h hro hm hP hvs hpost fun E l sv us h1 h2=>oI h1 h2
  ·cases h
 | d+1=>fun R id args σ K z h hro E hm hP vs hvs post hpost=>by
  simp only[Dd] at h
  split at h
  ·rename_i c hs
   exact Aj (hsc id c hs) h hro hm hP hvs hpost fun E l sv us h1 h2=>oI h1 h2
  split at h
  ·rename_i fn hf
   split at h
   ·rename_i code hb hle
    have hle:args.length<=fn.ntmps:=by simpa using hle
    have hlen:=gd hvs
    refine calls_of_wp hf hb (wpIn_wide (n:=0).1 ?_)
    have hmod:Mod fn.ntmps (E.setRg false) { tmps:=vs++Array.replicate (fn.ntmps - vs.size) undef,defers:=[] } ({ σ with s:=cV args 0 }:St).look:=by
     have hm':MemOk (E.setRg false) ({ σ with s:=cV args 0 }:St).look:=(hm.of (g':=({ σ with s:=cV args 0 }:St).look) rfl rfl).setRg
     refine ⟨hm'.glob,trivial,?_,fun i t hi=>?_,hm'.blks,hm'.rows,hm'.xs⟩
     ·have:vs.size=args.length:=by rw[hlen];simp
      simp only[Array.size_append,Array.size_replicate]
      omega
     ·simp only[St.look,eN] at hi
      split at hi
      ·rename_i t' hl'
       injection hi with hi
       subst hi
       obtain ⟨v,_,h2,h3⟩:=jB hvs i t' hl'
       rw[Nat.sub_zero] at h2
       refine ⟨v,?_,h3.setRg⟩
       have hlt:=(List.getElem?_eq_some_iff.1 h2).1
       rw[Array.getElem?_append_left (by simpa using hlt)]
       simpa using h2
      ·cases hi
    refine eT (F:=Fence.wide) hC (xV hC ax hsc d) ax (.inl rfl) (fun _=>rfl) h hro ⟨hP,fun e=>by cases e⟩ (E:=E.setRg false) hmod fun e σ' E' a' hk hs hkp hf' hsl hm'=>?_
    have hdef:a'.defers=[]:=eO.none hkp.rg hm'.nodef
    have hkp2:Keep E (E'.setRg E.rg):=⟨rfl,fun x v hv=>(hkp x v hv.setRg).setRg,fun b o hb=>hkp.obj b o hb⟩
    have hs2:ef E (E'.setRg E.rg):=hs
    have fin:∀svs,jq C.P σ'.look fn.results.toList=some svs->K svs σ'=some z->a'.defers=[]/\∃v,(results fn a'.tmps).run C.P E'.w=.ok v E'.w/\post (.returned v) E'.w:=fun svs hsv hkk=>by
     have hPP:E'.P=C.P:=hs2.P.trans hP
     rw[<-hPP] at hsv
     obtain ⟨us,hu1,hu2⟩:=eE hm' hsv
     rw[hPP] at hu2
     exact ⟨hdef,_,hu2,hpost svs σ' (E'.setRg E.rg) _ hkk hs2 hkp2 ⟨hf'.ro,hf'.roR,hf'.h,hf'.r⟩ (hm'.memOk.setRg) fun sv hsv'=>(oI hsv' hu1).setRg⟩
    cases e with
    | normal =>
     simp only at hk
     split at hk
     ·rename_i svs hsv;exact fin svs hsv hk
     ·cases hk
    | ret =>
     simp only at hk
     split at hk
     ·rename_i svs hsv;exact fin svs hsv hk
     ·cases hk
    | exit i=>cases hk
   ·cases h
  ·cases h
def B4:List SV->List (Bool×List Pat)->Bool
 | [],[]=>true
 | _ ::l,_ ::r=>B4 l r
 | _,_=>false
theorem mA:∀{l:List SV} {r:List (Bool×List Pat)},B4 l r=true->l.length=r.length
 | [],[],_=>rfl
 | _ ::l,_ ::r,h=>by
  have:=mA (l:=l) (r:=r) h
  simpa using this
 | [],_ ::_,h=>by cases h
 | _ ::_,[],h=>by cases h
def jj (used:List Nat):List (Nat×List At)->List (Nat×List At)
 | []=>[]
 | p ::r=>match gv p.1 used with
  | true=>p ::jj used r
  | false=>jj used r
theorem mj {used:List Nat} {i:Nat}:∀{l:List (Nat×List At)},look (jj used l) i=if i ∈ used then look l i else none
 | []=>by simp[jj,look]
 | p ::r=>by
  simp only[jj]
  split
  ·rename_i hm
   rw[ai,ai,mj]
   by_cases e:i=p.1
   ·rw[if_pos e,if_pos e,e,if_pos (ca.1 hm)]
   ·rw[if_neg e,if_neg e]
  ·rename_i hm
   rw[ai,mj]
   by_cases hi:i ∈ used
   ·rw[if_pos hi,if_pos hi,if_neg]
    intro e
    rw[e,<-ca,hm] at hi
    cases hi
   ·rw[if_neg hi,if_neg hi]
def upN:Nat->Nat->List Nat
 | 0,_=>[]
 | n+1,k=>k ::upN n (k+1)
theorem Ca {i:Nat}:∀{n k:Nat},i ∈ upN n k↔k<=i/\i<k+n
 | 0,k=>by simp[upN]
 | n+1,k=>by
  simp only[upN,List.mem_cons,Ca]
  omega
theorem qu {i:Nat}:∀{l:List SV} {k:Nat},(look (cV l k) i).isSome=true->k<=i/\i<k+l.length
 | [],_,h=>by simp[cV,look] at h
 | _ ::r,k,h=>by
  simp only[cV] at h
  rw[ai] at h
  simp only[List.length_cons]
  split at h
  ·omega
  ·have:=qu h
   omega
def vF (c:SCtr) (h:List (Nat×List At)):St:={ s:=[],h:=uH (jj (bj c.out) h),r:=[],next:=0 }
def GI (P:Program) (c:SCtr) (rv:Array ResultVar):Ex->St->Option (TsR c.out)
 | .exit _,_=>none
 | _,σ=>match jq P σ.look rv.toList with
  | some svs=>match B4 svs c.rs&&fm c.out (upN c.rs.length 0) [] (vF c σ.h) with
   | true=>iM c.out [] { s:=cV svs 0,h:=σ.h,r:=σ.r,next:=0 }
   | false=>none
  | none=>none
def Fe (lp:Lp) (jn:Jn) (sc:FuncId->Option SCtr) (C:Ctx) (hl:FuncId->Hint) (d:Nat) (id:FuncId) (fn:Func) (c:SCtr) (x:TsR (rhI 0 c.ks)):Option (TsR c.out) :=
 den lp jn (Dd lp jn sc C hl d) C fn.ntmps { hl id with inner:=true } (fn.body.getD .skip) (c.init x) (GI C.P c fn.results)
def FW (lp:Lp) (jn:Jn) (sc:FuncId->Option SCtr) (C:Ctx) (hl:FuncId->Hint) (d:Nat) (id:FuncId) (fn:Func) (c:Ctr) (x:TsS c.as) (F:TsF c.fs) (y:TsS c.cs):Option c.r.T :=
 den lp jn (Dd lp jn sc C hl d) C fn.ntmps (hl id) (fn.body.getD .skip) (c.init x F y) (post C.P c.r fn.results)
theorem Ctr.of_denS {C:Ctx} (hC:C.ok) (ax:C.P.follows .mixedOrders=true) {sc:FuncId->Option SCtr} (hsc:DJ C.P sc) {hl:FuncId->Hint} {d:Nat} {f:FuncId} {fn:Func} {code:Code} {c:Ctr} (hf:C.P.funcs[f]?=some fn) (hb:fn.body=some code) (hn:c.as.length+c.fs.length+c.cs.length<=fn.ntmps)
  (h:∀x F y,c.m x F y=FW lpK jnK sc C hl d f fn c x F y):c.ok C.P f:=Ctr.of_rec hC ax (xV hC ax hsc d) hf hb hn h
theorem oa {P:Program}:DJ P (look []):=fun _ _ h=>by cases h
theorem lZ {P:Program} {f:FuncId} {c:SCtr} {l:List (Nat×SCtr)} (ho:c.ok P f) (h:DJ P (look l)):DJ P (look ((f,c) ::l)):=fun id c' hd=>by
 rw[ai] at hd
 split at hd
 ·rename_i e
  injection hd with hd
  subst hd;subst e
  exact ho
 ·exact h id c' hd
theorem oE {rs:List (Bool×List Pat)}:∀{ks:List PK} {j:Nat} {x:TsR (rhB j ks++rhS 0 rs)} {k:Nat},∃(x':TsR (rhS 0 rs)) (k':Nat),sd (rhB j ks++rhS 0 rs) x k=sd (rhS 0 rs) x' k'/\eV (rhB j ks++rhS 0 rs) x k=eV (rhS 0 rs) x' k'
 | [],j,x,k=>⟨x,k,rfl,rfl⟩
 | .d _ ::r,j,x,k=>oE (ks:=r) (j:=j+1) (x:=x)
 | .v _ _ ::r,j,x,k=>oE (ks:=r) (j:=j+1) (x:=x)
 | .b ps ::r,j,x,k=>oE (ks:=r) (j:=j+1) (x:=jv ps x) (k:=k+dZ ps)
theorem zN {E:Env}:∀{rs:List (Bool×List Pat)} {j:Nat} {x:TsR (rhS j rs)} {k:Nat} {us:List Value},us.length=rs.length->(∀i t,look (eV (rhS j rs) x k) i=some (some t)->∃v,j<=i/\us[i - j]?=some v/\fE E t v)->dQ E (sd (rhS j rs) x k) us
 | [],_,_,_,[],_,_=>trivial
 | p ::r,j,x,k,u ::us,hl,h=>by
  refine ⟨?_,?_⟩
  ·obtain ⟨v,_,h2,h3⟩:=h j ⟨none,.c p.1 (kg p.2 x k)⟩ (by simp only[rhS,eV];rw[ai,if_pos rfl])
   rw[Nat.sub_self] at h2
   injection h2 with h2
   subst h2
   exact h3
  ·refine zN (j:=j+1) (x:=jv p.2 x) (k:=k+dZ p.2) (by simpa using hl) fun i t hi=>?_
   have hji:j+1<=i:=by
    have key:∀(rs:List (Bool×List Pat)) (j:Nat) (x:TsR (rhS j rs)) (k:Nat),(look (eV (rhS j rs) x k) i).isSome=true->j<=i:=by
     intro rs
     induction rs with
     | nil=>intro j x k h;simp[rhS,eV,look] at h
     | cons p r ih =>
      intro j x k h
      simp only[rhS,eV] at h
      rw[ai] at h
      split at h
      ·omega
      ·have:=ih _ _ _ h;omega
    exact key r (j+1) _ _ (by rw[hi];rfl)
   obtain ⟨v,h1,h2,h3⟩:=h i t (by simp only[rhS,eV];rw[ai,if_neg (by omega)];exact hi)
   refine ⟨v,hji,?_,h3⟩
   rw[show i - j=(i - (j+1))+1 by omega] at h2
   exact h2
 | [],_,_,_,_ ::_,h,_=>by simp at h
 | _ ::_,_,_,_,[],h,_=>by simp at h
theorem SCtr.of_den {C:Ctx} (hC:C.ok) (ax:C.P.follows .mixedOrders=true) {sc:FuncId->Option SCtr} (hsc:DJ C.P sc) {hl:FuncId->Hint} {d:Nat} {f:FuncId} {fn:Func} {code:Code} {c:SCtr} (hf:C.P.funcs[f]?=some fn) (hb:fn.body=some code) (hn:c.ks.length<=fn.ntmps)
  (h:∀x,c.m x=Fe lpK jnK sc C hl d f fn c x):c.ok C.P f:=by
 intro x y hy E vs hP hrg hlen hm
 refine calls_of_wp hf hb (wpIn_wide (n:=0).1 ?_)
 have hmod:Mod fn.ntmps E { tmps:=vs.toArray++Array.replicate (fn.ntmps - vs.toArray.size) undef,defers:=[] } (c.init x).look:=by
  refine ⟨hm.glob,trivial,?_,fun i t hi=>?_,hm.blks,hm.rows,hm.xs⟩
  ·simp only[Array.size_append,Array.size_replicate,List.size_toArray]
   omega
  ·obtain ⟨v,h1,h2⟩:=hm.slots i t hi
   refine ⟨v,?_,h2⟩
   have hlt:=(Array.getElem?_eq_some_iff.1 h1).1
   rw[Array.getElem?_append_left hlt]
   exact h1
 rw[h x] at hy
 unfold Fe at hy
 rw[hb] at hy
 refine eT (F:=Fence.wide) hC (xV hC ax hsc d) ax (.inl rfl) (fun _=>rfl) hy (fun i hi=>by simp[SCtr.init] at hi) ⟨hP,fun e=>by cases e⟩ (E:=E) hmod fun e σ' E1 a1 hk hs hkp hf' hsl hm'=>?_
 have hdef:a1.defers=[]:=eO.none (hkp.rg.trans hrg) hm'.nodef
 have hP1:E1.P=C.P:=hs.P.trans hP
 have fin:∀svs,jq C.P σ'.look fn.results.toList=some svs->(match B4 svs c.rs&&fm c.out (upN c.rs.length 0) [] (vF c σ'.h) with
   | true=>iM c.out [] { s:=cV svs 0,h:=σ'.h,r:=σ'.r,next:=0 }
   | false=>none)=some y->a1.defers=[]/\∃v,(results fn a1.tmps).run C.P E1.w=.ok v E1.w/\∃(us:List Value) (E':Env),Ending.returned v=.returned (if h:us.length=1 then us[0] else .tuple us.toArray)/\E'.w=E1.w/\ef E E'/\Keep E.bare E'/\(∀j,E.L j->E'.β j=E.β j)/\MemOk E' (c.fin y).look/\dQ E' (sd c.out y 0) us:=fun svs hsv hkk=>by
  split at hkk
  case h_2=>cases hkk
  rename_i hchk
  simp only[z10] at hchk
  obtain ⟨hle,hpl⟩:=hchk
  rw[<-hP1] at hsv
  obtain ⟨us,hu1,hu2⟩:=eE hm' hsv
  rw[hP1] at hu2
  have hlen2:us.length=c.rs.length:=by rw[<-gd hu1,mA hle]
  refine ⟨hdef,_,hu2,?_⟩
  let E0:Env:={ E1 with L:=fun j=>(look (uH (jj (bj c.out) σ'.h)) j).isSome=true,R:=fun _=>False }
  have hkey:∀i l,look (uH (jj (bj c.out) σ'.h)) i=some l->i ∈ bj c.out/\∃l',look σ'.h i=some l'/\l=uL l':=fun i l hi=>by
   rw[mh,mj] at hi
   split at hi
   ·rename_i hm1
    cases hq:look σ'.h i with
    | none=>rw[hq] at hi;cases hi
    | some l'=>rw[hq] at hi;injection hi with hi;exact ⟨hm1,l',rfl,hi.symm⟩
   ·cases hi
  have hL01:∀j,E0.L j->E1.L j:=fun j hj=>by
   have hj:(look (uH (jj (bj c.out) σ'.h)) j).isSome=true:=hj
   cases hq:look (uH (jj (bj c.out) σ'.h)) j with
   | none=>rw[hq] at hj;cases hj
   | some l =>
    obtain ⟨_,l',h1,_⟩:=hkey j l hq
    exact (hm'.blks j l' h1).1
  have hm0:Mod us.length E0 { tmps:=us.toArray,defers:=[] } (vF c σ'.h).look:=by
   refine ⟨⟨hm'.glob.below,hm'.glob.zlt,hm'.glob.z0,hm'.glob.zfrom,fun j hj=>hj,fun r hr=>hr.elim,fun i l hi=>?_,fun i j l l' hi hj hij=>?_,fun i r b hi=>by simp[vF,St.look,look] at hi,fun i j r r' b hi=>by simp[vF,St.look,look] at hi,⟨fun i x b hi=>by simp[vF,St.look,look] at hi,fun i j x y b hi=>by simp[vF,St.look,look] at hi⟩⟩,trivial,by simp,fun i t hi=>by simp[vF,St.look,eN,look] at hi,fun i l hi=>?_,fun i r hi=>by simp[vF,St.look,look] at hi,fun i x hi=>by simp[vF,St.look,look] at hi⟩
   ·obtain ⟨_,l',h1,_⟩:=hkey i l hi
    exact hm'.glob.own i l' h1
   ·obtain ⟨_,l1,h1,_⟩:=hkey i l hi
    obtain ⟨_,l2,h2,_⟩:=hkey j l' hj
    exact hm'.glob.inj i j l1 l2 h1 h2 hij
   ·obtain ⟨_,l',h1,h2⟩:=hkey i l hi
    obtain ⟨_,cs,t,g2,g3,g4⟩:=hm'.blks i l' h1
    subst h2
    have hi:look (uH (jj (bj c.out) σ'.h)) i=some (uL l'):=hi
    exact ⟨by show (look (uH (jj (bj c.out) σ'.h)) i).isSome=true;rw[hi];rfl,cs,t,g2,AJ g3.length,g4⟩
  have hk01:Keep E0 E1:=⟨rfl,fun y v hv=>by
   cases y with
   | u=>trivial
   | v x=>exact hv
   | ptr b o=>exact ⟨hv.1,hL01 _ hv.2⟩
   | clo g cap=>exact ⟨hv.1,fun p hp=>hL01 _ (hv.2 p hp)⟩
   | sl e l=>exact hv
   | row r=>exact hv.2.1.elim
   | rf s x o=>exact hv
   | re r i sz off=>obtain ⟨_,_,_,h⟩:=hv;exact h.elim
   | sub r lo hi sz=>obtain ⟨_,h⟩:=hv;exact h.elim
   | ae b o e l i d=>exact ⟨hv.1,hL01 _ hv.2⟩
   | sn e l=>exact hv
   | ir r i=>exact hv.2.1.elim
   | ie r i j sz off=>obtain ⟨_,_,_,h,_⟩:=hv;exact h.elim
   | fn a r F=>exact hv,fun b o hb=>hb⟩
  have hm2:Mod us.length E1 { tmps:=us.toArray,defers:=[] } (St.look { s:=cV svs 0,h:=σ'.h,r:=σ'.r,next:=0 }):=by
   have hmm:=hm'.memOk
   refine ⟨hmm.glob.of rfl rfl,trivial,by simp,fun i t hi=>?_,hmm.blks,hmm.rows,hmm.xs⟩
   simp only[St.look,eN] at hi
   split at hi
   ·rename_i t' hl'
    injection hi with hi
    subst hi
    obtain ⟨v,_,h2,h3⟩:=jB hu1 i t' hl'
    rw[Nat.sub_zero] at h2
    exact ⟨v,by simpa using h2,h3⟩
   ·cases hi
  obtain ⟨E3,hs13,hw3,hk03,hm3⟩:=gQ (rh:=c.out) (W:=upN c.rs.length 0) (srcs:=[]) hpl hm0 hk01 hm2 (x:=y) hkk
   (fun i hi=>by
    show look (cV svs 0) i=none
    cases hq:look (cV svs 0) i with
    | none=>rfl
    | some u =>
     have:=qu (by rw[hq];rfl:(look (cV svs 0) i).isSome=true)
     exact absurd (Ca.2 (by rw[<-mA hle];omega)) hi)
   (fun i hi=>by
    rcases List.mem_append.1 hi with hi | hi
    ·have h1:=kL hi
     have h2:(look (uH (jj (bj c.out) σ'.h)) i).isSome=true:=fp hi
     cases hq:look (uH (jj (bj c.out) σ'.h)) i with
     | none=>rw[hq] at h2;cases h2
     | some l=>exact absurd (hkey i l hq).1 h1
    ·cases hi)
   (fun i hi=>by
    rcases List.mem_append.1 hi with hi | hi<;>cases hi)
  have hh:look (cN c.out y 0++uH (jj (bj c.out) σ'.h))=look (cN c.out y 0):=by
   funext i
   rw[aI]
   cases hq:look (cN c.out y 0) i with
   | some l=>rfl
   | none =>
    simp only
    cases hq2:look (uH (jj (bj c.out) σ'.h)) i with
    | none=>rfl
    | some l =>
     have:=(eK (x:=y) (k:=0)).2 (hkey i l hq2).1
     rw[hq] at this
     cases this
  have hrr:cE c.out y 0++(jt []++[])=cE c.out y 0:=by simp[jt]
  refine ⟨us,E3,rfl,hw3,hs.trans hs13,⟨by rw[hk03.rg];exact hkp.rg,fun z v hv=>?_,fun b o hb=>hk03.obj b o (hkp.obj b o hb)⟩,fun j hj=>?_,?_,?_⟩
  ·apply hk03.at'
   cases z with
   | u=>trivial
   | v x=>exact hv
   | ptr b o=>exact hv.2.elim
   | clo g cap=>exact ⟨(hkp.at' (.clo g cap) v ⟨hv.1,fun p hp=>(hv.2 p hp).elim⟩).1,fun p hp=>(hv.2 p hp).elim⟩
   | sl e l=>exact hkp.at' (.sl e l) v hv
   | row r=>exact hv.2.1.elim
   | rf s x o=>exact hkp.at' (.rf s x o) v hv
   | re r i sz off=>obtain ⟨_,_,_,h⟩:=hv;exact h.elim
   | sub r lo hi sz=>obtain ⟨_,h⟩:=hv;exact h.elim
   | ae b o e l i d=>exact hv.2.elim
   | sn e l=>exact hkp.at' (.sn e l) v hv
   | ir r i=>exact hv.2.1.elim
   | ie r i j sz off=>obtain ⟨_,_,_,h,_⟩:=hv;exact h.elim
   | fn a r F=>exact hkp.at' (.fn a r F) v hv
  ·obtain ⟨g1,g2⟩:=hkp.at' (.ptr j 0) (eW E.β (j,0)) ⟨rfl,hj⟩
   have g3:(look (cN (rhI 0 c.ks) x 0) j).isSome=true:=hm.glob.live j hj
   have g4:=(eK).1 g3
   rw[oP] at g4
   have g5:j ∈ bj c.out:=by rw[ox,Bm,List.append_nil];exact g4
   have g6:(look σ'.h j).isSome=true:=hm'.glob.live j g2
   have g7:E0.L j:=by
    show (look (uH (jj (bj c.out) σ'.h)) j).isSome=true
    rw[mh,mj,if_pos g5]
    cases hq:look σ'.h j with
    | none=>rw[hq] at g6;cases g6
    | some l=>rfl
   obtain ⟨g8,_⟩:=hk03.at' (.ptr j 0) (eW E1.β (j,0)) ⟨rfl,g7⟩
   have e1:E.β j=E1.β j:=by simpa [eW] using g1
   have e2:E1.β j=E3.β j:=by simpa [eW] using g8
   rw[e1,e2]
  ·have:=hm3.memOk
   exact this.of (g':=(c.fin y).look) hh.symm (by show look (cE c.out y 0)=look (cE c.out y 0++(jt []++[]));rw[hrr])
  ·obtain ⟨x',k',q1,q2⟩:=oE (rs:=c.rs) (ks:=c.ks) (j:=0) (x:=y) (k:=0)
   show dQ E3 (sd (rhB 0 c.ks++rhS 0 c.rs) y 0) us
   rw[q1]
   refine zN hlen2 fun i t hi=>?_
   obtain ⟨v,h1,h2⟩:=hm3.slots i t (by
    show eN (eV c.out y 0++lI (upN c.rs.length 0) []) i=some t
    unfold eN
    rw[show eV c.out y 0=eV (rhS 0 c.rs) x' k' from q2,aI,hi])
   exact ⟨v,Nat.zero_le _,by simpa using h1,h2⟩
 cases e with
 | normal =>
  simp only[GI] at hk
  split at hk
  ·rename_i svs hsv;exact fin svs hsv hk
  ·cases hk
 | ret =>
  simp only[GI] at hk
  split at hk
  ·rename_i svs hsv;exact fin svs hsv hk
  ·cases hk
 | exit i=>cases hk
def FV (P:Program) (s:Sh) (r:RSh) (rv:Array ResultVar):Ex->St->Option (s.T×r.T)
 | .exit _,_=>none
 | _,σ=>match jq P σ.look rv.toList,look σ.h 0 with
  | some vs,some l=>match kc s l,kU r vs with
   | some x,some z=>some (x,z)
   | _,_=>none
  | _,_=>none
def Lb (lp:Lp) (jn:Jn) (C:Ctx) (hl:FuncId->Hint) (d:Nat) (id:FuncId) (fn:Func) (c:MCtr) (x:c.s.T) (y:TsS c.as):Option (c.s.T×c.r.T) :=
 den lp jn (vM lp jn C hl d) C fn.ntmps { hl id with inner:=true } (fn.body.getD .skip) { s:=(0,some ⟨none,.c false [.ptr 0 0]⟩) ::ij c.as y 1,h:=[(0,c.s.cells x)],r:=[],next:=1 } (FV C.P c.s c.r fn.results)
theorem uJ {w:World} {Z Z':Nat->Prop} (hZ:∀b,Z b->Z' b):∀{as:List Sh} {x:TsS as} {vs:List Value},cz w Z as x vs->cz w Z' as x vs
 | [],_,_,h=>h
 | _ ::_,_,_,h=>by
  simp only[cz] at h ⊢
  obtain ⟨v,vs',h1,⟨cs,h2,h3,h4⟩,h5⟩:=h
  exact ⟨v,vs',h1,⟨cs,Dat.mono hZ (fun _ _=>rfl) h2,h3,h4⟩,uJ hZ h5⟩
theorem MCtr.of_den {C:Ctx} (hC:C.ok) (ax:C.P.follows .mixedOrders=true) {hl:FuncId->Hint} {d:Nat} {f:FuncId} {fn:Func} {code:Code} {c:MCtr} (hf:C.P.funcs[f]?=some fn) (hb:fn.body=some code) (hn:c.as.length+1<=fn.ntmps) (hfl:(c.s.flat&&c.r.flat)=true)
  (h:∀x y,c.m x y=Lb lpK jnK C hl d f fn c x y):c.ok C.P f:=by
 intro x y z hz w Z b cs t vals hZ hnZ hheap hd hone hvals
 simp only[z10] at hfl
 have hblt:b<w.heap.size:=(Array.getElem?_eq_some_iff.1 hheap).1
 refine calls_of_wp hf hb (wpIn_wide (n:=0).1 ?_)
 let E:Env:={ P:=C.P,w0:={ w with heap:=w.heap.extract 0 b },Z0:=fun k=>k<w.heap.size/\k≠b,w:=w,Z:=fun k=>k<w.heap.size/\k≠b,β:=fun _=>b,L:=fun i=>i=0,ρ:=fun _=>undef,R:=fun _=>False,φ:=fun _ _=>False,ι:=fun _ _=>undef,ν:=fun _=>0,rg:=false }
 have hw0:E.w0.heap.size=b:=by show (w.heap.extract 0 b).size=b;rw[Array.size_extract];omega
 have hbelow:Below E.w0.heap.size E.w0 E.w:=⟨rfl,rfl,rfl,by rw[hw0];exact Nat.le_of_lt hblt,fun k hk=>by
  rw[hw0] at hk
  show w.heap[k]?=(w.heap.extract 0 b)[k]?
  rw[Array.getElem?_extract]
  simp[hk]
  omega⟩
 have hdz:cz E.w E.Z c.as y vals:=uJ (fun k hk=>⟨hZ k hk,fun e=>hnZ (by rw[<-e];exact hk)⟩) hvals
 have hlen:vals.length=c.as.length:=hdz.length
 have hdat:Dat E.w E.Z c.s x cs:=Dat.flat hfl.1 hd
 have hmod:Mod fn.ntmps E { tmps:=(Value.pointer (some ⟨b,0,none⟩) ::vals).toArray++Array.replicate (fn.ntmps - (Value.pointer (some ⟨b,0,none⟩) ::vals).toArray.size) undef,defers:=[] } ({ s:=(0,some ⟨none,.c false [.ptr 0 0]⟩) ::ij c.as y 1,h:=[(0,c.s.cells x)],r:=[],next:=1 }:St).look:=by
  have hh:∀i l,look [(0,c.s.cells x)] i=some l->i=0/\l=c.s.cells x:=fun i l hi=>by
   rw[ai] at hi
   split at hi
   ·rename_i e;injection hi with hi;exact ⟨e,hi.symm⟩
   ·simp[look] at hi
  refine ⟨⟨hbelow,fun k hk=>hk.1,fun k hk=>hk,fun k hk=>.inl hk,fun k hk=>?_,fun r hr=>hr.elim,fun i l hi=>⟨?_,fun hz=>hz.2 rfl⟩,fun i j l l' hi hj _=>?_,fun i r k hi=>by simp[St.look,look] at hi,fun i j r r' k hi=>by simp[St.look,look] at hi,⟨fun i x k hi=>by simp[St.look,look] at hi,fun i j x y k hi=>by simp[St.look,look] at hi⟩⟩,trivial,?_,fun i t' hi=>?_,fun i l hi=>?_,fun i r hi=>by simp[St.look,look] at hi,fun i x hi=>by simp[St.look,look] at hi⟩
  ·have hk:k=0:=hk
   subst hk
   rfl
  ·rw[hw0];exact Nat.le_refl _
  ·exact (hh i l hi).1.trans (hh j l' hj).1.symm
  ·simp only[Array.size_append,List.size_toArray,Array.size_replicate,List.length_cons]
   omega
  ·have get:∀v',(Value.pointer (some ⟨b,0,none⟩) ::vals)[i]?=some v'->((Value.pointer (some ⟨b,0,none⟩) ::vals).toArray++Array.replicate (fn.ntmps - (Value.pointer (some ⟨b,0,none⟩) ::vals).toArray.size) undef)[i]?=some v':=fun v' hv'=>by
    have hlt:=(List.getElem?_eq_some_iff.1 hv').1
    rw[Array.getElem?_append_left (by simpa using hlt)]
    simpa using hv'
   simp only[St.look,eN] at hi
   split at hi
   ·rename_i s' hl'
    injection hi with hi
    subst hi
    rw[ai] at hl'
    split at hl'
    ·rename_i e
     subst e
     simp only[Option.some.injEq] at hl'
     subst hl'
     exact ⟨_,get _ rfl,⟨[_],rfl,⟨⟨rfl,rfl⟩,trivial⟩,fun _=>rfl⟩⟩
    ·obtain ⟨v',h3,h2,h4⟩:=fc (E:=E) hdz i s' hl'
     refine ⟨v',get v' ?_,h4⟩
     rw[show i=(i - 1)+1 by omega]
     exact h2
   ·cases hi
  ·obtain ⟨rfl,rfl⟩:=hh i l hi
   exact ⟨rfl,cs,t,hheap,hdat.rel,hone⟩
 have hrun:=hz
 rw[h x y] at hrun
 unfold Lb at hrun
 rw[hb] at hrun
 refine eT (F:=Fence.wide) hC (kH hC ax d) ax (.inl rfl) (fun _=>rfl) hrun (fun i hi=>by simp at hi) ⟨rfl,fun e=>by cases e⟩ (E:=E) hmod fun e σ' E1 a1 hk hs hkp hf' hsl hm'=>?_
 have hdef:a1.defers=[]:=eO.none (hkp.rg.trans rfl) hm'.nodef
 have hP1:E1.P=C.P:=hs.P
 have h0:E1.w0=E.w0:=hs.w0
 have fin:FV C.P c.s c.r fn.results .normal σ'=some z->a1.defers=[]/\∃v,(results fn a1.tmps).run C.P E1.w=.ok v E1.w/\∃u cs' Z' t',Ending.returned v=.returned u/\kA E1.w Z' c.r z.2 u/\E1.w.heap[b]?=some (.cells cs'.toArray t' (0,0))/\Dat E1.w Z' c.s z.1 cs'/\(∀b,Z' b->False)/\(∀v ∈ cs',v.oneCell'=true) /\
   E1.w.os=w.os/\E1.w.tape=w.tape/\E1.w.output=w.output/\w.heap.size<=E1.w.heap.size/\∀k,k<w.heap.size->k≠b->E1.w.heap[k]?=w.heap[k]?:=fun hkk=>by
  simp only[FV] at hkk
  split at hkk
  case h_2=>cases hkk
  rename_i vs l hvs hl
  split at hkk
  case h_2=>cases hkk
  rename_i x' z' hx hzz
  injection hkk with hkk
  subst hkk
  rw[<-hP1] at hvs
  obtain ⟨us,hu1,hu2⟩:=eE hm' hvs
  rw[hP1] at hu2
  obtain ⟨g1,g2⟩:=hkp.at' (.ptr 0 0) (eW E.β (0,0)) ⟨rfl,rfl⟩
  have hβ:E1.β 0=b:=by
   have:(⟨b,0,none⟩:Addr)=⟨E1.β 0,0,none⟩:=by simpa [eW] using g1
   injection this with e1
   exact e1.symm
  obtain ⟨_,cs',t',k1,k2,k3⟩:=hm'.blks 0 l hl
  rw[hβ] at k1
  unfold kc at hx
  split at hx
  case h_2=>cases hx
  rename_i x2 hx2
  injection hx with hx
  subst hx
  obtain ⟨c1,c2,rfl,d1,d2⟩:=cM hx2 k2
  match c2,d2 with
  | [],_ =>
  rw[List.append_nil] at k1 k3
  have hblk:∀k,k<w.heap.size->k≠b->E1.w.heap[k]?=w.heap[k]?:=fun k hk1 hk2=>by
   by_cases hkb:k<b
   ·have h1:=hm'.glob.below
    rw[h0] at h1
    rw[h1.block k (by rw[hw0];exact hkb)]
    exact (hbelow.block k (by rw[hw0];exact hkb)).symm
   ·obtain ⟨o,ho⟩:∃o,w.heap[k]?=some o:=⟨_,Array.getElem?_eq_getElem hk1⟩
    rw[ho]
    exact (hkp.obj k o ⟨⟨hk1,hk2⟩,by rw[hw0];omega,ho⟩).2.2
  have hbel:=hm'.glob.below
  rw[h0] at hbel
  refine ⟨hdef,_,hu2,_,c1,fun _=>False,t',rfl,kA.flat hfl.2 (nR (E:=E1) hzz hu1),k1,Dat.flat hfl.1 d1,fun _ h=>h,k3,hbel.os,hbel.tape,hbel.output,?_,hblk⟩
  by_cases hsz:w.heap.size<=E1.w.heap.size
  ·exact hsz
  ·exfalso
   by_cases e1:b+1=w.heap.size
   ·have:=(Array.getElem?_eq_some_iff.1 k1).1
    omega
   ·have h1:=hblk (w.heap.size - 1) (by omega) (by omega)
    have h2:E1.w.heap[w.heap.size - 1]?=none:=Array.getElem?_eq_none (by omega)
    rw[h2] at h1
    have h3:w.heap[w.heap.size - 1]?=some w.heap[w.heap.size - 1]:=Array.getElem?_eq_getElem (by omega)
    rw[h3] at h1
    cases h1
 cases e with
 | normal=>exact fin hk
 | ret=>exact fin hk
 | exit i=>cases hk
end
end Dn
end
end Go.Proofs.YtegbncajloeepaaGreat
