/- A symbolic executor: what is handed in at the law's own door is data of a shape: each argument that reads has such a datum, well formed. Plain lemmas for what functions answer: loops, machine numbers, lists. Loops over lists: searches and tests of all elements. Sums of integers, and determinants. Tables of the simplex method: integers with a common denominator, as determinants of columns. Steps of the simplex method by the rule of least indices: they never come back to a basis. Steps of the simplex method come to an end: a measure. Linear programs over the rationals: what points and multipliers prove; and what tables of the simplex method prove. How great the numbers of a program's tables may get: the product of the rows' factors. Tables of programs: how great the numbers of the artificial columns may get. Tables of numbers as lists of rows, and loops over them. Numbers as lists of words of 32 bits: digits. A symbolic executor: contracts of functions that change what is the call's own: blocks that parameters lead to, rows and tables that go in by value. A symbolic executor: functions that change what is theirs: their contracts out of their bodies; functions walked in place that call them. -/
import Derived.ProofKit
import Derived.Deep.Slices
import Derived.OpenShut
import Derived.Test.YtlfdhaiigdllcaaGreatMgK
open Array renaming getElem?_append_left→o_,getElem?_eq_getElem→mT,replicate→qR,toArray_toList→lE
open Bool renaming eq_iff_iff→pH
open Go.IntKind renaming wrap→aq
open Int renaming mul_nonneg→mK,toNat→aS
open List renaming append_nil→h_,getD→a_,getElem?_eq_getElem→cL,length→aC,length_cons→gC,length_set→k_,mem_append_left→e_,mem_append_right→bt,range'→n_,size_toArray→i_
open Nat renaming add_mul→iN,add_zero→lD,beq→f_,ble→eS,le_refl→b_,le_trans→m_,lt_of_lt_of_le→bx,mod_eq_of_lt→mv,mul_comm→iS,mul_le_mul_right→mV,zero_add→dO
open Option.some renaming injEq→aT
open PUnit renaming unit→aQ
open Prod.mk renaming injEq→dG

namespace Go.Proofs.YtlfdhaiigdllcaaGreat
noncomputable section
namespace Dn
noncomputable section
open Go.RowKit Go.WideShapes Go.ChangeShapes
def Sh.wf:(s:Sh)->s.T->Prop
 | .int k,n=>(Lit.int k n).wf=true
 | .bool,_=>True
 | .str,b=>b.size<=maxLen
 | .sl e,l=>l.length<=maxLen/\∀x ∈ l,e.wf x
 | .pair a b,x=>a.wf x.1/\b.wf x.2
 | .agg e,x=>e.wf x
 | .ref,_=>False
theorem Sh.size_pos:∀s:Sh,0<s.size
 | .int _=>Nat.one_pos
 | .bool=>Nat.one_pos
 | .str=>Nat.one_pos
 | .sl _=>Nat.one_pos
 | .pair a b=>by have:=Sh.size_pos a;simp only[Sh.size];omega
 | .agg e=>Sh.size_pos e
 | .ref=>Nat.one_pos
def jc (P:Program) (n:Nat):TypeId ⊕ (Nat×List Field)->Option TypeId
 | .inl t=>some t
 | .inr (off,[f])=>match f_ f.offset off&&f_ (P.cellsOf f.type) n with
  | true=>some f.type
  | false=>none
 | _=>none
def Gb (P:Program) (k:IntKind) (t:TypeId):Bool:=match P.underlying t with
 | some (.int k')=>decide (k'=k)
 | _=>false
def Cr (P:Program) (t:TypeId):Bool:=match P.underlying t with
 | some .bool=>true
 | _=>false
def FJ (P:Program) (t:TypeId):Bool:=match P.underlying t with
 | some .string=>true
 | _=>false
def wL (P:Program) (u:TypeId):Nat->Nat->List Field
 | 0,_=>[]
 | n + 1, i => { name := "", type := u, offset := i * P.cellsOf u, embedded := false, tag := "", pkgPath := "", byteOffset := 0 } :: wL P u n (i + 1)
def chk (P:Program):Sh->TypeId ⊕ (Nat×List Field)->Bool
 | .int k,x=>match jc P 1 x with
  | some t=>Gb P k t
  | none=>false
 | .bool,x=>match jc P 1 x with
  | some t=>Cr P t
  | none=>false
 | .str,x=>match jc P 1 x with
  | some t=>FJ P t
  | none=>false
 | .sl e,x=>match jc P 1 x with
  | some t=>match P.underlying t with
   | some (.slice u)=>f_ (P.cellsOf u) e.size&&chk P e (.inl u)
   | _=>false
  | none=>false
 | .pair a b,.inr (off,f ::g ::r)=>f_ f.offset off&&f_ (P.cellsOf f.type) a.size&&chk P a (.inl f.type)&&chk P b (.inr (off+a.size,g ::r))
 | .pair _ _,_=>false
 | .agg e,x=>match jc P e.size x with
  | some t=>match P.underlying t with
   | some (.struct fs)=>f_ (P.cellsOf t) e.size&&chk P e (.inr (0,fs.toList))
   | some (.array n u)=>f_ (P.cellsOf t) e.size&&chk P e (.inr (0,wL P u n 0))
   | _=>false
  | none=>false
 | .ref,_=>false
section
variable {H:Type} {enc:TypeId×Value->H} {P:Program} {w:World} {sp:Nat->Bool} {held:Bool}
def sT (w:World):Nat->Prop:=fun b=>b<w.heap.size
theorem px {n off:Nat} {fl:List Field} {t:TypeId} (h:jc P n (.inr (off,fl))=some t):∃f,fl=[f]/\f.offset=off/\P.cellsOf f.type=n/\f.type=t:=by
 unfold jc at h
 split at h
 ·rename_i heq;cases heq
 ·rename_i o f heq
  injection heq with heq
  simp only[dG] at heq
  obtain ⟨rfl,rfl⟩:=heq
  split at h
  ·rename_i hb
   simp only[z10,Nat.beq_eq] at hb
   injection h with h
   exact ⟨f,rfl,hb.1,hb.2,h⟩
  ·cases h
 ·cases h
theorem K2:∀{s:Sh} {off:Nat} {fl:List Field},(∀a b,s≠.pair a b)->chk P s (.inr (off,fl))=true->∃f,fl=[f]/\f.offset=off/\P.cellsOf f.type=s.size/\chk P s (.inl f.type)=true:=by
 intro s off fl hs h
 cases s with
 | pair a b=>exact absurd rfl (hs a b)
 | ref=>simp[chk] at h
 | int k =>
  simp only[chk] at h
  split at h
  ·rename_i t ht
   obtain ⟨f,rfl,h1,h2,rfl⟩:=px ht
   exact ⟨f,rfl,h1,h2,by simpa only[chk,jc] using h⟩
  ·cases h
 | bool =>
  simp only[chk] at h
  split at h
  ·rename_i t ht
   obtain ⟨f,rfl,h1,h2,rfl⟩:=px ht
   exact ⟨f,rfl,h1,h2,by simpa only[chk,jc] using h⟩
  ·cases h
 | str =>
  simp only[chk] at h
  split at h
  ·rename_i t ht
   obtain ⟨f,rfl,h1,h2,rfl⟩:=px ht
   exact ⟨f,rfl,h1,h2,by simpa only[chk,jc] using h⟩
  ·cases h
 | sl e =>
  simp only[chk] at h
  split at h
  ·rename_i t ht
   obtain ⟨f,rfl,h1,h2,rfl⟩:=px ht
   exact ⟨f,rfl,h1,h2,by simpa only[chk,jc] using h⟩
  ·cases h
 | agg e =>
  simp only[chk] at h
  split at h
  ·rename_i t ht
   obtain ⟨f,rfl,h1,h2,rfl⟩:=px ht
   exact ⟨f,rfl,h1,h2,by simpa only[chk,jc] using h⟩
  ·cases h
def vk (enc:TypeId×Value->H) (P:Program) (w:World) (sp:Nat->Bool) (held:Bool) (s:Sh):Prop :=
 ∀t fuel cs r,chk P s (.inl t)=true->DataW.trod enc P w 0 sp held fuel t cs=some r->∃y:s.T,Dat w (sT w) s y cs/\s.wf y
def Et (enc:TypeId×Value->H) (P:Program) (w:World) (sp:Nat->Bool) (held:Bool) (s:Sh):Prop :=
 ∀off fl (cs:List Value),chk P s (.inr (off,fl))=true->(∀f ∈ fl,∃n r,DataW.trod enc P w 0 sp held n f.type ((cs.drop f.offset).take (P.cellsOf f.type))=some r)->cs.length=off+s.size ->
  ∃y:s.T,Dat w (sT w) s y (cs.drop off)/\s.wf y
theorem lf {s:Sh} (hs:∀a b,s≠.pair a b) (h:vk enc P w sp held s):Et enc P w sp held s:=by
 intro off fl cs hc hf hl
 obtain ⟨f,rfl,rfl,h2,h3⟩:=K2 hs hc
 obtain ⟨n,r,hr⟩:=hf f (by simp)
 rw[h2,List.take_of_length_le (by simp;omega)] at hr
 exact h _ _ _ _ h3 hr
theorem uu {u:TypeId}:∀{n i:Nat} {f:Field},f ∈ wL P u n i->∃j,j<n/\f.type=u/\f.offset=(i+j)*P.cellsOf u
 | n+1,i,f,h=>by
  rcases List.mem_cons.1 h with rfl | h
  ·exact ⟨0,by omega,rfl,by simp⟩
  ·obtain ⟨j,h1,h2,h3⟩:=uu h
   exact ⟨j+1,by omega,h2,by rw[h3];congr 1;omega⟩
 | 0,_,_,h=>by cases h
theorem mC:∀s:Sh,vk enc P w sp held s/\Et enc P w sp held s
 | .ref=>⟨fun t fuel cs r hc _=>by simp[chk] at hc,fun off fl cs hc _ _=>by simp[chk] at hc⟩
 | .int k=>by
  have h:vk enc P w sp held (.int k):=by
   intro t fuel cs r hc hr
   simp only[chk,jc,Gb] at hc
   split at hc
   ·rename_i k' ht
    have hk:k'=k:=by simpa using hc
    subst hk
    obtain ⟨n,rfl,_,hw⟩:=DataW.trod_int ht hr
    exact ⟨n,rfl,hw⟩
   ·cases hc
  exact ⟨h,lf (by simp) h⟩
 | .bool=>by
  have h:vk enc P w sp held .bool:=by
   intro t fuel cs r hc hr
   simp only[chk,jc,Cr] at hc
   split at hc
   ·rename_i ht
    obtain ⟨n,rfl,_⟩:=DataW.trod_bool ht hr
    exact ⟨n,rfl,trivial⟩
   ·cases hc
  exact ⟨h,lf (by simp) h⟩
 | .str=>by
  have h:vk enc P w sp held .str:=by
   intro t fuel cs r hc hr
   simp only[chk,jc,FJ] at hc
   split at hc
   ·rename_i ht
    obtain ⟨n,rfl,_,hw⟩:=DataW.trod_string ht hr
    exact ⟨n,rfl,hw⟩
   ·cases hc
  exact ⟨h,lf (by simp) h⟩
 | .sl e=>by
  have h:vk enc P w sp held (.sl e):=by
   intro t fuel cs r hc hr
   simp only[chk,jc] at hc
   split at hc
   ·rename_i u ht
    simp only[z10,Nat.beq_eq] at hc
    obtain ⟨hz,hce⟩:=hc
    rcases Deep.open_slice ht hr with ⟨rfl,_⟩ | ⟨ad,len,cap,m,n,D,Pl,rfl,_,hl,hm,hmm,_,hx⟩
    ·exact ⟨([]:List e.T),⟨none,0,rfl,b_ _,fun _=>rfl,fun h0=>absurd h0 (by simp)⟩,by simp[maxLen],by simp⟩
    ·have hle:len<=m:=by rw[hmm];split<;>omega
     have one:∀i,i<len->∃y:e.T,(∃ecs,Dat w (sT w) e y ecs/\w.cells? 0 (ad.add (i*e.size)) e.size=some ecs)/\e.wf y:=by
      intro i hi
      obtain ⟨cs',h1,h2⟩:=hx i (by omega)
      rw[hz] at h1
      obtain ⟨y,h3,h4⟩:=(mC e).1 _ _ _ _ hce h2
      exact ⟨y,⟨cs',h3,h1⟩,h4⟩
     have:Inhabited e.T:=⟨e.dflt⟩
     obtain ⟨f,hf⟩:=Deep.choose_lt one
     refine ⟨((List.range len).map f:List e.T),⟨some ad,cap,by simp,by simpa using hl,fun h=>(by cases h),fun h0=>⟨ad,rfl,?_,fun k x hk=>?_⟩⟩,by simp;omega,fun x hxm=>?_⟩
     ·have h0:0<len:=by simpa using h0
      obtain ⟨⟨ecs,h1,h2⟩,_⟩:=hf 0 h0
      have hlen:=h1.len
      have hpos:0<e.size:=Sh.size_pos e
      obtain ⟨_,_,h3⟩:=World.cells?_some h2
      have h3:=h3 0 hpos
      have:(ecs[0]?).isSome=true:=by simp;omega
      rw[<-h3] at this
      unfold sT
      refine Decidable.byContradiction fun hge=>?_
      have hnone:w.heap[((ad.add (0*e.size)).add 0).block]?=none:=by
       rw[Array.getElem?_eq_none_iff]
       have:((ad.add (0*e.size)).add 0).block=ad.block:=by simp[Addr.add]
       rw[this]
       omega
      unfold World.cell? at this
      rw[hnone] at this
      simp at this
     ·obtain ⟨hk1,rfl⟩:k<len/\f k=x:=by
       rw[List.getElem?_map] at hk
       cases hr:(List.range len)[k]? with
       | none=>rw[hr] at hk;cases hk
       | some j =>
        rw[hr] at hk
        have:=List.getElem?_eq_some_iff.1 hr
        obtain ⟨h1,h2⟩:=this
        simp at h1 h2
        subst h2
        exact ⟨h1,by simpa using hk⟩
      obtain ⟨⟨ecs,h1,h2⟩,_⟩:=hf k hk1
      obtain ⟨_,hl',h3⟩:=World.cells?_some h2
      refine ⟨ecs,h1,fun j v hj=>?_⟩
      have hjl:=(List.getElem?_eq_some_iff.1 hj).1
      rw[<-Deep.add_add,h3 j (by omega)]
      exact hj
     ·obtain ⟨i,hi,rfl⟩:=List.mem_map.1 hxm
      exact (hf i (by simpa using hi)).2
   ·cases hc
  exact ⟨h,lf (by simp) h⟩
 | .pair a b=>by
  refine ⟨fun t fuel cs r hc=>by simp[chk] at hc,fun off fl cs hc hf hl=>?_⟩
  match fl,hc with
  | f ::g ::r,hc =>
   simp only[chk,z10,Nat.beq_eq] at hc
   obtain ⟨⟨⟨h1,h2⟩,h3⟩,h4⟩:=hc
   simp only[Sh.size] at hl
   obtain ⟨n,y,hy⟩:=hf f (by simp)
   obtain ⟨ya,g1,g2⟩:=(mC a).1 _ _ _ _ h3 hy
   obtain ⟨yb,g3,g4⟩:=(mC b).2 _ _ cs h4 (fun f' hf'=>hf f' (List.mem_cons_of_mem _ hf')) (by omega)
   refine ⟨((ya,yb):a.T×b.T),⟨_,_,?_,g1,g3⟩,g2,g4⟩
   rw[h1,h2,<-List.drop_drop,List.take_append_drop]
 | .agg e=>by
  have h:vk enc P w sp held (.agg e):=by
   intro t fuel cs r hc hr
   simp only[chk,jc] at hc
   split at hc
   ·rename_i fs ht
    simp only[z10,Nat.beq_eq] at hc
    obtain ⟨hz,hc⟩:=hc
    obtain ⟨xs,n,_,_,hl,hxl,hx⟩:=DataW.trod_struct ht hr
    obtain ⟨y,h1,h2⟩:=(mC e).2 0 _ cs hc (fun f hf=>by
     obtain ⟨i,hi,rfl⟩:=List.getElem_of_mem hf
     have hi':i<fs.size:=by simpa using hi
     have:=hx i fs[i] (mT hi')
     rw[cL (by omega)] at this
     exact ⟨n,_,by simpa using this⟩) (by rw[dO,<-hz];exact hl)
    exact ⟨y,h1,h2⟩
   ·rename_i n u ht
    simp only[z10,Nat.beq_eq] at hc
    obtain ⟨hz,hc⟩:=hc
    obtain ⟨xs,m,_,_,hl,hxl,hx⟩:=DataW.trod_array ht hr
    obtain ⟨y,h1,h2⟩:=(mC e).2 0 _ cs hc (fun f hf=>by
     obtain ⟨j,hj,h1,h2⟩:=uu hf
     have:=hx j hj
     rw[cL (by omega)] at this
     exact ⟨m,_,by rw[h1,h2,dO];exact this⟩) (by rw[dO,<-hz];exact hl)
    exact ⟨y,h1,h2⟩
   ·cases hc
  exact ⟨h,lf (by simp) h⟩
theorem IP {s:Sh} {t:TypeId} {v:Value} {d:DataW H} {ps:List MemPlace} {r:Reach} {b0:Nat} (hc:chk P s (.inl t)=true) (hv:Value.okWide P w r b0 t v) (h:DataW.Trod enc P w 0 sp held t v d ps):∃y:s.T,oQ w (sT w) s y v/\s.wf y:=by
 obtain ⟨fuel,hf⟩:=h
 obtain ⟨y,h1,h2⟩:=(mC s).1 _ _ _ _ hc hf
 refine ⟨y,⟨v.cells.toList,h1,?_,fun _=>?_⟩,h2⟩
 ·cases s with
  | agg e =>
   simp only[chk,jc] at hc
   split at hc
   ·rename_i fs ht
    obtain ⟨cs,rfl,_⟩:=okWide_struct ht hv
    simp[Value.cells,mkV,Sh.isAgg]
   ·rename_i n u ht
    simp only[Value.okWide,ht] at hv
    obtain ⟨cs,rfl,_⟩:=hv
    simp[Value.cells,mkV,Sh.isAgg]
   ·cases hc
  | pair a b=>simp[chk] at hc
  | ref=>simp[chk] at hc
  | int k =>
   simp only[chk,jc,Gb] at hc
   split at hc
   ·rename_i k' ht
    cases v<;>first | (simp[Value.okWide,ht,Cell.okWide,Cell.ok] at hv;done) | (simp[Value.cells,mkV,Sh.isAgg];done)
   ·cases hc
  | bool =>
   simp only[chk,jc,Cr] at hc
   split at hc
   ·rename_i ht
    cases v<;>first | (simp[Value.okWide,ht,Cell.okWide,Cell.ok] at hv;done) | (simp[Value.cells,mkV,Sh.isAgg];done)
   ·cases hc
  | str =>
   simp only[chk,jc,FJ] at hc
   split at hc
   ·rename_i ht
    cases v<;>first | (simp[Value.okWide,ht,Cell.okWide,Cell.ok] at hv;done) | (simp[Value.cells,mkV,Sh.isAgg];done)
   ·cases hc
  | sl e =>
   simp only[chk,jc] at hc
   split at hc
   ·rename_i u ht
    cases v<;>first | (simp[Value.okWide,ht,Cell.okWide,Cell.ok] at hv;done) | (simp[Value.cells,mkV,Sh.isAgg];done)
   ·cases hc
 ·rename_i ha
  have:=h1.len
  cases s<;>simp[Sh.isAgg] at ha<;>simp[Sh.size] at this<;>first | simpa using this | (simp[chk] at hc)
def uo (P:Program):List Sh->List TypeId->Bool
 | [],[]=>true
 | s ::r,t ::ts=>chk P s (.inl t)&&P.readableRec t&&decide (t<P.types.size)&&uo P r ts
 | _,_=>false
def wfs:(l:List Sh)->TsS l->Prop
 | [],_=>True
 | s ::r,x=>s.wf x.1/\wfs r x.2
theorem uf {r:Reach} {b0:Nat}:∀{as:List Sh} {ts:List TypeId} {vs:List Value} {ds:List (DataW H)} {ps:List MemPlace},uo P as ts=true ->
  (∀(j:Nat) t v,ts[j]?=some t->vs[j]?=some v->Value.okWide P w r b0 t v)->DataW.TrodAll enc P w 0 sp held ts vs ds ps->∃x:TsS as,cM w (sT w) as x vs/\wfs as x
 | [],[],[],_,_,_,_,_=>⟨(),rfl,trivial⟩
 | s ::r',t ::ts,v ::vs,d ::ds,ps,hc,hv,h=>by
  simp only[uo,z10] at hc
  obtain ⟨p,q,h1,h2,_⟩:=h
  obtain ⟨y,g1,g2⟩:=IP hc.1.1.1 (hv 0 t v rfl rfl) h1
  obtain ⟨x,g3,g4⟩:=uf hc.2 (fun j t' v' ht hv'=>hv (j+1) t' v' ht hv') h2
  exact ⟨((y,x):s.T×TsS r'),by simp only[cM];exact ⟨v,vs,rfl,g1,g3⟩,g2,g4⟩
 | [],[],_ ::_,_,_,_,_,h=>by simp[DataW.TrodAll] at h
 | _ ::_,_ ::_,[],_,_,_,_,h=>by simp[DataW.TrodAll] at h
 | _ ::_,_ ::_,_ ::_,[],_,_,_,h=>by simp[DataW.TrodAll] at h
 | [],_ ::_,_,_,_,hc,_,_=>by simp[uo] at hc
 | _ ::_,[],_,_,_,hc,_,_=>by simp[uo] at hc
theorem ue (hl:laidOutB P=true) {W':World} (hb:Below w.heap.size w W') {sp':Nat->Bool}:∀{as:List Sh} {ts:List TypeId} {vs:List Value} {ds:List (DataW H)} {ps:List MemPlace},uo P as ts=true ->
  DataW.TrodAll enc P w 0 (fun _=>true) true ts vs ds ps->(∀p ∈ ps,p.block<w.heap.size)->(∀p ∈ ps,sp' p.block=true)->DataW.TrodAll enc P W' 0 sp' true ts vs ds ps
 | [],[],[],[],_,_,h,_,_=>h
 | s ::r',t ::ts,v ::vs,d ::ds,ps,hc,h,hlt,hs=>by
  simp only[uo,z10,decide_eq_true_eq] at hc
  obtain ⟨p,q,h1,h2,rfl⟩:=h
  exact ⟨p,q,WideElems.Trod_stays hl hc.1.1.2 hc.1.2 h1 (fun x hx=>hb.same (hlt x (e_ _ hx))) (fun x hx=>hs x (e_ _ hx)),
   ue hl hb hc.2 h2 (fun x hx=>hlt x (bt _ hx)) (fun x hx=>hs x (bt _ hx)),rfl⟩
 | [],[],[],_ ::_,_,_,h,_,_=>by simp[DataW.TrodAll] at h
 | [],[],_ ::_,_,_,_,h,_,_=>by simp[DataW.TrodAll] at h
 | _ ::_,_ ::_,[],_,_,_,h,_,_=>by simp[DataW.TrodAll] at h
 | _ ::_,_ ::_,_ ::_,[],_,_,h,_,_=>by simp[DataW.TrodAll] at h
 | [],_ ::_,_,_,_,hc,_,_,_=>by simp[uo] at hc
 | _ ::_,[],_,_,_,hc,_,_,_=>by simp[uo] at hc
theorem sP:∀{ts:List TypeId} {vs:List Value} {ds:List (DataW H)} {ps:List MemPlace},DataW.TrodAll enc P w 0 sp held ts vs ds ps->ds.length=ts.length
 | [],[],[],_,_=>rfl
 | _ ::_,_ ::_,_ ::_,_,h=>by
  obtain ⟨_,_,_,h2,_⟩:=h
  simp[sP h2]
 | [],[],_ ::_,_,h=>by simp[DataW.TrodAll] at h
 | [],_ ::_,_,_,h=>by simp[DataW.TrodAll] at h
 | _ ::_,[],_,_,h=>by simp[DataW.TrodAll] at h
 | _ ::_,_ ::_,[],_,h=>by simp[DataW.TrodAll] at h
theorem Lg {fn:Func} {f:FuncId} {s:ChangeSpec} {as:List Sh} {m:TsS as->TsF []->TsS []->Option Bool} {t4:TypeId} (hl:laidOutB P=true)
  (hok:Ctr.ok P f ⟨as,[],[],.one .bool,m⟩) (hm:∀x,wfs as x->m x () ()=some true) (hp:uo P as fn.params.toList=true) (hres:fn.resultTypes=#[t4]) (hb:P.underlying t4=some .bool)
  (hvars:s.vars=[]) (hfn:∀ds:List (DataW H),ds.length=fn.params.toList.length->s.fn H ds={ results:=[.lit (.bool true)],args:=ds })
  {W:World} {base:Nat} {args:Array Value} {ds gs:List (DataW H)} {before:List MemPlace} (hv:∀(j:Nat) t v,fn.params[j]?=some t->args[j]?=some v->Value.okWide P W .any base t v)
  (hW:DataW.Whole enc P fn.params.toList s.vars false W args.toList ds gs before):Calls P f args W fun e W'=>∃v,e=.returned v/\s.post enc P fn false true false false W args v W':=by
 have hlt:=fun p hp=>hW.lt (p:=p) hp
 obtain ⟨p,q,hA,hV,rfl,hfz,hnd⟩:=id hW
 obtain ⟨x,hx,hwf⟩:=uf hp (fun j t v ht hv'=>hv j t v (by simpa using ht) (by simpa using hv')) hA
 have hlen:=sP hA
 rw[hvars] at hV
 obtain ⟨rfl,rfl⟩:=trodVars_none hV
 have:=hok x () () true (hm x hwf) W (sT W) args.toList [] [] (fun _ h=>h) hx rfl rfl
 simp only[h_,lE] at this
 refine this.mono fun e W' he=>?_
 obtain ⟨v,rfl,hr,hbelow⟩:=he
 obtain ⟨cs,hc,rfl,_⟩:oQ W' (fresh (sT W) W W') .bool true v:=hr
 simp only[Dat] at hc
 subst hc
 simp only[h_] at hlt hW hfz hnd
 refine ⟨_,rfl,?_⟩
 have hf:=hfn ds hlen
 have hold:∀y ∈ p,(fun b=>decide (b<W.heap.size)) y.block=true:=fun y hy=>by simpa using hlt y hy
 have res:∀(b:Nat) (sp:Nat->Bool) (hd:Bool),DataW.TrodAll enc P W' b sp hd fn.resultTypes.toList ((Value.bool true).resultList fn.resultTypes.size) [.lit (.bool true)] []:=fun b sp hd=>by
  rw[hres]
  exact trodAll_mk1 (shut_bool hb true)
 have arg:∀sp:Nat->Bool,(∀y ∈ p,sp y.block=true)->DataW.TrodAll enc P W' 0 sp true fn.params.toList args.toList ds p:=fun sp hs=>ue hl hbelow hp hA hlt hs
 have vars:∀sp:Nat->Bool,DataW.TrodVars (H:=H) enc P W' sp s.vars [] []:=fun sp=>by rw[hvars];rfl
 refine ⟨ds,[],p,[],p,[],hW,?_,?_,?_,World.keptBut_mono (fun y hy=>⟨hy,by simpa using hy⟩) (hbelow.frame (· ∈ p)),fun h=>by cases h⟩
 ·rw[h_,hf];exact res _ _ _
 ·rw[h_,hf];exact arg _ hold
 ·rw[h_,hf];exact vars _
end
end
end Dn
end
end Go.Proofs.YtlfdhaiigdllcaaGreat

namespace Go.Proofs.YtlfdhaiigdllcaaGreat
namespace Dn
section
variable {T R α σ:Type}
theorem af {t:T} {k:T->Option R}:ah (some t) k=k t:=rfl
theorem D5 {F:(α->Option R)->α->Option R} {g:α->Option R} (I:α->Prop) (μ:α->Nat)
  (h:∀x rec,I x->(∀y,I y->μ y<μ x->rec y=g y)->F rec x=g x):∀{n:Nat} {x:α},I x->μ x<n->ko F n x=g x
 | 0,x,_,hn=>by omega
 | n+1,x,hx,hn=>by
  rw[jB]
  exact h x _ hx fun y hy hlt=>D5 I μ h hy (by omega)
theorem jj {F:(α->Option R)->α->Option R} {g:α->Option R} (I:α->Prop) (μ:α->Nat)
  (h:∀x rec,I x->(∀y,I y->μ y<μ x->rec y=g y)->F rec x=g x) {x:α} (hx:I x) (hn:μ x<1180591620717411303424):lpK α R F x=g x:=D5 I μ h hx hn
theorem ap {x:Int} (h1: -9223372036854775808<=x) (h2:x<9223372036854775808):aq .i64 x=x:=by
 rw[IntKind.wrap_i64];omega
def upF (b:Nat->σ->(σ->Option R)->Option R) (f:σ->Option R):Nat->Nat->σ->Option R
 | 0,_,s=>f s
 | k+1,i,s=>b i s (upF b f k (i+1))
theorem Mi {F:(α->Option R)->α->Option R} (n:Nat) (hn:n<=1180591620717411303423) (enc:Nat->σ->α) (b:Nat->σ->(σ->Option R)->Option R) (f:σ->Option R)
  (hb:∀again (i:Nat) s,i<n->F again (enc i s)=b i s (fun s'=>again (enc (i+1) s'))) (hf:∀again s,F again (enc n s)=f s) (s:σ) :
  ko F K0 (enc 0 s)=upF b f n 0 s:=by
 have key:∀(k:Nat) (i:Nat) (m:Nat) (s:σ),i+k=n->k<m->ko F m (enc i s)=upF b f k i s:=by
  intro k
  induction k with
  | zero =>
   intro i m s h1 h2
   obtain ⟨m,rfl⟩:∃m',m=m'+1:=⟨m - 1,by omega⟩
   have:i=n:=by omega
   subst this
   simp only[jB,hf,upF]
  | succ k ih =>
   intro i m s h1 h2
   obtain ⟨m,rfl⟩:∃m',m=m'+1:=⟨m - 1,by omega⟩
   simp only[jB,upF]
   rw[hb _ _ _ (by omega)]
   congr 1
   funext s'
   exact ih (i+1) m s' (by omega) (by omega)
 exact key n 0 K0 s (by omega) (by unfold K0;omega)
theorem be {i n:Nat}:inB (i:Int) n=decide (i<n):=by
 rw[pH,kc,decide_eq_true_iff];omega
theorem oM {i:Int} {n:Nat} (h1:0<=i) (h2:i<n):inB i n=true:=kc.2 ⟨h1,h2⟩
theorem oD {n:Int} (h:n≠0):nzB n=true:=Ck.2 h
theorem wG {lo hi:Int} {n:Nat} (h1:0<=lo) (h2:lo<=hi) (h3:hi<=n):slB lo hi n=true:=tF.2 ⟨h1,h2,h3⟩
theorem iH {n k:Nat} (h:n*k<=140737488355328):fz n k=true:=lj.2 h
theorem ff {n m:Nat} (h:n<=m):eS n m=true:=by rw[Nat.ble_eq];exact h
theorem cT0 {α:Sort _} {c:Bool} (h:c=true) (a b:α):cond c a b=a:=by subst h;rfl
theorem cT {α:Sort _} (a b:α):cond true a b=a:=cT0 (Eq.trans rfl rfl) a b
theorem cF0 {α:Sort _} {c:Bool} (h:c=false) (a b:α):cond c a b=b:=by subst h;rfl
theorem cF {α:Sort _} (a b:α):cond false a b=b:=cF0 (Eq.trans rfl rfl) a b
theorem gw {b:Bool}:(b||!b)=true:=by cases b<;>rfl
theorem bC {b:Bool}:(!b||b)=true:=by cases b<;>rfl
theorem qK {b:Bool} {c:Bool}:(bif b then c else false)=(b&&c):=by cases b<;>rfl
theorem IX {b:Bool} {c:Bool}:(bif b then true else c)=(b||c):=by cases b<;>rfl
theorem ca {l:List α} {d:α} {i:Nat} (h:i<l.length):l.getD i d=l[i]:=by simp[a_,h]
end
theorem kQ {σ α R:Type} {F:(α->Option R)->α->Option R} (n:Nat) (hn:n<=1180591620717411303423) (enc:Nat->σ->α) (b:Nat->σ->(σ->Option R)->Option R) (f:σ->Option R)
  (hb:∀again (i:Nat) s,i<n->F again (enc i s)=b i s (fun s'=>again (enc (i+1) s'))) (hf:∀again s,F again (enc n s)=f s) (s:σ) :
  lpK α R F (enc 0 s)=upF b f n 0 s:=Mi n hn enc b f hb hf s
def mu {α:Type} (p:α->Bool):List α->Int->Int
 | [],_=> -1
 | a ::l,i=>bif p a then i else mu p l (i+1)
theorem sU {α:Type} {p:α->Bool}:∀{l:List α} {i:Int},0<=i->(mu p l i<0↔∀a ∈ l,p a=false)
 | [],i,h=>by simp[mu]
 | a ::l,i,h=>by
  unfold mu
  cases hp:p a with
  | true=>simp only[cond_true,List.mem_cons,forall_eq_or_imp,hp];simp;omega
  | false=>simp only[cond_false,List.mem_cons,forall_eq_or_imp,hp,true_and];exact sU (by omega)
theorem Il {α:Type} {p:α->Bool} {l:List α} {d:α} {i:Nat} (h:i<l.length):mu p (l.drop i) i=bif p (l.getD i d) then (i:Int) else mu p (l.drop (i+1)) ((i:Int)+1):=by
 rw[List.drop_eq_getElem_cons h,ca h]
 rfl
theorem jz {α:Type} {f:(α×Unit)->Option Bool} {d:α} {p:α->Bool} {l:List α} (hl:l.length<=1000000) (h:∀a,a ∈ l->f (a,())=some (p a)) :
  lpK (Int×PUnit) Int (fun (again:Int×PUnit->Option Int) (x:Int×PUnit)=>bif decide (x.1<(↑(aC l):Int)) then bif inB x.1 (aC l) then ah (f
   (a_ l (aS x.1) d,aQ)) fun (t:Bool)=>bif t then some x.1 else again
   (aq .i64 (x.1+(1:Int)),aQ) else none else some (-1:Int)) ((0:Int),aQ)=some (mu p l 0):=by
 refine jj (g:=fun _=>some (mu p l 0)) (I:=fun (x:Int×PUnit)=>0<=x.1/\x.1<=l.length/\mu p (l.drop x.1.toNat) x.1=mu p l 0) (μ:=fun (x:Int×PUnit)=>((l.length:Int) - x.1).toNat) ?_ ⟨by simp,by simp only;omega,rfl⟩ (by simp only;omega)
 rintro ⟨i,_⟩ rec ⟨h0,h1,h2⟩ hrec
 simp only at h0 h1 h2 ⊢
 by_cases hi:i<l.length
 ·obtain ⟨n,rfl⟩:∃n:Nat,i=n:=⟨i.toNat,by omega⟩
  rw[z7 hi,cond_true,oM h0 hi,cond_true,z9,h _ (by rw[ca (by omega)];exact List.getElem_mem (by omega)),af,ap (by omega) (by omega)]
  rw[z9,Il (d:=d) (by omega)] at h2
  cases hp:p (l.getD n d) with
  | true=>rw[hp,cond_true] at h2;rw[cond_true,h2]
  | false=>rw[hp,cond_false] at h2;rw[cond_false];exact hrec _ ⟨by simp only;omega,by simp only;omega,h2⟩ (by simp only;omega)
 ·rw[z8 hi,cond_false]
  have e:i.toNat=l.length:=by omega
  rw[e,List.drop_length] at h2
  rw[<-h2]
  rfl
theorem tK {R σ:Type} {b:Nat->σ->(σ->Option R)->Option R} {f:σ->Option R} {p:Nat->Bool} {r:Option R} {s:σ} (n:Nat) (hb:∀i (k:σ->Option R),i<n->b i s k=bif p i then k s else r) :
  ∀(k i:Nat),i+k<=n->upF b f k i s=bif (n_ i k).all p then f s else r
 | 0,i,_=>rfl
 | k+1,i,h=>by
  simp only[upF,hb i _ (by omega),List.range'_succ,List.all_cons]
  cases hp:p i with
  | true=>exact tK n hb k (i+1) (by omega)
  | false=>rfl
def ab (x:Int):Int:=(x.natAbs:Int)
theorem IH (x:Int):0<=ab x:=by unfold ab;omega
theorem KA (x y:Int):ab (x*y)=ab x*ab y:=by
 unfold ab
 rw[Int.natAbs_mul]
 rfl
def sz:Nat->(Nat->Int)->Int
 | 0,_=>0
 | n+1,f=>sz n f+f n
theorem dj:∀{n:Nat} {f g:Nat->Int},(∀i,i<n->f i=g i)->sz n f=sz n g
 | 0,_,_,_=>rfl
 | n+1,f,g,h=>by
  simp only[sz]
  rw[dj (n:=n) fun i hi=>h i (by omega),h n (by omega)]
theorem uB:∀{n:Nat} {f g:Nat->Int},sz n (fun i=>f i+g i)=sz n f+sz n g
 | 0,_,_=>rfl
 | n+1,f,g=>by
  simp only[sz]
  rw[uB]
  omega
theorem iO:∀{n:Nat} {c:Int} {f:Nat->Int},sz n (fun i=>c*f i)=c*sz n f
 | 0,c,_=>by simp[sz]
 | n+1,c,f=>by
  simp only[sz]
  rw[iO,Int.mul_add]
theorem Ov {n:Nat} {c:Int} {f:Nat->Int}:sz n (fun i=>f i*c)=sz n f*c:=by
 rw[Int.mul_comm,<-iO]
 exact dj fun i _=>Int.mul_comm _ _
theorem xT:∀{n:Nat} {f:Nat->Int},(∀i,i<n->f i=0)->sz n f=0
 | 0,_,_=>rfl
 | n+1,f,h=>by
  simp only[sz]
  rw[xT fun i hi=>h i (by omega),h n (by omega)]
  rfl
theorem Tw {n:Nat} {f:Nat->Int}:sz n (fun i=> - f i)= - sz n f:=by
 have:sz n (fun i=> - f i)=sz n (fun i=>(-1)*f i):=dj fun i _=>by omega
 rw[this,iO]
 omega
theorem F0 {n:Nat} {f g:Nat->Int}:sz n (fun i=>f i - g i)=sz n f - sz n g:=by
 have:sz n (fun i=>f i - g i)=sz n (fun i=>f i+ - g i):=dj fun i _=>by omega
 rw[this,uB,Tw]
 omega
theorem mL:∀{n:Nat} {f:Nat->Int} {k:Nat},k<n->(∀i,i<n->i≠k->f i=0)->sz n f=f k
 | n+1,f,k,hk,h=>by
  simp only[sz]
  by_cases e:k=n
  ·subst e
   rw[xT fun i hi=>h i (by omega) (by omega)]
   omega
  ·rw[mL (k:=k) (by omega) fun i hi hne=>h i (by omega) hne,h n (by omega) (fun e'=>e e'.symm)]
   omega
theorem GJ {n:Nat} {f:Nat->Int} {k l:Nat} (hk:k<n) (hl:l<n) (hkl:k≠l) (h:∀i,i<n->i≠k->i≠l->f i=0):sz n f=f k+f l:=by
 have e:sz n f=sz n (fun i=>(if i=k then f k else 0)+(if i=l then f l else 0)):=dj fun i hi=>by
  by_cases h1:i=k
  ·subst h1;rw[if_pos rfl,if_neg hkl];omega
  ·by_cases h2:i=l
   ·subst h2;rw[if_neg h1,if_pos rfl];omega
   ·rw[if_neg h1,if_neg h2,h i hi h1 h2];rfl
 rw[e,uB,mL hk (f:=fun i=>if i=k then f k else 0) (fun i _ hne=>if_neg hne),mL hl (f:=fun i=>if i=l then f l else 0) (fun i _ hne=>if_neg hne)]
 simp
theorem B6:∀{m n:Nat} {f:Nat->Nat->Int},sz m (fun i=>sz n (fun j=>f i j))=sz n (fun j=>sz m (fun i=>f i j))
 | 0,n,f=>by
  simp only[sz]
  exact (xT fun _ _=>rfl).symm
 | m+1,n,f=>by
  simp only[sz]
  rw[B6,uB]
theorem Q1:∀{n:Nat} {f g:Nat->Int},(∀i,i<n->f i<=g i)->sz n f<=sz n g
 | 0,_,_,_=>Int.le_refl _
 | n+1,f,g,h=>by
  simp only[sz]
  have:=Q1 (n:=n) fun i hi=>h i (by omega)
  have:=h n (by omega)
  omega
def skip (k j:Nat):Nat:=if j<k then j else j+1
def sgd (k:Nat):Int:=if k % 2=0 then 1 else -1
theorem Nt (k:Nat):sgd (k+1)= - sgd k:=by
 unfold sgd
 split<;>split<;>omega
def mc (A:Nat->Nat->Int) (k:Nat):Nat->Nat->Int:=fun i j=>A (i+1) (skip k j)
def det:Nat->(Nat->Nat->Int)->Int
 | 0,_=>1
 | n+1,A=>sz (n+1) fun k=>sgd k*A 0 k*det n (mc A k)
def bR (A:Nat->Nat->Int) (c:Nat) (v:Nat->Int):Nat->Nat->Int:=fun i j=>if j=c then v i else A i j
theorem jI:∀{n:Nat} {A B:Nat->Nat->Int},(∀i j,i<n->j<n->A i j=B i j)->det n A=det n B
 | 0,_,_,_=>rfl
 | n+1,A,B,h=>by
  simp only[det]
  refine dj fun k hk=>?_
  rw[h 0 k (by omega) hk,jI (A:=mc A k) (B:=mc B k) fun i j hi hj=>h (i+1) (skip k j) (by omega) (by unfold skip;split<;>omega)]
theorem rF {A:Nat->Nat->Int} {k:Nat} {v:Nat->Int}:mc (bR A k v) k=mc A k:=by
 funext i j
 unfold mc bR
 rw[if_neg]
 unfold skip
 split<;>omega
def GQ (k c:Nat):Nat:=if c<k then c else c - 1
theorem nV {A:Nat->Nat->Int} {k c:Nat} {v:Nat->Int} (h:k≠c):mc (bR A c v) k=bR (mc A k) (GQ k c) (fun i=>v (i+1)):=by
 funext i j
 unfold mc bR skip GQ
 by_cases h1:j<k<;>by_cases h2:c<k
 ·simp only[h1,h2,if_true]
 ·simp only[h1,h2,if_true,if_false]
  rw[if_neg (by omega),if_neg (by omega)]
 ·simp only[h1,h2,if_true,if_false]
  rw[if_neg (by omega),if_neg (by omega)]
 ·simp only[h1,h2,if_false]
  by_cases h3:j+1=c
  ·rw[if_pos h3,if_pos (by omega)]
  ·rw[if_neg h3,if_neg (by omega)]
theorem ol:∀{n:Nat} {A:Nat->Nat->Int} {c:Nat} {u v:Nat->Int},c<n->det n (bR A c fun i=>u i+v i)=det n (bR A c u)+det n (bR A c v)
 | n+1,A,c,u,v,hc=>by
  simp only[det]
  rw[<-uB]
  refine dj fun k hk=>?_
  by_cases h:k=c
  ·subst h
   simp only[rF]
   have e:∀v:Nat->Int,bR A k v 0 k=v 0:=fun v=>by simp[bR]
   rw[e,e,e,Int.mul_add,Int.add_mul]
  ·have e:∀v:Nat->Int,bR A c v 0 k=A 0 k:=fun v=>by simp[bR,h]
   rw[nV h,nV h,nV h,e,e,e,ol (u:=fun i=>u (i+1)) (v:=fun i=>v (i+1)) (by unfold GQ;split<;>omega),Int.mul_add]
theorem rU:∀{n:Nat} {A:Nat->Nat->Int} {c:Nat} {x:Int} {u:Nat->Int},c<n->det n (bR A c fun i=>x*u i)=x*det n (bR A c u)
 | n+1,A,c,x,u,hc=>by
  simp only[det]
  rw[<-iO]
  refine dj fun k hk=>?_
  by_cases h:k=c
  ·subst h
   simp only[rF]
   have e:∀v:Nat->Int,bR A k v 0 k=v 0:=fun v=>by simp[bR]
   rw[e,e]
   simp only[Int.mul_assoc,Int.mul_left_comm]
  ·have e:∀v:Nat->Int,bR A c v 0 k=A 0 k:=fun v=>by simp[bR,h]
   rw[nV h,nV h,e,e,rU (u:=fun i=>u (i+1)) (by unfold GQ;split<;>omega)]
   simp only[Int.mul_assoc,Int.mul_left_comm]
theorem Mx {n:Nat} {A:Nat->Nat->Int} {c:Nat} (hc:c<n):det n (bR A c fun _=>0)=0:=by
 have:=rU (n:=n) (A:=A) (x:=0) (u:=fun _=>0) hc
 simpa using this
theorem vE {n:Nat} {A:Nat->Nat->Int} {c:Nat} (hc:c<n):∀{m:Nat} {x:Nat->Int} {u:Nat->Nat->Int},det n (bR A c fun i=>sz m fun l=>x l*u l i)=sz m fun l=>x l*det n (bR A c (u l))
 | 0,x,u=>by simp only[sz];exact Mx hc
 | m+1,x,u=>by
  simp only[sz]
  rw[ol hc,rU hc,vE hc]
theorem CI:∀{n:Nat} {A:Nat->Nat->Int} {c:Nat},c+1<n->(∀i,i<n->A i c=A i (c+1))->det n A=0
 | n+1,A,c,hc,h=>by
  simp only[det]
  rw[GJ (k:=c) (l:=c+1) (by omega) hc (by omega) fun k hk h1 h2=>?_]
  ·have e:det n (mc A c)=det n (mc A (c+1)):=by
    refine jI fun i j hi hj=>?_
    unfold mc skip
    by_cases h1:j<c
    ·rw[if_pos h1,if_pos (by omega)]
    ·by_cases h2:j=c
     ·subst h2
      rw[if_neg h1,if_pos (by omega)]
      exact (h (i+1) (by omega)).symm
     ·rw[if_neg h1,if_neg (by omega)]
   rw[e,Nt,h 0 (by omega)]
   simp only[Int.neg_mul]
   omega
  ·have e:det n (mc A k)=0:=by
    refine CI (c:=GQ k c) ?_ fun i hi=>?_
    ·unfold GQ;split<;>omega
    ·unfold mc skip GQ
     by_cases h3:c<k
     ·simp only[h3,if_true]
      rw[if_pos (by omega)]
      exact h (i+1) (by omega)
     ·simp only[h3,if_false]
      rw[if_neg (by omega),if_neg (by omega),show c - 1+1=c by omega]
      exact h (i+1) (by omega)
   rw[e,Int.mul_zero]
theorem pF (A:Nat->Nat->Int) (c:Nat):bR A c (fun i=>A i c)=A:=by
 funext i j
 unfold bR
 split
 ·rename_i h;rw[h]
 ·rfl
theorem eG {A:Nat->Nat->Int} {c e:Nat} {u v:Nat->Int} (h:c≠e):bR (bR A c u) e v=bR (bR A e v) c u:=by
 funext i j
 unfold bR
 by_cases h1:j=c<;>by_cases h2:j=e
 ·omega
 ·simp[h1,h]
 ·simp[h2,Ne.symm h]
 ·simp[h1,h2]
theorem Ch {n:Nat} {A:Nat->Nat->Int} {c:Nat} {u v:Nat->Int} (hc:c+1<n):det n (bR (bR A c u) (c+1) v)= - det n (bR (bR A c v) (c+1) u):=by
 have h0:∀w:Nat->Int,det n (bR (bR A c w) (c+1) w)=0:=fun w=>CI hc fun i _=>by simp[bR]
 have h1:=h0 fun i=>u i+v i
 rw[ol hc,eG (by omega),eG (u:=fun i=>u i+v i) (by omega),ol (by omega),ol (by omega),eG (c:=c+1) (by omega),eG (c:=c+1) (v:=v) (by omega),eG (c:=c+1) (u:=v) (v:=u) (by omega),eG (c:=c+1) (u:=v) (v:=v) (by omega),h0,h0] at h1
 omega
theorem FH:∀{k:Nat} {n:Nat} {A:Nat->Nat->Int} {c:Nat},c+k+1<n->(∀i,i<n->A i c=A i (c+k+1))->det n A=0
 | 0,n,A,c,hc,h=>CI hc h
 | k+1,n,A,c,hc,h=>by
  have e:A=bR (bR A (c+k+1) fun i=>A i (c+k+1)) (c+k+1+1) fun i=>A i (c+k+1+1):=by
   rw[pF,pF]
  rw[e,Ch (by omega)]
  have:det n (bR (bR A (c+k+1) fun i=>A i (c+k+1+1)) (c+k+1+1) fun i=>A i (c+k+1))=0:=by
   refine FH (k:=k) (c:=c) (by omega) fun i hi=>?_
   simp only[bR]
   rw[if_neg (by omega),if_neg (by omega),if_neg (by omega)]
   simp only[if_true]
   exact h i hi
  rw[this]
  rfl
theorem qC {n:Nat} {A:Nat->Nat->Int} {a b:Nat} (ha:a<n) (hb:b<n) (hab:a≠b) (h:∀i,i<n->A i a=A i b):det n A=0:=by
 by_cases hlt:a<b
 ·obtain ⟨k,rfl⟩:∃k,b=a+k+1:=⟨b - a - 1,by omega⟩
  exact FH hb h
 ·obtain ⟨k,rfl⟩:∃k,a=b+k+1:=⟨a - b - 1,by omega⟩
  exact FH ha fun i hi=>(h i hi).symm
theorem NH {n:Nat} {A:Nat->Nat->Int} {a b:Nat} {u v:Nat->Int} (ha:a<n) (hb:b<n) (hab:a≠b):det n (bR (bR A a u) b v)= - det n (bR (bR A a v) b u):=by
 have h0:∀w:Nat->Int,det n (bR (bR A a w) b w)=0:=fun w=>qC ha hb hab fun i _=>by simp[bR]
 have h1:=h0 fun i=>u i+v i
 rw[ol hb,eG hab,eG (u:=fun i=>u i+v i) hab,ol ha,ol ha,eG (c:=b) (Ne.symm hab),eG (c:=b) (v:=v) (Ne.symm hab),eG (c:=b) (u:=v) (v:=u) (Ne.symm hab),eG (c:=b) (u:=v) (v:=v) (Ne.symm hab),h0,h0] at h1
 omega
def pz:Nat->(Nat->Int)->Int
 | 0,_=>1
 | n+1,f=>f 0*pz n fun i=>f (i+1)
def upd (β:Nat->Nat) (r c:Nat):Nat->Nat:=fun k=>if k=r then c else β k
def iV (M:Nat->Nat->Int) (γ:Nat->Nat):Nat->Nat->Int:=fun i k=>M i (γ k)
def dc (m:Nat) (M:Nat->Nat->Int) (γ:Nat->Nat):Int:=det m (iV M γ)
theorem nQ (M:Nat->Nat->Int) (β:Nat->Nat) (r c:Nat):iV M (upd β r c)=bR (iV M β) r (fun i=>M i c):=by
 funext i k
 unfold iV upd bR
 split<;>rfl
theorem Pa (β:Nat->Nat) (r c e:Nat):upd (upd β r c) r e=upd β r e:=by
 funext k
 unfold upd
 split<;>rfl
theorem Li (β:Nat->Nat) (r:Nat):upd β r (β r)=β:=by
 funext k
 unfold upd
 split
 ·rename_i h;rw[h]
 ·rfl
structure Tb (m w:Nat) (M T:Nat->Nat->Int) (d:Int) (β:Nat->Nat):Prop where
 dpos:0<d
 lt:∀i,i<m->β i<w
 co:∀k,k<m->∀j,j<w->d*M k j=sz m fun i=>T i j*M k (β i)
 cr:∃σ:Int,σ*σ=1/\d=σ*dc m M β/\∀i,i<m->∀j,j<w->T i j=σ*dc m M (upd β i j)
section
variable {m w:Nat} {M T:Nat->Nat->Int} {d:Int} {β:Nat->Nat}
theorem B2 {i k:Nat} (hi:i<m) (hk:k<m) (h:i≠k):dc m M (upd β i (β k))=0:=by
 refine qC hi hk h fun l _=>?_
 unfold iV upd
 rw[if_pos rfl,if_neg (Ne.symm h)]
theorem Tb.basis (h:Tb m w M T d β) {i:Nat} (hi:i<m):T i (β i)=d:=by
 obtain ⟨σ,_,h2,h3⟩:=h.cr
 rw[h3 i hi _ (h.lt i hi),Li,<-h2]
theorem Tb.other (h:Tb m w M T d β) {i k:Nat} (hi:i<m) (hk:k<m) (hik:i≠k):T i (β k)=0:=by
 obtain ⟨σ,_,h2,h3⟩:=h.cr
 rw[h3 i hi _ (h.lt k hk),B2 hi hk hik,Int.mul_zero]
theorem Tb.inj (h:Tb m w M T d β) {i k:Nat} (hi:i<m) (hk:k<m) (hb:β i=β k):i=k:=by
 by_cases e:i=k
 ·exact e
 ·have h1:=h.other hi hk e
  rw[<-hb,h.basis hi] at h1
  have:=h.dpos
  omega
theorem JZ (h:Tb m w M T d β) {r i c j:Nat} (hr:r<m) (hi:i<m) (hri:r≠i) (hc:c<w) (hj:j<w) :
  d*d*dc m M (upd (upd β r c) i j)=(T r c*T i j - T i c*T r j)*dc m M β:=by
 obtain ⟨B,hB⟩:∃B,B=iV M β:=⟨_,rfl⟩
 have e1:d*d*dc m M (upd (upd β r c) i j)=det m (bR (bR B r fun q=>d*M q c) i fun q=>d*M q j):=by
  have a1:=rU (n:=m) (A:=bR B r fun q=>d*M q c) (c:=i) (x:=d) (u:=fun q=>M q j) hi
  have a2:=rU (n:=m) (A:=bR B i fun q=>M q j) (c:=r) (x:=d) (u:=fun q=>M q c) hr
  unfold dc
  rw[nQ,nQ,<-hB,a1,eG (u:=fun q=>d*M q c) hri,a2,eG (u:=fun q=>M q c) hri,Int.mul_assoc]
 have e2:det m (bR (bR B r fun q=>d*M q c) i fun q=>d*M q j)=det m (bR (bR B r fun q=>sz m fun k=>T k c*B q k) i fun q=>sz m fun l=>T l j*B q l):=by
  refine jI fun p q hp hq=>?_
  unfold bR
  rw[hB]
  split
  ·exact h.co p hp j hj
  ·split
   ·exact h.co p hp c hc
   ·rfl
 rw[e1,e2,vE hi (x:=fun l=>T l j) (u:=fun l q=>B q l)]
 have e3:∀l,det m (bR (bR B r fun q=>sz m fun k=>T k c*B q k) i fun q=>B q l)=sz m fun k=>T k c*det m (bR (bR B i fun q=>B q l) r fun q=>B q k):=fun l=>by
  rw[eG hri,vE hr (x:=fun k=>T k c) (u:=fun k q=>B q k)]
 have z1:∀k l,k<m->k≠r->k≠i->det m (bR (bR B i fun q=>B q l) r fun q=>B q k)=0:=fun k l hk h1 h2 =>
  qC hr hk h1.symm fun q _=>by simp[bR,h1,h2]
 have z2:∀k l,l<m->l≠r->l≠i->det m (bR (bR B i fun q=>B q l) r fun q=>B q k)=0:=fun k l hl h1 h2 =>
  qC hi hl h2.symm fun q _=>by simp[bR,h1,h2,hri.symm]
 have z3:det m (bR (bR B i fun q=>B q r) r fun q=>B q r)=0:=qC hi hr hri.symm fun q _=>by simp[bR,hri.symm]
 have z4:det m (bR (bR B i fun q=>B q i) r fun q=>B q i)=0:=qC hi hr hri.symm fun q _=>by simp[bR,hri.symm]
 have z5:det m (bR (bR B i fun q=>B q i) r fun q=>B q r)=det m B:=by
  rw[pF,pF]
 have z6:det m (bR (bR B i fun q=>B q r) r fun q=>B q i)= - det m B:=by
  rw[NH hi hr hri.symm,z5]
 have e4:∀l,l<m->(sz m fun k=>T k c*det m (bR (bR B i fun q=>B q l) r fun q=>B q k))=T r c*det m (bR (bR B i fun q=>B q l) r fun q=>B q r)+T i c*det m (bR (bR B i fun q=>B q l) r fun q=>B q i):=fun l _ =>
  GJ hr hi hri fun k hk h1 h2=>by rw[z1 k l hk h1 h2,Int.mul_zero]
 rw[dj (g:=fun l=>T l j*(T r c*det m (bR (bR B i fun q=>B q l) r fun q=>B q r)+T i c*det m (bR (bR B i fun q=>B q l) r fun q=>B q i))) fun l hl=>by rw[e3 l,e4 l hl]]
 rw[GJ hr hi hri fun l hl h1 h2=>by rw[z2 r l hl h1 h2,z2 i l hl h1 h2];simp]
 rw[z3,z4,z5,z6]
 have:dc m M β=det m B:=by rw[hB];rfl
 rw[this]
 grind
def piv (T:Nat->Nat->Int) (d:Int) (r c i j:Nat):Int:=(T r c*T i j - T i c*T r j) / d
theorem pv (h:Tb m w M T d β) {r i c j:Nat} (hr:r<m) (hi:i<m) (hri:r≠i) (hc:c<w) (hj:j<w):d*piv T d r c i j=T r c*T i j - T i c*T r j:=by
 obtain ⟨σ,h1,h2,_⟩:=h.cr
 have h3:=JZ h hr hi hri hc hj
 have hd:=h.dpos
 have h4:dc m M β=σ*d:=by rw[h2,<-Int.mul_assoc,h1,Int.one_mul]
 rw[h4] at h3
 have h5:d*(d*dc m M (upd (upd β r c) i j))=d*((T r c*T i j - T i c*T r j)*σ):=by
  rw[<-Int.mul_assoc,h3]
  grind
 have h6:=Int.eq_of_mul_eq_mul_left (by omega) h5
 have h7:T r c*T i j - T i c*T r j=d*(σ*dc m M (upd (upd β r c) i j)):=by
  have:(T r c*T i j - T i c*T r j)*σ*σ=d*dc m M (upd (upd β r c) i j)*σ:=by rw[h6]
  rw[Int.mul_assoc,h1,Int.mul_one] at this
  rw[this]
  grind
 unfold piv
 rw[h7,Int.mul_ediv_cancel_left _ (by omega)]
theorem Sd (h:Tb m w M T d β) {σ:Int} (h1:σ*σ=1) (h2:d=σ*dc m M β) {r i c j:Nat} (hr:r<m) (hi:i<m) (hri:r≠i) (hc:c<w) (hj:j<w):piv T d r c i j=σ*dc m M (upd (upd β r c) i j):=by
 have h3:=JZ h hr hi hri hc hj
 have hd:=h.dpos
 have h4:dc m M β=σ*d:=by rw[h2,<-Int.mul_assoc,h1,Int.one_mul]
 have h5:=pv h hr hi hri hc hj
 rw[h4,<-h5] at h3
 have h6:(d*d)*dc m M (upd (upd β r c) i j)=(d*d)*(piv T d r c i j*σ):=by rw[h3];grind
 have h7:=Int.eq_of_mul_eq_mul_left (Int.ne_of_gt (Int.mul_pos hd hd)) h6
 rw[h7]
 grind
def sg (x:Int):Int:=if x<0 then -1 else 1
theorem Rx (x:Int):sg x*sg x=1:=by unfold sg;split<;>rfl
theorem So {x:Int} (h:x≠0):0<sg x*x:=by unfold sg;split<;>omega
def Mw (T:Nat->Nat->Int) (d:Int) (r c:Nat):Nat->Nat->Int:=fun i j=>sg (T r c)*(if i=r then T r j else piv T d r c i j)
theorem Tb.step (h:Tb m w M T d β) {r c:Nat} (hr:r<m) (hc:c<w) (he:T r c≠0):Tb m w M (Mw T d r c) (sg (T r c)*T r c) (upd β r c):=by
 have hd:=h.dpos
 refine ⟨So he,fun i hi=>?_,fun k hk j hj=>?_,?_⟩
 ·unfold upd
  split
  ·exact hc
  ·exact h.lt i hi
 ·have h1:∀i,i<m->d*((if i=r then T r j else piv T d r c i j)*M k (upd β r c i))=(T r c*(T i j*M k (β i)) - T r j*(T i c*M k (β i)))+(if i=r then d*(T r j*M k c) else 0):=fun i hi=>by
   unfold upd
   by_cases e:i=r
   ·subst e
    simp only[if_true]
    grind
   ·simp only[e,if_false,Int.add_zero]
    rw[<-Int.mul_assoc,pv h hr hi (Ne.symm e) hc hj]
    grind
  have h2:d*(sz m fun i=>(if i=r then T r j else piv T d r c i j)*M k (upd β r c i))=d*(T r c*M k j):=by
   rw[<-iO,dj h1,uB,F0,iO,iO,<-h.co k hk j hj,<-h.co k hk c hc,mL hr fun i _ hne=>if_neg hne,if_pos rfl]
   grind
  have h3:=Int.eq_of_mul_eq_mul_left (by omega) h2
  have h4:(sz m fun i=>Mw T d r c i j*M k (upd β r c i))=sg (T r c)*sz m fun i=>(if i=r then T r j else piv T d r c i j)*M k (upd β r c i):=by
   rw[<-iO]
   exact dj fun i _=>by unfold Mw;rw[Int.mul_assoc]
  rw[h4,h3,Int.mul_assoc]
 ·obtain ⟨σ,h1,h2,h3⟩:=h.cr
  refine ⟨sg (T r c)*σ,?_,?_,fun i hi j hj=>?_⟩
  ·have:=Rx (T r c)
   grind
  ·rw[h3 r hr c hc]
   grind
  ·unfold Mw
   by_cases e:i=r
   ·subst e
    rw[if_pos rfl,h3 i hi j hj,Pa]
    grind
   ·rw[if_neg e,Sd h h1 h2 hr hi (Ne.symm e) hc hj]
    grind
theorem HK:∀n:Nat,det n (fun i k=>if i=k then 1 else 0)=1
 | 0=>rfl
 | n+1=>by
  simp only[det]
  rw[mL (k:=0) (by omega) fun k _ hk=>by rw[if_neg (Ne.symm hk)];simp]
  have:det n (mc (fun i k=>if i=k then 1 else 0) 0)=det n (fun i k=>if i=k then 1 else 0):=jI fun i j _ _=>by
   unfold mc skip
   simp
  rw[this,HK n]
  simp[sgd]
theorem Tb.first {a:Nat->Nat} (ha:∀i,i<m->a i<w) (hM:∀k,k<m->∀i,i<m->M k (a i)=if k=i then 1 else 0):Tb m w M M 1 a:=by
 have h1:dc m M a=1:=by
  unfold dc
  rw[<-HK m]
  exact jI fun i j hi hj=>hM i hi j hj
 refine ⟨by omega,ha,fun k hk j hj=>?_,1,by omega,by rw[h1];rfl,fun i hi j hj=>?_⟩
 ·rw[mL hk fun i hi hne=>by rw[hM k hk i hi,if_neg (Ne.symm hne),Int.mul_zero],hM k hk k hk,if_pos rfl]
  omega
 ·unfold dc
  rw[nQ]
  have e:det m (bR (iV M a) i fun q=>M q j)=det m (bR (iV M a) i fun q=>sz m fun k=>M k j*iV M a q k):=by
   refine jI fun p q hp hq=>?_
   unfold bR
   split
   ·show M p j=sz m fun k=>M k j*iV M a p k
    rw[mL hp fun k hk hne=>by unfold iV;rw[hM p hp k hk,if_neg (Ne.symm hne),Int.mul_zero]]
    unfold iV
    rw[hM p hp p hp,if_pos rfl]
    omega
   ·rfl
  rw[e,vE hi (x:=fun k=>M k j) (u:=fun k q=>iV M a q k),mL hi fun k hk hne=>by
   rw[qC hi hk (Ne.symm hne) fun q _=>by simp[bR,hne],Int.mul_zero],pF]
  have:det m (iV M a)=1:=h1
  rw[this]
  omega
theorem Tb.rows (h:Tb m w M T d β) {a:Nat->Nat} (ha:∀i,i<m->a i<w) (hM:∀k,k<m->∀i,i<m->M k (a i)=if k=i then 1 else 0) {i j:Nat} (hi:i<m) (hj:j<w):T i j=sz m fun k=>T i (a k)*M k j:=by
 obtain ⟨σ,h1,h2,h3⟩:=h.cr
 rw[h3 i hi j hj]
 have e:dc m M (upd β i j)=sz m fun k=>M k j*dc m M (upd β i (a k)):=by
  unfold dc
  rw[nQ]
  have e:det m (bR (iV M β) i fun q=>M q j)=det m (bR (iV M β) i fun q=>sz m fun k=>M k j*M q (a k)):=by
   refine jI fun p q hp hq=>?_
   unfold bR
   split
   ·show M p j=sz m fun k=>M k j*M p (a k)
    rw[mL hp fun k hk hne=>by rw[hM p hp k hk,if_neg (Ne.symm hne),Int.mul_zero],hM p hp p hp,if_pos rfl]
    omega
   ·rfl
  rw[e,vE hi (x:=fun k=>M k j) (u:=fun k q=>M q (a k))]
  exact dj fun k _=>by rw[nQ]
 rw[e,<-iO]
 exact dj fun k hk=>by rw[h3 i hi _ (ha k hk)];grind
theorem Tb.bound (h:Tb m w M T d β) {i j:Nat} (hi:i<m) (hj:j<w):ab (T i j)=ab (dc m M (upd β i j)):=by
 obtain ⟨σ,h1,_,h3⟩:=h.cr
 rw[h3 i hi j hj,KA]
 have h4:ab σ*ab σ=1:=by rw[<-KA,h1];rfl
 have h5:ab σ=1:=by
  have h6:=IH σ
  by_cases h7:ab σ<=1
  ·have:ab σ≠0:=fun e=>by rw[e] at h4;simp at h4
   omega
  ·exfalso
   have:2*2<=ab σ*ab σ:=Int.mul_le_mul (by omega) (by omega) (by omega) h6
   omega
 rw[h5,Int.one_mul]
end
structure Sx where
 T:Nat->Nat->Int
 d:Int
 β:Nat->Nat
def zr (m:Nat) (wc:Nat->Int) (S:Sx) (j:Nat):Int:=wc j*S.d - sz m fun i=>wc (S.β i)*S.T i j
structure Leaves (m R:Nat) (S:Sx) (c r:Nat):Prop where
 lt:r<m
 pos:0<S.T r c
 le:∀i,i<m->0<S.T i c->S.T r R*S.T i c<=S.T i R*S.T r c
 tie:∀i,i<m->0<S.T i c->S.T r R*S.T i c=S.T i R*S.T r c->S.β r<=S.β i
structure EntersB (m N:Nat) (wc:Nat->Int) (S:Sx) (c:Nat):Prop where
 lt:c<N
 neg:zr m wc S c<0
 least:∀j,j<c->0<=zr m wc S j
structure StepAt (m w:Nat) (S S':Sx) (r c:Nat):Prop where
 T:∀i j,i<m->j<w->S'.T i j=if i=r then S.T r j else piv S.T S.d r c i j
 d:S'.d=S.T r c
 β:∀i,i<m->S'.β i=upd S.β r c i
structure Step (m w N R:Nat) (wc:Nat->Int) (S S':Sx) (r c:Nat):Prop where
 enters:EntersB m N wc S c
 leaves:Leaves m R S c r
 at':StepAt m w S S' r c
structure Val (m w N R:Nat) (M:Nat->Nat->Int) (S:Sx):Prop where
 tb:Tb m w M S.T S.d S.β
 feas:∀i,i<m->0<=S.T i R
 ne:∀i,i<m->S.β i≠R
section
variable {m w N R:Nat} {M:Nat->Nat->Int} {wc:Nat->Int}
theorem vH {β β':Nat->Nat} (h:∀i,i<m->β' i=β i):dc m M β'=dc m M β:=jI fun i j _ hj=>by unfold iV;rw[h j hj]
theorem Tb.congr {T T':Nat->Nat->Int} {d:Int} {β β':Nat->Nat} (h:Tb m w M T d β) (hT:∀i j,i<m->j<w->T' i j=T i j) (hβ:∀i,i<m->β' i=β i):Tb m w M T' d β':=by
 refine ⟨h.dpos,fun i hi=>by rw[hβ i hi];exact h.lt i hi,fun k hk j hj=>?_,?_⟩
 ·rw[h.co k hk j hj]
  exact dj fun i hi=>by rw[hT i j hi hj,hβ i hi]
 ·obtain ⟨σ,h1,h2,h3⟩:=h.cr
  refine ⟨σ,h1,by rw[vH hβ];exact h2,fun i hi j hj=>?_⟩
  rw[hT i j hi hj,h3 i hi j hj]
  congr 1
  exact (vH fun k hk=>by unfold upd;rw[hβ k hk]).symm
theorem Val.stepAt {S S':Sx} (h:Val m w N R M S) (hR:R<w) {r c:Nat} (hc:c<w) (hcR:c≠R) (hl:Leaves m R S c r) (hs:StepAt m w S S' r c):Val m w N R M S':=by
 have hr:=hl.lt
 have e1:sg (S.T r c)=1:=by unfold sg;rw[if_neg (by have:=hl.pos;omega)]
 have h1:=h.tb.step hr hc (by have:=hl.pos;omega)
 have h2:=h1.congr (T':=S'.T) (β':=S'.β) (fun i j hi hj=>by rw[hs.T i j hi hj];unfold Mw;rw[e1,Int.one_mul]) hs.β
 rw[e1,Int.one_mul,<-hs.d] at h2
 refine ⟨h2,fun i hi=>?_,fun i hi=>?_⟩
 ·rw[hs.T i R hi hR]
  split
  ·exact h.feas r hr
  ·rename_i hne
   have h3:=pv h.tb hr hi (Ne.symm hne) hc hR
   have h4:=h.tb.dpos
   have h5:=hl.pos
   have h6:0<=S.T r c*S.T i R - S.T i c*S.T r R:=by
    by_cases h7:0<S.T i c
    ·have:=hl.le i hi h7
     have e1:=Int.mul_comm (S.T r R) (S.T i c)
     have e2:=Int.mul_comm (S.T i R) (S.T r c)
     omega
    ·have h8:0<=S.T r c*S.T i R:=mK (by omega) (h.feas i hi)
     have h9:0<= -S.T i c*S.T r R:=mK (by omega) (h.feas r hr)
     rw[Int.neg_mul] at h9
     omega
   rw[<-h3] at h6
   exact Int.nonneg_of_mul_nonneg_right h6 h4
 ·rw[hs.β i hi]
  unfold upd
  split
  ·exact hcR
  ·exact h.ne i hi
theorem Fo {S:Sx} (h:Tb m w M S.T S.d S.β) {i:Nat} (hi:i<m):zr m wc S (S.β i)=0:=by
 unfold zr
 rw[mL hi fun k hk hne=>by rw[h.other hk hi hne,Int.mul_zero],h.basis hi]
 omega
theorem Hi {S:Sx} (h:Tb m w M S.T S.d S.β) {a:Nat->Nat} (ha:∀i,i<m->a i<w) (hM:∀k,k<m->∀i,i<m->M k (a i)=if k=i then 1 else 0) {j:Nat} (hj:j<w) :
  zr m wc S j=wc j*S.d - sz m fun k=>(sz m fun i=>wc (S.β i)*S.T i (a k))*M k j:=by
 unfold zr
 congr 1
 rw[dj (g:=fun i=>sz m fun k=>wc (S.β i)*S.T i (a k)*M k j) fun i hi=>by
  rw[h.rows ha hM hi hj,<-iO]
  exact dj fun k _=>by rw[Int.mul_assoc]]
 rw[B6]
 exact dj fun k _=>Ov
theorem Pu {S S':Sx} (h:Tb m w M S.T S.d S.β) {r c j:Nat} (hr:r<m) (hc:c<w) (hj:j<w) (hs:StepAt m w S S' r c):S.d*zr m wc S' j=S.T r c*zr m wc S j - zr m wc S c*S.T r j:=by
 have h1:∀i,i<m->S.d*(wc (S'.β i)*S'.T i j)=(S.T r c*(wc (S.β i)*S.T i j) - S.T r j*(wc (S.β i)*S.T i c))+(if i=r then S.d*(wc c*S.T r j) else 0):=fun i hi=>by
  rw[hs.β i hi,hs.T i j hi hj]
  unfold upd
  by_cases e:i=r
  ·subst e
   simp only[if_true]
   grind
  ·simp only[e,if_false,Int.add_zero]
   have:=pv h hr hi (Ne.symm e) hc hj
   grind
 have h2:S.d*(sz m fun i=>wc (S'.β i)*S'.T i j)=S.T r c*(sz m fun i=>wc (S.β i)*S.T i j) - S.T r j*(sz m fun i=>wc (S.β i)*S.T i c)+S.d*(wc c*S.T r j):=by
  rw[<-iO,dj h1,uB,F0,iO,iO,mL hr fun i _ hne=>if_neg hne,if_pos rfl]
 unfold zr
 rw[Int.mul_sub,h2,hs.d]
 grind
theorem Rt {S S':Sx} (h:Tb m w M S.T S.d S.β) (h':Tb m w M S'.T S'.d S'.β) {a:Nat->Nat} (ha:∀i,i<m->a i<w) (hM:∀k,k<m->∀i,i<m->M k (a i)=if k=i then 1 else 0) {s:Nat} (hs:s<w) :
  S.d*zr m wc S' s=S'.d*zr m wc S s+sz m fun i=>S.T i s*zr m wc S' (S.β i):=by
 have e1:=Hi (wc:=wc) h' ha hM hs
 have e2:∀i,i<m->S.T i s*zr m wc S' (S.β i)=S'.d*(wc (S.β i)*S.T i s) - sz m fun k=>(sz m fun i=>wc (S'.β i)*S'.T i (a k))*(S.T i s*M k (S.β i)):=fun i hi=>by
  rw[Hi (wc:=wc) h' ha hM (h.lt i hi),Int.mul_sub,<-iO]
  congr 1
  ·grind
  ·exact dj fun k _=>by grind
 rw[dj e2,F0,iO,B6]
 have e3:(sz m fun k=>sz m fun i=>(sz m fun i=>wc (S'.β i)*S'.T i (a k))*(S.T i s*M k (S.β i)))=S.d*sz m fun k=>(sz m fun i=>wc (S'.β i)*S'.T i (a k))*M k s:=by
  rw[<-iO]
  refine dj fun k hk=>?_
  rw[iO,<-h.co k hk s hs]
  grind
 rw[e3,e1]
 unfold zr
 grind
theorem ra {β:Nat->Nat->Nat} {q:Nat}:∀{k i:Nat},(∃p,p<m/\β i p=q)->(¬ ∃p,p<m/\β (i+k) p=q)->∃n,i<=n/\n<i+k/\(∃p,p<m/\β n p=q)/\¬ ∃p,p<m/\β (n+1) p=q
 | 0,i,h1,h2=>(h2 h1).elim
 | k+1,i,h1,h2=>by
  by_cases h:∃p,p<m/\β (i+k) p=q
  ·exact ⟨i+k,by omega,by omega,h,h2⟩
  ·obtain ⟨n,h3,h4,h5,h6⟩:=ra h1 h
   exact ⟨n,h3,by omega,h5,h6⟩
theorem mq {β:Nat->Nat->Nat} {q:Nat}:∀{k i:Nat},(¬ ∃p,p<m/\β i p=q)->(∃p,p<m/\β (i+k) p=q)->∃n,i<=n/\n<i+k/\(¬ ∃p,p<m/\β n p=q)/\∃p,p<m/\β (n+1) p=q
 | 0,i,h1,h2=>(h1 h2).elim
 | k+1,i,h1,h2=>by
  by_cases h:∃p,p<m/\β (i+k) p=q
  ·obtain ⟨n,h3,h4,h5,h6⟩:=mq h1 h
   exact ⟨n,h3,by omega,h5,h6⟩
  ·exact ⟨i+k,by omega,by omega,h,h2⟩
theorem RZ {k:Nat} {f:Nat->Nat}:0<k->∃n,n<k/\∀i,i<k->f i<=f n:=by
 induction k with
 | zero=>intro h;omega
 | succ k ih =>
  intro _
  by_cases hk:k=0
  ·subst hk
   exact ⟨0,by omega,fun i hi=>by rw[show i=0 by omega];exact b_ _⟩
  ·obtain ⟨n,h1,h2⟩:=ih (by omega)
   by_cases h3:f k<=f n
   ·refine ⟨n,by omega,fun i hi=>?_⟩
    by_cases h4:i=k
    ·rw[h4];exact h3
    ·exact h2 i (by omega)
   ·refine ⟨k,by omega,fun i hi=>?_⟩
    by_cases h4:i=k
    ·rw[h4];exact b_ _
    ·have:=h2 i (by omega);omega
theorem Jt {e x y:Int} (he:0<e) (h:e*x<=e*y):x<=y:=Int.le_of_mul_le_mul_left h he
structure Run (m w N R:Nat) (M:Nat->Nat->Int) (wc:Nat->Int) (k:Nat) (S:Nat->Sx) (r c:Nat->Nat):Prop where
 val:∀n,n<=k->Val m w N R M (S n)
 step:∀n,n<k->Step m w N R wc (S n) (S (n+1)) (r n) (c n)
theorem Run.of {k:Nat} {S:Nat->Sx} {r c:Nat->Nat} (hN:N<=R) (hR:R<w) (h0:Val m w N R M (S 0)) (hs:∀n,n<k->Step m w N R wc (S n) (S (n+1)) (r n) (c n)):Run m w N R M wc k S r c:=by
 refine ⟨fun n=>?_,hs⟩
 induction n with
 | zero=>intro _;exact h0
 | succ n ih =>
  intro hn
  have h1:=hs n (by omega)
  have:=h1.enters.lt
  exact (ih (by omega)).stepAt hR (by omega) (by omega) h1.leaves h1.at'
theorem Run.nocycle {k:Nat} {S:Nat->Sx} {r c:Nat->Nat} {a:Nat->Nat} (ha:∀i,i<m->a i<w) (hM:∀k,k<m->∀i,i<m->M k (a i)=if k=i then 1 else 0) (hN:N<=R) (hR:R<w)
  (h:Run m w N R M wc k S r c) (hk:0<k):¬ ∀i,i<m->(S k).β i=(S 0).β i:=by
 intro hcyc
 have cw:∀n,n<k->c n<w:=fun n hn=>by have:=(h.step n hn).enters.lt;omega
 have dp:∀n,n<=k->0<(S n).d:=fun n hn=>(h.val n hn).tb.dpos
 have vstep:∀n,n<k->zr m wc (S n) R*(S (n+1)).d<=zr m wc (S (n+1)) R*(S n).d/\((S n).T (r n) R≠0->zr m wc (S n) R*(S (n+1)).d<zr m wc (S (n+1)) R*(S n).d):=fun n hn=>by
  have hs:=h.step n hn
  have h1:=Pu (wc:=wc) (h.val n (by omega)).tb hs.leaves.lt (cw n hn) hR hs.at'
  have h2:=hs.enters.neg
  have h3:=(h.val n (by omega)).feas (r n) hs.leaves.lt
  have h4:0<= -zr m wc (S n) (c n)*(S n).T (r n) R:=mK (by omega) h3
  rw[Int.neg_mul] at h4
  rw[hs.at'.d,Int.mul_comm (zr m wc (S (n+1)) R),h1,Int.mul_comm (zr m wc (S n) R)]
  refine ⟨by omega,fun hne=>?_⟩
  have h5:0< -zr m wc (S n) (c n)*(S n).T (r n) R:=Int.mul_pos (by omega) (by omega)
  rw[Int.neg_mul] at h5
  omega
 have vle:∀i j,i+j<=k->zr m wc (S i) R*(S (i+j)).d<=zr m wc (S (i+j)) R*(S i).d:=by
  intro i j
  induction j with
  | zero=>intro _;exact Int.le_refl _
  | succ j ih =>
   intro hj
   have h1:=ih (by omega)
   have h2:=(vstep (i+j) (by omega)).1
   have d1:=dp i (by omega)
   have d2:=dp (i+j) (by omega)
   have d3:=dp (i+j+1) (by omega)
   refine Jt d2 ?_
   have h3:=z11 h1 (Int.le_of_lt d3)
   have h4:=z11 h2 (Int.le_of_lt d1)
   rw[show i+(j+1)=i+j+1 by omega]
   calc (S (i+j)).d*(zr m wc (S i) R*(S (i+j+1)).d)=zr m wc (S i) R*(S (i+j)).d*(S (i+j+1)).d:=by grind
    _<=zr m wc (S (i+j)) R*(S i).d*(S (i+j+1)).d:=h3
    _=zr m wc (S (i+j)) R*(S (i+j+1)).d*(S i).d:=by grind
    _<=zr m wc (S (i+j+1)) R*(S (i+j)).d*(S i).d:=h4
    _=(S (i+j)).d*(zr m wc (S (i+j+1)) R*(S i).d):=by grind
 have same:(S k).d=(S 0).d/\∀i j,i<m->j<w->(S k).T i j=(S 0).T i j:=by
  obtain ⟨σ,s1,s2,s3⟩:=(h.val k (b_ _)).tb.cr
  obtain ⟨τ,t1,t2,t3⟩:=(h.val 0 (by omega)).tb.cr
  rw[vH hcyc] at s2
  have p1:=dp k (b_ _)
  have p2:=dp 0 (by omega)
  have e:σ=τ:=by
   have h1:σ*(S k).d=dc m M (S 0).β:=by rw[s2,<-Int.mul_assoc,s1,Int.one_mul]
   have h2:τ*(S 0).d=dc m M (S 0).β:=by rw[t2,<-Int.mul_assoc,t1,Int.one_mul]
   have pm:∀x:Int,x*x=1->x=1\/x= -1:=fun x hx=>by
    have h4:x.natAbs*x.natAbs=1:=by
     have:=congrArg Int.natAbs hx
     rwa [Int.natAbs_mul] at this
    have h5:x.natAbs=1:=Nat.eq_one_of_mul_eq_one_left h4
    omega
   rcases pm σ s1 with rfl | rfl<;>rcases pm τ t1 with rfl | rfl<;>omega
  refine ⟨by rw[s2,e];exact t2.symm,fun i j hi hj=>?_⟩
  rw[s3 i hi j hj,t3 i hi j hj,e]
  congr 1
  exact vH fun l hl=>by unfold upd;rw[hcyc l hl]
 have vend:zr m wc (S k) R=zr m wc (S 0) R:=by
  unfold zr
  rw[same.1]
  congr 1
  exact dj fun i hi=>by rw[hcyc i hi,same.2 i R hi hR]
 have flat:∀n,n<k->(S n).T (r n) R=0:=fun n hn=>by
  by_cases e:(S n).T (r n) R=0
  ·exact e
  ·exfalso
   have h1:=(vstep n hn).2 e
   have h2:=vle 0 n (by omega)
   have h3:=vle (n+1) (k - (n+1)) (by omega)
   rw[dO] at h2
   rw[show n+1+(k - (n+1))=k by omega,vend,same.1] at h3
   have d0:=dp 0 (by omega)
   have d1:=dp n (by omega)
   have d2:=dp (n+1) (by omega)
   have h4:=Int.mul_lt_mul_of_pos_right h1 d0
   have h5:=z11 h2 (Int.le_of_lt d2)
   have h6:=z11 h3 (Int.le_of_lt d1)
   have:zr m wc (S 0) R*(S n).d*(S (n+1)).d<zr m wc (S 0) R*(S n).d*(S (n+1)).d:=by
    calc zr m wc (S 0) R*(S n).d*(S (n+1)).d<=zr m wc (S n) R*(S 0).d*(S (n+1)).d:=h5
     _=zr m wc (S n) R*(S (n+1)).d*(S 0).d:=by grind
     _<zr m wc (S (n+1)) R*(S n).d*(S 0).d:=h4
     _=zr m wc (S (n+1)) R*(S 0).d*(S n).d:=by grind
     _<=zr m wc (S 0) R*(S (n+1)).d*(S n).d:=h6
     _=zr m wc (S 0) R*(S n).d*(S (n+1)).d:=by grind
   omega
 have zeroStep:∀n q,n<k->((∀i,i<m->(S n).β i=q->(S n).T i R=0)↔(∀i,i<m->(S (n+1)).β i=q->(S (n+1)).T i R=0)):=fun n q hn=>by
  have hs:=h.step n hn
  have hf:=flat n hn
  have htb:=(h.val n (by omega)).tb
  have key:∀i,i<m->i≠r n->((S (n+1)).T i R=0↔(S n).T i R=0):=fun i hi hne=>by
   rw[hs.at'.T i R hi hR,if_neg hne]
   have h1:=pv htb hs.leaves.lt hi (Ne.symm hne) (cw n hn) hR
   rw[hf,Int.mul_zero,Int.sub_zero] at h1
   have h2:=hs.leaves.pos
   have h3:=dp n (by omega)
   constructor
   ·intro e
    rw[e,Int.mul_zero] at h1
    rcases Int.mul_eq_zero.1 h1.symm with h4 | h4
    ·omega
    ·exact h4
   ·intro e
    rw[e,Int.mul_zero] at h1
    rcases Int.mul_eq_zero.1 h1 with h4 | h4
    ·omega
    ·exact h4
  constructor
  ·intro hz i hi hb
   by_cases e:i=r n
   ·rw[e,hs.at'.T _ R hs.leaves.lt hR,if_pos rfl];exact hf
   ·rw[hs.at'.β i hi] at hb
    unfold upd at hb
    rw[if_neg e] at hb
    exact (key i hi e).2 (hz i hi hb)
  ·intro hz i hi hb
   by_cases e:i=r n
   ·rw[e];exact hf
   ·refine (key i hi e).1 (hz i hi ?_)
    rw[hs.at'.β i hi]
    unfold upd
    rw[if_neg e]
    exact hb
 have zeroAll:∀q n,n<=k->((∀i,i<m->(S 0).β i=q->(S 0).T i R=0)↔(∀i,i<m->(S n).β i=q->(S n).T i R=0)):=fun q n=>by
  induction n with
  | zero=>intro _;exact Iff.rfl
  | succ n ih=>intro hn;exact (ih (by omega)).trans (zeroStep n q (by omega))
 have comes:∀n q,n<k->(¬ ∃p,p<m/\(S n).β p=q)->(∃p,p<m/\(S (n+1)).β p=q)->q=c n:=fun n q hn h1 ⟨p,hp,hq⟩=>by
  have hs:=h.step n hn
  rw[hs.at'.β p hp] at hq
  unfold upd at hq
  split at hq
  ·exact hq.symm
  ·exact (h1 ⟨p,hp,hq⟩).elim
 have goes:∀n q,n<k->(∃p,p<m/\(S n).β p=q)->(¬ ∃p,p<m/\(S (n+1)).β p=q)->q=(S n).β (r n):=fun n q hn ⟨p,hp,hq⟩ h1=>by
  have hs:=h.step n hn
  by_cases e:p=r n
  ·rw[<-e];exact hq.symm
  ·refine (h1 ⟨p,hp,?_⟩).elim
   rw[hs.at'.β p hp]
   unfold upd
   rw[if_neg e]
   exact hq
 have D9:∀n,n<k->¬ ∃p,p<m/\(S n).β p=c n:=fun n hn ⟨p,hp,hq⟩=>by
  have hs:=h.step n hn
  have h1:=hs.enters.neg
  rw[<-hq,Fo (h.val n (by omega)).tb hp] at h1
  omega
 have isIn:∀n,n<k->∃p,p<m/\(S (n+1)).β p=c n:=fun n hn=>by
  have hs:=h.step n hn
  refine ⟨r n,hs.leaves.lt,?_⟩
  rw[hs.at'.β _ hs.leaves.lt]
  unfold upd
  rw[if_pos rfl]
 have ends:∀q,(∃p,p<m/\(S k).β p=q)↔∃p,p<m/\(S 0).β p=q:=fun q=>by
  constructor
  ·rintro ⟨p,hp,hq⟩;exact ⟨p,hp,by rw[<-hcyc p hp];exact hq⟩
  ·rintro ⟨p,hp,hq⟩;exact ⟨p,hp,by rw[hcyc p hp];exact hq⟩
 obtain ⟨ns,hns,hmax⟩:=RZ (f:=c) hk
 have leaves:∃n,n<k/\(S n).β (r n)=c ns:=by
  by_cases h0:∃p,p<m/\(S 0).β p=c ns
  ·obtain ⟨n,h1,h2,h3,h4⟩:=ra (β:=fun n=>(S n).β) (k:=ns) (i:=0) h0 (by rw[dO];exact D9 ns hns)
   exact ⟨n,by omega,(goes n _ (by omega) h3 h4).symm⟩
  ·have h1:¬ ∃p,p<m/\(S k).β p=c ns:=fun e=>h0 ((ends _).1 e)
   obtain ⟨n,h2,h3,h4,h5⟩:=ra (β:=fun n=>(S n).β) (k:=k - (ns+1)) (i:=ns+1) (isIn ns hns) (by rw[show ns+1+(k - (ns+1))=k by omega];exact h1)
   exact ⟨n,by omega,(goes n _ (by omega) h4 h5).symm⟩
 obtain ⟨n,hn,hleave⟩:=leaves
 have hs:=h.step n hn
 have hst:=h.step ns hns
 have vn:=h.val n (by omega)
 have vs:=h.val ns (by omega)
 have hcn:=hmax n hn
 have hne:c n≠c ns:=fun e=>D9 n hn ⟨r n,hs.leaves.lt,by rw[hleave];exact e.symm⟩
 have id:=Rt (wc:=wc) vn.tb vs.tb ha hM (cw n hn)
 have z1:0<=zr m wc (S ns) (c n):=hst.enters.least (c n) (by omega)
 have z2:=hs.enters.neg
 have d1:=dp n (by omega)
 have d2:=dp ns (by omega)
 have hsum:0<sz m fun i=>(S n).T i (c n)*zr m wc (S ns) ((S n).β i):=by
  have h1:0<=(S n).d*zr m wc (S ns) (c n):=mK (by omega) z1
  have h2:0<(S ns).d* -zr m wc (S n) (c n):=Int.mul_pos d2 (by omega)
  rw[Int.mul_neg] at h2
  omega
 have hex:∃i,i<m/\0<(S n).T i (c n)*zr m wc (S ns) ((S n).β i):=by
  by_cases e:∃i,i<m/\0<(S n).T i (c n)*zr m wc (S ns) ((S n).β i)
  ·exact e
  ·exfalso
   have:=Q1 (n:=m) (f:=fun i=>(S n).T i (c n)*zr m wc (S ns) ((S n).β i)) (g:=fun _=>0) fun i hi=>Int.not_lt.1 fun h'=>e ⟨i,hi,h'⟩
   rw[xT (f:=fun _=>0) fun _ _=>rfl] at this
   omega
 obtain ⟨i,hi,hpos⟩:=hex
 have hq0:zr m wc (S ns) ((S n).β i)≠0:=fun e=>by rw[e,Int.mul_zero] at hpos;omega
 have hq1:¬ ∃p,p<m/\(S ns).β p=(S n).β i:=fun ⟨p,hp,hq⟩=>hq0 (by rw[<-hq];exact Fo vs.tb hp)
 have hq2:∃p,p<m/\(S n).β p=(S n).β i:=⟨i,hi,rfl⟩
 have hq3:∃n',n'<k/\(S n).β i=c n':=by
  by_cases hlt:ns<n
  ·obtain ⟨n',h1,h2,h3,h4⟩:=mq (β:=fun n=>(S n).β) (k:=n - ns) (i:=ns) hq1 (by rw[show ns+(n - ns)=n by omega];exact hq2)
   exact ⟨n',by omega,comes n' _ (by omega) h3 h4⟩
  ·by_cases h0:∃p,p<m/\(S 0).β p=(S n).β i
   ·obtain ⟨n',h1,h2,h3,h4⟩:=mq (β:=fun n=>(S n).β) (k:=k - ns) (i:=ns) hq1 (by rw[show ns+(k - ns)=k by omega];exact (ends _).2 h0)
    exact ⟨n',by omega,comes n' _ (by omega) h3 h4⟩
   ·obtain ⟨n',h1,h2,h3,h4⟩:=mq (β:=fun n=>(S n).β) (k:=n) (i:=0) h0 (by rw[dO];exact hq2)
    exact ⟨n',by omega,comes n' _ (by omega) h3 h4⟩
 obtain ⟨n',hn',hq4⟩:=hq3
 have hq5:(S n).β i<=c ns:=by rw[hq4];exact hmax n' hn'
 by_cases hqt:(S n).β i=c ns
 ·have:i=r n:=vn.tb.inj hi hs.leaves.lt (by rw[hqt,hleave])
  rw[this,hleave] at hpos
  have h1:=hs.leaves.pos
  have h2:=hst.enters.neg
  have h3:0<(S n).T (r n) (c n)* -zr m wc (S ns) (c ns):=Int.mul_pos h1 (by omega)
  rw[Int.mul_neg] at h3
  omega
 ·have z3:0<=zr m wc (S ns) ((S n).β i):=hst.enters.least _ (by omega)
  have hTi:0<(S n).T i (c n):=by
   by_cases e:0<(S n).T i (c n)
   ·exact e
   ·exfalso
    have:0<= -(S n).T i (c n)*zr m wc (S ns) ((S n).β i):=mK (by omega) z3
    rw[Int.neg_mul] at this
    omega
  have hiR:(S n).T i R=0:=((zeroAll _ n (by omega)).1 ((zeroAll _ ns (by omega)).2 fun p hp hq=>(hq1 ⟨p,hp,hq⟩).elim)) i hi rfl
  have:=hs.leaves.tie i hi hTi (by rw[flat n hn,hiR,Int.zero_mul,Int.zero_mul])
  rw[hleave] at this
  omega
end
end Dn
end Go.Proofs.YtlfdhaiigdllcaaGreat

namespace Go.Proofs.YtlfdhaiigdllcaaGreat
noncomputable section
namespace Dn
theorem LZ:∀(K:Nat) (f:Nat->Nat),(∀i,i<=K->f i<K)->∃i j,i<j/\j<=K/\f i=f j
 | 0,f,h=>by have:=h 0 (by omega);omega
 | K+1,f,h=>by
  by_cases e:∃i,i<=K/\f i=f (K+1)
  ·obtain ⟨i,h1,h2⟩:=e
   exact ⟨i,K+1,by omega,by omega,h2⟩
  ·
   obtain ⟨i,j,h1,h2,h3⟩:=LZ K (fun i=>if f i<f (K+1) then f i else f i - 1) fun i hi=>by
    have h4:=h i (by omega)
    have h5:=h (K+1) (by omega)
    have h6:f i≠f (K+1):=fun e'=>e ⟨i,hi,e'⟩
    show (if f i<f (K+1) then f i else f i - 1)<K
    split<;>omega
   refine ⟨i,j,h1,by omega,?_⟩
   have h6:f i≠f (K+1):=fun e'=>e ⟨i,by omega,e'⟩
   have h7:f j≠f (K+1):=fun e'=>e ⟨j,by omega,e'⟩
   have h3:(if f i<f (K+1) then f i else f i - 1)=(if f j<f (K+1) then f j else f j - 1):=h3
   split at h3<;>split at h3<;>omega
def code (w:Nat) (β:Nat->Nat):Nat->Nat
 | 0=>0
 | m+1=>code w β m*w+β m
theorem Hs {w:Nat} {β:Nat->Nat}:∀{m:Nat},(∀i,i<m->β i<w)->code w β m<w ^ m
 | 0,_=>by simp[code]
 | m+1,h=>by
  simp only[code]
  have h1:=Hs (m:=m) fun i hi=>h i (by omega)
  have h2:=h m (by omega)
  have h3:(code w β m+1)*w<=w ^ m*w:=mV _ h1
  rw[Nat.pow_succ]
  rw[iN,Nat.one_mul] at h3
  omega
theorem Eb {w:Nat} {β γ:Nat->Nat}:∀{m:Nat},(∀i,i<m->β i<w)->(∀i,i<m->γ i<w)->code w β m=code w γ m->∀i,i<m->β i=γ i
 | 0,_,_,_,i,hi=>by omega
 | m+1,hβ,hγ,h,i,hi=>by
  simp only[code] at h
  have h1:=hβ m (by omega)
  have h2:=hγ m (by omega)
  have e1:(code w β m*w+β m) % w=β m:=by rw[iS,Nat.mul_add_mod,mv h1]
  have e2:(code w γ m*w+γ m) % w=γ m:=by rw[iS,Nat.mul_add_mod,mv h2]
  have e3:β m=γ m:=by rw[<-e1,<-e2,h]
  have e4:code w β m=code w γ m:=by
   have:code w β m*w=code w γ m*w:=by omega
   exact Nat.eq_of_mul_eq_mul_right (by omega) this
  by_cases e:i=m
  ·rw[e];exact e3
  ·exact Eb (fun i hi=>hβ i (by omega)) (fun i hi=>hγ i (by omega)) e4 i (by omega)
open Classical in
def Du (p:Nat->Prop):Nat->Nat
 | 0=>0
 | k+1=>if p k then k else Du p k
section
variable {m w N R:Nat} {M:Nat->Nat->Int} {wc:Nat->Int}
theorem Run.short {k:Nat} {S:Nat->Sx} {r c:Nat->Nat} {a:Nat->Nat} (ha:∀i,i<m->a i<w) (hM:∀k,k<m->∀i,i<m->M k (a i)=if k=i then 1 else 0) (hN:N<=R) (hR:R<w)
  (h:Run m w N R M wc k S r c):k<w ^ m:=by
 by_cases hk:k<w ^ m
 ·exact hk
 ·exfalso
  obtain ⟨i,j,h1,h2,h3⟩:=LZ (w ^ m) (fun n=>code w (S n).β m) fun n hn=>Hs (h.val n (by omega)).tb.lt
  have h4:=Eb (h.val i (by omega)).tb.lt (h.val j (by omega)).tb.lt h3
  have h5:Run m w N R M wc (j - i) (fun n=>S (i+n)) (fun n=>r (i+n)) (fun n=>c (i+n)):=⟨fun n hn=>h.val (i+n) (by omega),fun n hn=>h.step (i+n) (by omega)⟩
  refine h5.nocycle ha hM hN hR (by omega) fun p hp=>?_
  show (S (i+(j - i))).β p=(S (i+0)).β p
  rw[show i+(j - i)=j by omega,lD]
  exact (h4 p hp).symm
def left (m w N R:Nat) (M:Nat->Nat->Int) (wc:Nat->Int) (s:Sx):Nat:=Du (fun k=>∃S r c,S 0=s/\Run m w N R M wc k S r c) (w ^ m)
end
end Dn
end
end Go.Proofs.YtlfdhaiigdllcaaGreat

namespace Go.Proofs.YtlfdhaiigdllcaaGreat
namespace Dn
def sq:Nat->(Nat->Rat)->Rat
 | 0,_=>0
 | n+1,f=>sq n f+f n
theorem ll:∀{n:Nat} {f g:Nat->Rat},(∀i,i<n->f i=g i)->sq n f=sq n g
 | 0,_,_,_=>rfl
 | n+1,f,g,h=>by
  simp only[sq]
  rw[ll (n:=n) fun i hi=>h i (by omega),h n (by omega)]
theorem FE:∀{n:Nat} {f g:Nat->Rat},sq n (fun i=>f i+g i)=sq n f+sq n g
 | 0,_,_=>by simp only[sq];grind
 | n+1,f,g=>by
  simp only[sq]
  rw[FE]
  grind
theorem FP:∀{n:Nat} {c:Rat} {f:Nat->Rat},sq n (fun i=>c*f i)=c*sq n f
 | 0,c,_=>by simp[sq]
 | n+1,c,f=>by
  simp only[sq]
  rw[FP]
  grind
theorem xY:∀{n:Nat} {f:Nat->Rat},(∀i,i<n->f i=0)->sq n f=0
 | 0,_,_=>rfl
 | n+1,f,h=>by
  simp only[sq]
  rw[xY fun i hi=>h i (by omega),h n (by omega)]
  grind
theorem Hc:∀{n:Nat} {f g:Nat->Rat},(∀i,i<n->f i<=g i)->sq n f<=sq n g
 | 0,_,_,_=>Rat.le_refl
 | n+1,f,g,h=>by
  simp only[sq]
  have:=Hc (n:=n) fun i hi=>h i (by omega)
  have:=h n (by omega)
  grind
theorem Hz:∀{m n:Nat} {f:Nat->Nat->Rat},sq m (fun i=>sq n (fun j=>f i j))=sq n (fun j=>sq m (fun i=>f i j))
 | 0,n,f=>by
  simp only[sq]
  exact (xY fun _ _=>rfl).symm
 | m+1,n,f=>by
  simp only[sq]
  rw[Hz,FE]
structure Lin where
 n:Nat
 m:Nat
 A:Nat->Nat->Int
 b:Nat->Int
 c:Nat->Int
 kd:Nat->Int
def Lin.row (L:Lin) (x:Nat->Rat) (k:Nat):Rat:=sq L.n fun j=>(L.A k j:Rat)*x j
def Lin.col (L:Lin) (y:Nat->Rat) (j:Nat):Rat:=sq L.m fun k=>(L.A k j:Rat)*y k
def Lin.val (L:Lin) (x:Nat->Rat):Rat:=sq L.n fun j=>(L.c j:Rat)*x j
def Lin.rhs (L:Lin) (y:Nat->Rat):Rat:=sq L.m fun k=>(L.b k:Rat)*y k
structure Lin.Feas (L:Lin) (x:Nat->Rat):Prop where
 pos:∀j,j<L.n->0<=x j
 most:∀k,k<L.m->L.kd k≠2->L.row x k<=L.b k
 least:∀k,k<L.m->L.kd k≠1->(L.b k:Rat)<=L.row x k
structure Lin.Sgn (L:Lin) (y:Nat->Rat):Prop where
 most:∀k,k<L.m->L.kd k=1->y k<=0
 least:∀k,k<L.m->L.kd k=2->0<=y k
structure Lin.Dual (L:Lin) (y:Nat->Rat):Prop extends L.Sgn y where
 col:∀j,j<L.n->L.col y j<=L.c j
structure Lin.Ref (L:Lin) (y:Nat->Rat):Prop extends L.Sgn y where
 col:∀j,j<L.n->L.col y j<=0
 rhs:0<L.rhs y
structure Lin.Ray (L:Lin) (r:Nat->Rat):Prop where
 pos:∀j,j<L.n->0<=r j
 most:∀k,k<L.m->L.kd k≠2->L.row r k<=0
 least:∀k,k<L.m->L.kd k≠1->0<=L.row r k
 val:L.val r<0
section
variable {L:Lin}
theorem Lin.swap (x y:Nat->Rat):sq L.n (fun j=>L.col y j*x j)=sq L.m (fun k=>y k*L.row x k):=by
 have e1:sq L.n (fun j=>L.col y j*x j)=sq L.n (fun j=>sq L.m fun k=>(L.A k j:Rat)*y k*x j):=ll fun j _=>by
  unfold Lin.col
  rw[<-FP (c:=x j) |>fun h=>(by rw[h];grind:(sq L.m fun k=>x j*((L.A k j:Rat)*y k))=sq L.m (fun k=>(L.A k j:Rat)*y k)*x j)]
  exact ll fun k _=>by grind
 rw[e1,Hz]
 refine ll fun k _=>?_
 unfold Lin.row
 rw[<-FP]
 exact ll fun j _=>by grind
theorem VM {y r b:Rat} (h:(y<=0/\r<=b)\/(0<=y/\b<=r)\/r=b):b*y<=y*r:=by
 rcases h with ⟨h1,h2⟩ | ⟨h1,h2⟩ | h
 ·have:0<=(-y)*(b - r):=Rat.mul_nonneg (by grind) (by grind)
  grind
 ·have:0<=y*(r - b):=Rat.mul_nonneg h1 (by grind)
  grind
 ·subst h;grind
theorem Lin.Sgn.rows {x y:Nat->Rat} (h:L.Sgn y) {b:Nat->Rat} (h1:∀k,k<L.m->L.kd k≠2->L.row x k<=b k) (h2:∀k,k<L.m->L.kd k≠1->b k<=L.row x k):sq L.m (fun k=>b k*y k)<=sq L.m (fun k=>y k*L.row x k):=Hc fun k hk=>by
 apply VM
 by_cases e1:L.kd k=1
 ·exact .inl ⟨h.most k hk e1,h1 k hk (by omega)⟩
 ·by_cases e2:L.kd k=2
  ·exact .inr (.inl ⟨h.least k hk e2,h2 k hk e1⟩)
  ·have a1:=h1 k hk e2
   have a2:=h2 k hk e1
   exact .inr (.inr (Rat.le_antisymm a1 a2))
theorem Lin.Ref.none {x y:Nat->Rat} (hy:L.Ref y) (hx:L.Feas x):False:=by
 have h1:=hy.rows (x:=x) (b:=fun k=>(L.b k:Rat)) hx.most hx.least
 rw[<-L.swap x y] at h1
 have h2:sq L.n (fun j=>L.col y j*x j)<=sq L.n (fun _=>0):=Hc fun j hj=>by
  have:0<=(-L.col y j)*x j:=Rat.mul_nonneg (by have:=hy.col j hj;grind) (hx.pos j hj)
  grind
 rw[xY (f:=fun _=>0) fun _ _=>rfl] at h2
 have h3:=hy.rhs
 unfold Lin.rhs at h3
 grind
theorem Lin.Ray.none {r y:Nat->Rat} (hr:L.Ray r) (hy:L.Dual y):False:=by
 have h1:=hy.rows (x:=r) (b:=fun _=>0) hr.most hr.least
 rw[<-L.swap r y,xY (f:=fun k=>0*y k) fun k _=>by grind] at h1
 have h2:sq L.n (fun j=>L.col y j*r j)<=L.val r:=Hc fun j hj=>Rat.mul_le_mul_of_nonneg_right (hy.col j hj) (hr.pos j hj)
 have h3:=hr.val
 grind
end
structure Lay where
 N:Nat
 sl:Nat->Nat
 σ:Nat->Int
def Lay.M (Y:Lay) (L:Lin) (k j:Nat):Int :=
 if j<L.n then Y.σ k*L.A k j else if j<Y.N then (if L.kd k≠3/\j=Y.sl k then Y.σ k*(if L.kd k=1 then 1 else -1) else 0) else if j<Y.N+L.m then (if j=Y.N+k then 1 else 0) else Y.σ k*L.b k
structure Lay.ok (Y:Lay) (L:Lin):Prop where
 n:L.n<=Y.N
 kd:∀k,k<L.m->L.kd k=1\/L.kd k=2\/L.kd k=3
 sl:∀k,k<L.m->L.kd k≠3->L.n<=Y.sl k/\Y.sl k<Y.N
 inj:∀k l,k<L.m->l<L.m->L.kd k≠3->L.kd l≠3->Y.sl k=Y.sl l->k=l
 sg:∀k,k<L.m->Y.σ k=1\/Y.σ k= -1
 b:∀k,k<L.m->0<=Y.σ k*L.b k
abbrev Lay.R (Y:Lay) (L:Lin):Nat:=Y.N+L.m
abbrev Lay.w (Y:Lay) (L:Lin):Nat:=Y.N+L.m+1
section
variable {L:Lin} {Y:Lay}
theorem Lay.M_a (h:Y.ok L) {k i:Nat} (hi:i<L.m):Y.M L k (Y.N+i)=if k=i then 1 else 0:=by
 have:=h.n
 unfold Lay.M
 rw[if_neg (by omega),if_neg (by omega),if_pos (by omega)]
 by_cases e:k=i
 ·rw[if_pos e,if_pos (by omega)]
 ·rw[if_neg e,if_neg (by omega)]
theorem Lay.M_R (h:Y.ok L) {k:Nat}:Y.M L k (Y.R L)=Y.σ k*L.b k:=by
 have:=h.n
 unfold Lay.M Lay.R
 rw[if_neg (by omega),if_neg (by omega),if_neg (by omega)]
theorem Lay.ss (h:Y.ok L) {k:Nat} (hk:k<L.m):Y.σ k*Y.σ k=1:=by
 rcases h.sg k hk with e | e<;>rw[e]<;>rfl
abbrev Lay.Val (Y:Lay) (L:Lin) (S:Sx):Prop:=Dn.Val L.m (Y.w L) Y.N (Y.R L) (Y.M L) S
theorem Lay.art (h:Y.ok L):(∀i,i<L.m->Y.N+i<Y.w L)/\∀k,k<L.m->∀i,i<L.m->Y.M L k (Y.N+i)=if k=i then 1 else 0 :=
 ⟨fun i hi=>by unfold Lay.w;omega,fun k _ i hi=>Lay.M_a h hi⟩
theorem Lay.first (h:Y.ok L):Y.Val L ⟨Y.M L,1,fun i=>Y.N+i⟩:=by
 refine ⟨Tb.first (Lay.art h).1 (Lay.art h).2,fun i hi=>?_,fun i hi=>?_⟩
 ·show 0<=Y.M L i (Y.R L)
  rw[Lay.M_R h]
  exact h.b i hi
 ·show Y.N+i≠Y.N+L.m
  omega
def aap (L:Lin) (j:Nat):Int:=if j<L.n then L.c j else 0
end
def Lin.F (L:Lin) (k:Nat):Int:=1+ab (L.b k)+sz L.n fun j=>ab (L.A k j)
def Lin.P (L:Lin):Int:=pz L.m L.F
section
variable {L:Lin} {Y:Lay}
end
section
variable {L:Lin} {Y:Lay}
end
section
variable {α R:Type} {F:(α->Option R)->α->Option R}
theorem Bw (n:Nat) (st:Nat->α) (r:Option R) (hb:∀again i,i<n->F again (st i)=again (st (i+1))) (hf:∀again,F again (st n)=r):∀(k i m:Nat),i+k=n->k<m->ko F m (st i)=r
 | 0,i,m,h1,h2=>by
  obtain ⟨m,rfl⟩:∃m',m=m'+1:=⟨m - 1,by omega⟩
  rw[jB,show i=n by omega,hf]
 | k+1,i,m,h1,h2=>by
  obtain ⟨m,rfl⟩:∃m',m=m'+1:=⟨m - 1,by omega⟩
  rw[jB,hb _ _ (by omega)]
  exact Bw n st r hb hf k (i+1) m (by omega) (by omega)
theorem P7 (n:Nat) (hn:n<=1180591620717411303423) (st:Nat->α) (r:Option R) (hb:∀again i,i<n->F again (st i)=again (st (i+1))) (hf:∀again,F again (st n)=r):lpK α R F (st 0)=r :=
 Bw n st r hb hf n 0 K0 (by omega) (by unfold K0;omega)
theorem gQ {x:α} (n:Nat) (hn:n<=1180591620717411303423) (st:Nat->α) (r:Option R) (hx:x=st 0) (hb:∀again i,i<n->F again (st i)=again (st (i+1))) (hf:∀again,F again (st n)=r):lpK α R F x=r:=by
 rw[hx]
 exact P7 n hn st r hb hf
theorem A9 {γ:Type} (I:γ->α->Prop) (Q:Option R->Prop) (μ:γ->Nat) (h:∀rec s x,I s x->Q (F rec x)\/∃s' y,I s' y/\μ s'<μ s/\F rec x=rec y):∀(m:Nat) (s:γ) (x:α),I s x->μ s<m->Q (ko F m x)
 | 0,_,_,_,hm=>by omega
 | m+1,s,x,hx,hm=>by
  rw[jB]
  rcases h (ko F m) s x hx with h1 | ⟨s',y,h1,h2,h3⟩
  ·exact h1
  ·rw[h3]
   exact A9 I Q μ h m s' y h1 (by omega)
theorem iZ {γ:Type} (I:γ->α->Prop) (Q:Option R->Prop) (μ:γ->Nat) (h:∀rec s x,I s x->Q (F rec x)\/∃s' y,I s' y/\μ s'<μ s/\F rec x=rec y) {s:γ} {x:α} (hx:I s x) (hn:μ s<1180591620717411303424):Q (lpK α R F x) :=
 A9 I Q μ h K0 s x hx hn
theorem DI {x:α} (Q:Option R->Prop) (n:Nat) (hn:n<=1180591620717411303423) (st:Nat->α) (hx:x=st 0) (hb:∀again i,i<n->F again (st i)=again (st (i+1))) (hf:∀again,Q (F again (st n))):Q (lpK α R F x) :=
 iZ (γ:=Nat) (fun i x=>i<=n/\x=st i) Q (fun i=>n - i) (fun rec i x ⟨h1,h2⟩=>by
  by_cases e:i=n
  ·subst h2;subst e;exact .inl (hf rec)
  ·exact .inr ⟨i+1,st (i+1),⟨by omega,rfl⟩,by omega,by rw[h2];exact hb rec i (by omega)⟩) (s:=0) ⟨by omega,hx⟩ (by omega)
theorem tI {x:α} (Q:Option R->Prop) (n:Nat) (hn:n<=1180591620717411303423) (I:Nat->α->Prop) (hx:I 0 x) (hb:∀again i x,i<n->I i x->∃y,I (i+1) y/\F again x=again y) (hf:∀again x,I n x->Q (F again x)):Q (lpK α R F x) :=
 iZ (γ:=Nat) (fun i x=>i<=n/\I i x) Q (fun i=>n - i) (fun rec i x ⟨h1,h2⟩=>by
  by_cases e:i=n
  ·subst e;exact .inl (hf rec x h2)
  ·obtain ⟨y,h3,h4⟩:=hb rec i x (by omega) h2
   exact .inr ⟨i+1,y,⟨by omega,h3⟩,by omega,h4⟩) (s:=0) ⟨by omega,hx⟩ (by omega)
end
def jg {α:Type} (w:Nat) (f:Nat->α):List α:=(List.range w).map f
section
variable {α:Type} {m w:Nat} {T T':Nat->Nat->Int}
theorem fi {f:Nat->α}:(jg w f).length=w:=by unfold jg;rw[List.length_map,List.length_range]
theorem jk {f:Nat->α} {d:α} {j:Nat} (h:j<w):(jg w f).getD j d=f j:=by
 unfold jg
 rw[ca (by rw[List.length_map,List.length_range];exact h),List.getElem_map,List.getElem_range]
theorem Cd {f:Nat->α} {j:Nat} (h:j<(jg w f).length):(jg w f)[j]=f j :=
 (List.getElem_map f (l:=List.range w) (h:=h)).trans (congrArg f (List.getElem_range _))
theorem jx {f g:Nat->α} (h:∀j,j<w->f j=g j):jg w f=jg w g:=by
 unfold jg
 exact List.map_congr_left fun j hj=>h j (List.mem_range.1 hj)
theorem zC {f:Nat->α} {j:Nat} {x:α} (_:j<w):(jg w f).set j x=jg w fun k=>if k=j then x else f k:=by
 refine List.ext_getElem (by rw[k_,fi,fi]) fun i h1 h2=>?_
 have h3:i<w:=by rw[fi] at h2;exact h2
 rw[List.getElem_set,Cd,Cd]
 by_cases e:j=i
 ·rw[if_pos e,if_pos e.symm]
 ·rw[if_neg e,if_neg (Ne.symm e)]
end
def pw (i:Nat):Nat:=4294967296 ^ i
def dgt (n i:Nat):Nat:=n / pw i % 4294967296
theorem gj (i:Nat):0<pw i:=Nat.pow_pos (by decide)
theorem kZ:pw 0=1:=rfl
theorem Gf:pw 1=4294967296:=Nat.pow_one _
theorem kY (i:Nat):pw (i+1)=pw i*4294967296:=Nat.pow_succ ..
theorem uJ (i j:Nat):pw (i+j)=pw i*pw j:=Nat.pow_add ..
theorem ki {i j:Nat} (h:i<=j):pw i<=pw j:=Nat.pow_le_pow_right (by decide) h
theorem qN (i:Nat):pw i=2 ^ (32*i):=by
 unfold pw
 rw[show (4294967296:Nat)=2 ^ 32 from rfl,<-Nat.pow_mul]
theorem gD (n i:Nat):dgt n i<4294967296:=Nat.mod_lt _ (by decide)
theorem li {n i:Nat} (h:n<pw i):dgt n i=0:=by
 unfold dgt
 rw[Nat.div_eq_of_lt h]
theorem GH (i:Nat):dgt 0 i=0:=li (gj i)
def aM (n:Nat):Nat:=if n=0 then 0 else n.log2 / 32+1
theorem Bp:aM 0=0:=rfl
theorem dD (n:Nat):n<pw (aM n):=by
 unfold aM
 split
 ·rename_i h;rw[h];exact gj 0
 ·rename_i h
  rw[qN]
  exact bx Nat.lt_log2_self (Nat.pow_le_pow_right (by decide) (by omega))
theorem ve {n:Nat} (h:n≠0):0<aM n/\pw (aM n - 1)<=n:=by
 unfold aM
 rw[if_neg h]
 refine ⟨Nat.succ_pos _,?_⟩
 rw[qN]
 exact m_ (Nat.pow_le_pow_right (by decide) (by omega)) (Nat.log2_self_le h)
theorem iI {n L:Nat} (h:n<pw L):aM n<=L:=by
 by_cases h0:n=0
 ·rw[h0,Bp];exact Nat.zero_le _
 ·obtain ⟨h1,h2⟩:=ve h0
  by_cases c:aM n<=L
  ·exact c
  ·have:=ki (show L<=aM n - 1 by omega)
   omega
theorem qS {n:Nat}:aM n=0↔n=0:=by
 refine ⟨fun h=>?_,fun h=>by rw[h,Bp]⟩
 by_cases h0:n=0
 ·exact h0
 ·have:=(ve h0).1
  omega
theorem fT {a b:Nat} (h:a<=b):aM a<=aM b:=iI (Nat.lt_of_le_of_lt h (dD b))
def wd (n:Nat):List Int:=jg (aM n) fun i=>(dgt n i:Int)
theorem ia (n:Nat):(wd n).length=aM n:=fi
theorem lM (n i:Nat):(wd n).getD i 0=(dgt n i:Int):=by
 by_cases h:i<aM n
 ·exact jk h
 ·rw[li (bx (dD n) (ki (by omega))),List.getD_eq_getElem?_getD,List.getElem?_eq_none (by rw[ia];omega)]
  rfl
theorem Hg:wd 0=[]:=rfl
theorem JP {α:Type} {n k:Nat} {f:Nat->α} (h:k<=n):(jg n f).take k=jg k f:=by
 unfold jg
 rw[<-List.map_take,List.take_range,Nat.min_eq_left h]
theorem ka (a i:Nat):a % pw (i+1)=a % pw i+pw i*dgt a i:=by
 rw[kY,Nat.mod_mul]
 rfl
theorem Fe (a i:Nat):a / pw i=4294967296*(a / pw (i+1))+dgt a i:=by
 have h1:a / pw (i+1)=a / pw i / 4294967296:=by rw[kY,Nat.div_div_eq_div_mul]
 unfold dgt
 rw[h1]
 omega
def cry (a b i:Nat):Nat:=(a % pw i+b % pw i) / pw i
theorem Ka (a b:Nat):cry a b 0=0:=by
 unfold cry
 rw[kZ,Nat.mod_one,Nat.mod_one]
theorem Tz (a b i:Nat):cry a b i<=1:=by
 unfold cry
 have h1:=Nat.mod_lt a (gj i)
 have h2:=Nat.mod_lt b (gj i)
 have:=(Nat.div_lt_iff_lt_mul (gj i) (x:=a % pw i+b % pw i) (y:=2)).2 (by omega)
 omega
theorem M5 (a b i:Nat):cry a b (i+1)=(cry a b i+dgt a i+dgt b i) / 4294967296:=by
 have e:a % pw (i+1)+b % pw (i+1)=pw i*(dgt a i+dgt b i)+(a % pw i+b % pw i):=by
  rw[ka,ka,Nat.mul_add]
  omega
 unfold cry
 rw[e,kY,<-Nat.div_div_eq_div_mul,Nat.mul_add_div (gj i)]
 congr 1
 omega
theorem G2 (a b i:Nat):dgt (a+b) i=(cry a b i+dgt a i+dgt b i) % 4294967296:=by
 have e:a+b=pw i*(a / pw i+b / pw i)+(a % pw i+b % pw i):=by
  have h1:=Nat.div_add_mod a (pw i)
  have h2:=Nat.div_add_mod b (pw i)
  rw[Nat.mul_add]
  omega
 have h:(a+b) / pw i=a / pw i+b / pw i+cry a b i:=by
  rw[e,Nat.mul_add_div (gj i)]
  rfl
 unfold dgt
 rw[h]
 omega
def bor (a b i:Nat):Nat:=if a % pw i<b % pw i then 1 else 0
theorem Ko (a b:Nat):bor a b 0=0:=by
 unfold bor
 rw[kZ,Nat.mod_one,Nat.mod_one]
 rfl
theorem SN (a b i:Nat):bor a b i<=1:=by unfold bor;split<;>omega
theorem A3 {p x y:Nat} {u v:Nat} (h:x<y) (hu:u<p):p*x+u<p*y+v:=by
 have h1:p*(x+1)<=p*y:=Nat.mul_le_mul_left p h
 rw[Nat.mul_add,Nat.mul_one] at h1
 omega
theorem J9 (a b i:Nat):bor a b (i+1)=if dgt a i<dgt b i+bor a b i then 1 else 0:=by
 have h1:=Nat.mod_lt a (gj i)
 have h2:=Nat.mod_lt b (gj i)
 unfold bor
 rw[ka,ka]
 by_cases c:dgt a i<dgt b i
 ·have:=A3 (p:=pw i) (v:=b % pw i) c h1
  rw[if_pos (by omega),if_pos (by omega)]
 ·by_cases c2:dgt b i<dgt a i
  ·have:=A3 (p:=pw i) (v:=a % pw i) c2 h2
   rw[if_neg (by omega),if_neg (by split<;>omega)]
  ·have e:dgt a i=dgt b i:=by omega
   rw[e]
   by_cases c3:a % pw i<b % pw i
   ·rw[if_pos (by omega),if_pos c3,if_pos (by omega)]
   ·rw[if_neg (by omega),if_neg c3,if_neg (by omega)]
theorem PZ {a b:Nat} (h:b<=a) (i:Nat):(dgt (a - b) i:Int)=(((dgt a i:Int) - bor a b i) - dgt b i) % 4294967296:=by
 obtain ⟨c,rfl⟩:∃c,a=b+c:=⟨a - b,by omega⟩
 rw[Nat.add_sub_cancel_left,G2 b c i]
 have hc:bor (b+c) b i=cry b c i:=by
  have e:=Nat.add_mod b c (pw i)
  have h1:=Nat.mod_lt b (gj i)
  have h2:=Nat.mod_lt c (gj i)
  unfold bor cry
  rw[e]
  by_cases k:b % pw i+c % pw i<pw i
  ·rw[mv k,Nat.div_eq_of_lt k,if_neg (by omega)]
  ·have e2:(b % pw i+c % pw i) % pw i=b % pw i+c % pw i - pw i:=by
    rw[Nat.mod_eq_sub_mod (by omega),mv (by omega)]
   have e3:(b % pw i+c % pw i) / pw i=1:=by
    rw[Nat.div_eq_sub_div (gj i) (by omega),Nat.div_eq_of_lt (by omega)]
   rw[e2,e3,if_pos (by omega)]
 rw[hc]
 have:=gD b i
 have:=gD c i
 omega
theorem Ni (a i:Nat):dgt (a / 2) i=dgt a i / 2+2147483648*(dgt a (i+1) % 2):=by
 have h1:a / 2 / pw i=a / pw i / 2:=by rw[Nat.div_div_eq_div_mul,Nat.div_div_eq_div_mul,iS]
 have h2:dgt a (i+1)=a / pw i / 4294967296 % 4294967296:=by unfold dgt;rw[kY,Nat.div_div_eq_div_mul]
 rw[h2]
 unfold dgt
 rw[h1]
 omega
theorem QK {a b i j:Nat} (h:j<i):dgt (a+pw i*b) j=dgt a j:=by
 obtain ⟨k,rfl⟩:∃k,i=j+1+k:=⟨i - j - 1,by omega⟩
 have e:pw (j+1+k)*b=pw j*(4294967296*(pw k*b)):=by
  rw[uJ,kY,Nat.mul_assoc,Nat.mul_assoc]
 unfold dgt
 rw[e,Nat.add_mul_div_left _ _ (gj j)]
 omega
theorem yt (a b:Nat):aM (a+b)<=max (aM a) (aM b)+1:=by
 refine iI ?_
 have h1:=bx (dD a) (ki (Nat.le_max_left (aM a) (aM b)))
 have h2:=bx (dD b) (ki (Nat.le_max_right (aM a) (aM b)))
 rw[kY]
 omega
theorem Fb (a b:Nat):aM (a*b)<=aM a+aM b:=by
 refine iI ?_
 rw[uJ]
 exact Nat.mul_lt_mul'' (dD a) (dD b)
end Dn
end Go.Proofs.YtlfdhaiigdllcaaGreat

namespace Go.Proofs.YtlfdhaiigdllcaaGreat
noncomputable section
namespace Dn
noncomputable section
open Go.RowKit
inductive PK where
 | d (s:Sh)
 | b (ps:List Pat)
 | v (ag:Bool) (ps:List Pat)
def rhI:Nat->List PK->List (Plc×List Pat)
 | _,[]=>[]
 | j,.d s ::r=>(.slot j s.isAgg,[.d s]) ::rhI (j+1) r
 | j,.b ps ::r=>(.blk j,ps) ::rhI (j+1) r
 | j,.v ag ps ::r=>(.slot j ag,ps) ::rhI (j+1) r
def rhB:Nat->List PK->List (Plc×List Pat)
 | _,[]=>[]
 | j,.d _ ::r=>rhB (j+1) r
 | j,.b ps ::r=>(.blk j,ps) ::rhB (j+1) r
 | j,.v _ _ ::r=>rhB (j+1) r
def rhS:Nat->List (Bool×List Pat)->List (Plc×List Pat)
 | _,[]=>[]
 | j,p ::r=>(.slot j p.1,p.2) ::rhS (j+1) r
def wj:Nat->List PK->List (Nat×Option SlotV)
 | _,[]=>[]
 | j,.d _ ::r=>wj (j+1) r
 | j,.b _ ::r=>(j,some ⟨none,.c false [.ptr j 0]⟩) ::wj (j+1) r
 | j,.v _ _ ::r=>wj (j+1) r
def jT:Nat->List PK->List Nat
 | _,[]=>[]
 | j,.d _ ::r=>j ::jT (j+1) r
 | j,.b _ ::r=>jT (j+1) r
 | j,.v _ _ ::r=>j ::jT (j+1) r
structure SCtr where
 ks:List PK
 rs:List (Bool×List Pat)
 m:TsR (rhI 0 ks)->Option (TsR (rhB 0 ks++rhS 0 rs))
abbrev SCtr.out (c:SCtr):List (Plc×List Pat):=rhB 0 c.ks++rhS 0 c.rs
def SCtr.init (c:SCtr) (x:TsR (rhI 0 c.ks)):St :=
 {s:=gt (rhI 0 c.ks) x 0++pY (jT 0 c.ks) (wj 0 c.ks),h:=dl (rhI 0 c.ks) x 0,r:=cP (rhI 0 c.ks) x 0,next:=c.ks.length+lz (rhI 0 c.ks) }
def SCtr.fin (c:SCtr) (y:TsR c.out):St:={ s:=[],h:=dl c.out y 0,r:=cP c.out y 0,next:=0 }
def ww:(rh:List (Plc×List Pat))->TsR rh->Nat->List SV
 | [],_,_=>[]
 | (.slot _ ag,ps) ::r,x,k=>.c ag (nS ps x k) ::ww r (ma ps x) (k+fj ps)
 | (.blk _,ps) ::r,x,k=>ww r (ma ps x) (k+fj ps)
 | (.row _,ps) ::r,x,k=>ww r (ma ps x) k
def Env.bare (E:Env):Env:={ E with L:=fun _=>False,R:=fun _=>False }
def SCtr.ok (P:Program) (f:FuncId) (c:SCtr):Prop:=∀x y,c.m x=some y->∀(E:Env) (vs:List Value),E.P=P->E.rg=false->vs.length=c.ks.length->Mod vs.length E { tmps:=vs.toArray,defers:=[] } (c.init x).look ->
 Calls P f vs.toArray E.w fun e w'=>∃(us:List Value) (E':Env),e=.returned (if h:us.length=1 then us[0] else .tuple us.toArray)/\E'.w=w'/\fk E E'/\Keep E.bare E'/\(∀j,E.L j->E'.β j=E.β j)/\MemOk E' (c.fin y).look/\fb E' (ww c.out y 0) us
def J4 (used:List Nat):At->At
 | .v x=>.v x
 | .sl e l=>.sl e l
 | .sn e l=>.sn e l
 | .row r=>match ji r used with
  | true=>.row r
  | false=>.u
 | _=>.u
def vB (used:List Nat):List At->List At
 | []=>[]
 | x ::r=>J4 used x ::vB used r
def MC (used:List Nat):SV->SV
 | .c ag l=>.c ag (vB used l)
 | .tup l=>.tup (l.map fun c=>(c.1,vB used c.2))
def HO:SV->Option Nat
 | .c false [.ptr b 0]=>some b
 | _=>none
theorem M4 {v:SV} {b:Nat} (h:HO v=some b):v=.c false [.ptr b 0]:=by
 unfold HO at h
 split at h
 ·injection h with h;rw[h]
 ·cases h
def V4 (h:Nat->Option (List At)) (v:SV):List Nat:=match HO v with
 | some b=>match h b with
  | some cs=>dN cs
  | none=>[]
 | none=>[]
def vX (h:Nat->Option (List At)):List PK->List SV->List Nat
 | .b _ ::r,v ::l=>V4 h v++vX h r l
 | .v _ _ ::r,v ::l=>xn v++vX h r l
 | .d _ ::r,_ ::l=>vX h r l
 | _,_=>[]
structure ArgIn where
 s:List (Nat×Option SlotV)
 h:List (Nat×List At)
 b:List (Nat×Nat)
def dn (used:List Nat) (σ:St):Nat->List PK->List SV->Option ArgIn
 | _,[],[]=>some ⟨[],[],[]⟩
 | j,.d _ ::r,v ::l=>match dn used σ (j+1) r l,ub used (xn v) with
  | some a,true=>some ⟨(j,some ⟨none,MC used (xr (noX (look σ.r)) v)⟩) ::a.s,a.h,a.b⟩
  | _,_=>none
 | j,.v _ _ ::r,v ::l=>match dn used σ (j+1) r l with
  | some a=>some ⟨(j,some ⟨none,MC used v⟩) ::a.s,a.h,a.b⟩
  | none=>none
 | j,.b _ ::r,v ::l=>match HO v,dn used σ (j+1) r l with
  | some b,some a=>match look σ.h b with
   | some cs=>some ⟨(j,some ⟨none,.c false [.ptr j 0]⟩) ::a.s,(j,vB used cs) ::a.h,(j,b) ::a.b⟩
   | none=>none
  | _,_=>none
 | _,_,_=>none
def kp (m:List (Nat×Nat)):List (Nat×List At)->List (Nat×List At)
 | []=>[]
 | p ::r=>match look m p.1 with
  | some b=>(b,p.2) ::kp m r
  | none=>kp m r
def zT:Sh->Bool
 | .ref=>true
 | .sl _=>false
 | .pair a b=>zT a&&zT b
 | .agg e=>zT e
 | _=>true
def XP.flat:XP->Bool
 | .set _ k=>k.flat
 | .map _ k e=>k.flat&&e.flat
 | .tab _ s _ e=>zT s&&e.flat
def kR:List Pat->Bool
 | []=>true
 | .d s ::r=>s.flat&&kR r
 | .row _ e ::r=>e.flat&&kR r
 | .x p ::r=>p.flat&&kR r
def ku:List (Plc×List Pat)->Bool
 | []=>true
 | (.row _,_) ::_=>false
 | (.slot _ _,ps) ::r=>kR ps&&ku r
 | (.blk _,ps) ::r=>kR ps&&ku r
def gL:List (Nat×Nat)->List Nat
 | []=>[]
 | p ::r=>p.2 ::gL r
def rQ (used:List Nat):List (Nat×RowS)->List (Nat×RowS)
 | []=>[]
 | p ::r=>match ji p.1 used with
  | true=>p ::rQ used r
  | false=>rQ used r
def uL:List At->List At
 | []=>[]
 | _ ::r=>.u ::uL r
def uH:List (Nat×List At)->List (Nat×List At)
 | []=>[]
 | p ::r=>(p.1,uL p.2) ::uH r
def uh (ks:List PK) (h:List (Nat×List At)):St:={ s:=wj 0 ks,h:=uH h,r:=[],next:=0 }
def H5 {R:Type} (c:SCtr) (args:List SV) (σ:St) (K:List SV->St->Option R):Option R :=
 match dn (vX (look σ.h) c.ks args) σ 0 c.ks args with
 | some a=>match kB (rhI 0 c.ks) [] { s:=a.s,h:=a.h,r:=rQ (vX (look σ.h) c.ks args) σ.r,next:=0 } with
  | some x=>match ub σ.ro (gL a.b)&&ub σ.roR (vX (look σ.h) c.ks args)&&sI (gL a.b)&&sI (vX (look σ.h) c.ks args)&&zi σ.r σ.next (lz c.out)&&ku c.out&&gN (rhI 0 c.ks) (jT 0 c.ks) [] (uh c.ks a.h) with
   | true=>ah (c.m x) fun y=>K (ww c.out y σ.next)
     {σ with h:=kp a.b (dl c.out y σ.next)++σ.h,r:=cP c.out y σ.next++(mg (vX (look σ.h) c.ks args)++σ.r),next:=σ.next+lz c.out }
   | false=>none
  | none=>none
 | none=>none
section
variable {E:Env} {σ:St}
def oe (E:Env) (g:Look) (bs used:List Nat) (b:Nat):Prop:=E.Z b\/(∃j l,g.h j=some l/\j ∉ bs/\E.β j=b)\/(∃q r,g.r q=some (.some r)/\q ∉ used/\(E.ρ q).ownBlock=some b)\/(∃q x,g.r q=some (.x x)/\q ∉ used/\E.φ q b)
theorem qw {used:List Nat} {i:Nat}:∀{l:List (Nat×RowS)},look (rQ used l) i=if i ∈ used then look l i else none
 | []=>by simp[rQ,look]
 | p ::r=>by
  simp only[rQ]
  split
  ·rename_i hm
   rw[ai,ai,qw]
   by_cases e:i=p.1
   ·rw[if_pos e,if_pos e,e,if_pos (ci.1 hm)]
   ·rw[if_neg e,if_neg e]
  ·rename_i hm
   rw[ai,qw]
   by_cases hi:i ∈ used
   ·rw[if_pos hi,if_pos hi,if_neg]
    intro e
    rw[e,<-ci,hm] at hi
    cases hi
   ·rw[if_neg hi,if_neg hi]
theorem uT {E:Env}:∀{l m:List At} {cs:List Value},bL E (l++m) cs->∃c1 c2,cs=c1++c2/\bL E l c1/\bL E m c2
 | [],_,cs,h=>⟨[],cs,rfl,trivial,h⟩
 | _ ::l,m,c ::cs,h=>by
  obtain ⟨c1,c2,h1,h2,h3⟩:=uT (l:=l) h.2
  exact ⟨c ::c1,c2,by rw[h1];rfl,⟨h.1,h2⟩,h3⟩
 | _ ::_,_,[],h=>h.elim
theorem Od {E E1:Env} {used:List Nat} (hw:E1.w=E.w) (hZ:∀b,E.Z b->E1.Z b) (hρ:E1.ρ=E.ρ) (hR:∀r,r ∈ used->E.R r->E1.R r):∀{x:At} {v:Value},iJ E x v->iJ E1 (J4 used x) v
 | .u,_,_=>trivial
 | .v _,_,h=>h
 | .ptr _ _,_,_=>trivial
 | .clo _ _,_,_=>trivial
 | .sl e l,v,h=>by
  show Dat E1.w E1.Z (.sl e) l [v]
  rw[hw]
  exact Dat.mono hZ (fun _ _=>rfl) h
 | .row r,v,⟨h1,h2,h3⟩=>by
  simp only[J4]
  split
  ·rename_i hm
   exact ⟨by rw[hρ];exact h1,hR r (ci.1 hm) h2,h3⟩
  ·trivial
 | .rf _ _ _,_,_=>trivial
 | .re _ _ _ _,_,_=>trivial
 | .sub _ _ _ _,_,_=>trivial
 | .ae _ _ _ _ _ _,_,_=>trivial
 | .sn e l,v,h=>by
  refine ⟨h.1,?_⟩
  show Dat E1.w E1.Z (.sl e) l [v]
  rw[hw]
  exact Dat.mono hZ (fun _ _=>rfl) h.2
 | .ir _ _,_,_=>trivial
 | .ie _ _ _ _ _,_,_=>trivial
 | .fn _ _ _,_,_=>trivial
theorem tC {E E1:Env} {used:List Nat} (hw:E1.w=E.w) (hZ:∀b,E.Z b->E1.Z b) (hρ:E1.ρ=E.ρ) (hR:∀r,r ∈ used->E.R r->E1.R r):∀{l:List At} {vs:List Value},bL E l vs->bL E1 (vB used l) vs
 | [],[],_=>trivial
 | _ ::_,_ ::_,h=>⟨Od hw hZ hρ hR h.1,tC hw hZ hρ hR h.2⟩
 | [],_ ::_,h=>h.elim
 | _ ::_,[],h=>h.elim
theorem BI {E E1:Env} {used:List Nat} (hw:E1.w=E.w) (hZ:∀b,E.Z b->E1.Z b) (hρ:E1.ρ=E.ρ) (hR:∀r,r ∈ used->E.R r->E1.R r):∀{l:List (Bool×List At)} {vs:List Value},iM E l vs->iM E1 (l.map fun c=>(c.1,vB used c.2)) vs
 | [],[],_=>trivial
 | _ ::_,_ ::_,⟨⟨cs,h1,h2,h3⟩,h⟩=>⟨⟨cs,h1,tC hw hZ hρ hR h2,h3⟩,BI hw hZ hρ hR h⟩
 | [],_ ::_,h=>h.elim
 | _ ::_,[],h=>h.elim
theorem A4 {E E1:Env} {used:List Nat} (hw:E1.w=E.w) (hZ:∀b,E.Z b->E1.Z b) (hρ:E1.ρ=E.ρ) (hR:∀r,r ∈ used->E.R r->E1.R r):∀{s:SV} {v:Value},bH E s v->bH E1 (MC used s) v
 | .c _ _,_,⟨cs,h1,h2,h3⟩=>⟨cs,h1,tC hw hZ hρ hR h2,h3⟩
 | .tup _,_,⟨vs,h1,h2⟩=>⟨vs,h1,BI hw hZ hρ hR h2⟩
theorem XOk.zone {E E1:Env} {q:Nat} {x:XI} (hw:E1.w=E.w) (h0:E1.w0=E.w0) (hZ:∀b,E.Z b->E1.Z b) (hR:E1.R q) (hρ:E1.ρ q=E.ρ q) (hφ:E1.φ q=E.φ q) (hι:E1.ι q=E.ι q) (hν:E1.ν q=E.ν q) (h:XOk E q x):XOk E1 q x:=by
 have hd:∀(s:Sh) (z:s.T) (cs:List Value),Dat E.w E.Z s z cs->Dat E1.w E1.Z s z cs:=fun s z cs hd=>by rw[hw];exact Dat.mono hZ (fun _ _=>rfl) hd
 cases x with
 | set t k l =>
  obtain ⟨_,b,es,ck,h1,h2,h3,h4⟩:=h
  exact ⟨hR,b,es,ck,by rw[hρ];exact h1,by rw[hφ];exact h2,by rw[hw];exact h3,by rw[hw];exact dR.mono hZ (fun _ _=>rfl) h4⟩
 | map t k e l =>
  obtain ⟨_,b,es,ck,h1,h2,h3,h4⟩:=h
  exact ⟨hR,b,es,ck,by rw[hρ];exact h1,by rw[hφ];exact h2,by rw[hw];exact h3,by rw[hw];exact dH.mono hZ (fun _ _=>rfl) h4⟩
 | tab t s l ti e a =>
  obtain ⟨_,⟨xs,h1,h2⟩,h3,h4,h5,h6⟩:=h
  refine ⟨hR,⟨xs,by rw[hw,h0,hρ];exact h1,mH (E:=E) (fun i _=>by rw[hι]) (by rw[hν];exact b_ _) hd h2⟩,by rw[hρ,hφ];exact h3,by rw[hν];exact h4,fun j l' hj=>?_,by rw[hι];exact h6⟩
  obtain ⟨⟨ys,g1,g2⟩,g3⟩:=h5 j l' hj
  unfold mU
  rw[hw,h0,hρ,hφ,hι]
  exact ⟨⟨ys,g1,aE.mono hZ (fun _ _=>rfl) g2⟩,g3⟩
theorem tV {m:List (Nat×Nat)} {j b:Nat} (h:look m j=some b):b ∈ gL m:=by
 induction m with
 | nil=>simp[look] at h
 | cons p r ih =>
  rw[ai] at h
  simp only[gL,List.mem_cons]
  split at h
  ·injection h with h;exact .inl h.symm
  ·exact .inr (ih h)
theorem Io {m:List (Nat×Nat)} (hn:(gL m).Nodup) {i j b:Nat} (hi:look m i=some b) (hj:look m j=some b):i=j:=by
 induction m with
 | nil=>simp[look] at hi
 | cons p r ih =>
  simp only[gL] at hn
  obtain ⟨h1,h2⟩:=List.nodup_cons.1 hn
  rw[ai] at hi hj
  split at hi
  ·rename_i e
   injection hi with hi
   split at hj
   ·rename_i e';rw[e,e']
   ·exact absurd (by rw[hi];exact tV hj) h1
  ·split at hj
   ·injection hj with hj
    exact absurd (by rw[hj];exact tV hi) h1
   ·exact ih h2 hi hj
structure ArgOk (σ:St) (used:List Nat) (j:Nat) (ks:List PK) (a:ArgIn):Prop where
 h:∀i l,look a.h i=some l->j<=i/\∃b cs,look a.b i=some b/\look σ.h b=some cs/\l=vB used cs
 b:∀i b,look a.b i=some b->j<=i/\(look σ.h b).isSome=true/\(look a.h i).isSome=true
 keys:∀i,(look a.h i).isSome=true↔i ∈ bB (rhB j ks)
 ptr:∀i,i ∉ jT j ks->look a.s i=look (wj j ks) i
theorem kU {used:List Nat}:∀{ks:List PK} {args:List SV} {j:Nat} {a:ArgIn},dn used σ j ks args=some a->ArgOk σ used j ks a/\args.length=ks.length
 | [],[],j,a,h=>by
  simp only[dn,aT] at h
  subst h
  exact ⟨⟨fun i l h=>by simp[look] at h,fun i b h=>by simp[look] at h,fun i=>by simp[look,rhB,bB],fun i _=>rfl⟩,rfl⟩
 | .d s ::r,v ::l,j,a,h=>by
  simp only[dn] at h
  split at h
  ·rename_i a' ha _
   injection h with h
   subst h
   obtain ⟨⟨h1,h2,h3,h4⟩,h5⟩:=kU ha
   refine ⟨⟨fun i l hi=>?_,fun i b hi=>?_,h3,fun i hi=>?_⟩,by simp[h5]⟩
   ·obtain ⟨g1,g2⟩:=h1 i l hi;exact ⟨by omega,g2⟩
   ·obtain ⟨g1,g2⟩:=h2 i b hi;exact ⟨by omega,g2⟩
   ·simp only[jT,List.mem_cons,not_or] at hi
    rw[ai,if_neg hi.1]
    exact h4 i hi.2
  ·cases h
 | .v ag ps ::r,v ::l,j,a,h=>by
  simp only[dn] at h
  split at h
  ·rename_i a' ha
   injection h with h
   subst h
   obtain ⟨⟨h1,h2,h3,h4⟩,h5⟩:=kU ha
   refine ⟨⟨fun i l hi=>?_,fun i b hi=>?_,h3,fun i hi=>?_⟩,by simp[h5]⟩
   ·obtain ⟨g1,g2⟩:=h1 i l hi;exact ⟨by omega,g2⟩
   ·obtain ⟨g1,g2⟩:=h2 i b hi;exact ⟨by omega,g2⟩
   ·simp only[jT,List.mem_cons,not_or] at hi
    rw[ai,if_neg hi.1]
    exact h4 i hi.2
  ·cases h
 | .b ps ::r,v ::l,j,a,h=>by
  simp only[dn] at h
  split at h
  ·rename_i b a' hb ha
   split at h
   ·rename_i cs hcs
    injection h with h
    subst h
    obtain ⟨⟨h1,h2,h3,h4⟩,h5⟩:=kU ha
    refine ⟨⟨fun i l hi=>?_,fun i b' hi=>?_,fun i=>?_,fun i hi=>?_⟩,by simp[h5]⟩
    ·rw[ai] at hi
     split at hi
     ·rename_i e
      injection hi with hi
      exact ⟨by omega,b,cs,by rw[ai,if_pos e],hcs,hi.symm⟩
     ·rename_i e
      obtain ⟨g1,b',cs',g2,g3⟩:=h1 i l hi
      exact ⟨by omega,b',cs',by rw[ai,if_neg e];exact g2,g3⟩
    ·rw[ai] at hi ⊢
     split at hi
     ·rename_i e
      injection hi with hi
      subst hi
      exact ⟨by omega,by rw[hcs];rfl,by rw[if_pos e];rfl⟩
     ·rename_i e
      obtain ⟨g1,g2,g3⟩:=h2 i b' hi
      exact ⟨by omega,g2,by rw[if_neg e];exact g3⟩
    ·simp only[rhB,bB,List.mem_cons]
     rw[ai]
     by_cases e:i=j
     ·simp[e]
     ·rw[if_neg e,h3 i];simp[e]
    ·simp only[jT] at hi
     simp only[wj]
     rw[ai,ai]
     by_cases e:i=j
     ·simp[e]
     ·rw[if_neg e,if_neg e];exact h4 i hi
   ·cases h
  ·cases h
 | [],_ ::_,_,_,h=>by simp[dn] at h
 | .d _ ::_,[],_,_,h=>by simp[dn] at h
 | .b _ ::_,[],_,_,h=>by simp[dn] at h
 | .v _ _ ::_,[],_,_,h=>by simp[dn] at h
def Env.argE (E:Env) (g:Look) (used:List Nat) (a:ArgIn):Env :=
 {E with Z:=oe E g (gL a.b) used,β:=fun j=>E.β ((look a.b j).getD 0),L:=fun j=>(look a.h j).isSome=true,R:=fun r=>r ∈ used/\E.R r,rg:=false }
theorem mz (hm:MemOk E σ.look) {used:List Nat} {a0:ArgIn} (hsub:∀i b,look a0.b i=some b->True):∀{ks:List PK} {args:List SV} {j:Nat} {a:ArgIn} {vs:List Value},dn used σ j ks args=some a->fb E args vs->(∀i b,look a.b i=some b->look a0.b i=some b/\(look a0.h i).isSome=true) ->
  ∀i t,look a.s i=some (some t)->∃v,j<=i/\vs[i - j]?=some v/\iE (E.argE σ.look used a0) t v
 | [],[],j,a,vs,h,_,_,i,t,hi=>by
  simp only[dn,aT] at h
  subst h
  simp[look] at hi
 | .d s ::r,v ::l,j,a,u ::vs,h,hr,hs,i,t,hi=>by
  simp only[dn] at h
  split at h
  ·rename_i a' ha hoff
   injection h with h
   subst h
   rw[ai] at hi
   split at hi
   ·rename_i e
    simp only[aT] at hi
    subst hi;subst e
    refine ⟨u,b_ _,by simp,?_⟩
    have hm0:Mod 0 E { tmps:=#[],defers:=[] } { σ.look with s:=fun _=>none }:=⟨hm.glob.of rfl rfl,trivial,rfl,fun i s hi=>(by cases hi),hm.blks,hm.rows,hm.xs⟩
    have h1:=tB hm0 (rk:=noX (look σ.r)) (fun _ _ h=>Co h) (u:=xn v) (fun r _=>Dj r) hr.1 (fun _ h=>h)
    refine A4 (E:=E.zone { σ.look with s:=fun _=>none } (xn v)) (E1:=E.argE σ.look used a0) rfl (fun b hb=>?_) rfl (fun r hr1 hr2=>⟨hr1,hr2⟩) h1
    rcases hb with hb | ⟨q,hq,⟨ri,h2,h3⟩ | ⟨x,h2,h3⟩⟩
    ·exact .inl hb
    ·exact .inr (.inr (.inl ⟨q,ri,h2,gp hoff q hq,h3⟩))
    ·exact .inr (.inr (.inr ⟨q,x,h2,gp hoff q hq,h3⟩))
   ·obtain ⟨w,g1,g2,g3⟩:=mz hm hsub ha hr.2 hs i t hi
    exact ⟨w,by omega,by rw[show i - j=(i - (j+1))+1 by omega];simpa using g2,g3⟩
  ·cases h
 | .v ag ps ::r,v ::l,j,a,u ::vs,h,hr,hs,i,t,hi=>by
  simp only[dn] at h
  split at h
  ·rename_i a' ha
   injection h with h
   subst h
   rw[ai] at hi
   split at hi
   ·rename_i e
    simp only[aT] at hi
    subst hi;subst e
    exact ⟨u,b_ _,by simp,A4 (E:=E) (E1:=E.argE σ.look used a0) rfl (fun b hb=>.inl hb) rfl (fun r hr1 hr2=>⟨hr1,hr2⟩) hr.1⟩
   ·obtain ⟨w,g1,g2,g3⟩:=mz hm hsub ha hr.2 hs i t hi
    exact ⟨w,by omega,by rw[show i - j=(i - (j+1))+1 by omega];simpa using g2,g3⟩
  ·cases h
 | .b ps ::r,v ::l,j,a,u ::vs,h,hr,hs,i,t,hi=>by
  simp only[dn] at h
  split at h
  ·rename_i b a' hb ha
   split at h
   ·rename_i cs hcs
    injection h with h
    subst h
    rw[ai] at hi
    split at hi
    ·rename_i e
     simp only[aT] at hi
     subst hi;subst e
     refine ⟨u,b_ _,by simp,?_⟩
     have hv:=M4 hb
     subst hv
     obtain ⟨cs',h1,h2,h3⟩:=hr.1
     obtain ⟨k1,k2⟩:=hs i b (by rw[ai,if_pos rfl])
     match cs',h2 with
     | [y],h2 =>
      obtain ⟨⟨h4,h5⟩,_⟩:=h2
      refine (show gM (E.argE σ.look used a0) false [.ptr i 0] u from ⟨[y],h1,⟨⟨?_,k2⟩,trivial⟩,h3⟩)
      rw[h4]
      simp[gv,Env.argE,k1]
    ·rename_i e
     obtain ⟨w,g1,g2,g3⟩:=mz hm hsub ha hr.2 (fun k b' hk=>hs k b' (by
      rw[ai,if_neg]
      ·exact hk
      ·intro e'
       have:=((kU ha).1.b k b' hk).1
       omega)) i t hi
     exact ⟨w,by omega,by rw[show i - j=(i - (j+1))+1 by omega];simpa using g2,g3⟩
   ·cases h
  ·cases h
 | [],_ ::_,_,_,_,h,_,_,_,_,_=>by simp[dn] at h
 | .d _ ::_,[],_,_,_,h,_,_,_,_,_=>by simp[dn] at h
 | .b _ ::_,[],_,_,_,h,_,_,_,_,_=>by simp[dn] at h
 | .v _ _ ::_,[],_,_,_,h,_,_,_,_,_=>by simp[dn] at h
 | _ ::_,_ ::_,_,_,[],_,hr,_,_,_,_=>hr.elim
theorem Nn (hm:MemOk E σ.look) {used:List Nat} {ks:List PK} {args:List SV} {a:ArgIn} {vs:List Value} (ha:dn used σ 0 ks args=some a) (hr:fb E args vs) (hnb:(gL a.b).Nodup) :
  Mod vs.length (E.argE σ.look used a) { tmps:=vs.toArray,defers:=[] } (St.look { s:=a.s,h:=a.h,r:=rQ used σ.r,next:=0 }):=by
 obtain ⟨hA,_⟩:=kU ha
 let E1:=E.argE σ.look used a
 have G:=hm.glob
 have hh:∀i l,look a.h i=some l->∃b cs,look a.b i=some b/\look σ.h b=some cs/\l=vB used cs/\E1.β i=E.β b:=fun i l hi=>by
  obtain ⟨_,b,cs,h1,h2,h3⟩:=hA.h i l hi
  exact ⟨b,cs,h1,h2,h3,by simp[E1,Env.argE,h1]⟩
 have hrr:∀i x,look (rQ used σ.r) i=some x->look σ.r i=some x/\i ∈ used:=fun i x hi=>by
  rw[qw] at hi
  split at hi
  ·rename_i h;exact ⟨hi,h⟩
  ·cases hi
 have blt:∀i l,look σ.h i=some l->E.w0.heap.size<=E.β i/\E.β i<E.w.heap.size:=fun i l hi=>by
  refine ⟨(G.own i l hi).1,?_⟩
  obtain ⟨_,cs,t,h1,_⟩:=hm.blks i l hi
  exact (Array.getElem?_eq_some_iff.1 h1).1
 have rlt:∀i r b,look σ.r i=some (.some r)->(E.ρ i).ownBlock=some b->E.w0.heap.size<=b/\b<E.w.heap.size:=fun i r b hi hb=>by
  obtain ⟨_,xs,h1,_⟩:=hm.rows i r hi
  exact h1.lt b hb
 have xlt:∀i x b,look σ.r i=some (.x x)->E.φ i b->E.w0.heap.size<=b/\b<E.w.heap.size:=fun i x b hi hb=>⟨(G.xg.own i x b hi hb).1,(G.xg.own i x b hi hb).2.1⟩
 have zsz:∀b,oe E σ.look (gL a.b) used b->b<E.w.heap.size/\(E.Z0 b\/E.w0.heap.size<=b):=fun b hb=>by
  rcases hb with hb | ⟨j,l,h1,_,rfl⟩ | ⟨q,r,h1,_,h2⟩ | ⟨q,x,h1,_,h2⟩
  ·exact ⟨G.zlt b hb,G.zfrom b hb⟩
  ·exact ⟨(blt j l h1).2,.inr (blt j l h1).1⟩
  ·exact ⟨(rlt q r b h1 h2).2,.inr (rlt q r b h1 h2).1⟩
  ·exact ⟨(xlt q x b h1 h2).2,.inr (xlt q x b h1 h2).1⟩
 have nb:∀i b cs,look a.b i=some b->look σ.h b=some cs->¬ oe E σ.look (gL a.b) used (E.β b):=fun i b cs h1 h2 hz=>by
  rcases hz with hz | ⟨j,l,k1,k2,k3⟩ | ⟨q,r,k1,_,k2⟩ | ⟨q,x,k1,_,k2⟩
  ·exact (G.own b cs h2).2 hz
  ·have:=G.inj j b l cs k1 h2 k3
   subst this
   exact k2 (tV h1)
  ·exact (G.rown q r _ k1 k2).2 b cs h2 rfl
  ·exact (G.xg.own q x _ k1 k2).2.2.2.1 b cs h2 rfl
 have nr:∀i r b,look σ.r i=some (.some r)->i ∈ used->(E.ρ i).ownBlock=some b->¬ oe E σ.look (gL a.b) used b:=fun i r b h1 h2 h3 hz=>by
  rcases hz with hz | ⟨j,l,k1,k2,k3⟩ | ⟨q,r',k1,k3,k2⟩ | ⟨q,x,k1,_,k2⟩
  ·exact (G.rown i r b h1 h3).1 hz
  ·exact (G.rown i r b h1 h3).2 j l k1 k3
  ·exact k3 (by rw[G.rinj q i r' r b k1 h1 k2 h3];exact h2)
  ·exact (G.xg.own q x b k1 k2).2.2.2.2 i r h1 h3
 have nx:∀i y b,look σ.r i=some (.x y)->i ∈ used->E.φ i b->¬ oe E σ.look (gL a.b) used b:=fun i y b h1 h2 h3 hz=>by
  obtain ⟨_,_,g3,g4,g5⟩:=G.xg.own i y b h1 h3
  rcases hz with hz | ⟨j,l,k1,k2,k3⟩ | ⟨q,r',k1,k3,k2⟩ | ⟨q,x,k1,k3,k2⟩
  ·exact g3 hz
  ·exact g4 j l k1 k3
  ·exact g5 q r' k1 k2
  ·exact k3 (by rw[G.xg.inj q i x y b k1 h1 k2 h3];exact h2)
 have hZ1:∀b,E.Z b->E1.Z b:=fun b hb=>.inl hb
 have hxg:XGlob E1 (St.look { s:=a.s,h:=a.h,r:=rQ used σ.r,next:=0 }):=by
  refine ⟨fun i x b hi hb=>?_,fun i j x y b hi hj hb hb'=>G.xg.inj i j x y b (hrr i _ hi).1 (hrr j _ hj).1 hb hb'⟩
  obtain ⟨h1,h2⟩:=hrr i _ hi
  obtain ⟨g1,g2,g3,g4,g5⟩:=G.xg.own i x b h1 hb
  refine ⟨g1,g2,nx i x b h1 h2 hb,fun j l hj=>?_,fun j r hj=>g5 j r (hrr j _ hj).1⟩
  obtain ⟨b',cs,_,k2,_,k4⟩:=hh j l hj
  rw[k4]
  exact g4 b' cs k2
 refine ⟨⟨G.below,fun b hb=>(zsz b hb).1,fun b hb=>.inl (G.z0 b hb),fun b hb=>(zsz b hb).2,fun j hj=>hj,fun r hr=>?_,fun i l hi=>?_,fun i j l l' hi hj hij=>?_,fun i r b hi hb=>?_,fun i j r r' b hi hj hb hb'=>G.rinj i j r r' b (hrr i _ hi).1 (hrr j _ hj).1 hb hb',hxg⟩,trivial,by simp,fun i t hi=>?_,fun i l hi=>?_,fun i r hi=>?_,fun i x hi=>?_⟩
 ·show (look (rQ used σ.r) r).isSome=true
  rw[qw,if_pos hr.1]
  exact G.rlive r hr.2
 ·obtain ⟨b,cs,h1,h2,_,h4⟩:=hh i l hi
  show E.w0.heap.size<=E1.β i/\¬ oe E σ.look (gL a.b) used (E1.β i)
  rw[h4]
  exact ⟨(blt b cs h2).1,nb i b cs h1 h2⟩
 ·obtain ⟨b,cs,h1,h2,_,h4⟩:=hh i l hi
  obtain ⟨b',cs',k1,k2,_,k4⟩:=hh j l' hj
  have hij:E1.β i=E1.β j:=hij
  rw[h4,k4] at hij
  have:=G.inj b b' cs cs' h2 k2 hij
  subst this
  exact Io hnb h1 k1
 ·obtain ⟨h1,h2⟩:=hrr i _ hi
  refine ⟨nr i r b h1 h2 hb,fun j l hj=>?_⟩
  obtain ⟨b',cs,_,k2,_,k4⟩:=hh j l hj
  show E1.β j≠b
  rw[k4]
  exact (G.rown i r b h1 hb).2 b' cs k2
 ·have hi:ga a.s i=some t:=hi
  unfold ga at hi
  split at hi
  ·rename_i t' hl
   injection hi with hi
   subst hi
   obtain ⟨v,_,h2,h3⟩:=mz hm (a0:=a) (fun _ _ _=>trivial) ha hr (fun k b hk=>⟨hk,(hA.b k b hk).2.2⟩) i t' hl
   exact ⟨v,by simpa using h2,h3⟩
  ·cases hi
 ·obtain ⟨b,cs,h1,h2,h3,h4⟩:=hh i l hi
  obtain ⟨_,ds,t,g1,g2,g3⟩:=hm.blks b cs h2
  subst h3
  have hi':look a.h i=some (vB used cs):=hi
  exact ⟨by show (look a.h i).isSome=true;rw[hi'];rfl,ds,t,by show E.w.heap[E1.β i]?=_;rw[h4];exact g1,tC (E:=E) (E1:=E1) rfl hZ1 rfl (fun r hr1 hr2=>⟨hr1,hr2⟩) g2,g3⟩
 ·obtain ⟨h1,h2⟩:=hrr i _ hi
  obtain ⟨g1,xs,g2,g3,g4⟩:=hm.rows i r h1
  exact ⟨⟨h2,g1⟩,xs,g2,aE.mono hZ1 (fun _ _=>rfl) g3,g4⟩
 ·obtain ⟨h1,h2⟩:=hrr i _ hi
  exact XOk.zone (E:=E) (E1:=E1) rfl rfl hZ1 ⟨h2,(hm.xs i x h1).live⟩ rfl rfl rfl rfl (hm.xs i x h1)
theorem qM {i:Nat}:∀{l:List (Nat×List At)},look (uH l) i=(look l i).map uL
 | []=>rfl
 | p ::r=>by
  simp only[uH]
  rw[ai,ai,qM]
  split<;>rfl
theorem FZ {E:Env}:∀{l:List At} {cs:List Value},l.length=cs.length->bL E (uL l) cs
 | [],[],_=>trivial
 | _ ::_,_ ::_,h=>⟨trivial,FZ (by simpa using h)⟩
 | [],_ ::_,h=>by simp at h
 | _ ::_,[],h=>by simp at h
theorem oy {α:Type} {W:List Nat} {i:Nat}:∀{l:List (Nat×α)},i ∈ bw W l->i ∉ W
 | [],h=>by simp[bw] at h
 | p ::r,h=>by
  simp only[bw] at h
  split at h
  ·exact oy h
  ·rename_i hm
   rcases List.mem_cons.1 h with e | h
   ·subst e
    intro hw
    rw[ci.2 hw] at hm
    cases hm
   ·exact oy h
theorem tJ:∀{ks:List PK} {j:Nat},bB (rhI j ks)=bB (rhB j ks)
 | [],_=>rfl
 | .d _ ::r,j=>by simp only[rhI,rhB,bB];exact tJ
 | .b _ ::r,j=>by simp only[rhI,rhB,bB];rw[tJ]
 | .v _ _ ::r,j=>by simp only[rhI,rhB,bB];exact tJ
theorem rV:∀{l m:List (Plc×List Pat)},bB (l++m)=bB l++bB m
 | [],_=>rfl
 | (.slot _ _,_) ::r,m=>by simp only[List.cons_append,bB];exact rV
 | (.blk _,_) ::r,m=>by simp only[List.cons_append,bB];rw[rV]
 | (.row _,_) ::r,m=>by simp only[List.cons_append,bB];exact rV
theorem FT:∀{rs:List (Bool×List Pat)} {j:Nat},bB (rhS j rs)=[]
 | [],_=>rfl
 | _ ::r,j=>by simp only[rhS,bB];exact FT
theorem qY {E E':Env}:∀{s:Sh} {x:s.T} {cs:List Value},s.flat=true->bL E (s.cells x) cs->bL E' (s.cells x) cs
 | .int _,_,[_],_,h=>⟨h.1,trivial⟩
 | .bool,_,[_],_,h=>⟨h.1,trivial⟩
 | .str,_,[_],_,h=>⟨h.1,trivial⟩
 | .pair a b,x,cs,hf,h=>by
  simp only[Sh.flat,z10] at hf
  simp only[Sh.cells] at h ⊢
  obtain ⟨c1,c2,rfl,h1,h2⟩:=uT h
  exact (qY hf.1 h1).append (qY hf.2 h2)
 | .agg e,x,cs,hf,h=>qY (s:=e) (x:=x) hf h
 | .sl _,_,_,hf,_=>by cases hf
 | .ref,_,_,hf,_=>by cases hf
 | .int _,_,_ ::_ ::_,_,h=>h.2.elim
 | .bool,_,_ ::_ ::_,_,h=>h.2.elim
 | .str,_,_ ::_ ::_,_,h=>h.2.elim
 | .int _,_,[],_,h=>h.elim
 | .bool,_,[],_,h=>h.elim
 | .str,_,[],_,h=>h.elim
theorem jZ {E E':Env} {n cnt:Nat} (hρ:∀i,i<cnt->E'.ρ (i+n)=E.ρ i/\E'.R (i+n)):∀{ps:List Pat} {X:Type} {x:uX ps X} {k:Nat} {cs:List Value},kR ps=true->k+fj ps<=cnt->bL E (nS ps x k) cs->bL E' (nS ps x (k+n)) cs
 | [],_,_,_,cs,_,_,h=>by
  cases cs with
  | nil=>trivial
  | cons _ _=>exact h.elim
 | .d s ::r,_,x,k,cs,hf,hc,h=>by
  simp only[kR,z10] at hf
  simp only[nS] at h ⊢
  simp only[fj] at hc
  obtain ⟨c1,c2,rfl,h1,h2⟩:=uT h
  exact (qY hf.1 h1).append (jZ hρ hf.2 hc h2)
 | .row _ _ ::r,_,x,k,c ::cs,hf,hc,h=>by
  simp only[kR,z10] at hf
  simp only[fj] at hc
  obtain ⟨⟨h1,h2,h3⟩,h4⟩:=h
  obtain ⟨g1,g2⟩:=hρ k (by omega)
  refine ⟨⟨h1.trans g1.symm,g2,h3⟩,?_⟩
  have:=jZ hρ (x:=x.2) (k:=k+1) hf.2 (by omega) h4
  rw[show k+1+n=k+n+1 by omega] at this
  exact this
 | .x _ ::r,_,x,k,c ::cs,hf,hc,h=>by
  simp only[kR,z10] at hf
  simp only[fj] at hc
  obtain ⟨⟨h1,h2,h3⟩,h4⟩:=h
  obtain ⟨g1,g2⟩:=hρ k (by omega)
  refine ⟨⟨h1.trans g1.symm,g2,h3⟩,?_⟩
  have:=jZ hρ (x:=x.2) (k:=k+1) hf.2 (by omega) h4
  rw[show k+1+n=k+n+1 by omega] at this
  exact this
 | .row _ _ ::_,_,_,_,[],_,_,h=>h.elim
 | .x _ ::_,_,_,_,[],_,_,h=>h.elim
theorem ly {n:Nat}:∀{ps:List Pat} {X:Type} {x:uX ps X} {k i:Nat},look (fo ps x (k+n)) (i+n)=look (fo ps x k) i
 | [],_,_,_,_=>rfl
 | .d _ ::r,_,x,k,i=>by simp only[fo];exact ly
 | .row t e ::r,_,x,k,i=>by
  simp only[fo]
  rw[ai,ai,show k+n+1=k+1+n by omega,ly]
  by_cases h:i=k
  ·rw[if_pos h,if_pos (by omega)]
  ·rw[if_neg h,if_neg (by omega)]
 | .x p ::r,_,x,k,i=>by
  simp only[fo]
  rw[ai,ai,show k+n+1=k+1+n by omega,ly]
  by_cases h:i=k
  ·rw[if_pos h,if_pos (by omega)]
  ·rw[if_neg h,if_neg (by omega)]
theorem sD {n:Nat}:∀{rh:List (Plc×List Pat)} {x:TsR rh} {k i:Nat},ku rh=true->look (cP rh x (k+n)) (i+n)=look (cP rh x k) i
 | [],_,_,_,_=>rfl
 | (.slot _ _,ps) ::r,x,k,i,hf=>by
  simp only[ku,z10] at hf
  simp only[cP,iG,uc]
  rw[aR,aR,ly,show k+n+fj ps=k+fj ps+n by omega,sD hf.2]
 | (.blk _,ps) ::r,x,k,i,hf=>by
  simp only[ku,z10] at hf
  simp only[cP,iG,uc]
  rw[aR,aR,ly,show k+n+fj ps=k+fj ps+n by omega,sD hf.2]
 | (.row _,_) ::_,_,_,_,hf=>by cases hf
theorem wK:∀{rh:List (Plc×List Pat)},ku rh=true->bA rh=[]
 | [],_=>rfl
 | (.slot _ _,ps) ::r,hf=>by simp only[ku,z10] at hf;simp only[bA];exact wK hf.2
 | (.blk _,ps) ::r,hf=>by simp only[ku,z10] at hf;simp only[bA];exact wK hf.2
 | (.row _,_) ::_,hf=>by cases hf
theorem zW {i:Nat}:∀{rh:List (Plc×List Pat)} {x:TsR rh} {k:Nat},ku rh=true->(∀ri,look (cP rh x k) i=some (.some ri)->ri.e.flat=true)/\(∀y,look (cP rh x k) i=some (.x y)->∃(p:XP) (z:p.T),p.flat=true/\y=p.mk z):=by
 have hP:∀{ps:List Pat} {X:Type} {x:uX ps X} {k:Nat},kR ps=true->(∀ri,look (fo ps x k) i=some (.some ri)->ri.e.flat=true)/\(∀y,look (fo ps x k) i=some (.x y)->∃(p:XP) (z:p.T),p.flat=true/\y=p.mk z):=by
  intro ps
  induction ps with
  | nil=>intro X x k _;exact ⟨fun ri h=>by simp[fo,look] at h,fun y h=>by simp[fo,look] at h⟩
  | cons p r ih =>
   intro X x k hf
   cases p with
   | d s=>simp only[kR,z10] at hf;simp only[fo];exact ih hf.2
   | row t e =>
    simp only[kR,z10] at hf
    simp only[fo]
    rw[ai]
    split
    ·exact ⟨fun ri h=>(by injection h with h;injection h with h;subst h;exact hf.1),fun y h=>(by injection h with h;cases h)⟩
    ·exact ih hf.2
   | x p =>
    simp only[kR,z10] at hf
    simp only[fo]
    rw[ai]
    split
    ·exact ⟨fun ri h=>(by injection h with h;cases h),fun y h=>(by injection h with h;injection h with h;exact ⟨p,x.1,hf.1,h.symm⟩)⟩
    ·exact ih hf.2
 intro rh
 induction rh with
 | nil=>intro x k _;exact ⟨fun ri h=>by simp[cP,look] at h,fun y h=>by simp[cP,look] at h⟩
 | cons p r ih =>
  intro x k hf
  obtain ⟨pl,ps⟩:=p
  cases pl with
  | row q=>cases hf
  | slot j ag =>
   simp only[ku,z10] at hf
   simp only[cP,iG]
   rw[aR]
   cases hq:look (fo ps x k) i with
   | some u =>
    obtain ⟨h1,h2⟩:=hP (x:=x) (k:=k) hf.1
    exact ⟨fun ri h=>h1 ri (by rw[hq];exact h),fun y h=>h2 y (by rw[hq];exact h)⟩
   | none=>exact ih hf.2
  | blk b =>
   simp only[ku,z10] at hf
   simp only[cP,iG]
   rw[aR]
   cases hq:look (fo ps x k) i with
   | some u =>
    obtain ⟨h1,h2⟩:=hP (x:=x) (k:=k) hf.1
    exact ⟨fun ri h=>h1 ri (by rw[hq];exact h),fun y h=>h2 y (by rw[hq];exact h)⟩
   | none=>exact ih hf.2
theorem si {E E':Env} {n cnt:Nat} (hρ:∀i,i<cnt->E'.ρ (i+n)=E.ρ i/\E'.R (i+n)):∀{rh:List (Plc×List Pat)} {x:TsR rh} {k j:Nat} {l:List At},ku rh=true->k+lz rh<=cnt->look (dl rh x (k+n)) j=some l->∃l',look (dl rh x k) j=some l'/\∀cs,bL E l' cs->bL E' l cs
 | [],_,_,_,_,_,_,h=>by simp[dl,look] at h
 | (.slot _ _,ps) ::r,x,k,j,l,hf,hc,h=>by
  simp only[ku,z10] at hf
  simp only[lz,uc] at hc
  simp only[dl] at h ⊢
  rw[show k+n+fj ps=k+fj ps+n by omega] at h
  exact si hρ hf.2 (by omega) h
 | (.blk b,ps) ::r,x,k,j,l,hf,hc,h=>by
  simp only[ku,z10] at hf
  simp only[lz,uc] at hc
  simp only[dl] at h ⊢
  rw[ai] at h ⊢
  split at h
  ·rename_i e
   injection h with h
   subst h
   exact ⟨_,by rw[if_pos e],fun cs hcs=>jZ hρ hf.1 (by omega) hcs⟩
  ·rename_i e
   rw[if_neg e]
   rw[show k+n+fj ps=k+fj ps+n by omega] at h
   exact si hρ hf.2 (by omega) h
 | (.row _,_) ::_,_,_,_,_,hf,_,_=>by cases hf
theorem vm {E E':Env} {n cnt:Nat} (hρ:∀i,i<cnt->E'.ρ (i+n)=E.ρ i/\E'.R (i+n)):∀{rh:List (Plc×List Pat)} {x:TsR rh} {k:Nat} {us:List Value},ku rh=true->k+lz rh<=cnt->fb E (ww rh x k) us->fb E' (ww rh x (k+n)) us
 | [],_,_,us,_,_,h=>by
  cases us with
  | nil=>trivial
  | cons _ _=>exact h.elim
 | (.slot _ ag,ps) ::r,x,k,u ::us,hf,hc,h=>by
  simp only[ku,z10] at hf
  simp only[lz,uc] at hc
  obtain ⟨⟨cs,h1,h2,h3⟩,h4⟩:=h
  refine ⟨⟨cs,h1,jZ hρ hf.1 (by omega) h2,h3⟩,?_⟩
  have:=vm hρ (k:=k+fj ps) hf.2 (by omega) h4
  rw[show k+fj ps+n=k+n+fj ps by omega] at this
  exact this
 | (.slot _ ag,ps) ::r,x,k,[],_,_,h=>h.elim
 | (.blk _,ps) ::r,x,k,us,hf,hc,h=>by
  simp only[ku,z10] at hf
  simp only[lz,uc] at hc
  have:=vm hρ (rh:=r) (x:=ma ps x) (k:=k+fj ps) hf.2 (by omega) h
  rw[show k+fj ps+n=k+n+fj ps by omega] at this
  exact this
 | (.row _,_) ::_,_,_,_,hf,_,_=>by cases hf
theorem qG {m:List (Nat×Nat)} {b:Nat} {c:List At}:∀{l:List (Nat×List At)},look (kp m l) b=some c->∃j,look m j=some b/\look l j=some c
 | [],h=>by simp[kp,look] at h
 | p ::r,h=>by
  simp only[kp] at h
  split at h
  ·rename_i b' hb
   rw[ai] at h
   split at h
   ·rename_i e
    injection h with h
    subst h;subst e
    exact ⟨p.1,hb,by rw[ai,if_pos rfl]⟩
   ·rename_i e
    obtain ⟨j,h1,h2⟩:=qG h
    refine ⟨j,h1,?_⟩
    rw[ai,if_neg]
    ·exact h2
    ·intro e'
     subst e'
     rw[h1] at hb
     injection hb with hb
     exact e hb
  ·rename_i hb
   obtain ⟨j,h1,h2⟩:=qG h
   refine ⟨j,h1,?_⟩
   rw[ai,if_neg]
   ·exact h2
   ·intro e'
    subst e'
    rw[h1] at hb
    cases hb
theorem uN {m:List (Nat×Nat)} {b j:Nat} (hj:look m j=some b):∀{l:List (Nat×List At)},(look l j).isSome=true->(look (kp m l) b).isSome=true
 | [],h=>by simp[look] at h
 | p ::r,h=>by
  simp only[kp]
  rw[ai] at h
  split
  ·rename_i b' hb
   rw[ai]
   split
   ·rfl
   ·rename_i e
    split at h
    ·rename_i e'
     subst e'
     rw[hj] at hb
     injection hb with hb
     exact absurd hb e
    ·exact uN hj h
  ·rename_i hb
   split at h
   ·rename_i e'
    subst e'
    rw[hj] at hb
    cases hb
   ·exact uN hj h
def Env.outE (E E':Env) (n cnt:Nat):Env :=
 {E with w:=E'.w,R:=fun i=>E.R i\/(n<=i/\i<n+cnt),ρ:=fun i=>if n<=i/\i<n+cnt then E'.ρ (i - n) else E.ρ i,φ:=fun i=>if n<=i/\i<n+cnt then E'.φ (i - n) else E.φ i,ι:=fun i=>if n<=i/\i<n+cnt then E'.ι (i - n) else E.ι i,ν:=fun i=>if n<=i/\i<n+cnt then E'.ν (i - n) else E.ν i }
theorem tZ {E E':Env} {i q:Nat} (hι:E'.ι i=E.ι q) (hν:E'.ν i=E.ν q):∀{s:Sh} {x:s.T} {cs:List Value},zT s=true->el E q s x cs->el E' i s x cs
 | .ref,_,_,_,h=>by simp only[el] at h ⊢;rw[hι,hν];exact h
 | .pair a b,x,cs,hf,h=>by
  simp only[zT,z10] at hf
  simp only[el] at h ⊢
  obtain ⟨c1,c2,h1,h2,h3⟩:=h
  exact ⟨c1,c2,h1,tZ hι hν hf.1 h2,tZ hι hν hf.2 h3⟩
 | .agg e,x,cs,hf,h=>tZ (s:=e) (x:=x) hι hν hf h
 | .int _,_,_,_,h=>h
 | .bool,_,_,_,h=>h
 | .str,_,_,_,h=>h
 | .sl _,_,_,hf,_=>by cases hf
theorem xz {E E':Env} {i q:Nat} (hι:E'.ι i=E.ι q) (hν:E'.ν i=E.ν q) {s:Sh} (hf:zT s=true):∀{l:List s.T} {xs:List Value},cv E q s l xs->cv E' i s l xs
 | [],_,h=>h
 | _ ::_,_,⟨c,r,h1,h2,h3⟩=>⟨c,r,h1,tZ hι hν hf h2,xz hι hν hf h3⟩
theorem A6 {w w':World} {Z Z':Nat->Prop} {k:Sh} (hf:k.flat=true):∀{l:List k.T} {en:List MapEntry},dR w Z k l en->dR w' Z' k l en
 | [],_,h=>h
 | _ ::_,_,⟨m,r,h1,h2,h3,h4⟩=>⟨m,r,h1,Dat.flat hf h2,h3,A6 hf h4⟩
theorem AH {w w':World} {Z Z':Nat->Prop} {k e:Sh} (hk:k.flat=true) (he:e.flat=true):∀{l:List (k.T×e.T)} {en:List MapEntry},dH w Z k e l en->dH w' Z' k e l en
 | [],_,h=>h
 | _ ::_,_,⟨m,r,h1,h2,⟨cs,h3,h4,h5⟩,h6⟩=>⟨m,r,h1,Dat.flat hk h2,⟨cs,Dat.flat he h3,h4,h5⟩,AH hk he h6⟩
theorem XOk.flat {E E':Env} {i q:Nat} {p:XP} {z:p.T} (hf:p.flat=true) (hw:E'.w=E.w) (h0:E'.w0=E.w0) (hR:E'.R i) (hρ:E'.ρ i=E.ρ q) (hφ:E'.φ i=E.φ q) (hι:E'.ι i=E.ι q) (hν:E'.ν i=E.ν q) (h:XOk E q (p.mk z)):XOk E' i (p.mk z):=by
 cases p with
 | set t k =>
  obtain ⟨_,b,es,ck,h1,h2,h3,h4⟩:=h
  exact ⟨hR,b,es,ck,by rw[hρ];exact h1,by rw[hφ];exact h2,by rw[hw];exact h3,A6 hf h4⟩
 | map t k e =>
  simp only[XP.flat,z10] at hf
  obtain ⟨_,b,es,ck,h1,h2,h3,h4⟩:=h
  exact ⟨hR,b,es,ck,by rw[hρ];exact h1,by rw[hφ];exact h2,by rw[hw];exact h3,AH hf.1 hf.2 h4⟩
 | tab t s ti e =>
  simp only[XP.flat,z10] at hf
  obtain ⟨_,⟨xs,h1,h2⟩,h3,h4,h5,h6⟩:=h
  refine ⟨hR,⟨xs,by rw[hw,h0,hρ];exact h1,xz hι hν hf.1 h2⟩,by rw[hρ,hφ];exact h3,by rw[hν];exact h4,fun j l' hj=>?_,by rw[hι];exact h6⟩
  obtain ⟨⟨ys,g1,g2⟩,g3⟩:=h5 j l' hj
  unfold mU
  rw[hw,h0,hρ,hφ,hι]
  exact ⟨⟨ys,g1,aE.flat hf.2 (aE.mono (fun _ h=>h) (fun _ _=>rfl) g2)⟩,g3⟩
theorem oo {used:List Nat}:∀{ks:List PK} {args:List SV} {j:Nat} {a:ArgIn},dn used σ j ks args=some a->∀i ∈ gL a.b,∃k,look a.b k=some i
 | [],[],j,a,h,i,hi=>by
  simp only[dn,aT] at h
  subst h
  simp[gL] at hi
 | .d s ::r,v ::l,j,a,h,i,hi=>by
  simp only[dn] at h
  split at h
  ·rename_i a' ha _
   injection h with h
   subst h
   exact oo ha i hi
  ·cases h
 | .v ag ps ::r,v ::l,j,a,h,i,hi=>by
  simp only[dn] at h
  split at h
  ·rename_i a' ha
   injection h with h
   subst h
   exact oo ha i hi
  ·cases h
 | .b ps ::r,v ::l,j,a,h,i,hi=>by
  simp only[dn] at h
  split at h
  ·rename_i b a' hb ha
   split at h
   ·injection h with h
    subst h
    simp only[gL,List.mem_cons] at hi
    rcases hi with rfl | hi
    ·exact ⟨j,by rw[ai,if_pos rfl]⟩
    ·obtain ⟨k,hk⟩:=oo ha i hi
     refine ⟨k,?_⟩
     rw[ai,if_neg]
     ·exact hk
     ·intro e
      have:=((kU ha).1.b k i hk).1
      omega
   ·cases h
  ·cases h
 | [],_ ::_,_,_,h,_,_=>by simp[dn] at h
 | .d _ ::_,[],_,_,h,_,_=>by simp[dn] at h
 | .b _ ::_,[],_,_,h,_,_=>by simp[dn] at h
 | .v _ _ ::_,[],_,_,h,_,_=>by simp[dn] at h
theorem BK {E:Env}:∀{l:List SV} {vs:List Value},fb E l vs->l.length=vs.length
 | [],[],_=>rfl
 | _ ::_,_ ::_,h=>by simp[BK h.2]
 | [],_ ::_,h=>h.elim
 | _ ::_,[],h=>h.elim
theorem ED {P:Program} {id:FuncId} {c:SCtr} (hc:c.ok P id) {R:Type} {K:List SV->St->Option R} {z:R} {args:List SV} {vs:Array Value} {post:Ending->World->Prop} (h:H5 c args σ K=some z) (hro:RoR σ) (hm:MemOk E σ.look) (hP:E.P=P) (hr:fb E args vs.toList)
  (hpost:∀svs σ' E' v,K svs σ'=some z->fk E E'->Keep E E'->Fr σ σ'->MemOk E' σ'.look->(∀sv,Bg svs=some sv->bH E' sv v)->post (.returned v) E'.w)
  (hret:∀(E:Env) (l:List SV) (sv:SV) (us:List Value),Bg l=some sv->fb E l us->bH E sv (if h:us.length=1 then us[0] else .tuple us.toArray)):Calls P id vs E.w post:=by
 unfold H5 at h
 split at h
 case h_2=>cases h
 rename_i a ha
 split at h
 case h_2=>cases h
 rename_i x hx
 split at h
 case h_2=>cases h
 rename_i hchk
 obtain ⟨y,hy,hK⟩:=vc h
 simp only[z10] at hchk
 obtain ⟨⟨⟨⟨⟨⟨hoB,hoR⟩,hnb⟩,hnu⟩,hfr⟩,hfl⟩,hpl⟩:=hchk
 generalize hu:vX (look σ.h) c.ks args=used at *
 have hnb:=sk hnb
 have hfr:=lB hfr
 obtain ⟨hA,hlen⟩:=kU ha
 have hM1:=Nn hm ha hr hnb
 have G:=hm.glob
 generalize hE1:E.argE σ.look used a=E1 at hM1
 have e1w:E1.w=E.w:=by rw[<-hE1];rfl
 have e1w0:E1.w0=E.w0:=by rw[<-hE1];rfl
 have e1Z0:E1.Z0=E.Z0:=by rw[<-hE1];rfl
 have e1P:E1.P=E.P:=by rw[<-hE1];rfl
 have e1Z:E1.Z=oe E σ.look (gL a.b) used:=by rw[<-hE1];rfl
 have e1rg:E1.rg=false:=by rw[<-hE1];rfl
 have e1L:∀j,E1.L j↔(look a.h j).isSome=true:=fun j=>by rw[<-hE1];exact Iff.rfl
 have e1β:∀j b,look a.b j=some b->E1.β j=E.β b:=fun j b hj=>by rw[<-hE1];simp[Env.argE,hj]
 let E0:Env:={ E1 with R:=fun _=>False }
 have hM0:Mod vs.toList.length E0 { tmps:=vs.toList.toArray,defers:=[] } (uh c.ks a.h).look:=by
  have hkey:∀i l,look (uH a.h) i=some l->∃l',look a.h i=some l'/\l=uL l':=fun i l hi=>by
   rw[qM] at hi
   cases hq:look a.h i with
   | none=>rw[hq] at hi;cases hi
   | some l'=>rw[hq] at hi;injection hi with hi;exact ⟨l',rfl,hi.symm⟩
  refine ⟨⟨hM1.glob.below,hM1.glob.zlt,hM1.glob.z0,hM1.glob.zfrom,fun j hj=>?_,fun r hr=>hr.elim,fun i l hi=>?_,fun i j l l' hi hj hij=>?_,fun i r b hi=>by simp[uh,St.look,look] at hi,fun i j r r' b hi=>by simp[uh,St.look,look] at hi,⟨fun i x b hi=>by simp[uh,St.look,look] at hi,fun i j x y b hi=>by simp[uh,St.look,look] at hi⟩⟩,trivial,hM1.size,fun i t hi=>?_,fun i l hi=>?_,fun i r hi=>by simp[uh,St.look,look] at hi,fun i x hi=>by simp[uh,St.look,look] at hi⟩
  ·show (look (uH a.h) j).isSome=true
   rw[qM]
   have hj:(look a.h j).isSome=true:=(e1L j).1 hj
   cases hq:look a.h j with
   | none=>rw[hq] at hj;cases hj
   | some l=>rfl
  ·obtain ⟨l',h1,_⟩:=hkey i l hi
   exact hM1.glob.own i l' h1
  ·obtain ⟨l1,h1,_⟩:=hkey i l hi
   obtain ⟨l2,h2,_⟩:=hkey j l' hj
   exact hM1.glob.inj i j l1 l2 h1 h2 hij
  ·have hi:ga (wj 0 c.ks) i=some t:=hi
   have hnp:i ∉ jT 0 c.ks:=by
    intro hn
    have:∀(ks:List PK) (j:Nat),(∀k ∈ jT j ks,j<=k)/\(∀k t,look (wj j ks) k=some t->j<=k/\k ∉ jT j ks):=by
     intro ks
     induction ks with
     | nil=>intro j;exact ⟨fun k h=>by simp[jT] at h,fun k t h=>by simp[wj,look] at h⟩
     | cons p r ih =>
      intro j
      obtain ⟨i1,i2⟩:=ih (j+1)
      cases p with
      | d s =>
       refine ⟨fun k h=>?_,fun k t h=>?_⟩
       ·simp only[jT,List.mem_cons] at h
        rcases h with h | h
        ·omega
        ·have:=i1 k h;omega
       ·obtain ⟨g1,g2⟩:=i2 k t h
        exact ⟨by omega,by simp only[jT,List.mem_cons,not_or];exact ⟨by omega,g2⟩⟩
      | v ag ps =>
       refine ⟨fun k h=>?_,fun k t h=>?_⟩
       ·simp only[jT,List.mem_cons] at h
        rcases h with h | h
        ·omega
        ·have:=i1 k h;omega
       ·obtain ⟨g1,g2⟩:=i2 k t h
        exact ⟨by omega,by simp only[jT,List.mem_cons,not_or];exact ⟨by omega,g2⟩⟩
      | b ps =>
       refine ⟨fun k h=>by have:=i1 k h;omega,fun k t h=>?_⟩
       simp only[wj] at h
       rw[ai] at h
       split at h
       ·rename_i e
        exact ⟨by omega,fun hk=>by have:=i1 k hk;omega⟩
       ·obtain ⟨g1,g2⟩:=i2 k t h
        exact ⟨by omega,g2⟩
    unfold ga at hi
    split at hi
    ·rename_i t' hl
     exact ((this c.ks 0).2 i _ hl).2 hn
    ·cases hi
   have hs1:(St.look { s:=a.s,h:=a.h,r:=rQ used σ.r,next:=0 }).s i=some t:=by
    show ga a.s i=some t
    unfold ga at hi ⊢
    rw[hA.ptr i hnp]
    exact hi
   obtain ⟨v,h1,h2⟩:=hM1.slots i t hs1
   refine ⟨v,h1,?_⟩
   unfold ga at hi
   split at hi
   ·rename_i t' hl
    injection hi with hi
    subst hi
    have:∀(ks:List PK) (j:Nat) (t:SlotV),look (wj j ks) i=some (some t)->t=⟨none,.c false [.ptr i 0]⟩:=by
     intro ks
     induction ks with
     | nil=>intro j t h;simp[wj,look] at h
     | cons p r ih =>
      intro j t h
      cases p with
      | d s=>exact ih (j+1) t h
      | v ag ps=>exact ih (j+1) t h
      | b ps =>
       simp only[wj] at h
       rw[ai] at h
       split at h
       ·rename_i e
        simp only[aT] at h
        rw[<-h,e]
       ·exact ih (j+1) t h
    rw[this c.ks 0 t' hl] at h2 ⊢
    obtain ⟨cs',g1,g2,g3⟩:=h2
    match cs',g2 with
    | [y],g2=>exact ⟨[y],g1,⟨g2.1,trivial⟩,g3⟩
   ·cases hi
  ·obtain ⟨l',h1,h2⟩:=hkey i l hi
   obtain ⟨g1,cs,t,g2,g3,g4⟩:=hM1.blks i l' h1
   subst h2
   exact ⟨g1,cs,t,g2,FZ g3.length,g4⟩
 have hk01:Keep E0 E1:=⟨rfl,fun y v hv=>by
  cases y with
  | u=>trivial
  | v x=>exact hv
  | ptr b o=>exact hv
  | clo g cap=>exact hv
  | sl e l=>exact hv
  | row r=>exact hv.2.1.elim
  | rf s x o=>exact hv
  | re r i sz off=>obtain ⟨_,_,_,h⟩:=hv;exact h.elim
  | sub r lo hi sz=>obtain ⟨_,h⟩:=hv;exact h.elim
  | ae b o e l i d=>exact hv
  | sn e l=>exact hv
  | ir r i=>exact hv.2.1.elim
  | ie r i j sz off=>obtain ⟨_,_,_,h,_⟩:=hv;exact h.elim
  | fn a r F=>exact hv,fun b o hb=>hb⟩
 obtain ⟨E2,hs12,hw2,hk02,hm2⟩:=jJ (rh:=rhI 0 c.ks) (W:=jT 0 c.ks) (srcs:=[]) hpl hM0 hk01 hM1 (x:=x) hx
  (fun i hi=>hA.ptr i hi)
  (fun i hi=>by
   rcases List.mem_append.1 hi with hi | hi
   ·have h1:=oy hi
    have h2:(look (uH a.h) i).isSome=true:=gU hi
    rw[qM] at h2
    exfalso
    apply h1
    rw[tJ]
    apply (hA.keys i).1
    cases hq:look a.h i with
    | none=>rw[hq] at h2;cases h2
    | some _=>rfl
   ·cases hi)
  (fun i hi=>by
   rcases List.mem_append.1 hi with hi | hi<;>cases hi)
 have he:(head (rhI 0 c.ks) (jT 0 c.ks) [] (uh c.ks a.h) x).look=(c.init x).look:=by
  have h1:look (dl (rhI 0 c.ks) x 0++uH a.h)=look (dl (rhI 0 c.ks) x 0):=by
   funext i
   rw[aR]
   cases hq:look (dl (rhI 0 c.ks) x 0) i with
   | some l=>rfl
   | none =>
    show look (uH a.h) i=none
    rw[qM]
    cases hq2:look a.h i with
    | none=>rfl
    | some l =>
     have:=(hA.keys i).1 (by rw[hq2];rfl)
     rw[<-tJ] at this
     have:=(fV (x:=x) (k:=0)).2 this
     rw[hq] at this
     cases this
  simp only[St.look,head,SCtr.init,uh,mg,List.nil_append,h_,Look.mk.injEq]
  exact ⟨trivial,h1,trivial⟩
 rw[he] at hm2
 have hcall:=hc x y hy E2 vs.toList (by rw[hs12.P,e1P];exact hP) (by rw[hk02.rg];exact e1rg) (by rw[<-BK hr];exact hlen) hm2
 rw[hw2,e1w,lE] at hcall
 refine hcall.mono fun e w' hew=>?_
 obtain ⟨us,E',rfl,hw',hs2,hk2,hβ2,hM',hus⟩:=hew
 subst hw'
 have ew0:E'.w0=E.w0:=by rw[hs2.w0,hs12.w0,e1w0]
 have eZ0:E'.Z0=E.Z0:=by rw[hs2.Z0,hs12.Z0,e1Z0]
 have hZ1:∀b,oe E σ.look (gL a.b) used b->b<E.w.heap.size/\(E.Z0 b\/E.w0.heap.size<=b):=fun b hb=>by
  rw[<-e1Z] at hb
  have h1:=hM1.glob.zlt b hb
  have h2:=hM1.glob.zfrom b hb
  rw[e1w] at h1
  rw[e1Z0,e1w0] at h2
  exact ⟨h1,h2⟩
 have hlow:∀b,b<E.w0.heap.size->E'.w.heap[b]?=E.w.heap[b]?:=fun b hb=>by
  have h1:=hM'.glob.below
  rw[ew0] at h1
  rw[h1.block b hb,G.below.block b hb]
 have hrest:∀b,oe E σ.look (gL a.b) used b->E'.Z b/\E'.w.heap[b]?=E.w.heap[b]?:=fun b hb=>by
  obtain ⟨h1,h2⟩:=hZ1 b hb
  by_cases hl:b<E.w0.heap.size
  ·refine ⟨?_,hlow b hl⟩
   rcases h2 with h2 | h2
   ·exact hM'.glob.z0 b (by rw[eZ0];exact h2)
   ·omega
  ·have ho:E.w.heap[b]?=some E.w.heap[b]:=mT h1
   have:=hk2.obj b _ (hk02.obj b E.w.heap[b] ⟨by show E1.Z b;rw[e1Z];exact hb,by show E1.w0.heap.size<=b;rw[e1w0];omega,by show E1.w.heap[b]?=_;rw[e1w];exact ho⟩)
   exact ⟨this.1,this.2.2.trans ho.symm⟩
 have hβ':∀j b,look a.b j=some b->E'.β j=E.β b:=fun j b hj=>by
  have hLj:=(hA.b j b hj).2.2
  have h0:iJ E0 (.ptr j 0) (gv E1.β (j,0)):=⟨rfl,(e1L j).2 hLj⟩
  obtain ⟨h3,h4⟩:=hk02.at' _ _ h0
  rw[hβ2 j h4]
  have:E1.β j=E2.β j:=by simpa [gv] using h3
  rw[<-this,e1β j b hj]
 generalize hcnt:lz c.out=cnt at *
 have hgr:∀i u,look (cP c.out y σ.next++(mg used++σ.r)) i=some u->((σ.next<=i/\i<σ.next+cnt)/\look (cP c.out y 0) (i - σ.next)=some u)\/(¬ (σ.next<=i/\i<σ.next+cnt)/\((i ∈ used/\u=.none)\/(i ∉ used/\look σ.r i=some u))):=fun i u hi=>by
  rw[aR] at hi
  cases hq:look (cP c.out y σ.next) i with
  | some u' =>
   rw[hq] at hi
   injection hi with hi
   subst hi
   left
   rcases uV (by rw[hq];rfl:(look (cP c.out y σ.next) i).isSome=true) with h1 | h1
   ·rw[hcnt] at h1
    refine ⟨h1,?_⟩
    have h2:=sD (n:=σ.next) (x:=y) (k:=0) (i:=i - σ.next) hfl
    rw[dO,Nat.sub_add_cancel h1.1] at h2
    rw[<-h2,hq]
   ·rw[wK hfl] at h1
    cases h1
  | none =>
   rw[hq] at hi
   right
   refine ⟨fun hn=>?_,?_⟩
   ·rw[<-hcnt] at hn
    have:=tS (x:=y) hn
    rw[hq] at this
    cases this
   ·simp only at hi
    rw[aR,kK] at hi
    by_cases hu':i ∈ used
    ·rw[if_pos hu'] at hi
     injection hi with hi
     exact .inl ⟨hu',hi.symm⟩
    ·rw[if_neg hu'] at hi
     exact .inr ⟨hu',hi⟩
 have hgh:∀i l,look (kp a.b (dl c.out y σ.next)++σ.h) i=some l->(∃j,look a.b j=some i/\look (dl c.out y σ.next) j=some l)\/(i ∉ gL a.b/\look σ.h i=some l):=fun i l hi=>by
  rw[aR] at hi
  cases hq:look (kp a.b (dl c.out y σ.next)) i with
  | some l' =>
   rw[hq] at hi
   injection hi with hi
   subst hi
   exact .inl (qG hq)
  | none =>
   rw[hq] at hi
   refine .inr ⟨fun hv=>?_,hi⟩
   obtain ⟨j,hj⟩:=oo ha i hv
   have h1:=(hA.b j i hj).2.2
   have h2:=(hA.keys j).1 h1
   have h3:j ∈ bB c.out:=by rw[rV,FT,h_];exact h2
   have:=uN hj ((fV (x:=y) (k:=σ.next)).2 h3)
   rw[hq] at this
   cases this
 have hkeyh:∀i l,look (kp a.b (dl c.out y σ.next)++σ.h) i=some l->∃l0,look σ.h i=some l0:=fun i l hi=>by
  rcases hgh i l hi with ⟨j,h1,_⟩ | ⟨_,h1⟩
  ·have:=(hA.b j i h1).2.1
   cases hq:look σ.h i with
   | some l0=>exact ⟨l0,rfl⟩
   | none=>rw[hq] at this;cases this
  ·exact ⟨l,h1⟩
 have hbk:∀i l,look (kp a.b (dl c.out y σ.next)++σ.h) i=some l->∀g,¬ E'.Z g->(∀j l',look (dl c.out y 0) j=some l'->E'.β j≠g)->E.β i≠g:=fun i l hi g h1 h2 hg=>by
  rcases hgh i l hi with ⟨j,h3,h4⟩ | ⟨h3,h4⟩
  ·have h5:=(fV (x:=y) (k:=0)).2 ((fV (x:=y) (k:=σ.next)).1 (by rw[h4];rfl))
   cases hq:look (dl c.out y 0) j with
   | none=>rw[hq] at h5;cases h5
   | some l'=>exact h2 j l' hq (by rw[hβ' j i h3];exact hg)
  ·exact h1 (hg ▸ (hrest _ (.inr (.inl ⟨i,l,h4,h3,rfl⟩))).1)
 let E5:=E.outE E' σ.next cnt
 let X:Nat->Prop:=fun b=>¬ oe E σ.look (gL a.b) used b/\E.w0.heap.size<=b
 have p1:∀i,(σ.next<=i/\i<σ.next+cnt)->E5.ρ i=E'.ρ (i - σ.next)/\E5.φ i=E'.φ (i - σ.next)/\E5.ι i=E'.ι (i - σ.next)/\E5.ν i=E'.ν (i - σ.next):=fun i hi=>⟨if_pos hi,if_pos hi,if_pos hi,if_pos hi⟩
 have p2:∀i,¬ (σ.next<=i/\i<σ.next+cnt)->E5.ρ i=E.ρ i/\E5.φ i=E.φ i/\E5.ι i=E.ι i/\E5.ν i=E.ν i:=fun i hi=>⟨if_neg hi,if_neg hi,if_neg hi,if_neg hi⟩
 have hfree:iL E X:=fun b hb=>⟨fun hz=>hb.1 (.inl hz),hb.2⟩
 have hnew:∀r,(look σ.r r).isSome=true->¬ (σ.next<=r/\r<σ.next+cnt):=fun r hr hn=>by
  rw[hfr r hn.1 hn.2] at hr
  cases hr
 have hext:Ext X E E5:=⟨rfl,rfl,rfl,rfl,fun _ h=>h,fun b h1 h2=>by
   by_cases hz:oe E σ.look (gL a.b) used b
   ·exact (hrest b hz).2
   ·exact hlow b (by
     by_cases hl:b<E.w0.heap.size
     ·exact hl
     ·exact absurd ⟨hz,by omega⟩ h2),fun _ _=>rfl,fun _ h=>h,fun r hr=>(p2 r (hnew r (G.rlive r hr))).1,fun _ h=>.inl h,fun r hr=>by
   obtain ⟨_,q2,q3,q4⟩:=p2 r (hnew r (G.rlive r hr))
   rw[q2,q3,q4]
   exact ⟨fun _ h=>h,b_ _,fun _ _=>rfl⟩⟩
 have hsz:∀b,oe E σ.look (gL a.b) used b->b<E'.w.heap.size:=fun b hb=>by
  have h1:=(hrest b hb).2
  rw[mT (hZ1 b hb).1] at h1
  exact (Array.getElem?_eq_some_iff.1 h1).1
 have oR:∀i r b,i ∉ used->look σ.r i=some (.some r)->(E.ρ i).ownBlock=some b->oe E σ.look (gL a.b) used b:=fun i r b h1 h2 h3=>.inr (.inr (.inl ⟨i,r,h2,h1,h3⟩))
 have oX:∀i x b,i ∉ used->look σ.r i=some (.x x)->E.φ i b->oe E σ.look (gL a.b) used b:=fun i x b h1 h2 h3=>.inr (.inr (.inr ⟨i,x,h2,h1,h3⟩))
 have hglob:Glob E5 (St.look { σ with h:=kp a.b (dl c.out y σ.next)++σ.h,r:=cP c.out y σ.next++(mg used++σ.r),next:=σ.next+cnt }):=by
  refine ⟨?_,fun b hb=>hsz b (.inl hb),G.z0,G.zfrom,fun b hb=>?_,fun r hr=>?_,fun i l hi=>?_,fun i j l l' hi hj hij=>?_,fun i r b hi hb=>?_,fun i j r r' b hi hj hb hb'=>?_,⟨fun i x b hi hb=>?_,fun i j x y' b hi hj hb hb'=>?_⟩⟩
  ·have h1:=hM'.glob.below
   rw[ew0] at h1
   exact h1
  ·show (look (kp a.b (dl c.out y σ.next)++σ.h) b).isSome=true
   rw[aR]
   cases look (kp a.b (dl c.out y σ.next)) b with
   | some _=>rfl
   | none=>exact G.live b hb
  ·show (look (cP c.out y σ.next++(mg used++σ.r)) r).isSome=true
   rw[aR]
   cases hq:look (cP c.out y σ.next) r with
   | some _=>rfl
   | none =>
    simp only
    rw[aR,kK]
    rcases hr with hr | hr
    ·by_cases hu':r ∈ used
     ·rw[if_pos hu'];rfl
     ·rw[if_neg hu'];exact G.rlive r hr
    ·rw[<-hcnt] at hr
     have:=tS (x:=y) hr
     rw[hq] at this
     cases this
  ·obtain ⟨l0,h0⟩:=hkeyh i l hi
   exact G.own i l0 h0
  ·obtain ⟨l0,h0⟩:=hkeyh i l hi
   obtain ⟨l1,h1⟩:=hkeyh j l' hj
   exact G.inj i j l0 l1 h0 h1 hij
  ·rcases hgr i _ hi with ⟨h1,h2⟩ | ⟨h1,⟨_,h2⟩ | ⟨h2,h3⟩⟩
   ·rw[(p1 i h1).1] at hb
    obtain ⟨g1,g2⟩:=hM'.glob.rown _ r b h2 hb
    exact ⟨fun hz=>g1 (hrest b (.inl hz)).1,fun j l hj=>hbk j l hj b g1 g2⟩
   ·cases h2
   ·rw[(p2 i h1).1] at hb
    obtain ⟨g1,g2⟩:=G.rown i r b h3 hb
    exact ⟨g1,fun j l hj=>by obtain ⟨l0,h0⟩:=hkeyh j l hj;exact g2 j l0 h0⟩
  ·rcases hgr i _ hi with ⟨h1,h2⟩ | ⟨h1,⟨_,h2⟩ | ⟨h2,h3⟩⟩
   ·rw[(p1 i h1).1] at hb
    rcases hgr j _ hj with ⟨k1,k2⟩ | ⟨k1,⟨_,k2⟩ | ⟨k2,k3⟩⟩
    ·rw[(p1 j k1).1] at hb'
     have:=hM'.glob.rinj _ _ r r' b h2 k2 hb hb'
     omega
    ·cases k2
    ·rw[(p2 j k1).1] at hb'
     exact absurd (hrest b (oR j r' b k2 k3 hb')).1 (hM'.glob.rown _ r b h2 hb).1
   ·cases h2
   ·rw[(p2 i h1).1] at hb
    rcases hgr j _ hj with ⟨k1,k2⟩ | ⟨k1,⟨_,k2⟩ | ⟨k2,k3⟩⟩
    ·rw[(p1 j k1).1] at hb'
     exact absurd (hrest b (oR i r b h2 h3 hb)).1 (hM'.glob.rown _ r' b k2 hb').1
    ·cases k2
    ·rw[(p2 j k1).1] at hb'
     exact G.rinj i j r r' b h3 k3 hb hb'
  ·rcases hgr i _ hi with ⟨h1,h2⟩ | ⟨h1,⟨_,h2⟩ | ⟨h2,h3⟩⟩
   ·rw[(p1 i h1).2.1] at hb
    obtain ⟨g1,g2,g3,g4,g5⟩:=hM'.glob.xg.own _ x b h2 hb
    refine ⟨by rw[ew0] at g1;exact g1,g2,fun hz=>g3 (hrest b (.inl hz)).1,fun j l hj=>hbk j l hj b g3 g4,fun j r hj hq=>?_⟩
    rcases hgr j _ hj with ⟨k1,k2⟩ | ⟨k1,⟨_,k2⟩ | ⟨k2,k3⟩⟩
    ·rw[(p1 j k1).1] at hq
     exact g5 _ r k2 hq
    ·cases k2
    ·rw[(p2 j k1).1] at hq
     exact g3 (hrest b (oR j r b k2 k3 hq)).1
   ·cases h2
   ·rw[(p2 i h1).2.1] at hb
    obtain ⟨g1,g2,g3,g4,g5⟩:=G.xg.own i x b h3 hb
    refine ⟨g1,hsz b (oX i x b h2 h3 hb),g3,fun j l hj=>by obtain ⟨l0,h0⟩:=hkeyh j l hj;exact g4 j l0 h0,fun j r hj hq=>?_⟩
    rcases hgr j _ hj with ⟨k1,k2⟩ | ⟨k1,⟨_,k2⟩ | ⟨k2,k3⟩⟩
    ·rw[(p1 j k1).1] at hq
     exact (hM'.glob.rown _ r b k2 hq).1 (hrest b (oX i x b h2 h3 hb)).1
    ·cases k2
    ·rw[(p2 j k1).1] at hq
     exact g5 j r k3 hq
  ·rcases hgr i _ hi with ⟨h1,h2⟩ | ⟨h1,⟨_,h2⟩ | ⟨h2,h3⟩⟩
   ·rw[(p1 i h1).2.1] at hb
    rcases hgr j _ hj with ⟨k1,k2⟩ | ⟨k1,⟨_,k2⟩ | ⟨k2,k3⟩⟩
    ·rw[(p1 j k1).2.1] at hb'
     have:=hM'.glob.xg.inj _ _ x y' b h2 k2 hb hb'
     omega
    ·cases k2
    ·rw[(p2 j k1).2.1] at hb'
     exact absurd (hrest b (oX j y' b k2 k3 hb')).1 (hM'.glob.xg.own _ x b h2 hb).2.2.1
   ·cases h2
   ·rw[(p2 i h1).2.1] at hb
    rcases hgr j _ hj with ⟨k1,k2⟩ | ⟨k1,⟨_,k2⟩ | ⟨k2,k3⟩⟩
    ·rw[(p1 j k1).2.1] at hb'
     exact absurd (hrest b (oX i x b h2 h3 hb)).1 (hM'.glob.xg.own _ y' b k2 hb').2.2.1
    ·cases k2
    ·rw[(p2 j k1).2.1] at hb'
     exact G.xg.inj i j x y' b h3 k3 hb hb'
 have hsh:∀i,i<cnt->E5.ρ (i+σ.next)=E'.ρ i/\E5.R (i+σ.next):=fun i hi=>by
  have hi':σ.next<=i+σ.next/\i+σ.next<σ.next+cnt:=by omega
  refine ⟨?_,.inr hi'⟩
  rw[(p1 _ hi').1,Nat.add_sub_cancel]
 have hm00:Mod 0 E { tmps:=#[],defers:=[] } { σ.look with s:=fun _=>none }:=⟨G.of rfl rfl,trivial,rfl,fun i s hi=>(by cases hi),hm.blks,hm.rows,hm.xs⟩
 have hm5:=hm00.move (a':={ tmps:=#[],defers:=[] }) (g':={ St.look { σ with h:=kp a.b (dl c.out y σ.next)++σ.h,r:=cP c.out y σ.next++(mg used++σ.r),next:=σ.next+cnt } with s:=fun _=>none }) hfree hext (hglob.of rfl rfl) rfl rfl (fun i s hi=>(by cases hi))
  (fun i l hi=>by
   rcases hgh i l hi with ⟨j,h1,h2⟩ | ⟨h1,h2⟩
   ·right
    obtain ⟨l',h3,h4⟩:=si (E:=E') (E':=E5) (n:=σ.next) (cnt:=cnt) (k:=0) hsh hfl (by rw[dO];exact Nat.le_of_eq hcnt) (by rw[dO];exact h2)
    obtain ⟨_,cs,t,g1,g2,g3⟩:=hM'.blks j l' h3
    obtain ⟨l0,h0⟩:=hkeyh i l hi
    rw[hβ' j i h1] at g1
    exact ⟨(hm.blks i l0 h0).1,cs,t,g1,h4 cs g2,g3⟩
   ·exact .inl ⟨h2,fun hX=>hX.1 (.inr (.inl ⟨i,l,h2,h1,rfl⟩))⟩)
  (fun i r hi=>by
   rcases hgr i _ hi with ⟨h1,h2⟩ | ⟨h1,⟨_,h2⟩ | ⟨h2,h3⟩⟩
   ·right
    obtain ⟨_,xs,g2,g3,g4⟩:=hM'.rows _ r h2
    have hf:=(zW hfl).1 r h2
    refine ⟨.inr h1,xs,?_,aE.flat hf g3,g4⟩
    rw[(p1 i h1).1]
    show E'.w.ownsRow E.w0.heap.size _ _ _ _ _
    rw[<-ew0]
    exact g2
   ·cases h2
   ·exact .inl ⟨h3,fun b hb hX=>hX.1 (oR i r b h2 h3 hb)⟩)
  (fun i u hi=>by
   rcases hgr i _ hi with ⟨h1,h2⟩ | ⟨h1,⟨_,h2⟩ | ⟨h2,h3⟩⟩
   ·right
    obtain ⟨p,z',hf,rfl⟩:=(zW hfl).2 u h2
    obtain ⟨q1,q2,q3,q4⟩:=p1 i h1
    exact XOk.flat (E:=E') (E':=E5) hf rfl ew0.symm (.inr h1) q1 q2 q3 q4 (hM'.xs _ _ h2)
   ·cases h2
   ·exact .inl ⟨h3,(p2 i h1).2.2.2,fun b hb hX=>hX.1 (oX i u b h2 h3 hb)⟩)
 refine hpost (ww c.out y σ.next) _ E5 _ hK rfl (hext.keep G hfree) ⟨rfl,rfl,fun i hi=>?_,fun i hi=>?_⟩ ⟨hglob,hm5.blks,hm5.rows,hm5.xs⟩ fun sv hsv=>hret E5 _ sv us hsv ?_
 ·show look (kp a.b (dl c.out y σ.next)++σ.h) i=look σ.h i
  rw[aR]
  cases hq:look (kp a.b (dl c.out y σ.next)) i with
  | none=>rfl
  | some l =>
   obtain ⟨j,h1,_⟩:=qG hq
   exact absurd hi (gp hoB i (tV h1))
 ·have h1:=hro i hi
  show look (cP c.out y σ.next++(mg used++σ.r)) i=look σ.r i
  cases hq:look (cP c.out y σ.next++(mg used++σ.r)) i with
  | some u =>
   rcases hgr i u hq with ⟨h2,_⟩ | ⟨_,⟨h2,_⟩ | ⟨_,h2⟩⟩
   ·exact absurd h2 (hnew i h1)
   ·exact absurd hi (gp hoR i h2)
   ·exact h2.symm
  | none =>
   rw[aR] at hq
   split at hq
   ·cases hq
   ·rw[aR] at hq
    split at hq
    ·cases hq
    ·rw[hq]
 ·have:=vm (n:=σ.next) (cnt:=cnt) hsh (k:=0) hfl (by rw[dO];exact Nat.le_of_eq hcnt) hus
  rw[dO] at this
  exact this
end
def Lo (lp:Lp) (jn:Jn) (sc:FuncId->Option SCtr) (C:Ctx) (hl:FuncId->Hint):Nat->Inl
 | 0=>fun _ id args σ K=>match sc id with
  | some c=>H5 c args σ K
  | none=>none
 | d+1=>fun _ id args σ K=>match sc id with
  | some c=>H5 c args σ K
  | none=>match C.P.funcs[id]? with
   | some fn=>match fn.body,eS args.length fn.ntmps with
    | some code,true=>den lp jn (Lo lp jn sc C hl d) C fn.ntmps { hl id with inner:=true } code { σ with s:=dC args 0 } fun e σ'=>match e with
     | .exit _=>none
     | _=>match lK C.P σ'.look fn.results.toList with
      | some svs=>K svs σ'
      | none=>none
    | _,_=>none
   | none=>none
def TS (P:Program) (sc:FuncId->Option SCtr):Prop:=∀id c,sc id=some c->c.ok P id
theorem Ha {C:Ctx} (hC:C.ok) (di:C.P.follows .mixedOrders=true) {sc:FuncId->Option SCtr} (hsc:TS C.P sc) {hl:FuncId->Hint}:∀d,En C (Lo lpK jnK sc C hl d)
 | 0=>fun R id args σ K z h hro E hm hP vs hvs post hpost=>by
  simp only[Lo] at h
  split at h
  ·rename_i c hs
   exact ED (hsc id c hs) h hro hm hP hvs hpost fun E l sv us h1 h2=>tL h1 h2
  ·cases h
 | d+1=>fun R id args σ K z h hro E hm hP vs hvs post hpost=>by
  simp only[Lo] at h
  split at h
  ·rename_i c hs
   exact ED (hsc id c hs) h hro hm hP hvs hpost fun E l sv us h1 h2=>tL h1 h2
  split at h
  ·rename_i fn hf
   split at h
   ·rename_i code hb hle
    have hle:args.length<=fn.ntmps:=by simpa using hle
    have hlen:=iX hvs
    refine calls_of_wp hf hb (wpIn_wide (n:=0).1 ?_)
    have hmod:Mod fn.ntmps (E.setRg false) { tmps:=vs++qR (fn.ntmps - vs.size) undef,defers:=[] } ({ σ with s:=dC args 0 }:St).look:=by
     have hm':MemOk (E.setRg false) ({ σ with s:=dC args 0 }:St).look:=(hm.of (g':=({ σ with s:=dC args 0 }:St).look) rfl rfl).setRg
     refine ⟨hm'.glob,trivial,?_,fun i t hi=>?_,hm'.blks,hm'.rows,hm'.xs⟩
     ·have:vs.size=args.length:=by rw[hlen];simp
      simp only[Array.size_append,Array.size_replicate]
      omega
     ·simp only[St.look,ga] at hi
      split at hi
      ·rename_i t' hl'
       injection hi with hi
       subst hi
       obtain ⟨v,_,h2,h3⟩:=mj hvs i t' hl'
       rw[Nat.sub_zero] at h2
       refine ⟨v,?_,h3.setRg⟩
       have hlt:=(List.getElem?_eq_some_iff.1 h2).1
       rw[o_ (by simpa using hlt)]
       simpa using h2
      ·cases hi
    refine gd (F:=Fence.wide) hC (Ha hC di hsc d) di (.inl rfl) (fun _=>rfl) h hro ⟨hP,fun e=>by cases e⟩ (E:=E.setRg false) hmod fun e σ' E' a' hk hs hkp hf' hsl hm'=>?_
    have hdef:a'.defers=[]:=gb.none hkp.rg hm'.nodef
    have hkp2:Keep E (E'.setRg E.rg):=⟨rfl,fun x v hv=>(hkp x v hv.setRg).setRg,fun b o hb=>hkp.obj b o hb⟩
    have hs2:fk E (E'.setRg E.rg):=hs
    have fin:∀svs,lK C.P σ'.look fn.results.toList=some svs->K svs σ'=some z->a'.defers=[]/\∃v,(results fn a'.tmps).run C.P E'.w=.ok v E'.w/\post (.returned v) E'.w:=fun svs hsv hkk=>by
     have hPP:E'.P=C.P:=hs2.P.trans hP
     rw[<-hPP] at hsv
     obtain ⟨us,hu1,hu2⟩:=fK hm' hsv
     rw[hPP] at hu2
     exact ⟨hdef,_,hu2,hpost svs σ' (E'.setRg E.rg) _ hkk hs2 hkp2 ⟨hf'.ro,hf'.roR,hf'.h,hf'.r⟩ (hm'.memOk.setRg) fun sv hsv'=>(tL hsv' hu1).setRg⟩
    cases e with
    | normal =>
     simp only at hk
     split at hk
     ·rename_i svs hsv;exact fin svs hsv hk
     ·cases hk
    | ret =>
     simp only at hk
     split at hk
     ·rename_i svs hsv;exact fin svs hsv hk
     ·cases hk
    | exit i=>cases hk
   ·cases h
  ·cases h
def GY:List SV->List (Bool×List Pat)->Bool
 | [],[]=>true
 | _ ::l,_ ::r=>GY l r
 | _,_=>false
theorem qj:∀{l:List SV} {r:List (Bool×List Pat)},GY l r=true->l.length=r.length
 | [],[],_=>rfl
 | _ ::l,_ ::r,h=>by
  have:=qj (l:=l) (r:=r) h
  simpa using this
 | [],_ ::_,h=>by cases h
 | _ ::_,[],h=>by cases h
def lr (used:List Nat):List (Nat×List At)->List (Nat×List At)
 | []=>[]
 | p ::r=>match ji p.1 used with
  | true=>p ::lr used r
  | false=>lr used r
theorem qH {used:List Nat} {i:Nat}:∀{l:List (Nat×List At)},look (lr used l) i=if i ∈ used then look l i else none
 | []=>by simp[lr,look]
 | p ::r=>by
  simp only[lr]
  split
  ·rename_i hm
   rw[ai,ai,qH]
   by_cases e:i=p.1
   ·rw[if_pos e,if_pos e,e,if_pos (ci.1 hm)]
   ·rw[if_neg e,if_neg e]
  ·rename_i hm
   rw[ai,qH]
   by_cases hi:i ∈ used
   ·rw[if_pos hi,if_pos hi,if_neg]
    intro e
    rw[e,<-ci,hm] at hi
    cases hi
   ·rw[if_neg hi,if_neg hi]
def upN:Nat->Nat->List Nat
 | 0,_=>[]
 | n+1,k=>k ::upN n (k+1)
theorem HN {i:Nat}:∀{n k:Nat},i ∈ upN n k↔k<=i/\i<k+n
 | 0,k=>by simp[upN]
 | n+1,k=>by
  simp only[upN,List.mem_cons,HN]
  omega
theorem vp {i:Nat}:∀{l:List SV} {k:Nat},(look (dC l k) i).isSome=true->k<=i/\i<k+l.length
 | [],_,h=>by simp[dC,look] at h
 | _ ::r,k,h=>by
  simp only[dC] at h
  rw[ai] at h
  simp only[gC]
  split at h
  ·omega
  ·have:=vp h
   omega
def Ap (c:SCtr) (h:List (Nat×List At)):St:={ s:=[],h:=uH (lr (bB c.out) h),r:=[],next:=0 }
def KL (P:Program) (c:SCtr) (rv:Array ResultVar):Ex->St->Option (TsR c.out)
 | .exit _,_=>none
 | _,σ=>match lK P σ.look rv.toList with
  | some svs=>match GY svs c.rs&&gN c.out (upN c.rs.length 0) [] (Ap c σ.h) with
   | true=>kB c.out [] { s:=dC svs 0,h:=σ.h,r:=σ.r,next:=0 }
   | false=>none
  | none=>none
def TK (lp:Lp) (jn:Jn) (sc:FuncId->Option SCtr) (C:Ctx) (hl:FuncId->Hint) (d:Nat) (id:FuncId) (fn:Func) (c:SCtr) (x:TsR (rhI 0 c.ks)):Option (TsR c.out) :=
 den lp jn (Lo lp jn sc C hl d) C fn.ntmps { hl id with inner:=true } (fn.body.getD .skip) (c.init x) (KL C.P c fn.results)
theorem tD {rs:List (Bool×List Pat)}:∀{ks:List PK} {j:Nat} {x:TsR (rhB j ks++rhS 0 rs)} {k:Nat},∃(x':TsR (rhS 0 rs)) (k':Nat),ww (rhB j ks++rhS 0 rs) x k=ww (rhS 0 rs) x' k'/\gt (rhB j ks++rhS 0 rs) x k=gt (rhS 0 rs) x' k'
 | [],j,x,k=>⟨x,k,rfl,rfl⟩
 | .d _ ::r,j,x,k=>tD (ks:=r) (j:=j+1) (x:=x)
 | .v _ _ ::r,j,x,k=>tD (ks:=r) (j:=j+1) (x:=x)
 | .b ps ::r,j,x,k=>tD (ks:=r) (j:=j+1) (x:=ma ps x) (k:=k+fj ps)
theorem Fv {E:Env}:∀{rs:List (Bool×List Pat)} {j:Nat} {x:TsR (rhS j rs)} {k:Nat} {us:List Value},us.length=rs.length->(∀i t,look (gt (rhS j rs) x k) i=some (some t)->∃v,j<=i/\us[i - j]?=some v/\iE E t v)->fb E (ww (rhS j rs) x k) us
 | [],_,_,_,[],_,_=>trivial
 | p ::r,j,x,k,u ::us,hl,h=>by
  refine ⟨?_,?_⟩
  ·obtain ⟨v,_,h2,h3⟩:=h j ⟨none,.c p.1 (nS p.2 x k)⟩ (by simp only[rhS,gt];rw[ai,if_pos rfl])
   rw[Nat.sub_self] at h2
   injection h2 with h2
   subst h2
   exact h3
  ·refine Fv (j:=j+1) (x:=ma p.2 x) (k:=k+fj p.2) (by simpa using hl) fun i t hi=>?_
   have hji:j+1<=i:=by
    have key:∀(rs:List (Bool×List Pat)) (j:Nat) (x:TsR (rhS j rs)) (k:Nat),(look (gt (rhS j rs) x k) i).isSome=true->j<=i:=by
     intro rs
     induction rs with
     | nil=>intro j x k h;simp[rhS,gt,look] at h
     | cons p r ih =>
      intro j x k h
      simp only[rhS,gt] at h
      rw[ai] at h
      split at h
      ·omega
      ·have:=ih _ _ _ h;omega
    exact key r (j+1) _ _ (by rw[hi];rfl)
   obtain ⟨v,h1,h2,h3⟩:=h i t (by simp only[rhS,gt];rw[ai,if_neg (by omega)];exact hi)
   refine ⟨v,hji,?_,h3⟩
   rw[show i - j=(i - (j+1))+1 by omega] at h2
   exact h2
 | [],_,_,_,_ ::_,h,_=>by simp at h
 | _ ::_,_,_,_,[],h,_=>by simp at h
theorem SCtr.of_den {C:Ctx} (hC:C.ok) (di:C.P.follows .mixedOrders=true) {sc:FuncId->Option SCtr} (hsc:TS C.P sc) {hl:FuncId->Hint} {d:Nat} {f:FuncId} {fn:Func} {code:Code} {c:SCtr} (hf:C.P.funcs[f]?=some fn) (hb:fn.body=some code) (hn:c.ks.length<=fn.ntmps)
  (h:∀x,c.m x=TK lpK jnK sc C hl d f fn c x):c.ok C.P f:=by
 intro x y hy E vs hP hrg hlen hm
 refine calls_of_wp hf hb (wpIn_wide (n:=0).1 ?_)
 have hmod:Mod fn.ntmps E { tmps:=vs.toArray++qR (fn.ntmps - vs.toArray.size) undef,defers:=[] } (c.init x).look:=by
  refine ⟨hm.glob,trivial,?_,fun i t hi=>?_,hm.blks,hm.rows,hm.xs⟩
  ·simp only[Array.size_append,Array.size_replicate,i_]
   omega
  ·obtain ⟨v,h1,h2⟩:=hm.slots i t hi
   refine ⟨v,?_,h2⟩
   have hlt:=(Array.getElem?_eq_some_iff.1 h1).1
   rw[o_ hlt]
   exact h1
 rw[h x] at hy
 unfold TK at hy
 rw[hb] at hy
 refine gd (F:=Fence.wide) hC (Ha hC di hsc d) di (.inl rfl) (fun _=>rfl) hy (fun i hi=>by simp[SCtr.init] at hi) ⟨hP,fun e=>by cases e⟩ (E:=E) hmod fun e σ' E1 a1 hk hs hkp hf' hsl hm'=>?_
 have hdef:a1.defers=[]:=gb.none (hkp.rg.trans hrg) hm'.nodef
 have hP1:E1.P=C.P:=hs.P.trans hP
 have fin:∀svs,lK C.P σ'.look fn.results.toList=some svs->(match GY svs c.rs&&gN c.out (upN c.rs.length 0) [] (Ap c σ'.h) with
   | true=>kB c.out [] { s:=dC svs 0,h:=σ'.h,r:=σ'.r,next:=0 }
   | false=>none)=some y->a1.defers=[]/\∃v,(results fn a1.tmps).run C.P E1.w=.ok v E1.w/\∃(us:List Value) (E':Env),Ending.returned v=.returned (if h:us.length=1 then us[0] else .tuple us.toArray)/\E'.w=E1.w/\fk E E'/\Keep E.bare E'/\(∀j,E.L j->E'.β j=E.β j)/\MemOk E' (c.fin y).look/\fb E' (ww c.out y 0) us:=fun svs hsv hkk=>by
  split at hkk
  case h_2=>cases hkk
  rename_i hchk
  simp only[z10] at hchk
  obtain ⟨hle,hpl⟩:=hchk
  rw[<-hP1] at hsv
  obtain ⟨us,hu1,hu2⟩:=fK hm' hsv
  rw[hP1] at hu2
  have hlen2:us.length=c.rs.length:=by rw[<-iX hu1,qj hle]
  refine ⟨hdef,_,hu2,?_⟩
  let E0:Env:={ E1 with L:=fun j=>(look (uH (lr (bB c.out) σ'.h)) j).isSome=true,R:=fun _=>False }
  have hkey:∀i l,look (uH (lr (bB c.out) σ'.h)) i=some l->i ∈ bB c.out/\∃l',look σ'.h i=some l'/\l=uL l':=fun i l hi=>by
   rw[qM,qH] at hi
   split at hi
   ·rename_i hm1
    cases hq:look σ'.h i with
    | none=>rw[hq] at hi;cases hi
    | some l'=>rw[hq] at hi;injection hi with hi;exact ⟨hm1,l',rfl,hi.symm⟩
   ·cases hi
  have hL01:∀j,E0.L j->E1.L j:=fun j hj=>by
   have hj:(look (uH (lr (bB c.out) σ'.h)) j).isSome=true:=hj
   cases hq:look (uH (lr (bB c.out) σ'.h)) j with
   | none=>rw[hq] at hj;cases hj
   | some l =>
    obtain ⟨_,l',h1,_⟩:=hkey j l hq
    exact (hm'.blks j l' h1).1
  have hm0:Mod us.length E0 { tmps:=us.toArray,defers:=[] } (Ap c σ'.h).look:=by
   refine ⟨⟨hm'.glob.below,hm'.glob.zlt,hm'.glob.z0,hm'.glob.zfrom,fun j hj=>hj,fun r hr=>hr.elim,fun i l hi=>?_,fun i j l l' hi hj hij=>?_,fun i r b hi=>by simp[Ap,St.look,look] at hi,fun i j r r' b hi=>by simp[Ap,St.look,look] at hi,⟨fun i x b hi=>by simp[Ap,St.look,look] at hi,fun i j x y b hi=>by simp[Ap,St.look,look] at hi⟩⟩,trivial,by simp,fun i t hi=>by simp[Ap,St.look,ga,look] at hi,fun i l hi=>?_,fun i r hi=>by simp[Ap,St.look,look] at hi,fun i x hi=>by simp[Ap,St.look,look] at hi⟩
   ·obtain ⟨_,l',h1,_⟩:=hkey i l hi
    exact hm'.glob.own i l' h1
   ·obtain ⟨_,l1,h1,_⟩:=hkey i l hi
    obtain ⟨_,l2,h2,_⟩:=hkey j l' hj
    exact hm'.glob.inj i j l1 l2 h1 h2 hij
   ·obtain ⟨_,l',h1,h2⟩:=hkey i l hi
    obtain ⟨_,cs,t,g2,g3,g4⟩:=hm'.blks i l' h1
    subst h2
    have hi:look (uH (lr (bB c.out) σ'.h)) i=some (uL l'):=hi
    exact ⟨by show (look (uH (lr (bB c.out) σ'.h)) i).isSome=true;rw[hi];rfl,cs,t,g2,FZ g3.length,g4⟩
  have hk01:Keep E0 E1:=⟨rfl,fun y v hv=>by
   cases y with
   | u=>trivial
   | v x=>exact hv
   | ptr b o=>exact ⟨hv.1,hL01 _ hv.2⟩
   | clo g cap=>exact ⟨hv.1,fun p hp=>hL01 _ (hv.2 p hp)⟩
   | sl e l=>exact hv
   | row r=>exact hv.2.1.elim
   | rf s x o=>exact hv
   | re r i sz off=>obtain ⟨_,_,_,h⟩:=hv;exact h.elim
   | sub r lo hi sz=>obtain ⟨_,h⟩:=hv;exact h.elim
   | ae b o e l i d=>exact ⟨hv.1,hL01 _ hv.2⟩
   | sn e l=>exact hv
   | ir r i=>exact hv.2.1.elim
   | ie r i j sz off=>obtain ⟨_,_,_,h,_⟩:=hv;exact h.elim
   | fn a r F=>exact hv,fun b o hb=>hb⟩
  have hm2:Mod us.length E1 { tmps:=us.toArray,defers:=[] } (St.look { s:=dC svs 0,h:=σ'.h,r:=σ'.r,next:=0 }):=by
   have hmm:=hm'.memOk
   refine ⟨hmm.glob.of rfl rfl,trivial,by simp,fun i t hi=>?_,hmm.blks,hmm.rows,hmm.xs⟩
   simp only[St.look,ga] at hi
   split at hi
   ·rename_i t' hl'
    injection hi with hi
    subst hi
    obtain ⟨v,_,h2,h3⟩:=mj hu1 i t' hl'
    rw[Nat.sub_zero] at h2
    exact ⟨v,by simpa using h2,h3⟩
   ·cases hi
  obtain ⟨E3,hs13,hw3,hk03,hm3⟩:=jJ (rh:=c.out) (W:=upN c.rs.length 0) (srcs:=[]) hpl hm0 hk01 hm2 (x:=y) hkk
   (fun i hi=>by
    show look (dC svs 0) i=none
    cases hq:look (dC svs 0) i with
    | none=>rfl
    | some u =>
     have:=vp (by rw[hq];rfl:(look (dC svs 0) i).isSome=true)
     exact absurd (HN.2 (by rw[<-qj hle];omega)) hi)
   (fun i hi=>by
    rcases List.mem_append.1 hi with hi | hi
    ·have h1:=oy hi
     have h2:(look (uH (lr (bB c.out) σ'.h)) i).isSome=true:=gU hi
     cases hq:look (uH (lr (bB c.out) σ'.h)) i with
     | none=>rw[hq] at h2;cases h2
     | some l=>exact absurd (hkey i l hq).1 h1
    ·cases hi)
   (fun i hi=>by
    rcases List.mem_append.1 hi with hi | hi<;>cases hi)
  have hh:look (dl c.out y 0++uH (lr (bB c.out) σ'.h))=look (dl c.out y 0):=by
   funext i
   rw[aR]
   cases hq:look (dl c.out y 0) i with
   | some l=>rfl
   | none =>
    simp only
    cases hq2:look (uH (lr (bB c.out) σ'.h)) i with
    | none=>rfl
    | some l =>
     have:=(fV (x:=y) (k:=0)).2 (hkey i l hq2).1
     rw[hq] at this
     cases this
  have hrr:cP c.out y 0++(mg []++[])=cP c.out y 0:=by simp[mg]
  refine ⟨us,E3,rfl,hw3,hs.trans hs13,⟨by rw[hk03.rg];exact hkp.rg,fun z v hv=>?_,fun b o hb=>hk03.obj b o (hkp.obj b o hb)⟩,fun j hj=>?_,?_,?_⟩
  ·apply hk03.at'
   cases z with
   | u=>trivial
   | v x=>exact hv
   | ptr b o=>exact hv.2.elim
   | clo g cap=>exact ⟨(hkp.at' (.clo g cap) v ⟨hv.1,fun p hp=>(hv.2 p hp).elim⟩).1,fun p hp=>(hv.2 p hp).elim⟩
   | sl e l=>exact hkp.at' (.sl e l) v hv
   | row r=>exact hv.2.1.elim
   | rf s x o=>exact hkp.at' (.rf s x o) v hv
   | re r i sz off=>obtain ⟨_,_,_,h⟩:=hv;exact h.elim
   | sub r lo hi sz=>obtain ⟨_,h⟩:=hv;exact h.elim
   | ae b o e l i d=>exact hv.2.elim
   | sn e l=>exact hkp.at' (.sn e l) v hv
   | ir r i=>exact hv.2.1.elim
   | ie r i j sz off=>obtain ⟨_,_,_,h,_⟩:=hv;exact h.elim
   | fn a r F=>exact hkp.at' (.fn a r F) v hv
  ·obtain ⟨g1,g2⟩:=hkp.at' (.ptr j 0) (gv E.β (j,0)) ⟨rfl,hj⟩
   have g3:(look (dl (rhI 0 c.ks) x 0) j).isSome=true:=hm.glob.live j hj
   have g4:=(fV).1 g3
   rw[tJ] at g4
   have g5:j ∈ bB c.out:=by rw[rV,FT,h_];exact g4
   have g6:(look σ'.h j).isSome=true:=hm'.glob.live j g2
   have g7:E0.L j:=by
    show (look (uH (lr (bB c.out) σ'.h)) j).isSome=true
    rw[qM,qH,if_pos g5]
    cases hq:look σ'.h j with
    | none=>rw[hq] at g6;cases g6
    | some l=>rfl
   obtain ⟨g8,_⟩:=hk03.at' (.ptr j 0) (gv E1.β (j,0)) ⟨rfl,g7⟩
   have e1:E.β j=E1.β j:=by simpa [gv] using g1
   have e2:E1.β j=E3.β j:=by simpa [gv] using g8
   rw[e1,e2]
  ·have:=hm3.memOk
   exact this.of (g':=(c.fin y).look) hh.symm (by show look (cP c.out y 0)=look (cP c.out y 0++(mg []++[]));rw[hrr])
  ·obtain ⟨x',k',q1,q2⟩:=tD (rs:=c.rs) (ks:=c.ks) (j:=0) (x:=y) (k:=0)
   show fb E3 (ww (rhB 0 c.ks++rhS 0 c.rs) y 0) us
   rw[q1]
   refine Fv hlen2 fun i t hi=>?_
   obtain ⟨v,h1,h2⟩:=hm3.slots i t (by
    show ga (gt c.out y 0++pY (upN c.rs.length 0) []) i=some t
    unfold ga
    rw[show gt c.out y 0=gt (rhS 0 c.rs) x' k' from q2,aR,hi])
   exact ⟨v,Nat.zero_le _,by simpa using h1,h2⟩
 cases e with
 | normal =>
  simp only[KL] at hk
  split at hk
  ·rename_i svs hsv;exact fin svs hsv hk
  ·cases hk
 | ret =>
  simp only[KL] at hk
  split at hk
  ·rename_i svs hsv;exact fin svs hsv hk
  ·cases hk
 | exit i=>cases hk
def LK (P:Program) (s:Sh) (r:RSh) (rv:Array ResultVar):Ex->St->Option (s.T×r.T)
 | .exit _,_=>none
 | _,σ=>match lK P σ.look rv.toList,look σ.h 0 with
  | some vs,some l=>match mY s l,nY r vs with
   | some x,some z=>some (x,z)
   | _,_=>none
  | _,_=>none
def WT (lp:Lp) (jn:Jn) (C:Ctx) (hl:FuncId->Hint) (d:Nat) (id:FuncId) (fn:Func) (c:MCtr) (x:c.s.T) (y:TsS c.as):Option (c.s.T×c.r.T) :=
 den lp jn (Ao lp jn C hl d) C fn.ntmps { hl id with inner:=true } (fn.body.getD .skip) { s:=(0,some ⟨none,.c false [.ptr 0 0]⟩) ::jH c.as y 1,h:=[(0,c.s.cells x)],r:=[],next:=1 } (LK C.P c.s c.r fn.results)
theorem yK {w:World} {Z Z':Nat->Prop} (hZ:∀b,Z b->Z' b):∀{as:List Sh} {x:TsS as} {vs:List Value},cM w Z as x vs->cM w Z' as x vs
 | [],_,_,h=>h
 | _ ::_,_,_,h=>by
  simp only[cM] at h ⊢
  obtain ⟨v,vs',h1,⟨cs,h2,h3,h4⟩,h5⟩:=h
  exact ⟨v,vs',h1,⟨cs,Dat.mono hZ (fun _ _=>rfl) h2,h3,h4⟩,yK hZ h5⟩
theorem MCtr.of_den {C:Ctx} (hC:C.ok) (di:C.P.follows .mixedOrders=true) {hl:FuncId->Hint} {d:Nat} {f:FuncId} {fn:Func} {code:Code} {c:MCtr} (hf:C.P.funcs[f]?=some fn) (hb:fn.body=some code) (hn:c.as.length+1<=fn.ntmps) (hfl:(c.s.flat&&c.r.flat)=true)
  (h:∀x y,c.m x y=WT lpK jnK C hl d f fn c x y):c.ok C.P f:=by
 intro x y z hz w Z b cs t vals hZ hnZ hheap hd hone hvals
 simp only[z10] at hfl
 have hblt:b<w.heap.size:=(Array.getElem?_eq_some_iff.1 hheap).1
 refine calls_of_wp hf hb (wpIn_wide (n:=0).1 ?_)
 let E:Env:={ P:=C.P,w0:={ w with heap:=w.heap.extract 0 b },Z0:=fun k=>k<w.heap.size/\k≠b,w:=w,Z:=fun k=>k<w.heap.size/\k≠b,β:=fun _=>b,L:=fun i=>i=0,ρ:=fun _=>undef,R:=fun _=>False,φ:=fun _ _=>False,ι:=fun _ _=>undef,ν:=fun _=>0,rg:=false }
 have hw0:E.w0.heap.size=b:=by show (w.heap.extract 0 b).size=b;rw[Array.size_extract];omega
 have hbelow:Below E.w0.heap.size E.w0 E.w:=⟨rfl,rfl,rfl,by rw[hw0];exact Nat.le_of_lt hblt,fun k hk=>by
  rw[hw0] at hk
  show w.heap[k]?=(w.heap.extract 0 b)[k]?
  rw[Array.getElem?_extract]
  simp[hk]
  omega⟩
 have hdz:cM E.w E.Z c.as y vals:=yK (fun k hk=>⟨hZ k hk,fun e=>hnZ (by rw[<-e];exact hk)⟩) hvals
 have hlen:vals.length=c.as.length:=hdz.length
 have hdat:Dat E.w E.Z c.s x cs:=Dat.flat hfl.1 hd
 have hmod:Mod fn.ntmps E { tmps:=(Value.pointer (some ⟨b,0,none⟩) ::vals).toArray++qR (fn.ntmps - (Value.pointer (some ⟨b,0,none⟩) ::vals).toArray.size) undef,defers:=[] } ({ s:=(0,some ⟨none,.c false [.ptr 0 0]⟩) ::jH c.as y 1,h:=[(0,c.s.cells x)],r:=[],next:=1 }:St).look:=by
  have hh:∀i l,look [(0,c.s.cells x)] i=some l->i=0/\l=c.s.cells x:=fun i l hi=>by
   rw[ai] at hi
   split at hi
   ·rename_i e;injection hi with hi;exact ⟨e,hi.symm⟩
   ·simp[look] at hi
  refine ⟨⟨hbelow,fun k hk=>hk.1,fun k hk=>hk,fun k hk=>.inl hk,fun k hk=>?_,fun r hr=>hr.elim,fun i l hi=>⟨?_,fun hz=>hz.2 rfl⟩,fun i j l l' hi hj _=>?_,fun i r k hi=>by simp[St.look,look] at hi,fun i j r r' k hi=>by simp[St.look,look] at hi,⟨fun i x k hi=>by simp[St.look,look] at hi,fun i j x y k hi=>by simp[St.look,look] at hi⟩⟩,trivial,?_,fun i t' hi=>?_,fun i l hi=>?_,fun i r hi=>by simp[St.look,look] at hi,fun i x hi=>by simp[St.look,look] at hi⟩
  ·have hk:k=0:=hk
   subst hk
   rfl
  ·rw[hw0];exact b_ _
  ·exact (hh i l hi).1.trans (hh j l' hj).1.symm
  ·simp only[Array.size_append,i_,Array.size_replicate,gC]
   omega
  ·have get:∀v',(Value.pointer (some ⟨b,0,none⟩) ::vals)[i]?=some v'->((Value.pointer (some ⟨b,0,none⟩) ::vals).toArray++qR (fn.ntmps - (Value.pointer (some ⟨b,0,none⟩) ::vals).toArray.size) undef)[i]?=some v':=fun v' hv'=>by
    have hlt:=(List.getElem?_eq_some_iff.1 hv').1
    rw[o_ (by simpa using hlt)]
    simpa using hv'
   simp only[St.look,ga] at hi
   split at hi
   ·rename_i s' hl'
    injection hi with hi
    subst hi
    rw[ai] at hl'
    split at hl'
    ·rename_i e
     subst e
     simp only[aT] at hl'
     subst hl'
     exact ⟨_,get _ rfl,⟨[_],rfl,⟨⟨rfl,rfl⟩,trivial⟩,fun _=>rfl⟩⟩
    ·obtain ⟨v',h3,h2,h4⟩:=gx (E:=E) hdz i s' hl'
     refine ⟨v',get v' ?_,h4⟩
     rw[show i=(i - 1)+1 by omega]
     exact h2
   ·cases hi
  ·obtain ⟨rfl,rfl⟩:=hh i l hi
   exact ⟨rfl,cs,t,hheap,hdat.rel,hone⟩
 have hrun:=hz
 rw[h x y] at hrun
 unfold WT at hrun
 rw[hb] at hrun
 refine gd (F:=Fence.wide) hC (oh hC di d) di (.inl rfl) (fun _=>rfl) hrun (fun i hi=>by simp at hi) ⟨rfl,fun e=>by cases e⟩ (E:=E) hmod fun e σ' E1 a1 hk hs hkp hf' hsl hm'=>?_
 have hdef:a1.defers=[]:=gb.none (hkp.rg.trans rfl) hm'.nodef
 have hP1:E1.P=C.P:=hs.P
 have h0:E1.w0=E.w0:=hs.w0
 have fin:LK C.P c.s c.r fn.results .normal σ'=some z->a1.defers=[]/\∃v,(results fn a1.tmps).run C.P E1.w=.ok v E1.w/\∃u cs' Z' t',Ending.returned v=.returned u/\nX E1.w Z' c.r z.2 u/\E1.w.heap[b]?=some (.cells cs'.toArray t' (0,0))/\Dat E1.w Z' c.s z.1 cs'/\(∀b,Z' b->False)/\(∀v ∈ cs',v.oneCell'=true) /\
   E1.w.os=w.os/\E1.w.tape=w.tape/\E1.w.output=w.output/\w.heap.size<=E1.w.heap.size/\∀k,k<w.heap.size->k≠b->E1.w.heap[k]?=w.heap[k]?:=fun hkk=>by
  simp only[LK] at hkk
  split at hkk
  case h_2=>cases hkk
  rename_i vs l hvs hl
  split at hkk
  case h_2=>cases hkk
  rename_i x' z' hx hzz
  injection hkk with hkk
  subst hkk
  rw[<-hP1] at hvs
  obtain ⟨us,hu1,hu2⟩:=fK hm' hvs
  rw[hP1] at hu2
  obtain ⟨g1,g2⟩:=hkp.at' (.ptr 0 0) (gv E.β (0,0)) ⟨rfl,rfl⟩
  have hβ:E1.β 0=b:=by
   have:(⟨b,0,none⟩:Addr)=⟨E1.β 0,0,none⟩:=by simpa [gv] using g1
   injection this with e1
   exact e1.symm
  obtain ⟨_,cs',t',k1,k2,k3⟩:=hm'.blks 0 l hl
  rw[hβ] at k1
  unfold mY at hx
  split at hx
  case h_2=>cases hx
  rename_i x2 hx2
  injection hx with hx
  subst hx
  obtain ⟨c1,c2,rfl,d1,d2⟩:=dk hx2 k2
  match c2,d2 with
  | [],_ =>
  rw[h_] at k1 k3
  have hblk:∀k,k<w.heap.size->k≠b->E1.w.heap[k]?=w.heap[k]?:=fun k hk1 hk2=>by
   by_cases hkb:k<b
   ·have h1:=hm'.glob.below
    rw[h0] at h1
    rw[h1.block k (by rw[hw0];exact hkb)]
    exact (hbelow.block k (by rw[hw0];exact hkb)).symm
   ·obtain ⟨o,ho⟩:∃o,w.heap[k]?=some o:=⟨_,mT hk1⟩
    rw[ho]
    exact (hkp.obj k o ⟨⟨hk1,hk2⟩,by rw[hw0];omega,ho⟩).2.2
  have hbel:=hm'.glob.below
  rw[h0] at hbel
  refine ⟨hdef,_,hu2,_,c1,fun _=>False,t',rfl,nX.flat hfl.2 (rZ (E:=E1) hzz hu1),k1,Dat.flat hfl.1 d1,fun _ h=>h,k3,hbel.os,hbel.tape,hbel.output,?_,hblk⟩
  by_cases hsz:w.heap.size<=E1.w.heap.size
  ·exact hsz
  ·exfalso
   by_cases e1:b+1=w.heap.size
   ·have:=(Array.getElem?_eq_some_iff.1 k1).1
    omega
   ·have h1:=hblk (w.heap.size - 1) (by omega) (by omega)
    have h2:E1.w.heap[w.heap.size - 1]?=none:=Array.getElem?_eq_none (by omega)
    rw[h2] at h1
    have h3:w.heap[w.heap.size - 1]?=some w.heap[w.heap.size - 1]:=mT (by omega)
    rw[h3] at h1
    cases h1
 cases e with
 | normal=>exact fin hk
 | ret=>exact fin hk
 | exit i=>cases hk
end
end Dn
end
end Go.Proofs.YtlfdhaiigdllcaaGreat
